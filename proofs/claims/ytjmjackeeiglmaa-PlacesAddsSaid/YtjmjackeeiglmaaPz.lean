/- what an argument of places is -/
import Derived.Test.YtjmjackeeiglmaaPt
import Derived.Test.YtjmjackeeiglmaaLaw
namespace Go.Proofs.Ytjmjackeeiglmaa
open Go.Dec Go.RowKit Go.ChangeShapes Go.WideShapes Go.ChangeAt Go.Deep
set_option maxHeartbeats 400000
theorem cells32_ : Try.prog.cellsOf 32 = 3 := by kernel_rfl
theorem under32_ : Try.prog.underlying 32 = some (.struct (Try.prog.fieldsOf 32)) := by kernel_rfl
theorem one32_ : oneCellFields Try.prog (Try.prog.fieldsOf 32) = true := by kernel_rfl
theorem size32_ : (Try.prog.fieldsOf 32).size = 3 := by kernel_rfl
theorem f32_0 : ∃ f, (Try.prog.fieldsOf 32)[0]? = some f ∧ f.type = 3 := ⟨_, rfl, by kernel_rfl⟩
theorem f32_1 : ∃ f, (Try.prog.fieldsOf 32)[1]? = some f ∧ f.type = 3 := ⟨_, rfl, by kernel_rfl⟩
theorem f32_2 : ∃ f, (Try.prog.fieldsOf 32)[2]? = some f ∧ f.type = 23 := ⟨_, rfl, by kernel_rfl⟩
theorem len32_ {l : List Value} (h : l.length = 3) : ∃ a b c, l = [a, b, c] := by
  match l, h with
  | [a, b, c], _ => exact ⟨a, b, c, rfl⟩
def RPl (W : World) (cs : List Value) (p : Pl) : Prop := ∃ fs : Sl, cs = [.int .i64 p.kind, .int .i64 p.id, fs.v] ∧ Rd W ci 1 fs p.frm ∧ p.frm.length ≤ maxLen ∧
  (-9223372036854775808 ≤ p.kind ∧ p.kind ≤ 9223372036854775807) ∧ (-9223372036854775808 ≤ p.id ∧ p.id ≤ 9223372036854775807) ∧ ∀ f ∈ p.frm, -9223372036854775808 ≤ f ∧ f ≤ 9223372036854775807
theorem place_cells {H : Type} {enc : TypeId × Value → H} {W : World} (n : Nat) (cs : List Value) (x : DataW H × List MemPlace) (hl : cs.length = 3) (h : DataW.trod enc Try.prog W 0 (fun _ => true) true n 32 cs = some x) : ∃ y : Pl, RPl W cs y := by
  obtain ⟨a, b, c, rfl⟩ := len32_ hl
  have key := struct_cells under32_ one32_ h (by rw [size32_]; rfl)
  obtain ⟨f, h0, t0⟩ := f32_0
  obtain ⟨v0, y, m, e0, r0⟩ := key 0 f h0
  rw [t0] at r0
  clear h0 t0 f
  obtain ⟨i0, rfl, g0⟩ := one_int Try.underlying3 r0
  obtain ⟨f, h0, t0⟩ := f32_1
  obtain ⟨v1, y, m, e1, r1⟩ := key 1 f h0
  rw [t0] at r1
  clear h0 t0 f
  obtain ⟨i1, rfl, g1⟩ := one_int Try.underlying3 r1
  obtain ⟨f, h0, t0⟩ := f32_2
  obtain ⟨v2, y, m, e2, r2⟩ := key 2 f h0
  rw [t0] at r2
  clear h0 t0 f
  obtain ⟨fs, l, rfl, hrd, hlen, hq⟩ := trod_rd1 ci (Q := fun y => -9223372036854775808 ≤ y ∧ y ≤ 9223372036854775807) 1 Try.underlying23 (show Try.prog.cellsOf 3 = 1 by kernel_rfl) r2 (by
    intro n cs x hl h
    obtain ⟨v, rfl⟩ := List.length_eq_one_iff.1 hl
    obtain ⟨y, rfl, g⟩ := one_int Try.underlying3 h
    exact ⟨y, rfl, wf_i64 g⟩)
  simp at e0 e1 e2
  subst e0 e1 e2
  exact ⟨⟨i0, i1, l⟩, fs, rfl, hrd, hlen, wf_i64 g0, wf_i64 g1, hq⟩
theorem open_places {H : Type} {enc : TypeId × Value → H} {W : World} {r : Reach} {b0 : Nat} {v : Value} {d : DataW H} {p : List MemPlace} (hval : Value.okWide Try.prog W r b0 22 v) (h : DataW.Trod enc Try.prog W 0 (fun _ => true) true 22 v d p) :
    ∃ (s : Sl) (l : List Pl), v = s.v ∧ RdP W s l ∧ l.length ≤ maxLen ∧ ∀ p ∈ l, p.frm.length ≤ maxLen := by
  obtain ⟨s, l, h1, h2, h3, h4⟩ := open_rdR (RPl W) 3 Try.underlying22 cells32_ hval h place_cells
  refine ⟨s, l, h1, ⟨h2, fun i y hy => ?_⟩, h4, fun y hy => ?_⟩
  · obtain ⟨ad, cs, a1, _, a2, fs, rfl, a3, _⟩ := h3 i y hy
    exact ⟨ad, fs, a1, a2, a3⟩
  · obtain ⟨i, hi⟩ := List.getElem?_of_mem hy
    obtain ⟨_, _, _, _, _, fs, _, _, hq, _⟩ := h3 i y hi
    exact hq
end Go.Proofs.Ytjmjackeeiglmaa
