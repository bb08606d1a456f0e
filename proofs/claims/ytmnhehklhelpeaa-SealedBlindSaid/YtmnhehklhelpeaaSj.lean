import Derived.Test.YtmnhehklhelpeaaLaw
import Derived.Test.YtmnhehklhelpeaaSh
namespace Go.Proofs.Ytmnhehklhelpeaa
open Go.Dec Go.RowKit Go.ChangeShapes Go.WideShapes Go.ChangeAt Go.Deep
set_option maxHeartbeats 800000

theorem cellsO : Try.prog.cellsOf 37 = 9 := by kernel_rfl
theorem underO : Try.prog.underlying 37 = some (.struct (Try.prog.fieldsOf 37)) := by kernel_rfl
theorem oneO : oneCellFields Try.prog (Try.prog.fieldsOf 37) = true := by kernel_rfl
theorem sizeO : (Try.prog.fieldsOf 37).size = 9 := by kernel_rfl
theorem fO_0 : ∃ f, (Try.prog.fieldsOf 37)[0]? = some f ∧ f.type = 3 := ⟨_, rfl, by kernel_rfl⟩
theorem fO_1 : ∃ f, (Try.prog.fieldsOf 37)[1]? = some f ∧ f.type = 3 := ⟨_, rfl, by kernel_rfl⟩
theorem fO_2 : ∃ f, (Try.prog.fieldsOf 37)[2]? = some f ∧ f.type = 3 := ⟨_, rfl, by kernel_rfl⟩
theorem fO_3 : ∃ f, (Try.prog.fieldsOf 37)[3]? = some f ∧ f.type = 3 := ⟨_, rfl, by kernel_rfl⟩
theorem fO_4 : ∃ f, (Try.prog.fieldsOf 37)[4]? = some f ∧ f.type = 3 := ⟨_, rfl, by kernel_rfl⟩
theorem fO_5 : ∃ f, (Try.prog.fieldsOf 37)[5]? = some f ∧ f.type = 3 := ⟨_, rfl, by kernel_rfl⟩
theorem fO_6 : ∃ f, (Try.prog.fieldsOf 37)[6]? = some f ∧ f.type = 3 := ⟨_, rfl, by kernel_rfl⟩
theorem fO_7 : ∃ f, (Try.prog.fieldsOf 37)[7]? = some f ∧ f.type = 9 := ⟨_, rfl, by kernel_rfl⟩
theorem fO_8 : ∃ f, (Try.prog.fieldsOf 37)[8]? = some f ∧ f.type = 35 := ⟨_, rfl, by kernel_rfl⟩
theorem lenO {l : List Value} (h : l.length = 9) : ∃ a0 a1 a2 a3 a4 a5 a6 a7 a8, l = [a0, a1, a2, a3, a4, a5, a6, a7, a8] := by
  match l, h with
  | [a0, a1, a2, a3, a4, a5, a6, a7, a8], _ => exact ⟨a0, a1, a2, a3, a4, a5, a6, a7, a8, rfl⟩
def GoodO (W : World) (y : Op) : Prop := (∃ tk, Rd W ci 1 y.take tk) ∧ -9223372036854775808 ≤ y.k
theorem cells_O {H : Type} {enc : TypeId × Value → H} {W : World} (n : Nat) (cs : List Value) (x : DataW H × List MemPlace) (hl : cs.length = 9) (h : DataW.trod enc Try.prog W 0 (fun _ => true) true n 37 cs = some x) : ∃ y : Op, cs = op y ∧ GoodO W y := by
  obtain ⟨a0, a1, a2, a3, a4, a5, a6, a7, a8, rfl⟩ := lenO hl
  have key := struct_cells underO oneO h (by rw [sizeO]; rfl)
  obtain ⟨f, h0, t0⟩ := fO_0
  obtain ⟨v0, y, m, e0, r0⟩ := key 0 f h0
  rw [t0] at r0
  clear h0 t0 f
  obtain ⟨i0, rfl, g0⟩ := one_int Try.underlying3 r0
  obtain ⟨f, h0, t0⟩ := fO_1
  obtain ⟨v1, y, m, e1, r1⟩ := key 1 f h0
  rw [t0] at r1
  clear h0 t0 f
  obtain ⟨i1, rfl, g1⟩ := one_int Try.underlying3 r1
  obtain ⟨f, h0, t0⟩ := fO_2
  obtain ⟨v2, y, m, e2, r2⟩ := key 2 f h0
  rw [t0] at r2
  clear h0 t0 f
  obtain ⟨i2, rfl, g2⟩ := one_int Try.underlying3 r2
  obtain ⟨f, h0, t0⟩ := fO_3
  obtain ⟨v3, y, m, e3, r3⟩ := key 3 f h0
  rw [t0] at r3
  clear h0 t0 f
  obtain ⟨i3, rfl, g3⟩ := one_int Try.underlying3 r3
  obtain ⟨f, h0, t0⟩ := fO_4
  obtain ⟨v4, y, m, e4, r4⟩ := key 4 f h0
  rw [t0] at r4
  clear h0 t0 f
  obtain ⟨i4, rfl, g4⟩ := one_int Try.underlying3 r4
  obtain ⟨f, h0, t0⟩ := fO_5
  obtain ⟨v5, y, m, e5, r5⟩ := key 5 f h0
  rw [t0] at r5
  clear h0 t0 f
  obtain ⟨i5, rfl, g5⟩ := one_int Try.underlying3 r5
  obtain ⟨f, h0, t0⟩ := fO_6
  obtain ⟨v6, y, m, e6, r6⟩ := key 6 f h0
  rw [t0] at r6
  clear h0 t0 f
  obtain ⟨i6, rfl, g6⟩ := one_int Try.underlying3 r6
  obtain ⟨f, h0, t0⟩ := fO_7
  obtain ⟨v7, y, m, e7, r7⟩ := key 7 f h0
  rw [t0] at r7
  clear h0 t0 f
  obtain ⟨i7, rfl, g7⟩ := one_string Try.underlying9 r7
  obtain ⟨f, h0, t0⟩ := fO_8
  obtain ⟨v8, y, m, e8, r8⟩ := key 8 f h0
  rw [t0] at r8
  clear h0 t0 f
  obtain ⟨i8, tl, rfl, g8, gl, _, gc⟩ := one_rd (enc := enc) ci 1 Try.underlying35 (show Try.prog.cellsOf 3 = 1 by kernel_rfl) r8 (Q := fun _ => True) (by
    intro n cs x hl h
    obtain ⟨v, rfl⟩ := List.length_eq_one_iff.1 hl
    obtain ⟨y, rfl, g⟩ := one_int Try.underlying3 h
    exact ⟨y, rfl, trivial⟩)
  simp at e0 e1 e2 e3 e4 e5 e6 e7 e8
  subst e0 e1 e2 e3 e4 e5 e6 e7 e8
  exact ⟨⟨i0, i1, i2, i3, i4, i5, i6, i7, i8⟩, rfl, ⟨tl, g8⟩, (wf_i64 g3).1⟩
end Go.Proofs.Ytmnhehklhelpeaa
