import Derived.Test.YtpdemlicnocbkaaRb
import Derived.Test.YtpdemlicnocbkaaLaw
namespace Go.Proofs.Ytpdemlicnocbkaa
open Go.Dec Go.RowKit Go.ChangeShapes Go.WideShapes Go.ChangeAt Go.Deep
set_option maxHeartbeats 400000

theorem own : ownKnob Try.prog.godebug = none := by kernel_rfl
theorem laidOut : laidOutB Try.prog = true := by kernel_rfl

theorem cells39_ : Try.prog.cellsOf 39 = 2 := by kernel_rfl
theorem under39_ : Try.prog.underlying 39 = some (.struct (Try.prog.fieldsOf 39)) := by kernel_rfl
theorem one39_ : oneCellFields Try.prog (Try.prog.fieldsOf 39) = true := by kernel_rfl
theorem size39_ : (Try.prog.fieldsOf 39).size = 2 := by kernel_rfl
theorem f39_0 : ∃ f, (Try.prog.fieldsOf 39)[0]? = some f ∧ f.type = 37 := ⟨_, rfl, by kernel_rfl⟩
theorem f39_1 : ∃ f, (Try.prog.fieldsOf 39)[1]? = some f ∧ f.type = 3 := ⟨_, rfl, by kernel_rfl⟩
theorem len39_ {l : List Value} (h : l.length = 2) : ∃ a0 a1, l = [a0, a1] := by
  match l, h with
  | [a0, a1], _ => exact ⟨a0, a1, rfl⟩
def want_ok (y : Want) : Prop := (0 ≤ y.steps ∧ y.steps ≤ 65535) ∧ (-9223372036854775808 ≤ y.n ∧ y.n ≤ 9223372036854775807)
theorem want_cells {H : Type} {enc : TypeId × Value → H} {W : World} (n : Nat) (cs : List Value) (x : DataW H × List MemPlace) (hl : cs.length = 2) (h : DataW.trod enc Try.prog W 0 (fun _ => true) true n 39 cs = some x) : ∃ y : Want, cs = cw y ∧ want_ok y := by
  obtain ⟨a0, a1, rfl⟩ := len39_ hl
  have key := struct_cells under39_ one39_ h (by rw [size39_]; rfl)
  obtain ⟨f, h0, t0⟩ := f39_0
  obtain ⟨v0, y, m, e0, r0⟩ := key 0 f h0
  rw [t0] at r0
  clear h0 t0 f
  obtain ⟨i0, rfl, g0⟩ := one_int Try.underlying37 r0
  obtain ⟨f, h0, t0⟩ := f39_1
  obtain ⟨v1, y, m, e1, r1⟩ := key 1 f h0
  rw [t0] at r1
  clear h0 t0 f
  obtain ⟨i1, rfl, g1⟩ := one_int Try.underlying3 r1
  simp at e0 e1
  subst e0 e1
  exact ⟨⟨i0, i1⟩, rfl, wf_u16 g0, wf_i64 g1⟩

set_option maxRecDepth 100000 in
theorem rateBounds_lifted (os : Os) (started : os.Started) (H : Type) (enc : TypeId × Value → H) :
    ReturnsInHanded {} Try.checked os 4 .any (Rows.rateBoundsSpec.pre6 enc Try.prog Try.f4 Rows.rateBoundsRow.domain false) (Rows.rateBoundsSpec.post enc Try.prog Try.f4 false true false false) := by
  refine returnsInHanded_of_change (C := Try.checked) own started (by kernel_rfl) Try.func4
    (ChangeSpec.witness6 (enc := enc) (C := Try.checked) false ⟨#[], #[.int .i64 0, .int .i64 0, .int .i64 0, .slice none 0 0], []⟩ 20 (by kernel_rfl) (by kernel_rfl) (by kernel_rfl) (by kernel_rfl)) ?_
  intro W base args ds gs before hval0 hW hcnd _
  have hval : ∀ (j : Nat) t v, Try.f4.params[j]? = some t → args[j]? = some v → Value.okWide Try.prog W .any base t v := hval0
  have hW' := hW
  obtain ⟨p, q, hA0, hV, rfl, hfz, hnd⟩ := hW
  have hA : DataW.TrodAll enc Try.prog W 0 (fun _ => true) true Try.f4.params.toList args.toList ds p := hA0
  rw [Try.params4] at hA hval
  obtain ⟨v0, vs0, d0, ds0, p0, q0, hargs, rfl, rfl, h0, r0⟩ := trodAll_cons hA
  obtain ⟨v1, vs1, d1, ds1, p1, q1, rfl, rfl, rfl, h1, r1⟩ := trodAll_cons r0
  obtain ⟨v2, vs2, d2, ds2, p2, q2, rfl, rfl, rfl, h2, r2⟩ := trodAll_cons r1
  obtain ⟨v3, vs3, d3, ds3, p3, q3, rfl, rfl, rfl, h3, r3⟩ := trodAll_cons r2
  obtain ⟨rfl, rfl, rfl⟩ := trodAll_nil r3
  obtain rfl : args = #[v0, v1, v2, v3] := by cases args; simp_all
  have hgs : gs = [] := (trodVars_none hV).1
  subst hgs
  obtain ⟨i0, rfl, _, _, hw0⟩ := open_int Try.underlying3 (hval 0 3 v0 rfl rfl) h0
  obtain ⟨i1, rfl, _, _, hw1⟩ := open_int Try.underlying3 (hval 1 3 v1 rfl rfl) h1
  obtain ⟨i2, rfl, _, _, hw2⟩ := open_int Try.underlying3 (hval 2 3 v2 rfl rfl) h2
  obtain ⟨s3, l3, rfl, hrd3, hB3, hl3, hq3⟩ := open_rd (enc := enc) cw 2 Try.underlying36 cells39_ cw2 (by decide) (hval 3 36 v3 rfl rfl) h3 want_cells
  refine Calls.mono (bounds W i0 (wf_i64 hw0).1 (wf_i64 hw0).2 i1 (wf_i64 hw1).1 (wf_i64 hw1).2 i2 (wf_i64 hw2).1 (wf_i64 hw2).2 s3 l3 hrd3 hB3 hl3 hq3) ?_
  rintro e W' ⟨r, rfl, rfl, hbel⟩
  exact ⟨_, rfl, law_post laidOut (by kernel_rfl) rfl rfl Try.underlying4 hW' ⟨rfl, rfl, rfl⟩ hbel⟩

theorem rateBounds_holds : Rows.RateBoundsSaid :=
  OpenClaim.holds_of_wide 4 Try.f4 rfl rfl rfl rfl rfl rfl rfl ⟨rfl, rfl, rfl, rfl, rfl⟩ rfl rfl rfl rfl rfl (by kernel_rfl) Try.func4 (by kernel_rfl)
    (of_decide_eq_true (by kernel_rfl)) (by unfold Func.isWrapper; first | (rw [if_pos (by decide +kernel)]; kernel_rfl) | (rw [if_neg (by decide +kernel)]; exact ⟨rfl, rfl⟩))
    (fun os started H enc _ => rateBounds_lifted os started H enc)

end Go.Proofs.Ytpdemlicnocbkaa

