import Derived.Test.YtaogjbmgobfdoaaKt
import Derived.Test.YtaogjbmgobfdoaaLaw
namespace Go.Proofs.Ytaogjbmgobfdoaa
open Go.Dec Go.RowKit Go.ChangeShapes Go.WideShapes Go.ChangeAt Go.Deep
set_option maxHeartbeats 400000

theorem own : ownKnob Try.prog.godebug = none := by kernel_rfl
theorem laidOut : laidOutB Try.prog = true := by kernel_rfl

set_option maxRecDepth 100000 in
theorem linkTells_lifted (os : Os) (started : os.Started) (H : Type) (enc : TypeId × Value → H) :
    ReturnsInHanded {} Try.checked os 3 .any (Rows.linkTellsSpec.pre6 enc Try.prog Try.f3 Rows.linkTellsRow.domain false) (Rows.linkTellsSpec.post enc Try.prog Try.f3 false true false false) := by
  refine returnsInHanded_of_change (C := Try.checked) own started (by kernel_rfl) Try.func3
    (ChangeSpec.witness6 (enc := enc) (C := Try.checked) false ⟨#[], #[.int .i64 0, .slice none 0 0, .slice none 0 0], []⟩ 16 (by kernel_rfl) (by kernel_rfl) (by kernel_rfl) (by kernel_rfl)) ?_
  intro W base args ds gs before hval0 hW hcnd _
  have hval : ∀ (j : Nat) t v, Try.f3.params[j]? = some t → args[j]? = some v → Value.okWide Try.prog W .any base t v := hval0
  have hW' := hW
  obtain ⟨p, q, hA0, hV, rfl, hfz, hnd⟩ := hW
  have hA : DataW.TrodAll enc Try.prog W 0 (fun _ => true) true Try.f3.params.toList args.toList ds p := hA0
  rw [Try.params3] at hA hval
  obtain ⟨v0, vs0, d0, ds0, p0, q0, hargs, rfl, rfl, h0, r0⟩ := trodAll_cons hA
  obtain ⟨v1, vs1, d1, ds1, p1, q1, rfl, rfl, rfl, h1, r1⟩ := trodAll_cons r0
  obtain ⟨v2, vs2, d2, ds2, p2, q2, rfl, rfl, rfl, h2, r2⟩ := trodAll_cons r1
  obtain ⟨rfl, rfl, rfl⟩ := trodAll_nil r2
  obtain rfl : args = #[v0, v1, v2] := by cases args; simp_all
  have hgs : gs = [] := (trodVars_none hV).1
  subst hgs
  obtain ⟨i0, rfl, _, _, hw0⟩ := open_int Try.underlying3 (hval 0 3 v0 rfl rfl) h0
  obtain ⟨s1, l1, rfl, hrd1, hB1, hl1, hq1⟩ := open_rd (enc := enc) ci 1 Try.underlying22 (show Try.prog.cellsOf 3 = 1 by kernel_rfl) ci1 (by decide) (hval 1 22 v1 rfl rfl) h1 (Q := fun y => -9223372036854775808 ≤ y ∧ y ≤ 9223372036854775807) (by
    intro n cs x hl h
    obtain ⟨v, rfl⟩ := List.length_eq_one_iff.1 hl
    obtain ⟨y, rfl, g⟩ := one_int Try.underlying3 h
    exact ⟨y, rfl, wf_i64 g⟩)
  obtain ⟨s2, l2, rfl, hrd2, hB2, hl2, hq2⟩ := open_rd (enc := enc) ci 1 Try.underlying22 (show Try.prog.cellsOf 3 = 1 by kernel_rfl) ci1 (by decide) (hval 2 22 v2 rfl rfl) h2 (Q := fun y => -9223372036854775808 ≤ y ∧ y ≤ 9223372036854775807) (by
    intro n cs x hl h
    obtain ⟨v, rfl⟩ := List.length_eq_one_iff.1 hl
    obtain ⟨y, rfl, g⟩ := one_int Try.underlying3 h
    exact ⟨y, rfl, wf_i64 g⟩)
  refine Calls.mono (tells W i0 (wf_i64 hw0).1 (wf_i64 hw0).2 s1 l1 hrd1 hB1 hl1 hq1 s2 l2 hrd2 hB2 hl2 hq2) ?_
  rintro e W' ⟨r, rfl, rfl, hbel⟩
  exact ⟨_, rfl, law_post laidOut (by kernel_rfl) rfl rfl Try.underlying4 hW' ⟨rfl, rfl, rfl⟩ hbel⟩

theorem linkTells_holds : Rows.LinkTellsSaid :=
  OpenClaim.holds_of_wide 3 Try.f3 rfl rfl rfl rfl rfl rfl rfl ⟨rfl, rfl, rfl, rfl, rfl⟩ rfl rfl rfl rfl rfl (by kernel_rfl) Try.func3 (by kernel_rfl)
    (of_decide_eq_true (by kernel_rfl)) (by unfold Func.isWrapper; first | (rw [if_pos (by decide +kernel)]; kernel_rfl) | (rw [if_neg (by decide +kernel)]; exact ⟨rfl, rfl⟩))
    (fun os started H enc _ => linkTells_lifted os started H enc)

end Go.Proofs.Ytaogjbmgobfdoaa

