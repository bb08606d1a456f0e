import Derived.Test.YtgbhghoppjfofaaGreatLaw
import Derived.Test.YtgbhghoppjfofaaGreatLi
namespace Go.Proofs.YtgbhghoppjfofaaGreat
open Go.Dec Go.RowKit Go.ChangeShapes Go.WideShapes Go.ChangeAt Go.Deep
set_option maxHeartbeats 400000
set_option maxRecDepth 100000

theorem own : ownKnob Tryz.prog.godebug = none := by kernel_rfl
theorem laidOut : laidOutB Tryz.prog = true := by kernel_rfl

set_option maxRecDepth 100000 in
theorem topLinked_lifted (os : Os) (started : os.Started) (H : Type) (enc : TypeId × Value → H) :
    ReturnsInHanded {} Tryz.checked os 3 .any (Rows.topLinkedSpec.pre6 enc Tryz.prog Tryz.f3 Rows.topLinkedRow.domain false) (Rows.topLinkedSpec.post enc Tryz.prog Tryz.f3 false true false false) := by
  refine returnsInHanded_of_change (C := Tryz.checked) own started (by kernel_rfl) Tryz.func3
    (ChangeSpec.witness6 (enc := enc) (C := Tryz.checked) false ⟨#[], #[.int .i64 0, .int .i64 0, .int .u8 0, .slice none 0 0, .slice none 0 0, .int .u8 0], []⟩ 28 (by kernel_rfl) (by kernel_rfl) (by kernel_rfl) (by kernel_rfl)) ?_
  intro W base args ds gs before hval0 hW hcnd _
  have hval : ∀ (j : Nat) t v, Tryz.f3.params[j]? = some t → args[j]? = some v → Value.okWide Tryz.prog W .any base t v := hval0
  have hW' := hW
  obtain ⟨p, q, hA0, hV, rfl, hfz, hnd⟩ := hW
  have hA : DataW.TrodAll enc Tryz.prog W 0 (fun _ => true) true Tryz.f3.params.toList args.toList ds p := hA0
  rw [Tryz.params3] at hA hval
  obtain ⟨v0, vs0, d0, ds0, p0, q0, hargs, rfl, rfl, h0, r0⟩ := trodAll_cons hA
  obtain ⟨v1, vs1, d1, ds1, p1, q1, rfl, rfl, rfl, h1, r1⟩ := trodAll_cons r0
  obtain ⟨v2, vs2, d2, ds2, p2, q2, rfl, rfl, rfl, h2, r2⟩ := trodAll_cons r1
  obtain ⟨v3, vs3, d3, ds3, p3, q3, rfl, rfl, rfl, h3, r3⟩ := trodAll_cons r2
  obtain ⟨v4, vs4, d4, ds4, p4, q4, rfl, rfl, rfl, h4, r4⟩ := trodAll_cons r3
  obtain ⟨v5, vs5, d5, ds5, p5, q5, rfl, rfl, rfl, h5, r5⟩ := trodAll_cons r4
  obtain ⟨rfl, rfl, rfl⟩ := trodAll_nil r5
  obtain rfl : args = #[v0, v1, v2, v3, v4, v5] := by cases args; simp_all
  have hgs : gs = [] := (trodVars_none hV).1
  subst hgs
  obtain ⟨i0, rfl, _, _, hw0⟩ := open_int Tryz.underlying3 (hval 0 3 v0 rfl rfl) h0
  obtain ⟨i1, rfl, _, _, hw1⟩ := open_int Tryz.underlying3 (hval 1 3 v1 rfl rfl) h1
  obtain ⟨i2, rfl, _, _, hw2⟩ := open_int Tryz.underlying5 (hval 2 5 v2 rfl rfl) h2
  obtain ⟨s3, l3, rfl, hrd3, hB3, hl3, hq3⟩ := open_rd (enc := enc) cbo 1 Tryz.underlying22 (show Tryz.prog.cellsOf 4 = 1 by kernel_rfl) cbo1 (by decide) (hval 3 22 v3 rfl rfl) h3 (Q := fun y => True) (by
    intro n cs x hl h
    obtain ⟨v, rfl⟩ := List.length_eq_one_iff.1 hl
    obtain ⟨y, rfl, g⟩ := one_bool Tryz.underlying4 h
    exact ⟨y, rfl, trivial⟩)
  obtain ⟨s4, l4, rfl, hrd4, hB4, hl4, hq4⟩ := open_rd (enc := enc) cbo 1 Tryz.underlying22 (show Tryz.prog.cellsOf 4 = 1 by kernel_rfl) cbo1 (by decide) (hval 4 22 v4 rfl rfl) h4 (Q := fun y => True) (by
    intro n cs x hl h
    obtain ⟨v, rfl⟩ := List.length_eq_one_iff.1 hl
    obtain ⟨y, rfl, g⟩ := one_bool Tryz.underlying4 h
    exact ⟨y, rfl, trivial⟩)
  obtain ⟨i5, rfl, _, _, hw5⟩ := open_int Tryz.underlying5 (hval 5 5 v5 rfl rfl) h5
  refine Calls.mono (linked W i0 (wf_i64 hw0).1 (wf_i64 hw0).2 i1 (wf_i64 hw1).1 (wf_i64 hw1).2 i2 (wf_u8 hw2).1 (wf_u8 hw2).2 s3 l3 hrd3 hB3 hl3 s4 l4 hrd4 hB4 hl4 i5 (wf_u8 hw5).1 (wf_u8 hw5).2) ?_
  rintro e W' ⟨r, rfl, rfl, hbel⟩
  exact ⟨_, rfl, law_post laidOut (by kernel_rfl) rfl rfl Tryz.underlying4 hW' ⟨rfl, rfl, rfl⟩ hbel⟩

theorem topLinked_holds : Rows.TopLinkedSaid :=
  OpenClaim.holds_of_wide 3 Tryz.f3 rfl rfl rfl rfl rfl rfl rfl ⟨rfl, rfl, rfl, rfl, rfl⟩ rfl rfl rfl rfl rfl (by kernel_rfl) Tryz.func3 (by kernel_rfl)
    (of_decide_eq_true (by kernel_rfl)) (by unfold Func.isWrapper; first | (rw [if_pos (by decide +kernel)]; kernel_rfl) | (rw [if_neg (by decide +kernel)]; exact ⟨rfl, rfl⟩))
    (fun os started H enc _ => topLinked_lifted os started H enc)

end Go.Proofs.YtgbhghoppjfofaaGreat

