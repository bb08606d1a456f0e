import Derived.Test.YtaogjbmgobfdoaaKx
import Derived.Test.YtaogjbmgobfdoaaLaw
namespace Go.Proofs.Ytaogjbmgobfdoaa
open Go.Dec Go.RowKit Go.ChangeShapes Go.WideShapes Go.ChangeAt Go.Deep
set_option maxHeartbeats 400000

theorem own : ownKnob Try.prog.godebug = none := by kernel_rfl
theorem laidOut : laidOutB Try.prog = true := by kernel_rfl

theorem cells53_ : Try.prog.cellsOf 53 = 2 := by kernel_rfl
theorem under53_ : Try.prog.underlying 53 = some (.struct (Try.prog.fieldsOf 53)) := by kernel_rfl
theorem one53_ : oneCellFields Try.prog (Try.prog.fieldsOf 53) = true := by kernel_rfl
theorem size53_ : (Try.prog.fieldsOf 53).size = 2 := by kernel_rfl
theorem f53_0 : ∃ f, (Try.prog.fieldsOf 53)[0]? = some f ∧ f.type = 3 := ⟨_, rfl, by kernel_rfl⟩
theorem f53_1 : ∃ f, (Try.prog.fieldsOf 53)[1]? = some f ∧ f.type = 3 := ⟨_, rfl, by kernel_rfl⟩
theorem len53_ {l : List Value} (h : l.length = 2) : ∃ a0 a1, l = [a0, a1] := by
  match l, h with
  | [a0, a1], _ => exact ⟨a0, a1, rfl⟩
def act_ok (_ : (Int × Int)) : Prop := True ∧ True
theorem act_cells {H : Type} {enc : TypeId × Value → H} {W : World} (n : Nat) (cs : List Value) (x : DataW H × List MemPlace) (hl : cs.length = 2) (h : DataW.trod enc Try.prog W 0 (fun _ => true) true n 53 cs = some x) : ∃ y : (Int × Int), cs = cA y ∧ act_ok y := by
  obtain ⟨a0, a1, rfl⟩ := len53_ hl
  have key := struct_cells under53_ one53_ h (by rw [size53_]; rfl)
  obtain ⟨f, h0, t0⟩ := f53_0
  obtain ⟨v0, y, m, e0, r0⟩ := key 0 f h0
  rw [t0] at r0
  clear h0 t0 f
  obtain ⟨i0, rfl, g0⟩ := one_int Try.underlying3 r0
  obtain ⟨f, h0, t0⟩ := f53_1
  obtain ⟨v1, y, m, e1, r1⟩ := key 1 f h0
  rw [t0] at r1
  clear h0 t0 f
  obtain ⟨i1, rfl, g1⟩ := one_int Try.underlying3 r1
  simp at e0 e1
  subst e0 e1
  exact ⟨⟨i0, i1⟩, rfl, trivial, trivial⟩

set_option maxRecDepth 100000 in
theorem linkRounds_lifted (os : Os) (started : os.Started) (H : Type) (enc : TypeId × Value → H) :
    ReturnsInHanded {} Try.checked os 5 .any (Rows.linkRoundsSpec.pre6 enc Try.prog Try.f5 Rows.linkRoundsRow.domain false) (Rows.linkRoundsSpec.post enc Try.prog Try.f5 false true false false) := by
  refine returnsInHanded_of_change (C := Try.checked) own started (by kernel_rfl) Try.func5
    (ChangeSpec.witness6 (enc := enc) (C := Try.checked) false ⟨#[], #[.int .i64 0, .slice none 0 0], []⟩ 12 (by kernel_rfl) (by kernel_rfl) (by kernel_rfl) (by kernel_rfl)) ?_
  intro W base args ds gs before hval0 hW hcnd _
  have hval : ∀ (j : Nat) t v, Try.f5.params[j]? = some t → args[j]? = some v → Value.okWide Try.prog W .any base t v := hval0
  have hW' := hW
  obtain ⟨p, q, hA0, hV, rfl, hfz, hnd⟩ := hW
  have hA : DataW.TrodAll enc Try.prog W 0 (fun _ => true) true Try.f5.params.toList args.toList ds p := hA0
  rw [Try.params5] at hA hval
  obtain ⟨v0, vs0, d0, ds0, p0, q0, hargs, rfl, rfl, h0, r0⟩ := trodAll_cons hA
  obtain ⟨v1, vs1, d1, ds1, p1, q1, rfl, rfl, rfl, h1, r1⟩ := trodAll_cons r0
  obtain ⟨rfl, rfl, rfl⟩ := trodAll_nil r1
  obtain rfl : args = #[v0, v1] := by cases args; simp_all
  have hgs : gs = [] := (trodVars_none hV).1
  subst hgs
  obtain ⟨i0, rfl, _, _, hw0⟩ := open_int Try.underlying3 (hval 0 3 v0 rfl rfl) h0
  obtain ⟨s1, l1, rfl, hrd1, hB1, hl1, hq1⟩ := open_rd (enc := enc) cA 2 Try.underlying51 cells53_ cA2 (by decide) (hval 1 51 v1 rfl rfl) h1 act_cells
  refine Calls.mono (rounds W i0 (wf_i64 hw0).1 (wf_i64 hw0).2 s1 l1 hrd1 hB1 hl1) ?_
  rintro e W' ⟨r, rfl, rfl, hbel⟩
  exact ⟨_, rfl, law_post laidOut (by kernel_rfl) rfl rfl Try.underlying4 hW' ⟨rfl, rfl, rfl⟩ hbel⟩

theorem linkRounds_holds : Rows.LinkRoundsSaid :=
  OpenClaim.holds_of_wide 5 Try.f5 rfl rfl rfl rfl rfl rfl rfl ⟨rfl, rfl, rfl, rfl, rfl⟩ rfl rfl rfl rfl rfl (by kernel_rfl) Try.func5 (by kernel_rfl)
    (of_decide_eq_true (by kernel_rfl)) (by unfold Func.isWrapper; first | (rw [if_pos (by decide +kernel)]; kernel_rfl) | (rw [if_neg (by decide +kernel)]; exact ⟨rfl, rfl⟩))
    (fun os started H enc _ => linkRounds_lifted os started H enc)

end Go.Proofs.Ytaogjbmgobfdoaa

