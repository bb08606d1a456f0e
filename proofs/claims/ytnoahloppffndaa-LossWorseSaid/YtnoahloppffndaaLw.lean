import Derived.Test.YtnoahloppffndaaLaw
import Derived.Test.YtnoahloppffndaaXf
namespace Go.Proofs.Ytnoahloppffndaa
open Go.Dec Go.RowKit Go.ChangeShapes Go.WideShapes Go.ChangeAt Go.Deep
set_option maxHeartbeats 400000

theorem own : ownKnob Try.prog.godebug = none := by kernel_rfl
theorem laidOut : laidOutB Try.prog = true := by kernel_rfl

theorem cells44_ : Try.prog.cellsOf 44 = 3 := by kernel_rfl
theorem under44_ : Try.prog.underlying 44 = some (.struct (Try.prog.fieldsOf 44)) := by kernel_rfl
theorem one44_ : oneCellFields Try.prog (Try.prog.fieldsOf 44) = true := by kernel_rfl
theorem size44_ : (Try.prog.fieldsOf 44).size = 3 := by kernel_rfl
theorem f44_0 : ∃ f, (Try.prog.fieldsOf 44)[0]? = some f ∧ f.type = 3 := ⟨_, rfl, by kernel_rfl⟩
theorem f44_1 : ∃ f, (Try.prog.fieldsOf 44)[1]? = some f ∧ f.type = 3 := ⟨_, rfl, by kernel_rfl⟩
theorem f44_2 : ∃ f, (Try.prog.fieldsOf 44)[2]? = some f ∧ f.type = 3 := ⟨_, rfl, by kernel_rfl⟩
theorem len44_ {l : List Value} (h : l.length = 3) : ∃ a0 a1 a2, l = [a0, a1, a2] := by
  match l, h with
  | [a0, a1, a2], _ => exact ⟨a0, a1, a2, rfl⟩
def loss_ok (_ : Lo) : Prop := True ∧ True ∧ True
theorem loss_cells {H : Type} {enc : TypeId × Value → H} {W : World} (n : Nat) (cs : List Value) (x : DataW H × List MemPlace) (hl : cs.length = 3) (h : DataW.trod enc Try.prog W 0 (fun _ => true) true n 44 cs = some x) : ∃ y : Lo, cs = lo y ∧ loss_ok y := by
  obtain ⟨a0, a1, a2, rfl⟩ := len44_ hl
  have key := struct_cells under44_ one44_ h (by rw [size44_]; rfl)
  obtain ⟨f, h0, t0⟩ := f44_0
  obtain ⟨v0, y, m, e0, r0⟩ := key 0 f h0
  rw [t0] at r0
  clear h0 t0 f
  obtain ⟨i0, rfl, g0⟩ := one_int Try.underlying3 r0
  obtain ⟨f, h0, t0⟩ := f44_1
  obtain ⟨v1, y, m, e1, r1⟩ := key 1 f h0
  rw [t0] at r1
  clear h0 t0 f
  obtain ⟨i1, rfl, g1⟩ := one_int Try.underlying3 r1
  obtain ⟨f, h0, t0⟩ := f44_2
  obtain ⟨v2, y, m, e2, r2⟩ := key 2 f h0
  rw [t0] at r2
  clear h0 t0 f
  obtain ⟨i2, rfl, g2⟩ := one_int Try.underlying3 r2
  simp at e0 e1 e2
  subst e0 e1 e2
  exact ⟨⟨i0, i1, i2⟩, rfl, trivial, trivial, trivial⟩

set_option maxRecDepth 100000 in
theorem lossWorse_lifted (os : Os) (started : os.Started) (H : Type) (enc : TypeId × Value → H) :
    ReturnsInHanded {} Try.checked os 5 .any (Rows.lossWorseSpec.pre6 enc Try.prog Try.f5 Rows.lossWorseRow.domain false) (Rows.lossWorseSpec.post enc Try.prog Try.f5 false true false false) := by
  refine returnsInHanded_of_change (C := Try.checked) own started (by kernel_rfl) Try.func5
    (ChangeSpec.witness6 (enc := enc) (C := Try.checked) false ⟨#[], #[.slice none 0 0, .slice none 0 0, .slice none 0 0], []⟩ 16 (by kernel_rfl) (by kernel_rfl) (by kernel_rfl) (by kernel_rfl)) ?_
  intro W base args ds gs before hval0 hW hcnd _
  have hval : ∀ (j : Nat) t v, Try.f5.params[j]? = some t → args[j]? = some v → Value.okWide Try.prog W .any base t v := hval0
  have hW' := hW
  obtain ⟨p, q, hA0, hV, rfl, hfz, hnd⟩ := hW
  have hA : DataW.TrodAll enc Try.prog W 0 (fun _ => true) true Try.f5.params.toList args.toList ds p := hA0
  rw [Try.params5] at hA hval
  obtain ⟨v0, vs0, d0, ds0, p0, q0, hargs, rfl, rfl, h0, r0⟩ := trodAll_cons hA
  obtain ⟨v1, vs1, d1, ds1, p1, q1, rfl, rfl, rfl, h1, r1⟩ := trodAll_cons r0
  obtain ⟨v2, vs2, d2, ds2, p2, q2, rfl, rfl, rfl, h2, r2⟩ := trodAll_cons r1
  obtain ⟨rfl, rfl, rfl⟩ := trodAll_nil r2
  obtain rfl : args = #[v0, v1, v2] := by cases args; simp_all
  have hgs : gs = [] := (trodVars_none hV).1
  subst hgs
  obtain ⟨s0, l0, rfl, hrd0, hB0, hl0, hq0⟩ := open_rd (enc := enc) lo 3 Try.underlying26 cells44_ lo_len (by decide) (hval 0 26 v0 rfl rfl) h0 loss_cells
  obtain ⟨s1, l1, rfl, hrd1, hB1, hl1, hq1⟩ := open_rd (enc := enc) lo 3 Try.underlying26 cells44_ lo_len (by decide) (hval 1 26 v1 rfl rfl) h1 loss_cells
  obtain ⟨s2, l2, rfl, hrd2, hB2, hl2, hq2⟩ := open_rd (enc := enc) lo 3 Try.underlying26 cells44_ lo_len (by decide) (hval 2 26 v2 rfl rfl) h2 loss_cells
  refine Calls.mono (worselaw W s0 l0 hrd0 hB0 hl0 s1 l1 hrd1 hB1 hl1 s2 l2 hrd2 hB2 hl2) ?_
  rintro e W' ⟨r, rfl, rfl, hbel⟩
  exact ⟨_, rfl, law_post laidOut (by kernel_rfl) rfl rfl Try.underlying4 hW' ⟨rfl, rfl, rfl⟩ hbel⟩

theorem lossWorse_holds : Rows.LossWorseSaid :=
  OpenClaim.holds_of_wide 5 Try.f5 rfl rfl rfl rfl rfl rfl rfl ⟨rfl, rfl, rfl, rfl, rfl⟩ rfl rfl rfl rfl rfl (by kernel_rfl) Try.func5 (by kernel_rfl)
    (of_decide_eq_true (by kernel_rfl)) (by unfold Func.isWrapper; first | (rw [if_pos (by decide +kernel)]; kernel_rfl) | (rw [if_neg (by decide +kernel)]; exact ⟨rfl, rfl⟩))
    (fun os started H enc _ => lossWorse_lifted os started H enc)

end Go.Proofs.Ytnoahloppffndaa

