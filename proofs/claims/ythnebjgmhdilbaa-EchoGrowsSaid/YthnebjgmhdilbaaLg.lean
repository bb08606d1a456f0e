import Derived.Test.YthnebjgmhdilbaaEw
import Derived.Test.YthnebjgmhdilbaaLaw
namespace Go.Proofs.Ythnebjgmhdilbaa
open Go.Dec Go.RowKit Go.ChangeShapes Go.WideShapes Go.ChangeAt Go.Deep
set_option maxHeartbeats 400000

theorem own : ownKnob Try.prog.godebug = none := by kernel_rfl
theorem laidOut : laidOutB Try.prog = true := by kernel_rfl

theorem cells30_ : Try.prog.cellsOf 30 = 5 := by kernel_rfl
theorem under30_ : Try.prog.underlying 30 = some (.struct (Try.prog.fieldsOf 30)) := by kernel_rfl
theorem one30_ : oneCellFields Try.prog (Try.prog.fieldsOf 30) = true := by kernel_rfl
theorem size30_ : (Try.prog.fieldsOf 30).size = 5 := by kernel_rfl
theorem f30_0 : ∃ f, (Try.prog.fieldsOf 30)[0]? = some f ∧ f.type = 3 := ⟨_, rfl, by kernel_rfl⟩
theorem f30_1 : ∃ f, (Try.prog.fieldsOf 30)[1]? = some f ∧ f.type = 3 := ⟨_, rfl, by kernel_rfl⟩
theorem f30_2 : ∃ f, (Try.prog.fieldsOf 30)[2]? = some f ∧ f.type = 3 := ⟨_, rfl, by kernel_rfl⟩
theorem f30_3 : ∃ f, (Try.prog.fieldsOf 30)[3]? = some f ∧ f.type = 3 := ⟨_, rfl, by kernel_rfl⟩
theorem f30_4 : ∃ f, (Try.prog.fieldsOf 30)[4]? = some f ∧ f.type = 3 := ⟨_, rfl, by kernel_rfl⟩
theorem len30_ {l : List Value} (h : l.length = 5) : ∃ a0 a1 a2 a3 a4, l = [a0, a1, a2, a3, a4] := by
  match l, h with
  | [a0, a1, a2, a3, a4], _ => exact ⟨a0, a1, a2, a3, a4, rfl⟩
def msg_ok (y : Cp) : Prop := (-9223372036854775808 ≤ y.acc ∧ y.acc ≤ 9223372036854775807) ∧ (-9223372036854775808 ≤ y.grp ∧ y.grp ≤ 9223372036854775807) ∧ (-9223372036854775808 ≤ y.step ∧ y.step ≤ 9223372036854775807) ∧ (-9223372036854775808 ≤ y.on ∧ y.on ≤ 9223372036854775807) ∧ (-9223372036854775808 ≤ y.quote ∧ y.quote ≤ 9223372036854775807)
theorem msg_cells {H : Type} {enc : TypeId × Value → H} {W : World} (n : Nat) (cs : List Value) (x : DataW H × List MemPlace) (hl : cs.length = 5) (h : DataW.trod enc Try.prog W 0 (fun _ => true) true n 30 cs = some x) : ∃ y : Cp, cs = cp y ∧ msg_ok y := by
  obtain ⟨a0, a1, a2, a3, a4, rfl⟩ := len30_ hl
  have key := struct_cells under30_ one30_ h (by rw [size30_]; rfl)
  obtain ⟨f, h0, t0⟩ := f30_0
  obtain ⟨v0, y, m, e0, r0⟩ := key 0 f h0
  rw [t0] at r0
  clear h0 t0 f
  obtain ⟨i0, rfl, g0⟩ := one_int Try.underlying3 r0
  obtain ⟨f, h0, t0⟩ := f30_1
  obtain ⟨v1, y, m, e1, r1⟩ := key 1 f h0
  rw [t0] at r1
  clear h0 t0 f
  obtain ⟨i1, rfl, g1⟩ := one_int Try.underlying3 r1
  obtain ⟨f, h0, t0⟩ := f30_2
  obtain ⟨v2, y, m, e2, r2⟩ := key 2 f h0
  rw [t0] at r2
  clear h0 t0 f
  obtain ⟨i2, rfl, g2⟩ := one_int Try.underlying3 r2
  obtain ⟨f, h0, t0⟩ := f30_3
  obtain ⟨v3, y, m, e3, r3⟩ := key 3 f h0
  rw [t0] at r3
  clear h0 t0 f
  obtain ⟨i3, rfl, g3⟩ := one_int Try.underlying3 r3
  obtain ⟨f, h0, t0⟩ := f30_4
  obtain ⟨v4, y, m, e4, r4⟩ := key 4 f h0
  rw [t0] at r4
  clear h0 t0 f
  obtain ⟨i4, rfl, g4⟩ := one_int Try.underlying3 r4
  simp at e0 e1 e2 e3 e4
  subst e0 e1 e2 e3 e4
  exact ⟨⟨i0, i1, i2, i3, i4⟩, rfl, wf_i64 g0, wf_i64 g1, wf_i64 g2, wf_i64 g3, wf_i64 g4⟩

set_option maxRecDepth 100000 in
theorem echoGrows_lifted (os : Os) (started : os.Started) (H : Type) (enc : TypeId × Value → H) :
    ReturnsInHanded {} Try.checked os 5 .any (Rows.echoGrowsSpec.pre6 enc Try.prog Try.f5 Rows.echoGrowsRow.domain false) (Rows.echoGrowsSpec.post enc Try.prog Try.f5 false true false false) := by
  refine returnsInHanded_of_change (C := Try.checked) own started (by kernel_rfl) Try.func5
    (ChangeSpec.witness6 (enc := enc) (C := Try.checked) false ⟨#[], #[.slice none 0 0, .slice none 0 0, .agg #[.int .i64 0, .int .i64 0, .int .i64 0, .int .i64 0, .int .i64 0], .int .u16 0, .int .u16 0], []⟩ 24 (by kernel_rfl) (by kernel_rfl) (by kernel_rfl) (by kernel_rfl)) ?_
  intro W base args ds gs before hval0 hW hcnd _
  have hval : ∀ (j : Nat) t v, Try.f5.params[j]? = some t → args[j]? = some v → Value.okWide Try.prog W .any base t v := hval0
  have hW' := hW
  obtain ⟨p, q, hA0, hV, rfl, hfz, hnd⟩ := hW
  have hA : DataW.TrodAll enc Try.prog W 0 (fun _ => true) true Try.f5.params.toList args.toList ds p := hA0
  rw [Try.params5] at hA hval
  obtain ⟨v0, vs0, d0, ds0, p0, q0, hargs, rfl, rfl, h0, r0⟩ := trodAll_cons hA
  obtain ⟨v1, vs1, d1, ds1, p1, q1, rfl, rfl, rfl, h1, r1⟩ := trodAll_cons r0
  obtain ⟨v2, vs2, d2, ds2, p2, q2, rfl, rfl, rfl, h2, r2⟩ := trodAll_cons r1
  obtain ⟨v3, vs3, d3, ds3, p3, q3, rfl, rfl, rfl, h3, r3⟩ := trodAll_cons r2
  obtain ⟨v4, vs4, d4, ds4, p4, q4, rfl, rfl, rfl, h4, r4⟩ := trodAll_cons r3
  obtain ⟨rfl, rfl, rfl⟩ := trodAll_nil r4
  obtain rfl : args = #[v0, v1, v2, v3, v4] := by cases args; simp_all
  have hgs : gs = [] := (trodVars_none hV).1
  subst hgs
  obtain ⟨s0, l0, rfl, hrd0, hB0, hl0, hq0⟩ := open_rd (enc := enc) cp 5 Try.underlying22 cells30_ cp5 (by decide) (hval 0 22 v0 rfl rfl) h0 msg_cells
  obtain ⟨s1, l1, rfl, hrd1, hB1, hl1, hq1⟩ := open_rd (enc := enc) cp 5 Try.underlying22 cells30_ cp5 (by decide) (hval 1 22 v1 rfl rfl) h1 msg_cells
  obtain ⟨y2, rfl, hq2⟩ := open_st cp 5 under30_ cells30_ (hval 2 30 v2 rfl rfl) h2 msg_cells
  obtain ⟨i3, rfl, _, _, hw3⟩ := open_int Try.underlying35 (hval 3 35 v3 rfl rfl) h3
  obtain ⟨i4, rfl, _, _, hw4⟩ := open_int Try.underlying35 (hval 4 35 v4 rfl rfl) h4
  refine Calls.mono (grows W s0 l0 hrd0 hB0 hl0 hq0 s1 l1 hrd1 hB1 hl1 hq1 y2 hq2 i3 (wf_u16 hw3).1 (wf_u16 hw3).2 i4 (wf_u16 hw4).1 (wf_u16 hw4).2) ?_
  rintro e W' ⟨r, rfl, rfl, hbel⟩
  exact ⟨_, rfl, law_post laidOut (by kernel_rfl) rfl rfl Try.underlying4 hW' ⟨rfl, rfl, rfl⟩ hbel⟩

theorem echoGrows_holds : Rows.EchoGrowsSaid :=
  OpenClaim.holds_of_wide 5 Try.f5 rfl rfl rfl rfl rfl rfl rfl ⟨rfl, rfl, rfl, rfl, rfl⟩ rfl rfl rfl rfl rfl (by kernel_rfl) Try.func5 (by kernel_rfl)
    (of_decide_eq_true (by kernel_rfl)) (by unfold Func.isWrapper; first | (rw [if_pos (by decide +kernel)]; kernel_rfl) | (rw [if_neg (by decide +kernel)]; exact ⟨rfl, rfl⟩))
    (fun os started H enc _ => echoGrows_lifted os started H enc)

end Go.Proofs.Ythnebjgmhdilbaa

