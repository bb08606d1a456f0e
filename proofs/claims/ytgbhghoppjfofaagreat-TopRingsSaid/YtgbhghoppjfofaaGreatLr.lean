import Derived.Test.YtgbhghoppjfofaaGreatLaw
import Derived.Test.YtgbhghoppjfofaaGreatRi
namespace Go.Proofs.YtgbhghoppjfofaaGreat
open Go.Dec Go.RowKit Go.ChangeShapes Go.WideShapes Go.ChangeAt Go.Deep
set_option maxHeartbeats 400000
set_option maxRecDepth 100000

theorem own : ownKnob Tryz.prog.godebug = none := by kernel_rfl
theorem laidOut : laidOutB Tryz.prog = true := by kernel_rfl

theorem cells56_ : Tryz.prog.cellsOf 56 = 3 := by kernel_rfl
theorem under56_ : Tryz.prog.underlying 56 = some (.struct (Tryz.prog.fieldsOf 56)) := by kernel_rfl
theorem one56_ : oneCellFields Tryz.prog (Tryz.prog.fieldsOf 56) = true := by kernel_rfl
theorem size56_ : (Tryz.prog.fieldsOf 56).size = 3 := by kernel_rfl
theorem f56_0 : ∃ f, (Tryz.prog.fieldsOf 56)[0]? = some f ∧ f.type = 3 := ⟨_, rfl, by kernel_rfl⟩
theorem f56_1 : ∃ f, (Tryz.prog.fieldsOf 56)[1]? = some f ∧ f.type = 3 := ⟨_, rfl, by kernel_rfl⟩
theorem f56_2 : ∃ f, (Tryz.prog.fieldsOf 56)[2]? = some f ∧ f.type = 4 := ⟨_, rfl, by kernel_rfl⟩
theorem len56_ {l : List Value} (h : l.length = 3) : ∃ a0 a1 a2, l = [a0, a1, a2] := by
  match l, h with
  | [a0, a1, a2], _ => exact ⟨a0, a1, a2, rfl⟩
def bridge_ok (_ : Go.Top.Br) : Prop := True ∧ True ∧ True
theorem bridge_cells {H : Type} {enc : TypeId × Value → H} {W : World} (n : Nat) (cs : List Value) (x : DataW H × List MemPlace) (hl : cs.length = 3) (h : DataW.trod enc Tryz.prog W 0 (fun _ => true) true n 56 cs = some x) : ∃ y : Go.Top.Br, cs = br y ∧ bridge_ok y := by
  obtain ⟨a0, a1, a2, rfl⟩ := len56_ hl
  have key := struct_cells under56_ one56_ h (by rw [size56_]; rfl)
  obtain ⟨f, h0, t0⟩ := f56_0
  obtain ⟨v0, y, m, e0, r0⟩ := key 0 f h0
  rw [t0] at r0
  clear h0 t0 f
  obtain ⟨i0, rfl, g0⟩ := one_int Tryz.underlying3 r0
  obtain ⟨f, h0, t0⟩ := f56_1
  obtain ⟨v1, y, m, e1, r1⟩ := key 1 f h0
  rw [t0] at r1
  clear h0 t0 f
  obtain ⟨i1, rfl, g1⟩ := one_int Tryz.underlying3 r1
  obtain ⟨f, h0, t0⟩ := f56_2
  obtain ⟨v2, y, m, e2, r2⟩ := key 2 f h0
  rw [t0] at r2
  clear h0 t0 f
  obtain ⟨i2, rfl, g2⟩ := one_bool Tryz.underlying4 r2
  simp at e0 e1 e2
  subst e0 e1 e2
  exact ⟨⟨i0, i1, i2⟩, rfl, trivial, trivial, trivial⟩

set_option maxRecDepth 100000 in
theorem topRings_lifted (os : Os) (started : os.Started) (H : Type) (enc : TypeId × Value → H) :
    ReturnsInHanded {} Tryz.checked os 4 .any (Rows.topRingsSpec.pre6 enc Tryz.prog Tryz.f4 Rows.topRingsRow.domain false) (Rows.topRingsSpec.post enc Tryz.prog Tryz.f4 false true false false) := by
  refine returnsInHanded_of_change (C := Tryz.checked) own started (by kernel_rfl) Tryz.func4
    (ChangeSpec.witness6 (enc := enc) (C := Tryz.checked) false ⟨#[], #[.slice none 0 0, .int .i64 0, .int .u8 0, .int .i64 0], []⟩ 20 (by kernel_rfl) (by kernel_rfl) (by kernel_rfl) (by kernel_rfl)) ?_
  intro W base args ds gs before hval0 hW hcnd _
  have hval : ∀ (j : Nat) t v, Tryz.f4.params[j]? = some t → args[j]? = some v → Value.okWide Tryz.prog W .any base t v := hval0
  have hW' := hW
  obtain ⟨p, q, hA0, hV, rfl, hfz, hnd⟩ := hW
  have hA : DataW.TrodAll enc Tryz.prog W 0 (fun _ => true) true Tryz.f4.params.toList args.toList ds p := hA0
  rw [Tryz.params4] at hA hval
  obtain ⟨v0, vs0, d0, ds0, p0, q0, hargs, rfl, rfl, h0, r0⟩ := trodAll_cons hA
  obtain ⟨v1, vs1, d1, ds1, p1, q1, rfl, rfl, rfl, h1, r1⟩ := trodAll_cons r0
  obtain ⟨v2, vs2, d2, ds2, p2, q2, rfl, rfl, rfl, h2, r2⟩ := trodAll_cons r1
  obtain ⟨v3, vs3, d3, ds3, p3, q3, rfl, rfl, rfl, h3, r3⟩ := trodAll_cons r2
  obtain ⟨rfl, rfl, rfl⟩ := trodAll_nil r3
  obtain rfl : args = #[v0, v1, v2, v3] := by cases args; simp_all
  have hgs : gs = [] := (trodVars_none hV).1
  subst hgs
  obtain ⟨s0, l0, rfl, hrd0, hB0, hl0, hq0⟩ := open_rd (enc := enc) br 3 Tryz.underlying47 cells56_ br_len (by decide) (hval 0 47 v0 rfl rfl) h0 bridge_cells
  obtain ⟨i1, rfl, _, _, hw1⟩ := open_int Tryz.underlying3 (hval 1 3 v1 rfl rfl) h1
  obtain ⟨i2, rfl, _, _, hw2⟩ := open_int Tryz.underlying5 (hval 2 5 v2 rfl rfl) h2
  obtain ⟨i3, rfl, _, _, hw3⟩ := open_int Tryz.underlying3 (hval 3 3 v3 rfl rfl) h3
  refine Calls.mono (rings W s0 l0 hrd0 hB0 hl0 i1 (wf_i64 hw1).1 (wf_i64 hw1).2 i2 (wf_u8 hw2).1 (wf_u8 hw2).2 i3 (wf_i64 hw3).1 (wf_i64 hw3).2) ?_
  rintro e W' ⟨r, rfl, rfl, hbel⟩
  exact ⟨_, rfl, law_post laidOut (by kernel_rfl) rfl rfl Tryz.underlying4 hW' ⟨rfl, rfl, rfl⟩ hbel⟩

theorem topRings_holds : Rows.TopRingsSaid :=
  OpenClaim.holds_of_wide 4 Tryz.f4 rfl rfl rfl rfl rfl rfl rfl ⟨rfl, rfl, rfl, rfl, rfl⟩ rfl rfl rfl rfl rfl (by kernel_rfl) Tryz.func4 (by kernel_rfl)
    (of_decide_eq_true (by kernel_rfl)) (by unfold Func.isWrapper; first | (rw [if_pos (by decide +kernel)]; kernel_rfl) | (rw [if_neg (by decide +kernel)]; exact ⟨rfl, rfl⟩))
    (fun os started H enc _ => topRings_lifted os started H enc)

end Go.Proofs.YtgbhghoppjfofaaGreat

