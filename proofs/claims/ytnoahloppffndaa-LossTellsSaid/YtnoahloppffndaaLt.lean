import Derived.Test.YtnoahloppffndaaPj
import Derived.Test.YtnoahloppffndaaXt
namespace Go.Proofs.Ytnoahloppffndaa
open Go.Dec Go.RowKit Go.ChangeShapes Go.WideShapes Go.ChangeAt Go.Deep
set_option maxHeartbeats 400000

theorem own : ownKnob Try.prog.godebug = none := by kernel_rfl
theorem laidOut : laidOutB Try.prog = true := by kernel_rfl

theorem cells44_ : Try.prog.cellsOf 44 = 3 := by kernel_rfl
theorem under44_ : Try.prog.underlying 44 = some (.struct (Try.prog.fieldsOf 44)) := by kernel_rfl
theorem one44_ : oneCellFields Try.prog (Try.prog.fieldsOf 44) = true := by kernel_rfl
theorem size44_ : (Try.prog.fieldsOf 44).size = 3 := by kernel_rfl
theorem f44_0 : ∃ f, (Try.prog.fieldsOf 44)[0]? = some f ∧ f.type = 3 := ⟨_, rfl, by kernel_rfl⟩
theorem f44_1 : ∃ f, (Try.prog.fieldsOf 44)[1]? = some f ∧ f.type = 3 := ⟨_, rfl, by kernel_rfl⟩
theorem f44_2 : ∃ f, (Try.prog.fieldsOf 44)[2]? = some f ∧ f.type = 3 := ⟨_, rfl, by kernel_rfl⟩
theorem len44_ {l : List Value} (h : l.length = 3) : ∃ a0 a1 a2, l = [a0, a1, a2] := by
  match l, h with
  | [a0, a1, a2], _ => exact ⟨a0, a1, a2, rfl⟩
def loss_ok (_ : Lo) : Prop := True ∧ True ∧ True
theorem loss_cells {H : Type} {enc : TypeId × Value → H} {W : World} (n : Nat) (cs : List Value) (x : DataW H × List MemPlace) (hl : cs.length = 3) (h : DataW.trod enc Try.prog W 0 (fun _ => true) true n 44 cs = some x) : ∃ y : Lo, cs = lo y ∧ loss_ok y := by
  obtain ⟨a0, a1, a2, rfl⟩ := len44_ hl
  have key := struct_cells under44_ one44_ h (by rw [size44_]; rfl)
  obtain ⟨f, h0, t0⟩ := f44_0
  obtain ⟨v0, y, m, e0, r0⟩ := key 0 f h0
  rw [t0] at r0
  clear h0 t0 f
  obtain ⟨i0, rfl, g0⟩ := one_int Try.underlying3 r0
  obtain ⟨f, h0, t0⟩ := f44_1
  obtain ⟨v1, y, m, e1, r1⟩ := key 1 f h0
  rw [t0] at r1
  clear h0 t0 f
  obtain ⟨i1, rfl, g1⟩ := one_int Try.underlying3 r1
  obtain ⟨f, h0, t0⟩ := f44_2
  obtain ⟨v2, y, m, e2, r2⟩ := key 2 f h0
  rw [t0] at r2
  clear h0 t0 f
  obtain ⟨i2, rfl, g2⟩ := one_int Try.underlying3 r2
  simp at e0 e1 e2
  subst e0 e1 e2
  exact ⟨⟨i0, i1, i2⟩, rfl, trivial, trivial, trivial⟩

theorem cells46_ : Try.prog.cellsOf 46 = 2 := by kernel_rfl
theorem under46_ : Try.prog.underlying 46 = some (.struct (Try.prog.fieldsOf 46)) := by kernel_rfl
theorem one46_ : oneCellFields Try.prog (Try.prog.fieldsOf 46) = true := by kernel_rfl
theorem size46_ : (Try.prog.fieldsOf 46).size = 2 := by kernel_rfl
theorem f46_0 : ∃ f, (Try.prog.fieldsOf 46)[0]? = some f ∧ f.type = 3 := ⟨_, rfl, by kernel_rfl⟩
theorem f46_1 : ∃ f, (Try.prog.fieldsOf 46)[1]? = some f ∧ f.type = 3 := ⟨_, rfl, by kernel_rfl⟩
theorem len46_ {l : List Value} (h : l.length = 2) : ∃ a0 a1, l = [a0, a1] := by
  match l, h with
  | [a0, a1], _ => exact ⟨a0, a1, rfl⟩
def way_ok (_ : Wy) : Prop := True ∧ True
theorem way_cells {H : Type} {enc : TypeId × Value → H} {W : World} (n : Nat) (cs : List Value) (x : DataW H × List MemPlace) (hl : cs.length = 2) (h : DataW.trod enc Try.prog W 0 (fun _ => true) true n 46 cs = some x) : ∃ y : Wy, cs = wy y ∧ way_ok y := by
  obtain ⟨a0, a1, rfl⟩ := len46_ hl
  have key := struct_cells under46_ one46_ h (by rw [size46_]; rfl)
  obtain ⟨f, h0, t0⟩ := f46_0
  obtain ⟨v0, y, m, e0, r0⟩ := key 0 f h0
  rw [t0] at r0
  clear h0 t0 f
  obtain ⟨i0, rfl, g0⟩ := one_int Try.underlying3 r0
  obtain ⟨f, h0, t0⟩ := f46_1
  obtain ⟨v1, y, m, e1, r1⟩ := key 1 f h0
  rw [t0] at r1
  clear h0 t0 f
  obtain ⟨i1, rfl, g1⟩ := one_int Try.underlying3 r1
  simp at e0 e1
  subst e0 e1
  exact ⟨⟨i0, i1⟩, rfl, trivial, trivial⟩

set_option maxRecDepth 100000 in
theorem lossTells_lifted (os : Os) (started : os.Started) (H : Type) (enc : TypeId × Value → H) :
    ReturnsInHanded {} Try.checked os 3 .any (Rows.lossTellsSpec.pre6 enc Try.prog Try.f3 Rows.lossTellsRow.domain false) (Rows.lossTellsSpec.post enc Try.prog Try.f3 false true false false) := by
  refine returnsInHanded_of_change (C := Try.checked) own started (by kernel_rfl) Try.func3
    (ChangeSpec.witness6 (enc := enc) (C := Try.checked) false ⟨#[], #[.agg #[.string (ByteArray.mk #[]), .int .i64 0, .int .i64 0, .int .i64 0, .bool false, .int .i64 0, .bool false, .bool false, .int .i64 0, .int .i64 0, .int .i64 0, .int .i64 0, .slice none 0 0, .int .i64 0, .int .i64 0, .int .i64 0, .int .i64 0, .bool false, .int .i64 0, .int .i64 0, .int .i64 0, .int .i64 0], .slice none 0 0, .slice none 0 0, .slice none 0 0], []⟩ 20 (by kernel_rfl) (by kernel_rfl) (by kernel_rfl) (by kernel_rfl)) ?_
  intro W base args ds gs before hval0 hW hcnd _
  have hval : ∀ (j : Nat) t v, Try.f3.params[j]? = some t → args[j]? = some v → Value.okWide Try.prog W .any base t v := hval0
  have hW' := hW
  obtain ⟨p, q, hA0, hV, rfl, hfz, hnd⟩ := hW
  have hA : DataW.TrodAll enc Try.prog W 0 (fun _ => true) true Try.f3.params.toList args.toList ds p := hA0
  rw [Try.params3] at hA hval
  obtain ⟨v0, vs0, d0, ds0, p0, q0, hargs, rfl, rfl, h0, r0⟩ := trodAll_cons hA
  obtain ⟨v1, vs1, d1, ds1, p1, q1, rfl, rfl, rfl, h1, r1⟩ := trodAll_cons r0
  obtain ⟨v2, vs2, d2, ds2, p2, q2, rfl, rfl, rfl, h2, r2⟩ := trodAll_cons r1
  obtain ⟨v3, vs3, d3, ds3, p3, q3, rfl, rfl, rfl, h3, r3⟩ := trodAll_cons r2
  obtain ⟨rfl, rfl, rfl⟩ := trodAll_nil r3
  obtain rfl : args = #[v0, v1, v2, v3] := by cases args; simp_all
  have hgs : gs = [] := (trodVars_none hV).1
  subst hgs
  obtain ⟨x0, l0, rfl, hrd0, hc0, hl0⟩ := open_pf (enc := enc) (hval 0 24 v0 rfl rfl) h0
  obtain ⟨s1, l1, rfl, hrd1, hB1, hl1, hq1⟩ := open_rd (enc := enc) wy 2 Try.underlying25 cells46_ wy_len (by decide) (hval 1 25 v1 rfl rfl) h1 way_cells
  obtain ⟨s2, l2, rfl, hrd2, hB2, hl2, hq2⟩ := open_rd (enc := enc) lo 3 Try.underlying26 cells44_ lo_len (by decide) (hval 2 26 v2 rfl rfl) h2 loss_cells
  obtain ⟨s3, l3, rfl, hrd3, hB3, hl3, hq3⟩ := open_rd (enc := enc) lo 3 Try.underlying26 cells44_ lo_len (by decide) (hval 3 26 v3 rfl rfl) h3 loss_cells
  refine Calls.mono (tells W x0 l0 hrd0 hc0 s1 l1 hrd1 hB1 hl1 s2 l2 hrd2 hB2 hl2 s3 l3 hrd3 hB3 hl3) ?_
  rintro e W' ⟨r, rfl, rfl, hbel⟩
  exact ⟨_, rfl, law_post laidOut (by kernel_rfl) rfl rfl Try.underlying4 hW' ⟨rfl, rfl, rfl⟩ hbel⟩

theorem lossTells_holds : Rows.LossTellsSaid :=
  OpenClaim.holds_of_wide 3 Try.f3 rfl rfl rfl rfl rfl rfl rfl ⟨rfl, rfl, rfl, rfl, rfl⟩ rfl rfl rfl rfl rfl (by kernel_rfl) Try.func3 (by kernel_rfl)
    (of_decide_eq_true (by kernel_rfl)) (by unfold Func.isWrapper; first | (rw [if_pos (by decide +kernel)]; kernel_rfl) | (rw [if_neg (by decide +kernel)]; exact ⟨rfl, rfl⟩))
    (fun os started H enc _ => lossTells_lifted os started H enc)

end Go.Proofs.Ytnoahloppffndaa

