import Derived.Test.YtgbhghoppjfofaaPj
import Derived.Test.YtgbhghoppjfofaaCa
namespace Go.Proofs.Ytgbhghoppjfofaa
open Go.Dec Go.RowKit Go.ChangeShapes Go.WideShapes Go.ChangeAt Go.Deep
set_option maxHeartbeats 400000
set_option maxRecDepth 100000

theorem own : ownKnob Try.prog.godebug = none := by kernel_rfl
theorem laidOut : laidOutB Try.prog = true := by kernel_rfl

theorem cells34_ : Try.prog.cellsOf 34 = 4 := by kernel_rfl
theorem under34_ : Try.prog.underlying 34 = some (.struct (Try.prog.fieldsOf 34)) := by kernel_rfl
theorem one34_ : oneCellFields Try.prog (Try.prog.fieldsOf 34) = true := by kernel_rfl
theorem size34_ : (Try.prog.fieldsOf 34).size = 4 := by kernel_rfl
theorem f34_0 : ∃ f, (Try.prog.fieldsOf 34)[0]? = some f ∧ f.type = 3 := ⟨_, rfl, by kernel_rfl⟩
theorem f34_1 : ∃ f, (Try.prog.fieldsOf 34)[1]? = some f ∧ f.type = 3 := ⟨_, rfl, by kernel_rfl⟩
theorem f34_2 : ∃ f, (Try.prog.fieldsOf 34)[2]? = some f ∧ f.type = 3 := ⟨_, rfl, by kernel_rfl⟩
theorem f34_3 : ∃ f, (Try.prog.fieldsOf 34)[3]? = some f ∧ f.type = 3 := ⟨_, rfl, by kernel_rfl⟩
theorem len34_ {l : List Value} (h : l.length = 4) : ∃ a0 a1 a2 a3, l = [a0, a1, a2, a3] := by
  match l, h with
  | [a0, a1, a2, a3], _ => exact ⟨a0, a1, a2, a3, rfl⟩
def wait_ok (_ : Go.Top.Wt) : Prop := True ∧ True ∧ True ∧ True
theorem wait_cells {H : Type} {enc : TypeId × Value → H} {W : World} (n : Nat) (cs : List Value) (x : DataW H × List MemPlace) (hl : cs.length = 4) (h : DataW.trod enc Try.prog W 0 (fun _ => true) true n 34 cs = some x) : ∃ y : Go.Top.Wt, cs = wt y ∧ wait_ok y := by
  obtain ⟨a0, a1, a2, a3, rfl⟩ := len34_ hl
  have key := struct_cells under34_ one34_ h (by rw [size34_]; rfl)
  obtain ⟨f, h0, t0⟩ := f34_0
  obtain ⟨v0, y, m, e0, r0⟩ := key 0 f h0
  rw [t0] at r0
  clear h0 t0 f
  obtain ⟨i0, rfl, g0⟩ := one_int Try.underlying3 r0
  obtain ⟨f, h0, t0⟩ := f34_1
  obtain ⟨v1, y, m, e1, r1⟩ := key 1 f h0
  rw [t0] at r1
  clear h0 t0 f
  obtain ⟨i1, rfl, g1⟩ := one_int Try.underlying3 r1
  obtain ⟨f, h0, t0⟩ := f34_2
  obtain ⟨v2, y, m, e2, r2⟩ := key 2 f h0
  rw [t0] at r2
  clear h0 t0 f
  obtain ⟨i2, rfl, g2⟩ := one_int Try.underlying3 r2
  obtain ⟨f, h0, t0⟩ := f34_3
  obtain ⟨v3, y, m, e3, r3⟩ := key 3 f h0
  rw [t0] at r3
  clear h0 t0 f
  obtain ⟨i3, rfl, g3⟩ := one_int Try.underlying3 r3
  simp at e0 e1 e2 e3
  subst e0 e1 e2 e3
  exact ⟨⟨i0, i1, i2, i3⟩, rfl, trivial, trivial, trivial, trivial⟩

set_option maxRecDepth 100000 in
theorem topCarried_lifted (os : Os) (started : os.Started) (H : Type) (enc : TypeId × Value → H) :
    ReturnsInHanded {} Try.checked os 3 .any (Rows.topCarriedSpec.pre6 enc Try.prog Try.f3 Rows.topCarriedRow.domain false) (Rows.topCarriedSpec.post enc Try.prog Try.f3 false true false false) := by
  refine returnsInHanded_of_change (C := Try.checked) own started (by kernel_rfl) Try.func3
    (ChangeSpec.witness6 (enc := enc) (C := Try.checked) false ⟨#[], #[.agg #[.string (ByteArray.mk #[]), .int .i64 0, .int .i64 0, .int .i64 0, .bool false, .int .i64 0, .bool false, .bool false, .int .i64 0, .int .i64 0, .int .i64 0, .int .i64 0, .slice none 0 0, .int .i64 0, .int .i64 0, .int .i64 0, .int .i64 0, .bool false, .int .i64 0, .int .i64 0, .int .i64 0, .int .i64 0], .agg #[.string (ByteArray.mk #[]), .int .i64 0, .int .i64 0, .int .i64 0, .bool false, .int .i64 0, .bool false, .bool false, .int .i64 0, .int .i64 0, .int .i64 0, .int .i64 0, .slice none 0 0, .int .i64 0, .int .i64 0, .int .i64 0, .int .i64 0, .bool false, .int .i64 0, .int .i64 0, .int .i64 0, .int .i64 0], .slice none 0 0, .slice none 0 0, .slice none 0 0, .slice none 0 0], []⟩ 28 (by kernel_rfl) (by kernel_rfl) (by kernel_rfl) (by kernel_rfl)) ?_
  intro W base args ds gs before hval0 hW hcnd _
  have hval : ∀ (j : Nat) t v, Try.f3.params[j]? = some t → args[j]? = some v → Value.okWide Try.prog W .any base t v := hval0
  have hW' := hW
  obtain ⟨p, q, hA0, hV, rfl, hfz, hnd⟩ := hW
  have hA : DataW.TrodAll enc Try.prog W 0 (fun _ => true) true Try.f3.params.toList args.toList ds p := hA0
  rw [Try.params3] at hA hval
  obtain ⟨v0, vs0, d0, ds0, p0, q0, hargs, rfl, rfl, h0, r0⟩ := trodAll_cons hA
  obtain ⟨v1, vs1, d1, ds1, p1, q1, rfl, rfl, rfl, h1, r1⟩ := trodAll_cons r0
  obtain ⟨v2, vs2, d2, ds2, p2, q2, rfl, rfl, rfl, h2, r2⟩ := trodAll_cons r1
  obtain ⟨v3, vs3, d3, ds3, p3, q3, rfl, rfl, rfl, h3, r3⟩ := trodAll_cons r2
  obtain ⟨v4, vs4, d4, ds4, p4, q4, rfl, rfl, rfl, h4, r4⟩ := trodAll_cons r3
  obtain ⟨v5, vs5, d5, ds5, p5, q5, rfl, rfl, rfl, h5, r5⟩ := trodAll_cons r4
  obtain ⟨rfl, rfl, rfl⟩ := trodAll_nil r5
  obtain rfl : args = #[v0, v1, v2, v3, v4, v5] := by cases args; simp_all
  have hgs : gs = [] := (trodVars_none hV).1
  subst hgs
  obtain ⟨x0, l0, rfl, hrd0, hc0, hl0⟩ := open_pf (enc := enc) (hval 0 24 v0 rfl rfl) h0
  obtain ⟨x1, l1, rfl, hrd1, hc1, hl1⟩ := open_pf (enc := enc) (hval 1 24 v1 rfl rfl) h1
  obtain ⟨s2, l2, rfl, hrd2, hB2, hl2, hq2⟩ := open_rd (enc := enc) wt 4 Try.underlying25 cells34_ wt_len (by decide) (hval 2 25 v2 rfl rfl) h2 wait_cells
  obtain ⟨s3, l3, rfl, hrd3, hB3, hl3, hq3⟩ := open_rd (enc := enc) cu 1 Try.underlying26 (show Try.prog.cellsOf 5 = 1 by kernel_rfl) cu_len (by decide) (hval 3 26 v3 rfl rfl) h3 (Q := fun y => True) (by
    intro n cs x hl h
    obtain ⟨v, rfl⟩ := List.length_eq_one_iff.1 hl
    obtain ⟨y, rfl, g⟩ := one_int Try.underlying5 h
    exact ⟨y, rfl, trivial⟩)
  obtain ⟨s4, l4, rfl, hrd4, hB4, hl4, hq4⟩ := open_rd (enc := enc) cbo 1 Try.underlying27 (show Try.prog.cellsOf 4 = 1 by kernel_rfl) cbo1 (by decide) (hval 4 27 v4 rfl rfl) h4 (Q := fun y => True) (by
    intro n cs x hl h
    obtain ⟨v, rfl⟩ := List.length_eq_one_iff.1 hl
    obtain ⟨y, rfl, g⟩ := one_bool Try.underlying4 h
    exact ⟨y, rfl, trivial⟩)
  obtain ⟨s5, l5, rfl, hrd5, hB5, hl5, hq5⟩ := open_rd (enc := enc) cbo 1 Try.underlying27 (show Try.prog.cellsOf 4 = 1 by kernel_rfl) cbo1 (by decide) (hval 5 27 v5 rfl rfl) h5 (Q := fun y => True) (by
    intro n cs x hl h
    obtain ⟨v, rfl⟩ := List.length_eq_one_iff.1 hl
    obtain ⟨y, rfl, g⟩ := one_bool Try.underlying4 h
    exact ⟨y, rfl, trivial⟩)
  refine Calls.mono (carried W x0 l0 hrd0 hc0 x1 l1 hrd1 hc1 s2 l2 hrd2 hB2 hl2 s3 l3 hrd3 hB3 hl3 s4 l4 hrd4 hB4 hl4 s5 l5 hrd5 hB5 hl5) ?_
  rintro e W' ⟨r, rfl, rfl, hbel⟩
  exact ⟨_, rfl, law_post laidOut (by kernel_rfl) rfl rfl Try.underlying4 hW' ⟨rfl, rfl, rfl⟩ hbel⟩

theorem topCarried_holds : Rows.TopCarriedSaid :=
  OpenClaim.holds_of_wide 3 Try.f3 rfl rfl rfl rfl rfl rfl rfl ⟨rfl, rfl, rfl, rfl, rfl⟩ rfl rfl rfl rfl rfl (by kernel_rfl) Try.func3 (by kernel_rfl)
    (of_decide_eq_true (by kernel_rfl)) (by unfold Func.isWrapper; first | (rw [if_pos (by decide +kernel)]; kernel_rfl) | (rw [if_neg (by decide +kernel)]; exact ⟨rfl, rfl⟩))
    (fun os started H enc _ => topCarried_lifted os started H enc)

end Go.Proofs.Ytgbhghoppjfofaa

