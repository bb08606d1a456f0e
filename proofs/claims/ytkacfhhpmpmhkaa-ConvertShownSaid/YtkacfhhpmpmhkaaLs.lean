import Derived.Test.YtkacfhhpmpmhkaaPj
import Derived.Test.YtkacfhhpmpmhkaaCl
import Derived.ChangeMaps5
namespace Go.Proofs.Ytkacfhhpmpmhkaa
open Go.Dec Go.RowKit Go.ChangeShapes Go.WideShapes Go.ChangeAt Go.Deep
set_option maxHeartbeats 400000

theorem own : ownKnob Try.prog.godebug = none := by kernel_rfl
theorem laidOut : laidOutB Try.prog = true := by kernel_rfl

theorem cells36_ : Try.prog.cellsOf 36 = 3 := by kernel_rfl
theorem under36_ : Try.prog.underlying 36 = some (.struct (Try.prog.fieldsOf 36)) := by kernel_rfl
theorem one36_ : oneCellFields Try.prog (Try.prog.fieldsOf 36) = true := by kernel_rfl
theorem size36_ : (Try.prog.fieldsOf 36).size = 3 := by kernel_rfl
theorem f36_0 : ∃ f, (Try.prog.fieldsOf 36)[0]? = some f ∧ f.type = 9 := ⟨_, rfl, by kernel_rfl⟩
theorem f36_1 : ∃ f, (Try.prog.fieldsOf 36)[1]? = some f ∧ f.type = 9 := ⟨_, rfl, by kernel_rfl⟩
theorem f36_2 : ∃ f, (Try.prog.fieldsOf 36)[2]? = some f ∧ f.type = 3 := ⟨_, rfl, by kernel_rfl⟩
theorem len36_ {l : List Value} (h : l.length = 3) : ∃ a0 a1 a2, l = [a0, a1, a2] := by
  match l, h with
  | [a0, a1, a2], _ => exact ⟨a0, a1, a2, rfl⟩
def change_ok (_ : Ch) : Prop := True ∧ True ∧ True
theorem change_cells {H : Type} {enc : TypeId × Value → H} {W : World} (n : Nat) (cs : List Value) (x : DataW H × List MemPlace) (hl : cs.length = 3) (h : DataW.trod enc Try.prog W 0 (fun _ => true) true n 36 cs = some x) : ∃ y : Ch, cs = ch y ∧ change_ok y := by
  obtain ⟨a0, a1, a2, rfl⟩ := len36_ hl
  have key := struct_cells under36_ one36_ h (by rw [size36_]; rfl)
  obtain ⟨f, h0, t0⟩ := f36_0
  obtain ⟨v0, y, m, e0, r0⟩ := key 0 f h0
  rw [t0] at r0
  clear h0 t0 f
  obtain ⟨i0, rfl, g0⟩ := one_string Try.underlying9 r0
  obtain ⟨f, h0, t0⟩ := f36_1
  obtain ⟨v1, y, m, e1, r1⟩ := key 1 f h0
  rw [t0] at r1
  clear h0 t0 f
  obtain ⟨i1, rfl, g1⟩ := one_string Try.underlying9 r1
  obtain ⟨f, h0, t0⟩ := f36_2
  obtain ⟨v2, y, m, e2, r2⟩ := key 2 f h0
  rw [t0] at r2
  clear h0 t0 f
  obtain ⟨i2, rfl, g2⟩ := one_int Try.underlying3 r2
  simp at e0 e1 e2
  subst e0 e1 e2
  exact ⟨⟨i0, i1, i2⟩, rfl, trivial, trivial, trivial⟩

set_option maxRecDepth 100000 in
theorem convertShown_lifted (os : Os) (started : os.Started) (H : Type) (enc : TypeId × Value → H) :
    ReturnsInHanded {} Try.checked os 7 .any (Rows.convertShownSpec.pre6 enc Try.prog Try.f7 Rows.convertShownRow.domain false) (Rows.convertShownSpec.post enc Try.prog Try.f7 false true false false) := by
  refine returnsInHanded_of_change (C := Try.checked) own started (by kernel_rfl) Try.func7
    (ChangeSpec.witness6 (enc := enc) (C := Try.checked) false ⟨#[], #[.slice none 0 0, .string (ByteArray.mk #[]), .int .i64 0, .agg #[.string (ByteArray.mk #[]), .int .i64 0, .int .i64 0, .int .i64 0, .bool false, .int .i64 0, .bool false, .bool false, .int .i64 0, .int .i64 0, .int .i64 0, .int .i64 0, .slice none 0 0, .int .i64 0, .int .i64 0, .int .i64 0, .int .i64 0, .bool false, .int .i64 0, .int .i64 0, .int .i64 0, .int .i64 0], .agg #[.string (ByteArray.mk #[]), .int .i64 0, .int .i64 0, .int .i64 0, .bool false, .int .i64 0, .bool false, .bool false, .int .i64 0, .int .i64 0, .int .i64 0, .int .i64 0, .slice none 0 0, .int .i64 0, .int .i64 0, .int .i64 0, .int .i64 0, .bool false, .int .i64 0, .int .i64 0, .int .i64 0, .int .i64 0]], []⟩ 24 (by kernel_rfl) (by kernel_rfl) (by kernel_rfl) (by kernel_rfl)) ?_
  intro W base args ds gs before hval0 hW hcnd _
  have hval : ∀ (j : Nat) t v, Try.f7.params[j]? = some t → args[j]? = some v → Value.okWide Try.prog W .any base t v := hval0
  have hW' := hW
  obtain ⟨p, q, hA0, hV, rfl, hfz, hnd⟩ := hW
  have hA : DataW.TrodAll enc Try.prog W 0 (fun _ => true) true Try.f7.params.toList args.toList ds p := hA0
  rw [Try.params7] at hA hval
  obtain ⟨v0, vs0, d0, ds0, p0, q0, hargs, rfl, rfl, h0, r0⟩ := trodAll_cons hA
  obtain ⟨v1, vs1, d1, ds1, p1, q1, rfl, rfl, rfl, h1, r1⟩ := trodAll_cons r0
  obtain ⟨v2, vs2, d2, ds2, p2, q2, rfl, rfl, rfl, h2, r2⟩ := trodAll_cons r1
  obtain ⟨v3, vs3, d3, ds3, p3, q3, rfl, rfl, rfl, h3, r3⟩ := trodAll_cons r2
  obtain ⟨v4, vs4, d4, ds4, p4, q4, rfl, rfl, rfl, h4, r4⟩ := trodAll_cons r3
  obtain ⟨rfl, rfl, rfl⟩ := trodAll_nil r4
  obtain rfl : args = #[v0, v1, v2, v3, v4] := by cases args; simp_all
  have hgs : gs = [] := (trodVars_none hV).1
  subst hgs
  obtain ⟨s0, l0, rfl, hrd0, hB0, hl0, hq0⟩ := open_rd (enc := enc) ch 3 Try.underlying22 cells36_ ch_len (by decide) (hval 0 22 v0 rfl rfl) h0 change_cells
  obtain ⟨i1, rfl, _, _, hw1⟩ := Go.ChangeMaps.open_string Try.underlying9 (hval 1 9 v1 rfl rfl) h1
  obtain ⟨i2, rfl, _, _, hw2⟩ := open_int Try.underlying3 (hval 2 3 v2 rfl rfl) h2
  obtain ⟨x3, l3, rfl, hrd3, hc3, hl3⟩ := open_pf (enc := enc) (hval 3 39 v3 rfl rfl) h3
  obtain ⟨x4, l4, rfl, hrd4, hc4, hl4⟩ := open_pf (enc := enc) (hval 4 39 v4 rfl rfl) h4
  refine Calls.mono (shown W s0 l0 hrd0 hB0 hl0 i1 hw1 i2 (wf_i64 hw2).1 (wf_i64 hw2).2 x3 l3 hrd3 hc3 x4 l4 hrd4 hc4) ?_
  rintro e W' ⟨r, rfl, rfl, hbel⟩
  exact ⟨_, rfl, law_post laidOut (by kernel_rfl) rfl rfl Try.underlying4 hW' ⟨rfl, rfl, rfl⟩ hbel⟩

theorem convertShown_holds : Rows.ConvertShownSaid :=
  OpenClaim.holds_of_wide 7 Try.f7 rfl rfl rfl rfl rfl rfl rfl ⟨rfl, rfl, rfl, rfl, rfl⟩ rfl rfl rfl rfl rfl (by kernel_rfl) Try.func7 (by kernel_rfl)
    (of_decide_eq_true (by kernel_rfl)) (by unfold Func.isWrapper; first | (rw [if_pos (by decide +kernel)]; kernel_rfl) | (rw [if_neg (by decide +kernel)]; exact ⟨rfl, rfl⟩))
    (fun os started H enc _ => convertShown_lifted os started H enc)

end Go.Proofs.Ytkacfhhpmpmhkaa

