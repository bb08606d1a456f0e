import Derived.Test.YtfmimbcljhjflaaVc
namespace Go.Proofs.Ytfmimbcljhjflaa
open Go.Dec Go.RowKit Go.ChangeShapes Go.WideShapes Go.ChangeAt Go.Deep
set_option maxHeartbeats 400000

theorem own : ownKnob Try.prog.godebug = none := by kernel_rfl
theorem laidOut : laidOutB Try.prog = true := by kernel_rfl

theorem cells34_ : Try.prog.cellsOf 34 = 4 := by kernel_rfl
theorem under34_ : Try.prog.underlying 34 = some (.struct (Try.prog.fieldsOf 34)) := by kernel_rfl
theorem one34_ : oneCellFields Try.prog (Try.prog.fieldsOf 34) = true := by kernel_rfl
theorem size34_ : (Try.prog.fieldsOf 34).size = 4 := by kernel_rfl
theorem f34_0 : ∃ f, (Try.prog.fieldsOf 34)[0]? = some f ∧ f.type = 3 := ⟨_, rfl, by kernel_rfl⟩
theorem f34_1 : ∃ f, (Try.prog.fieldsOf 34)[1]? = some f ∧ f.type = 3 := ⟨_, rfl, by kernel_rfl⟩
theorem f34_2 : ∃ f, (Try.prog.fieldsOf 34)[2]? = some f ∧ f.type = 3 := ⟨_, rfl, by kernel_rfl⟩
theorem f34_3 : ∃ f, (Try.prog.fieldsOf 34)[3]? = some f ∧ f.type = 9 := ⟨_, rfl, by kernel_rfl⟩
theorem len34_ {l : List Value} (h : l.length = 4) : ∃ a0 a1 a2 a3, l = [a0, a1, a2, a3] := by
  match l, h with
  | [a0, a1, a2, a3], _ => exact ⟨a0, a1, a2, a3, rfl⟩
def op_ok (_ : OpR) : Prop := True ∧ True ∧ True ∧ True
theorem op_cells {H : Type} {enc : TypeId × Value → H} {W : World} (n : Nat) (cs : List Value) (x : DataW H × List MemPlace) (hl : cs.length = 4) (h : DataW.trod enc Try.prog W 0 (fun _ => true) true n 34 cs = some x) : ∃ y : OpR, cs = co y ∧ op_ok y := by
  obtain ⟨a0, a1, a2, a3, rfl⟩ := len34_ hl
  have key := struct_cells under34_ one34_ h (by rw [size34_]; rfl)
  obtain ⟨f, h0, t0⟩ := f34_0
  obtain ⟨v0, y, m, e0, r0⟩ := key 0 f h0
  rw [t0] at r0
  clear h0 t0 f
  obtain ⟨i0, rfl, g0⟩ := one_int Try.underlying3 r0
  obtain ⟨f, h0, t0⟩ := f34_1
  obtain ⟨v1, y, m, e1, r1⟩ := key 1 f h0
  rw [t0] at r1
  clear h0 t0 f
  obtain ⟨i1, rfl, g1⟩ := one_int Try.underlying3 r1
  obtain ⟨f, h0, t0⟩ := f34_2
  obtain ⟨v2, y, m, e2, r2⟩ := key 2 f h0
  rw [t0] at r2
  clear h0 t0 f
  obtain ⟨i2, rfl, g2⟩ := one_int Try.underlying3 r2
  obtain ⟨f, h0, t0⟩ := f34_3
  obtain ⟨v3, y, m, e3, r3⟩ := key 3 f h0
  rw [t0] at r3
  clear h0 t0 f
  obtain ⟨i3, rfl, g3⟩ := one_string Try.underlying9 r3
  simp at e0 e1 e2 e3
  subst e0 e1 e2 e3
  exact ⟨⟨i0, i1, i2, i3⟩, rfl, trivial, trivial, trivial, trivial⟩

set_option maxRecDepth 100000 in
theorem vaultCopies_lifted (os : Os) (started : os.Started) (H : Type) (enc : TypeId × Value → H) :
    ReturnsInHanded {} Try.checked os 6 .any (Rows.vaultCopiesSpec.pre6 enc Try.prog Try.f6 Rows.vaultCopiesRow.domain false) (Rows.vaultCopiesSpec.post enc Try.prog Try.f6 false true false false) := by
  refine returnsInHanded_of_change (C := Try.checked) own started (by kernel_rfl) Try.func6
    (ChangeSpec.witness6 (enc := enc) (C := Try.checked) false ⟨#[], #[.slice none 0 0, .slice none 0 0], []⟩ 12 (by kernel_rfl) (by kernel_rfl) (by kernel_rfl) (by kernel_rfl)) ?_
  intro W base args ds gs before hval0 hW hcnd _
  have hval : ∀ (j : Nat) t v, Try.f6.params[j]? = some t → args[j]? = some v → Value.okWide Try.prog W .any base t v := hval0
  have hW' := hW
  obtain ⟨p, q, hA0, hV, rfl, hfz, hnd⟩ := hW
  have hA : DataW.TrodAll enc Try.prog W 0 (fun _ => true) true Try.f6.params.toList args.toList ds p := hA0
  rw [Try.params6] at hA hval
  obtain ⟨v0, vs0, d0, ds0, p0, q0, hargs, rfl, rfl, h0, r0⟩ := trodAll_cons hA
  obtain ⟨v1, vs1, d1, ds1, p1, q1, rfl, rfl, rfl, h1, r1⟩ := trodAll_cons r0
  obtain ⟨rfl, rfl, rfl⟩ := trodAll_nil r1
  obtain rfl : args = #[v0, v1] := by cases args; simp_all
  have hgs : gs = [] := (trodVars_none hV).1
  subst hgs
  obtain ⟨s0, l0, rfl, hrd0, hB0, hl0, hq0⟩ := open_rd (enc := enc) co 4 Try.underlying22 cells34_ co4 (by decide) (hval 0 22 v0 rfl rfl) h0 op_cells
  obtain ⟨s1, l1, rfl, hrd1, hB1, hl1, hq1⟩ := open_rd (enc := enc) co 4 Try.underlying22 cells34_ co4 (by decide) (hval 1 22 v1 rfl rfl) h1 op_cells
  refine Calls.mono (copies W s0 l0 hrd0 hB0 hl0 s1 l1 hrd1 hB1 hl1) ?_
  rintro e W' ⟨r, rfl, rfl, hbel⟩
  exact ⟨_, rfl, law_post laidOut (by kernel_rfl) rfl rfl Try.underlying4 hW' ⟨rfl, rfl, rfl⟩ hbel⟩

theorem vaultCopies_holds : Rows.VaultCopiesSaid :=
  OpenClaim.holds_of_wide 6 Try.f6 rfl rfl rfl rfl rfl rfl rfl ⟨rfl, rfl, rfl, rfl, rfl⟩ rfl rfl rfl rfl rfl (by kernel_rfl) Try.func6 (by kernel_rfl)
    (of_decide_eq_true (by kernel_rfl)) (by unfold Func.isWrapper; first | (rw [if_pos (by decide +kernel)]; kernel_rfl) | (rw [if_neg (by decide +kernel)]; exact ⟨rfl, rfl⟩))
    (fun os started H enc _ => vaultCopies_lifted os started H enc)

end Go.Proofs.Ytfmimbcljhjflaa

