/- VaultTells, for every argument: the call returns true and the argument reads as before. No condition. -/
import Derived.Test.YtfmimbcljhjflaaVt
namespace Go.Proofs.Ytfmimbcljhjflaa
open Go.Dec Go.RowKit Go.ChangeShapes Go.WideShapes Go.ChangeAt Go.Deep
set_option maxHeartbeats 400000

theorem own : ownKnob Try.prog.godebug = none := by kernel_rfl
theorem laidOut : laidOutB Try.prog = true := by kernel_rfl
theorem cells34 : Try.prog.cellsOf 34 = 4 := by kernel_rfl
theorem fields34 : Try.prog.fieldsOf 34 = #[(Try.prog.fieldsOf 34)[0]!, (Try.prog.fieldsOf 34)[1]!, (Try.prog.fieldsOf 34)[2]!, (Try.prog.fieldsOf 34)[3]!] := by kernel_rfl
theorem under34 : Try.prog.underlying 34 = some (.struct (Try.prog.fieldsOf 34)) := by kernel_rfl
theorem one34 : oneCellFields Try.prog (Try.prog.fieldsOf 34) = true := by kernel_rfl
theorem size34 : (Try.prog.fieldsOf 34).size = 4 := by kernel_rfl
theorem f34 (j : Nat) (h : j < 4) : ∃ f, (Try.prog.fieldsOf 34)[j]? = some f ∧ f.type = (if j = 3 then 9 else 3) := by
  match j, h with
  | 0, _ => exact ⟨_, rfl, by kernel_rfl⟩
  | 1, _ => exact ⟨_, rfl, by kernel_rfl⟩
  | 2, _ => exact ⟨_, rfl, by kernel_rfl⟩
  | 3, _ => exact ⟨_, rfl, by kernel_rfl⟩
theorem len4 {l : List Value} (h : l.length = 4) : ∃ a b c d, l = [a, b, c, d] := by
  match l, h with
  | [a, b, c, d], _ => exact ⟨a, b, c, d, rfl⟩

theorem op_cells {H : Type} {enc : TypeId × Value → H} {W : World} (n : Nat) (cs : List Value) (x : DataW H × List MemPlace) (hl : cs.length = 4) (h : DataW.trod enc Try.prog W 0 (fun _ => true) true n 34 cs = some x) : ∃ y : OpR, cs = co y := by
  obtain ⟨a, b, c, d, rfl⟩ := len4 hl
  have key := struct_cells under34 one34 h (by rw [size34]; rfl)
  obtain ⟨f0, h0, t0⟩ := f34 0 (by decide)
  obtain ⟨f1, h1, t1⟩ := f34 1 (by decide)
  obtain ⟨f2, h2, t2⟩ := f34 2 (by decide)
  obtain ⟨f3, h3, t3⟩ := f34 3 (by decide)
  obtain ⟨v0, y0, m0, e0, r0⟩ := key 0 f0 h0
  obtain ⟨v1, y1, m1, e1, r1⟩ := key 1 f1 h1
  obtain ⟨v2, y2, m2, e2, r2⟩ := key 2 f2 h2
  obtain ⟨v3, y3, m3, e3, r3⟩ := key 3 f3 h3
  rw [t0] at r0
  rw [t1] at r1
  rw [t2] at r2
  rw [t3] at r3
  obtain ⟨i0, rfl, _⟩ := one_int Try.underlying3 r0
  obtain ⟨i1, rfl, _⟩ := one_int Try.underlying3 r1
  obtain ⟨i2, rfl, _⟩ := one_int Try.underlying3 r2
  obtain ⟨s3, rfl, _⟩ := one_string Try.underlying9 r3
  simp at e0 e1 e2 e3
  subst e0 e1 e2 e3
  exact ⟨⟨i0, i1, i2, s3⟩, rfl⟩

set_option maxRecDepth 100000 in
theorem tells_lifted (os : Os) (started : os.Started) (H : Type) (enc : TypeId × Value → H) :
    ReturnsInHanded {} Try.checked os 3 .any (Rows.vaultTellsSpec.pre6 enc Try.prog Try.f3 Rows.vaultTellsRow.domain false) (Rows.vaultTellsSpec.post enc Try.prog Try.f3 false true false false) := by
  refine returnsInHanded_of_change (C := Try.checked) own started (by kernel_rfl) Try.func3
    (ChangeSpec.witness6 (enc := enc) (C := Try.checked) false ⟨#[], #[.slice none 0 0], []⟩ 8 (by kernel_rfl) (by kernel_rfl) (by kernel_rfl) (by kernel_rfl)) ?_
  intro W base args ds gs before hval0 hW hcnd _
  have hval : ∀ (j : Nat) t v, Try.f3.params[j]? = some t → args[j]? = some v → Value.okWide Try.prog W .any base t v := hval0
  have hW' := hW
  obtain ⟨p, q, hA0, hV, rfl, hfz, hnd⟩ := hW
  have hA : DataW.TrodAll enc Try.prog W 0 (fun _ => true) true Try.f3.params.toList args.toList ds p := hA0
  rw [Try.params3] at hA hval
  obtain ⟨v0, vs0, d0, ds0, p0, q0, hargs, rfl, rfl, h0, r0⟩ := trodAll_cons hA
  obtain ⟨rfl, rfl, rfl⟩ := trodAll_nil r0
  obtain rfl : args = #[v0] := by cases args; simp_all
  have hgs : gs = [] := (trodVars_none hV).1
  subst hgs
  obtain ⟨s, l, rfl, hrd, hB, hl⟩ := open_rd (enc := enc) co 4 Try.underlying22 cells34 co4 (by decide) (hval 0 22 v0 rfl rfl) h0 op_cells
  refine Calls.mono (tells W s l hrd hB hl) ?_
  rintro e W' ⟨r, rfl, rfl, hbel⟩
  exact ⟨_, rfl, law_post laidOut (by kernel_rfl) rfl rfl Try.underlying4 hW' ⟨rfl, rfl, rfl⟩ hbel⟩

theorem vaultTells_holds : Rows.VaultTellsSaid :=
  OpenClaim.holds_of_wide 3 Try.f3 rfl rfl rfl rfl rfl rfl rfl ⟨rfl, rfl, rfl, rfl, rfl⟩ rfl rfl rfl rfl rfl (by kernel_rfl) Try.func3 (by kernel_rfl)
    (of_decide_eq_true (by kernel_rfl)) (by unfold Func.isWrapper; first | (rw [if_pos (by decide +kernel)]; kernel_rfl) | (rw [if_neg (by decide +kernel)]; exact ⟨rfl, rfl⟩))
    (fun os started H enc _ => tells_lifted os started H enc)
end Go.Proofs.Ytfmimbcljhjflaa
