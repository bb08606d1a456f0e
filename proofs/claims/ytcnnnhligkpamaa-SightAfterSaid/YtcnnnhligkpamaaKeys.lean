/-
  Maps whose keys are structs of one-cell fields. Over any program.
-/
import Derived.Test.YtcnnnhligkpamaaMore
import Derived.ProofKit
namespace Go.Dec
open Go.RowKit

section
variable {P : Program} {k : TypeId}
theorem chk_fields (em : Bool) (n : Nat) (w : World) (xs : Array Value) : ∀ (fs : List Field) (r : Bool), fieldsEq P xs xs fs = some r →
    (forIn fs PUnit.unit (fun f _ => do
      if f.name ≠ "_" then
        Instr.checkKey em (n + 1) f.type (← part f.type xs f.offset)
        pure (ForInStep.yield PUnit.unit)
      else pure (ForInStep.yield PUnit.unit)) : Sem PUnit).run P w = .ok PUnit.unit w
  | [], _, _ => by simp
  | f :: fs, r, h => by
    unfold fieldsEq at h
    split at h
    · cases h
    · rename_i hn
      have key : ∀ (v : Value) (r' : Bool), xs[f.offset]? = some v → (isAgg f.type).run P w = .ok false w → (Instr.checkKey em (n + 1) f.type v).run P w = .ok () w → fieldsEq P xs xs fs = some r' → (forIn (f :: fs) PUnit.unit (fun f _ => do
      if f.name ≠ "_" then
        Instr.checkKey em (n + 1) f.type (← part f.type xs f.offset)
        pure (ForInStep.yield PUnit.unit)
      else pure (ForInStep.yield PUnit.unit)) : Sem PUnit).run P w = .ok PUnit.unit w := by
        intro v r' hv hag hc hr'
        have ih := chk_fields em n w xs fs r' hr'
        have p1 := run_part1 (P := P) (w := w) hag hv
        rw [List.forIn_cons]
        simp only [Sem.run_bind, hn, ne_eq, not_false_eq_true, if_true, Result.andThen_ok, p1, hc, Sem.run_pure]
        exact ih
      split at h
      · rename_i k0 k a k' b hu hx hy
        split at h
        · obtain ⟨r', hr', hr⟩ := Option.map_eq_some_iff.1 h
          exact key _ r' hx (by simp [isAgg, run_underlying hu]) (by simp [Instr.checkKey, run_underlying hu]) hr'
        · cases h
      · rename_i a b hu hx hy
        obtain ⟨r', hr', hr⟩ := Option.map_eq_some_iff.1 h
        exact key _ r' hx (by simp [isAgg, run_underlying hu]) (by simp [Instr.checkKey, run_underlying hu]) hr'
      · rename_i a b hu hx hy
        obtain ⟨r', hr', hr⟩ := Option.map_eq_some_iff.1 h
        exact key _ r' hx (by simp [isAgg, run_underlying hu]) (by simp [Instr.checkKey, run_underlying hu]) hr'
      · cases h
theorem keyOK_st {α : Type} {d : TypeDesc} {c : α → Array Value} (hu : P.underlying k = some (.struct (P.fieldsOf k))) (hp : P.stoodInHeld k = false)
    (hf : ∀ x y, ∃ r, fieldsEq P (c x) (c y) (P.fieldsOf k).toList = some r ∧ (r = true ↔ x = y)) (hs : ∀ x, Instr.sameBits 10000 (.agg (c x)) (.agg (c x)) = true) (inj : ∀ x y, c x = c y → x = y) : KeyOK P k d (fun x => Value.agg (c x)) := by
  have eq : ∀ (w : World) x y r, fieldsEq P (c x) (c y) (P.fieldsOf k).toList = some r → (Op.equal k (.agg (c x)) (.agg (c y))).run P w = .ok r w := fun w x y r h => by
    have h3 := run_equalIn_agg (P := P) w 9999 k (c x) (c y) hu hp
    have h4 := eqFields_run (P := P) (w := w) 9998 (c x) (c y) _ r h
    exact h3.trans h4
  refine ⟨fun w em x => ?_, fun w x es hes => ?_, fun w x => by simp [Instr.keyThatStays, hs x], fun x y e => inj x y (by injection e)⟩
  · obtain ⟨r, hr, _⟩ := hf x x
    rw [show (10000 : Nat) = 9998 + 1 + 1 from rfl, Instr.checkKey]
    simp only [Sem.run_bind, run_underlying hu, Result.andThen_ok]
    rw [← Array.forIn_toList]
    have := chk_fields em 9998 w (c x) _ r hr
    simp at this ⊢
    rw [this]
    rfl
  · rw [run_findKey_eq w (by rw [hu])]
    have key : ∀ (es : List MapEntry) (i : Nat), (∀ e ∈ es, ∃ a, e.key = Value.agg (c a)) →
        ((Instr.findAsking k (.agg (c x)) es i).run P w = .ok none w ∧ ∀ e ∈ es, e.key ≠ .agg (c x)) ∨
        ∃ j e, (Instr.findAsking k (.agg (c x)) es i).run P w = .ok (some (i + j, e.val)) w ∧ es[j]? = some e ∧ e.key = .agg (c x) := by
      intro es
      induction es with
      | nil => exact fun i _ => .inl ⟨by simp [Instr.findAsking], by simp⟩
      | cons e es ih =>
        intro i hall
        obtain ⟨a, ha⟩ := hall e (by simp)
        obtain ⟨r, hr, hiff⟩ := hf x a
        have he := eq w x a r hr
        rw [← ha] at he
        cases r with
        | false =>
          have hne : e.key ≠ .agg (c x) := fun h => by
            have : c a = c x := by rw [ha] at h; injection h
            have := hiff.2 (inj _ _ this).symm
            cases this
          rcases ih (i + 1) (fun y hy => hall y (by simp [hy])) with ⟨h1, h2⟩ | ⟨j, e', h1, h2, h3⟩
          · exact .inl ⟨by simp [Instr.findAsking, he, h1], fun y hy => by
              rcases List.mem_cons.1 hy with rfl | hy
              · exact hne
              · exact h2 y hy⟩
          · exact .inr ⟨j + 1, e', by simp [Instr.findAsking, he, h1, Nat.add_assoc, Nat.add_comm 1 j], by simpa using h2, h3⟩
        | true =>
          have : x = a := hiff.1 rfl
          exact .inr ⟨0, e, by simp [Instr.findAsking, he], rfl, by rw [ha, this]⟩
    rcases key es 0 hes with h | ⟨j, e, h1, h2, h3⟩
    · exact .inl h
    · exact .inr ⟨j, e, by simpa using h1, h2, h3⟩
end
end Go.Dec
