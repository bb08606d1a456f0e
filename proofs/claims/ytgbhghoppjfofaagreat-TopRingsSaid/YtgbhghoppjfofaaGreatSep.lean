/-
  Objects apart: object i's blocks are O i. Over any program.
-/
import Derived.Test.YtgbhghoppjfofaaGreatMem
namespace Go.Dec
open Go.RowKit

structure Sep (B : Nat) (w : World) (O : Nat → Nat → Prop) : Prop where
  dis : ∀ i j b, O i b → O j b → i = j
  ge : ∀ i b, O i b → B ≤ b
  lt : ∀ i b, O i b → b < w.heap.size
def updO (O : Nat → Nat → Prop) (i : Nat) (F : Nat → Prop) : Nat → Nat → Prop := fun j => if j = i then F else O j
@[simp] theorem updO_same (O : Nat → Nat → Prop) (i : Nat) (F : Nat → Prop) : updO O i F i = F := by simp [updO]
theorem updO_ne (O : Nat → Nat → Prop) {i j : Nat} (F : Nat → Prop) (h : j ≠ i) : updO O i F j = O j := by simp [updO, h]
def noO : Nat → Nat → Prop := fun _ _ => False
theorem Sep.none (B : Nat) (w : World) : Sep B w noO := ⟨fun _ _ _ h => h.elim, fun _ _ h => h.elim, fun _ _ h => h.elim⟩
theorem Sep.ne {B : Nat} {w : World} {O : Nat → Nat → Prop} (h : Sep B w O) {i j : Nat} (hij : i ≠ j) : ∀ b, O i b → ¬ O j b := fun b hi hj => hij (h.dis i j b hi hj)
theorem Sep.size {B : Nat} {w w' : World} {O : Nat → Nat → Prop} (h : Sep B w O) (hs : w.heap.size ≤ w'.heap.size) : Sep B w' O := ⟨h.dis, h.ge, fun i b hb => Nat.lt_of_lt_of_le (h.lt i b hb) hs⟩
theorem Sep.step {B : Nat} {w w' : World} {O : Nat → Nat → Prop} {i : Nat} {F : Nat → Prop} (h : Sep B w O) (hB : B ≤ w.heap.size) (st : Stp (O i) w F w') : Sep B w' (updO O i F) := by
  have hs := st.only.size
  have key : ∀ j b, j ≠ i → O j b → F b → False := fun j b hj hb hF => by
    rcases st.sub b hF with e | e
    · exact hj (h.dis j i b hb e)
    · have := h.lt j b hb
      omega
  refine ⟨fun j k b hj hk => ?_, fun j b hj => ?_, fun j b hj => ?_⟩
  · unfold updO at hj hk
    split at hj <;> split at hk <;> rename_i e1 e2
    · omega
    · exact (key k b e2 hk hj).elim
    · exact (key j b e1 hj hk).elim
    · exact h.dis j k b hj hk
  · unfold updO at hj
    split at hj
    · rcases st.sub b hj with e | e
      · exact h.ge i b e
      · omega
    · exact h.ge j b hj
  · unfold updO at hj
    split at hj
    · rcases st.sub b hj with e | e
      · have := h.lt i b e
        omega
      · omega
    · have := h.lt j b hj
      omega
/-- a new object, behind a quiet step -/
theorem Sep.new {B : Nat} {w w' : World} {O : Nat → Nat → Prop} {i : Nat} {F : Nat → Prop} (h : Sep B w O) (hB : B ≤ w.heap.size) (hs : w.heap.size ≤ w'.heap.size) (hi : ∀ b, F b → w.heap.size ≤ b ∧ b < w'.heap.size) : Sep B w' (updO O i F) := by
  refine ⟨fun j k b hj hk => ?_, fun j b hj => ?_, fun j b hj => ?_⟩
  · unfold updO at hj hk
    split at hj <;> split at hk <;> rename_i e1 e2
    · omega
    · have := h.lt k b hk
      have := hi b hj
      omega
    · have := h.lt j b hj
      have := hi b hk
      omega
    · exact h.dis j k b hj hk
  · unfold updO at hj
    split at hj
    · have := hi b hj
      omega
    · exact h.ge j b hj
  · unfold updO at hj
    split at hj
    · exact (hi b hj).2
    · have := h.lt j b hj
      omega

/-- an owned row, its block among F -/
structure OwnF (w : World) (F : Nat → Prop) (e sz : Nat) (s : Sl) (xs : List Value) : Prop where
  own : Own w e sz s xs
  blk : ∀ b, s.blk = some b → F b
theorem OwnF.keep {w w' : World} {F G : Nat → Prop} {e sz : Nat} {s : Sl} {xs : List Value} (h : OwnF w F e sz s xs) (ho : Only G w w') (hd : ∀ b, F b → ¬ G b) : OwnF w' F e sz s xs := ⟨h.own.keep ho fun b hb => hd b (h.blk b hb), h.blk⟩
theorem OwnF.keepQ {w w' : World} {F : Nat → Prop} {e sz : Nat} {s : Sl} {xs : List Value} (h : OwnF w F e sz s xs) (ho : Quiet w w') : OwnF w' F e sz s xs := h.keep ho fun _ _ => id
theorem OwnF.nil (w : World) (F : Nat → Prop) (e sz : Nat) : OwnF w F e sz Sl.nil [] := ⟨Own.nil _ _ _, fun b hb => by simp [Sl.blk, Sl.nil] at hb⟩
theorem OwnF.rd {α : Type} {w : World} {F : Nat → Prop} {e sz : Nat} {s : Sl} {c : α → List Value} {l : List α} (h : OwnF w F e sz s (l.flatMap c)) (hc : ∀ x, (c x).length = sz) (hs : 0 < sz) : Rd w c sz s l := h.own.rd hc hs
theorem OwnF.push {P : Program} {w : World} {F : Nat → Prop} {t ty e sz bytes : Nat} {s : Sl} {xs news : List Value} {K : Sl → World → Prop} (hok : appOK P t e sz bytes = true) (h : OwnF w F e sz s xs)
    (hn : news.length = sz) (h1 : news.all Value.oneCell' = true) (h63 : s.len + 1 ≤ maxLen) (hb : (s.len + 1) * bytes ≤ 140737488355328)
    (k : ∀ r w' F', OwnF w' F' e sz r (xs ++ news) → r.len = s.len + 1 → Stp F w F' w' → K r w') :
    nw e news.toArray w fun b w1 => rn P (Builtin.append_ #[t, t] ty #[Sl.v s, Sl.v (⟨some ⟨b, 0, none⟩, 1, 1⟩ : Sl)]) Sl.v w1 K := by
  refine Own.push hok h.own hn h1 h63 hb fun r w' ho hl hon hbk => ?_
  refine k r w' (fun b => F b ∨ (w.heap.size ≤ b ∧ b < w'.heap.size)) ⟨ho, fun b hb => ?_⟩ hl ⟨hon.mono fun b _ e => h.blk b e, fun b e => e⟩
  rcases hbk with e | ⟨b', e, hge⟩
  · exact .inl (h.blk b (by rw [← e]; exact hb))
  · rw [hb] at e
    injection e with e
    subst e
    exact .inr ⟨hge, ho.lt hb⟩
theorem Sep.below {B : Nat} {w w' : World} {O : Nat → Nat → Prop} {i : Nat} (h : Sep B w O) (hB : B ≤ w.heap.size) (ho : Only (O i) w w') : Below B w w' := ho.below hB (h.ge i)
theorem Only.belowQ {w w' : World} (h : Quiet w w') {B : Nat} (hB : B ≤ w.heap.size) : Below B w w' := h.below hB fun _ e => e.elim
end Go.Dec
