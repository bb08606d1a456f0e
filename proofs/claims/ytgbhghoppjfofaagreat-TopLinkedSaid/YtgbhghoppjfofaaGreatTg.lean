/-
  Bridges between networks: what can be reached, and that a cut leaves no cycle. No program in sight.
-/
namespace Go.Top
set_option maxHeartbeats 400000

structure Br where
  src : Int
  dst : Int
  own : Bool
deriving DecidableEq

section
variable (bs : List Br)
/-- an open bridge leads from u to v -/
def Edge (op : List Nat) (u v : Int) : Prop := ∃ i ∈ op, ∃ b, bs[i]? = some b ∧ b.src = u ∧ b.dst = v
inductive Rch (op : List Nat) : Int → Int → Prop
  | refl (u : Int) : Rch op u u
  | step {u v x : Int} : Rch op u v → Edge bs op v x → Rch op u x
end
section
variable {bs : List Br} {op : List Nat}
theorem Rch.trans {u v x : Int} (h : Rch bs op u v) (k : Rch bs op v x) : Rch bs op u x := by
  induction k with
  | refl => exact h
  | step _ e ih => exact .step ih e
theorem Rch.one {u v : Int} (h : Edge bs op u v) : Rch bs op u v := .step (.refl u) h
theorem Edge.mono {op' : List Nat} (hs : ∀ i ∈ op, i ∈ op') {u v : Int} (h : Edge bs op u v) : Edge bs op' u v := by
  obtain ⟨i, hi, h⟩ := h
  exact ⟨i, hs i hi, h⟩
theorem Rch.mono {op' : List Nat} (hs : ∀ i ∈ op, i ∈ op') {u v : Int} (h : Rch bs op u v) : Rch bs op' u v := by
  induction h with
  | refl => exact .refl _
  | step _ e ih => exact .step ih (e.mono hs)
/-- a set that has u, and all that open bridges lead to from it, has all that is reached from u -/
theorem Rch.closed {u v : Int} {S : Int → Prop} (h : Rch bs op u v) (hu : S u) (hs : ∀ x y, S x → Edge bs op x y → S y) : S v := by
  induction h with
  | refl => exact hu
  | step _ e ih => exact hs _ _ ih e
theorem nodup_len {α : Type} : ∀ {l m : List α}, l.Nodup → (∀ x ∈ l, x ∈ m) → l.length ≤ m.length
  | [], m, _, _ => Nat.zero_le _
  | x :: l, m, hn, hs => by
    obtain ⟨h1, h2⟩ := List.nodup_cons.1 hn
    obtain ⟨m1, m2, rfl⟩ := List.append_of_mem (hs x (by simp))
    have : l.length ≤ (m1 ++ m2).length := nodup_len h2 fun y hy => by
      have := hs y (by simp [hy])
      rw [List.mem_append, List.mem_cons] at this
      rw [List.mem_append]
      rcases this with h | h | h
      · exact .inl h
      · exact absurd (h ▸ hy) h1
      · exact .inr h
    simp at this ⊢
    omega
theorem nodup_range_le {l : List Int} {n : Nat} (h : l.Nodup) (hr : ∀ x ∈ l, 0 ≤ x ∧ x < n) : l.length ≤ n := by
  have := nodup_len (m := (List.range n).map Int.ofNat) h fun x hx => by
    have := hr x hx
    exact List.mem_map.2 ⟨x.toNat, by simp; omega, by simp; omega⟩
  simpa using this
end

/-! ### the cut -/
/-- the foreign bridges among the first n -/
def forg (bs : List Br) : Nat → List Nat
  | 0 => []
  | n + 1 => match bs[n]? with
    | some b => if b.own then forg bs n else forg bs n ++ [n]
    | none => forg bs n
theorem forg_mem {bs : List Br} {i : Nat} : ∀ {n : Nat}, i ∈ forg bs n ↔ i < n ∧ ∃ b, bs[i]? = some b ∧ b.own = false
  | 0 => by simp [forg]
  | n + 1 => by
    have ih := forg_mem (bs := bs) (i := i) (n := n)
    unfold forg
    cases hb : bs[n]? with
    | none =>
      simp only [ih]
      constructor
      · rintro ⟨h1, h2⟩; exact ⟨by omega, h2⟩
      · rintro ⟨h1, b, h2, h3⟩
        refine ⟨?_, b, h2, h3⟩
        by_cases e : i = n
        · subst e; rw [hb] at h2; cases h2
        · omega
    | some b =>
      simp only
      split
      · rename_i ho
        rw [ih]
        constructor
        · rintro ⟨h1, h2⟩; exact ⟨by omega, h2⟩
        · rintro ⟨h1, c, h2, h3⟩
          refine ⟨?_, c, h2, h3⟩
          by_cases e : i = n
          · subst e
            rw [hb] at h2
            injection h2 with h2
            subst h2
            rw [ho] at h3
            cases h3
          · omega
      · rename_i ho
        rw [List.mem_append, ih, List.mem_singleton]
        constructor
        · rintro (⟨h1, h2⟩ | rfl)
          · exact ⟨by omega, h2⟩
          · exact ⟨by omega, b, hb, by simpa using ho⟩
        · rintro ⟨h1, h2⟩
          by_cases e : i = n
          · exact .inr e
          · exact .inl ⟨by omega, h2⟩
open Classical in
/-- the own bridges among the first n: open, and cut -/
noncomputable def ownb (bs : List Br) (op0 : List Nat) : Nat → List Nat × List Nat
  | 0 => (op0, [])
  | n + 1 => match bs[n]? with
    | some b => if b.own then (if Rch bs (ownb bs op0 n).1 b.dst b.src then ((ownb bs op0 n).1, (ownb bs op0 n).2 ++ [n]) else ((ownb bs op0 n).1 ++ [n], (ownb bs op0 n).2)) else ownb bs op0 n
    | none => ownb bs op0 n
end Go.Top
