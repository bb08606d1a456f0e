/-
  Bridges between networks: what can be reached, and that a cut leaves no cycle. No program in sight.
-/
namespace Go.Top
set_option maxHeartbeats 400000

structure Br where
  src : Int
  dst : Int
  own : Bool
deriving DecidableEq

section
variable (bs : List Br)
/-- an open bridge leads from u to v -/
def Edge (op : List Nat) (u v : Int) : Prop := ∃ i ∈ op, ∃ b, bs[i]? = some b ∧ b.src = u ∧ b.dst = v
inductive Rch (op : List Nat) : Int → Int → Prop
  | refl (u : Int) : Rch op u u
  | step {u v x : Int} : Rch op u v → Edge bs op v x → Rch op u x
end
section
variable {bs : List Br} {op : List Nat}
theorem Rch.trans {u v x : Int} (h : Rch bs op u v) (k : Rch bs op v x) : Rch bs op u x := by
  induction k with
  | refl => exact h
  | step _ e ih => exact .step ih e
theorem Rch.one {u v : Int} (h : Edge bs op u v) : Rch bs op u v := .step (.refl u) h
theorem Edge.mono {op' : List Nat} (hs : ∀ i ∈ op, i ∈ op') {u v : Int} (h : Edge bs op u v) : Edge bs op' u v := by
  obtain ⟨i, hi, h⟩ := h
  exact ⟨i, hs i hi, h⟩
theorem Rch.mono {op' : List Nat} (hs : ∀ i ∈ op, i ∈ op') {u v : Int} (h : Rch bs op u v) : Rch bs op' u v := by
  induction h with
  | refl => exact .refl _
  | step _ e ih => exact .step ih (e.mono hs)
/-- a set that has u, and all that open bridges lead to from it, has all that is reached from u -/
theorem Rch.closed {u v : Int} {S : Int → Prop} (h : Rch bs op u v) (hu : S u) (hs : ∀ x y, S x → Edge bs op x y → S y) : S v := by
  induction h with
  | refl => exact hu
  | step _ e ih => exact hs _ _ ih e
/-- no cycle -/
def Acyc (bs : List Br) (op : List Nat) : Prop := ∀ u v, Edge bs op u v → ¬ Rch bs op v u
theorem Acyc.nil : Acyc bs [] := fun u v ⟨i, hi, _⟩ => by simp at hi
theorem Acyc.mono {op' : List Nat} (h : Acyc bs op') (hs : ∀ i ∈ op, i ∈ op') : Acyc bs op := fun u v e r => h u v (e.mono hs) (r.mono hs)
theorem Rch.new {i : Nat} {b : Br} (hb : bs[i]? = some b) {x y : Int} (h : Rch bs (op ++ [i]) x y) : Rch bs op x y ∨ (Rch bs op x b.src ∧ Rch bs op b.dst y) := by
  induction h with
  | refl => exact .inl (.refl _)
  | step _ e ih =>
    obtain ⟨j, hj, c, hc, h1, h2⟩ := e
    rcases List.mem_append.1 hj with hj | hj
    · have e : Edge bs op _ _ := ⟨j, hj, c, hc, h1, h2⟩
      rcases ih with ih | ⟨i1, i2⟩
      · exact .inl (.step ih e)
      · exact .inr ⟨i1, .step i2 e⟩
    · simp at hj
      subst hj
      rw [hb] at hc
      injection hc with hc
      subst hc h1 h2
      rcases ih with ih | ⟨i1, i2⟩
      · exact .inr ⟨ih, .refl _⟩
      · exact .inr ⟨i1, .refl _⟩
theorem Acyc.add {i : Nat} {b : Br} (h : Acyc bs op) (hb : bs[i]? = some b) (hn : ¬ Rch bs op b.dst b.src) : Acyc bs (op ++ [i]) := fun u v e r => by
  obtain ⟨j, hj, c, hc, h1, h2⟩ := e
  rcases List.mem_append.1 hj with hj | hj
  · have e : Edge bs op u v := ⟨j, hj, c, hc, h1, h2⟩
    rcases r.new hb with r | ⟨r1, r2⟩
    · exact h u v e r
    · exact hn ((r2.trans (.one e)).trans r1)
  · simp at hj
    subst hj
    rw [hb] at hc
    injection hc with hc
    subst hc h1 h2
    rcases r.new hb with r | ⟨r1, _⟩
    · exact hn r
    · exact hn r1
/-- a walk of n bridges -/
inductive Walk (bs : List Br) (op : List Nat) : Nat → Int → Int → Prop
  | zero (u : Int) : Walk bs op 0 u u
  | succ {n : Nat} {u v x : Int} : Walk bs op n u v → Edge bs op v x → Walk bs op (n + 1) u x
theorem Walk.rch {n : Nat} {u v : Int} (h : Walk bs op n u v) : Rch bs op u v := by
  induction h with
  | zero => exact .refl _
  | succ _ e ih => exact .step ih e
theorem Rch.walk {u v : Int} (h : Rch bs op u v) : ∃ n, Walk bs op n u v := by
  induction h with
  | refl => exact ⟨0, .zero _⟩
  | step _ e ih =>
    obtain ⟨n, hn⟩ := ih
    exact ⟨n + 1, .succ hn e⟩
theorem nodup_len {α : Type} : ∀ {l m : List α}, l.Nodup → (∀ x ∈ l, x ∈ m) → l.length ≤ m.length
  | [], m, _, _ => Nat.zero_le _
  | x :: l, m, hn, hs => by
    obtain ⟨h1, h2⟩ := List.nodup_cons.1 hn
    obtain ⟨m1, m2, rfl⟩ := List.append_of_mem (hs x (by simp))
    have : l.length ≤ (m1 ++ m2).length := nodup_len h2 fun y hy => by
      have := hs y (by simp [hy])
      rw [List.mem_append, List.mem_cons] at this
      rw [List.mem_append]
      rcases this with h | h | h
      · exact .inl h
      · exact absurd (h ▸ hy) h1
      · exact .inr h
    simp at this ⊢
    omega
theorem nodup_range_le {l : List Int} {n : Nat} (h : l.Nodup) (hr : ∀ x ∈ l, 0 ≤ x ∧ x < n) : l.length ≤ n := by
  have := nodup_len (m := (List.range n).map Int.ofNat) h fun x hx => by
    have := hr x hx
    exact List.mem_map.2 ⟨x.toNat, by simp; omega, by simp; omega⟩
  simpa using this
/-- without a cycle, a walk comes to no network twice -/
theorem Walk.len {n nets : Nat} (ha : Acyc bs op) (hv : ∀ b ∈ bs, 0 ≤ b.dst ∧ b.dst < nets) {u v : Int} (hu : 0 ≤ u ∧ u < nets) (h : Walk bs op n u v) : n < nets := by
  have key : ∃ l : List Int, l.length = n + 1 ∧ l.Nodup ∧ (∀ x ∈ l, Rch bs op x v) ∧ (∀ x ∈ l, 0 ≤ x ∧ x < nets) ∧ v ∈ l := by
    revert hu
    induction h with
    | zero u => exact fun hu => ⟨[u], rfl, by simp, fun x hx => (by simp at hx; subst hx; exact .refl _), by simpa using hu, by simp⟩
    | succ hw e ih =>
      rename_i u v x
      intro hu
      obtain ⟨l, h1, h2, h3, h4, h5⟩ := ih hu
      refine ⟨x :: l, by simp [h1], List.nodup_cons.2 ⟨fun hx => ha _ _ e (h3 x hx), h2⟩, fun y hy => ?_, fun y hy => ?_, by simp⟩
      · rcases List.mem_cons.1 hy with rfl | hy
        · exact .refl _
        · exact (h3 y hy).trans (.one e)
      · rcases List.mem_cons.1 hy with rfl | hy
        · obtain ⟨i, _, b, hb, _, rfl⟩ := e
          exact hv b (List.mem_of_getElem? hb)
        · exact h4 y hy
  obtain ⟨l, h1, h2, _, h4, _⟩ := key
  have := nodup_range_le h2 h4
  omega
end

/-! ### the cut -/
/-- the foreign bridges among the first n -/
def forg (bs : List Br) : Nat → List Nat
  | 0 => []
  | n + 1 => match bs[n]? with
    | some b => if b.own then forg bs n else forg bs n ++ [n]
    | none => forg bs n
theorem forg_mem {bs : List Br} {i : Nat} : ∀ {n : Nat}, i ∈ forg bs n ↔ i < n ∧ ∃ b, bs[i]? = some b ∧ b.own = false
  | 0 => by simp [forg]
  | n + 1 => by
    have ih := forg_mem (bs := bs) (i := i) (n := n)
    unfold forg
    cases hb : bs[n]? with
    | none =>
      simp only [ih]
      constructor
      · rintro ⟨h1, h2⟩; exact ⟨by omega, h2⟩
      · rintro ⟨h1, b, h2, h3⟩
        refine ⟨?_, b, h2, h3⟩
        by_cases e : i = n
        · subst e; rw [hb] at h2; cases h2
        · omega
    | some b =>
      simp only
      split
      · rename_i ho
        rw [ih]
        constructor
        · rintro ⟨h1, h2⟩; exact ⟨by omega, h2⟩
        · rintro ⟨h1, c, h2, h3⟩
          refine ⟨?_, c, h2, h3⟩
          by_cases e : i = n
          · subst e
            rw [hb] at h2
            injection h2 with h2
            subst h2
            rw [ho] at h3
            cases h3
          · omega
      · rename_i ho
        rw [List.mem_append, ih, List.mem_singleton]
        constructor
        · rintro (⟨h1, h2⟩ | rfl)
          · exact ⟨by omega, h2⟩
          · exact ⟨by omega, b, hb, by simpa using ho⟩
        · rintro ⟨h1, h2⟩
          by_cases e : i = n
          · exact .inr e
          · exact .inl ⟨by omega, h2⟩
open Classical in
/-- the own bridges among the first n: open, and cut -/
noncomputable def ownb (bs : List Br) (op0 : List Nat) : Nat → List Nat × List Nat
  | 0 => (op0, [])
  | n + 1 => match bs[n]? with
    | some b => if b.own then (if Rch bs (ownb bs op0 n).1 b.dst b.src then ((ownb bs op0 n).1, (ownb bs op0 n).2 ++ [n]) else ((ownb bs op0 n).1 ++ [n], (ownb bs op0 n).2)) else ownb bs op0 n
    | none => ownb bs op0 n
theorem ownb_acyc {bs : List Br} {op0 : List Nat} (h : Acyc bs op0) : ∀ n, Acyc bs (ownb bs op0 n).1
  | 0 => h
  | n + 1 => by
    have ih := ownb_acyc h n
    unfold ownb
    cases hb : bs[n]? with
    | none => exact ih
    | some b =>
      simp only
      split
      · split
        · exact ih
        · rename_i hr
          exact ih.add hb hr
      · exact ih
theorem forg_acyc {bs : List Br} : ∀ n, (∀ k b, k < n → bs[k]? = some b → b.own = false → ¬ Rch bs (forg bs k) b.dst b.src) → Acyc bs (forg bs n)
  | 0, _ => Acyc.nil
  | n + 1, h => by
    have ih := forg_acyc n fun k b hk => h k b (by omega)
    unfold forg
    cases hb : bs[n]? with
    | none => exact ih
    | some b =>
      simp only
      split
      · exact ih
      · rename_i ho
        exact ih.add hb (h n b (by omega) hb (by simpa using ho))
/-- what is cut: own ones, ascending, and all others are open -/
theorem ownb_mem {bs : List Br} {op0 : List Nat} : ∀ n, (∀ i ∈ (ownb bs op0 n).2, i < n ∧ ∃ b, bs[i]? = some b ∧ b.own = true) ∧ (∀ i, i ∈ (ownb bs op0 n).1 ↔ i ∈ op0 ∨ (i < n ∧ (∃ b, bs[i]? = some b ∧ b.own = true) ∧ i ∉ (ownb bs op0 n).2))
  | 0 => by simp [ownb]
  | n + 1 => by
    obtain ⟨ih1, ih2⟩ := ownb_mem (bs := bs) (op0 := op0) n
    have lift : ∀ i, (i < n + 1 ∧ i ≠ n) ↔ i < n := fun i => by omega
    unfold ownb
    cases hb : bs[n]? with
    | none =>
      simp only
      refine ⟨fun i hi => ⟨by have := (ih1 i hi).1; omega, (ih1 i hi).2⟩, fun i => ?_⟩
      rw [ih2 i]
      constructor
      · rintro (h | ⟨h1, h2⟩)
        · exact .inl h
        · exact .inr ⟨by omega, h2⟩
      · rintro (h | ⟨h1, ⟨b, h2, h3⟩, h4⟩)
        · exact .inl h
        · refine .inr ⟨?_, ⟨b, h2, h3⟩, h4⟩
          by_cases e : i = n
          · subst e; rw [hb] at h2; cases h2
          · omega
    | some b =>
      simp only
      split
      · rename_i ho
        split
        · refine ⟨fun i hi => ?_, fun i => ?_⟩
          · rcases List.mem_append.1 hi with hi | hi
            · exact ⟨by have := (ih1 i hi).1; omega, (ih1 i hi).2⟩
            · simp at hi
              subst hi
              exact ⟨by omega, b, hb, ho⟩
          · rw [ih2 i]
            constructor
            · rintro (h | ⟨h1, h2, h3⟩)
              · exact .inl h
              · exact .inr ⟨by omega, h2, by simp only [List.mem_append, List.mem_singleton, not_or]; exact ⟨h3, by omega⟩⟩
            · rintro (h | ⟨h1, h2, h3⟩)
              · exact .inl h
              · simp only [List.mem_append, List.mem_singleton, not_or] at h3
                exact .inr ⟨by omega, h2, h3.1⟩
        · refine ⟨fun i hi => ⟨by have := (ih1 i hi).1; omega, (ih1 i hi).2⟩, fun i => ?_⟩
          rw [List.mem_append, List.mem_singleton, ih2 i]
          constructor
          · rintro ((h | ⟨h1, h2, h3⟩) | rfl)
            · exact .inl h
            · exact .inr ⟨by omega, h2, h3⟩
            · exact .inr ⟨by omega, ⟨b, hb, ho⟩, fun hi => by have := (ih1 _ hi).1; omega⟩
          · rintro (h | ⟨h1, h2, h3⟩)
            · exact .inl (.inl h)
            · by_cases e : i = n
              · exact .inr e
              · exact .inl (.inr ⟨by omega, h2, h3⟩)
      · rename_i ho
        refine ⟨fun i hi => ⟨by have := (ih1 i hi).1; omega, (ih1 i hi).2⟩, fun i => ?_⟩
        rw [ih2 i]
        constructor
        · rintro (h | ⟨h1, h2, h3⟩)
          · exact .inl h
          · exact .inr ⟨by omega, h2, h3⟩
        · rintro (h | ⟨h1, ⟨c, h2, h3⟩, h4⟩)
          · exact .inl h
          · refine .inr ⟨?_, ⟨c, h2, h3⟩, h4⟩
            by_cases e : i = n
            · subst e
              rw [hb] at h2
              injection h2 with h2
              subst h2
              exact absurd h3 ho
            · omega
/-- open is what is not cut -/
theorem open_mem {bs : List Br} {i : Nat} : i ∈ (ownb bs (forg bs bs.length) bs.length).1 ↔ i < bs.length ∧ i ∉ (ownb bs (forg bs bs.length) bs.length).2 := by
  obtain ⟨h1, h2⟩ := ownb_mem (bs := bs) (op0 := forg bs bs.length) bs.length
  rw [h2 i, forg_mem]
  constructor
  · rintro (⟨a, b, hb, ho⟩ | ⟨a, _, c⟩)
    · refine ⟨a, fun hi => ?_⟩
      obtain ⟨_, c, hc, hoc⟩ := h1 i hi
      rw [hb] at hc
      injection hc with hc
      subst hc
      rw [ho] at hoc
      cases hoc
    · exact ⟨a, c⟩
  · rintro ⟨a, c⟩
    cases ho : bs[i].own with
    | true => exact .inr ⟨a, ⟨bs[i], List.getElem?_eq_getElem a, ho⟩, c⟩
    | false => exact .inl ⟨a, bs[i], List.getElem?_eq_getElem a, ho⟩
end Go.Top
