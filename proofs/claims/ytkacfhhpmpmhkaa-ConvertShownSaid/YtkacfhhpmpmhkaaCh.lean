import Derived.Test.YtkacfhhpmpmhkaaCg
namespace Go.Proofs.Ytkacfhhpmpmhkaa
open Go.Dec Go.RowKit
set_option maxHeartbeats 800000
set_option maxRecDepth 10000

theorem least (p : Nat → Prop) (h : ∃ k, p k) : ∃ k, p k ∧ ∀ j, p j → k ≤ j := by
  obtain ⟨k, hk⟩ := h
  induction k using Nat.strongRecOn with
  | _ k ih =>
    by_cases e : ∃ j, j < k ∧ p j
    · obtain ⟨j, hj, hp⟩ := e
      exact ih j hj hp
    · exact ⟨k, hk, fun j hj => Nat.le_of_not_lt fun hlt => e ⟨j, hlt, hj⟩⟩
theorem best_at {L : List Ch} {n : Int} {T : List ByteArray} : ∀ (k : Nat) (u : ByteArray), (∃ p v, Leads L n u p v ∧ v ∈ T ∧ p.length = k) → (∀ p v, Leads L n u p v → v ∈ T → k ≤ p.length) → ∃ a, Best L n u T a
  | 0, u, ⟨p, v, h1, h2, h3⟩, _ => by
    have : p = [] := List.length_eq_zero_iff.1 h3
    subst this
    have h1 : u = v := h1
    exact ⟨[], Best.nil (h1 ▸ h2)⟩
  | k + 1, u, ⟨p, v, h1, h2, h3⟩, hmin => by
    obtain ⟨i, ⟨c, hc, hs, hn, q, x, hq, hx, hk⟩, hi⟩ := least (fun i => ∃ c, L[i]? = some c ∧ c.src = u ∧ n ≤ c.most ∧ ∃ q x, Leads L n c.dst q x ∧ x ∈ T ∧ q.length = k) (by
      cases p with
      | nil => simp at h3
      | cons i p =>
        obtain ⟨c, g1, g2, g3, g4⟩ := h1
        exact ⟨i, c, g1, g2, g3, p, v, g4, h2, by simpa using h3⟩)
    obtain ⟨a, ha⟩ := best_at k c.dst ⟨q, x, hq, hx, hk⟩ fun p' v' hp' hv' => by
      have := hmin (i :: p') v' ⟨c, hc, hs, hn, hp'⟩ hv'
      simpa using this
    obtain ⟨⟨y, hy, hl⟩, hm⟩ := id ha
    refine ⟨i :: a, ⟨y, hy, c, hc, hs, hn, hl⟩, fun p' v' hp' hv' => ?_⟩
    have hak : a.length = k := by
      have h1 := sle_len (hm q x hq hx)
      have h2 := hmin (i :: a) y ⟨c, hc, hs, hn, hl⟩ hy
      simp at h2
      omega
    have hlen := hmin p' v' hp' hv'
    cases p' with
    | nil => simp at hlen
    | cons j p' =>
      obtain ⟨d, g1, g2, g3, g4⟩ := hp'
      by_cases e : p'.length = k
      · have hij := hi j ⟨d, g1, g2, g3, p', v', g4, hv', e⟩
        rcases Nat.lt_or_eq_of_le hij with e' | e'
        · exact .inr (.inr ⟨by simp; omega, .inl e'⟩)
        · subst e'
          rw [hc] at g1
          injection g1 with g1
          subst g1
          rcases hm p' v' g4 hv' with rfl | h | ⟨h, h'⟩
          · exact .inl rfl
          · omega
          · exact .inr (.inr ⟨by simp; omega, .inr ⟨rfl, h'⟩⟩)
      · simp at hlen
        exact .inr (.inl (by simp; omega))
theorem best_ex {L : List Ch} {n : Int} {u v : ByteArray} {T : List ByteArray} {p : List Nat} (h : Leads L n u p v) (hv : v ∈ T) : ∃ a, Best L n u T a := by
  obtain ⟨k, ⟨q, x, h1, h2, h3⟩, hk⟩ := least (fun k => ∃ p v, Leads L n u p v ∧ v ∈ T ∧ p.length = k) ⟨_, p, v, h, hv, rfl⟩
  exact best_at k u ⟨q, x, h1, h2, h3⟩ fun p' v' hp' hv' => hk _ ⟨p', v', hp', hv', rfl⟩
def NearR (L : List Ch) (n : Int) (u : ByteArray) (T : List ByteArray) (r : Int) : Prop := (∃ a, Best L n u T a ∧ r = (a.length : Int)) ∨ (NoWay L n u T ∧ r = -1)
/-- within so many changes -/
def Rch (L : List Ch) (n : Int) (u : ByteArray) (k : Nat) (t : ByteArray) : Prop := ∃ p, Leads L n u p t ∧ p.length ≤ k
theorem Rch.zero {L : List Ch} {n : Int} {u t : ByteArray} : Rch L n u 0 t ↔ t = u := by
  constructor
  · rintro ⟨p, h, hp⟩
    have : p = [] := List.length_eq_zero_iff.1 (by omega)
    subst this
    exact Eq.symm h
  · rintro rfl
    exact ⟨[], rfl, Nat.le_refl _⟩
theorem Rch.succ {L : List Ch} {n : Int} {u t : ByteArray} {k : Nat} (h : Rch L n u (k + 1) t) : Rch L n u k t ∨ ∃ (v : ByteArray) (i : Nat) (c : Ch), Rch L n u k v ∧ L[i]? = some c ∧ c.src = v ∧ n ≤ c.most ∧ c.dst = t := by
  obtain ⟨p, h, hp⟩ := h
  by_cases e : p.length ≤ k
  · exact .inl ⟨p, h, e⟩
  · right
    have hne : p ≠ [] := fun e' => by rw [e'] at e; exact e (Nat.zero_le _)
    have e' := List.dropLast_concat_getLast hne
    rw [← e'] at h
    obtain ⟨v, h1, c, h2, h3, h4, h5⟩ := h.split
    exact ⟨v, _, c, ⟨_, h1, by rw [List.length_dropLast]; omega⟩, h2, h3, h4, h5⟩
theorem Rch.step {L : List Ch} {n : Int} {u v : ByteArray} {k i : Nat} {c : Ch} (h : Rch L n u k v) (hc : L[i]? = some c) (h1 : c.src = v) (h2 : n ≤ c.most) : Rch L n u (k + 1) c.dst := by
  obtain ⟨p, h, hp⟩ := h
  exact ⟨p ++ [i], h.app (Leads.one hc h1 h2), by simp; omega⟩
theorem Rch.mono {L : List Ch} {n : Int} {u v : ByteArray} {k j : Nat} (h : Rch L n u k v) (hk : k ≤ j) : Rch L n u j v := by
  obtain ⟨p, h, hp⟩ := h
  exact ⟨p, h, by omega⟩
/-- before layer d + 1: S all seen, A the last layer -/
structure Lay (L : List Ch) (n : Int) (u : ByteArray) (T : List ByteArray) (d : Nat) (S A : List ByteArray) : Prop where
  all : ∀ t, t ∈ S ↔ Rch L n u d t
  last : ∀ t ∈ A, Rch L n u d t
  front : ∀ t ∈ S, t ∉ A → ∀ (i : Nat) (c : Ch), L[i]? = some c → c.src = t → n ≤ c.most → c.dst ∈ S
  far : ∀ t ∈ S, t ∉ T
/-- within: S seen when it began, S' now, B the next layer, the changes before i are seen -/
structure Lin (L : List Ch) (n : Int) (u : ByteArray) (d : Nat) (S A S' B : List ByteArray) (i : Nat) : Prop where
  split : ∀ t, t ∈ S' ↔ t ∈ S ∨ t ∈ B
  new : ∀ t ∈ B, Rch L n u (d + 1) t
  seen : ∀ k, k < i → ∀ c : Ch, L[k]? = some c → c.src ∈ A → n ≤ c.most → c.dst ∈ S'
theorem Lin.skip {L : List Ch} {n : Int} {u : ByteArray} {d i : Nat} {S A S' B : List ByteArray} {c : Ch} (h : Lin L n u d S A S' B i) (hc : L[i]? = some c) (hn : c.most < n ∨ c.src ∉ A ∨ c.dst ∈ S') : Lin L n u d S A S' B (i + 1) where
  split := h.split
  new := h.new
  seen := fun k hk c' hc' h1 h2 => by
    by_cases e : k < i
    · exact h.seen k e c' hc' h1 h2
    · have : k = i := by omega
      subst this
      rw [hc] at hc'
      injection hc' with hc'
      subst hc'
      rcases hn with hn | hn | hn
      · omega
      · exact absurd h1 hn
      · exact hn
theorem Lin.add {L : List Ch} {n : Int} {u : ByteArray} {d i : Nat} {S A S' B : List ByteArray} {c : Ch} (h : Lin L n u d S A S' B i) (hA : ∀ t ∈ A, Rch L n u d t) (hc : L[i]? = some c) (h1 : c.src ∈ A) (h2 : n ≤ c.most) : Lin L n u d S A (S' ++ [c.dst]) (B ++ [c.dst]) (i + 1) where
  split := fun t => by
    rw [List.mem_append, List.mem_append, h.split, or_assoc]
  new := fun t ht => by
    rcases List.mem_append.1 ht with e | e
    · exact h.new t e
    · rw [List.mem_singleton.1 e]
      exact (hA _ h1).step hc rfl h2
  seen := fun k hk c' hc' g1 g2 => by
    by_cases e : k < i
    · exact List.mem_append_left _ (h.seen k e c' hc' g1 g2)
    · have : k = i := by omega
      subst this
      rw [hc] at hc'
      injection hc' with hc'
      subst hc'
      simp
theorem Lin.close {L : List Ch} {n : Int} {u : ByteArray} {T : List ByteArray} {d i : Nat} {S A S' B : List ByteArray} (h : Lin L n u d S A S' B i) (hL : Lay L n u T d S A) (hi : L.length ≤ i) (hT : ∀ t ∈ B, t ∉ T) : Lay L n u T (d + 1) S' B where
  all := fun t => by
    rw [h.split]
    constructor
    · rintro (e | e)
      · exact ((hL.all t).1 e).mono (by omega)
      · exact h.new t e
    · intro e
      rcases e.succ with e | ⟨v, k, c, hv, h1, h2, h3, h4⟩
      · exact .inl ((hL.all t).2 e)
      · by_cases hA : v ∈ A
        · have := h.seen k (by have := (List.getElem?_eq_some_iff.1 h1).1; omega) c h1 (h2 ▸ hA) h3
          rw [h4] at this
          exact (h.split t).1 this
        · exact .inl (h4 ▸ hL.front v ((hL.all v).2 hv) hA k c h1 h2 h3)
  last := h.new
  front := fun t ht hB k c h1 h2 h3 => by
    have hS := ((h.split t).1 ht).resolve_right hB
    by_cases hA : t ∈ A
    · exact h.seen k (by have := (List.getElem?_eq_some_iff.1 h1).1; omega) c h1 (h2 ▸ hA) h3
    · exact (h.split _).2 (.inl (hL.front t hS hA k c h1 h2 h3))
  far := fun t ht => ((h.split t).1 ht).elim (hL.far t) (hT t)
theorem Lin.found {L : List Ch} {n : Int} {u : ByteArray} {T : List ByteArray} {d i : Nat} {S A S' B : List ByteArray} (h : Lin L n u d S A S' B i) (hL : Lay L n u T d S A) (hT : ∃ t ∈ B, t ∈ T) : NearR L n u T ((d + 1 : Nat) : Int) := by
  obtain ⟨t, ht, hx⟩ := hT
  obtain ⟨p, hp, hl⟩ := h.new t ht
  obtain ⟨a, ha⟩ := best_ex hp hx
  refine .inl ⟨a, ha, ?_⟩
  have h1 := sle_len (ha.2 p t hp hx)
  obtain ⟨⟨v, hv, g⟩, _⟩ := ha
  have h2 : ¬ a.length ≤ d := fun e => hL.far v ((hL.all v).2 ⟨a, g, e⟩) hv
  congr 1
  omega
theorem Lay.nothing {L : List Ch} {n : Int} {u : ByteArray} {T : List ByteArray} {d : Nat} {S A : List ByteArray} (hL : Lay L n u T d S A) (hd : L.length ≤ d) : NoWay L n u T := fun p v hp hv => by
  obtain ⟨a, ha⟩ := best_ex hp hv
  have h1 := ha.len_le
  obtain ⟨⟨x, hx, g⟩, _⟩ := ha
  exact hL.far x ((hL.all x).2 ⟨a, g, by omega⟩) hx
theorem Lay.begin {L : List Ch} {n : Int} {u : ByteArray} {T : List ByteArray} (hu : u ∉ T) : Lay L n u T 0 [u] [u] where
  all := fun t => by rw [Rch.zero, List.mem_singleton]
  last := fun t ht => Rch.zero.2 (List.mem_singleton.1 ht)
  front := fun t ht hA => absurd ht hA
  far := fun t ht => by rw [List.mem_singleton.1 ht]; exact hu
end Go.Proofs.Ytkacfhhpmpmhkaa
