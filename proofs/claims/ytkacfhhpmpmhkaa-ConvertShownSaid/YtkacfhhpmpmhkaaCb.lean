import Derived.Test.YtkacfhhpmpmhkaaCa
namespace Go.Proofs.Ytkacfhhpmpmhkaa
open Go.Dec Go.RowKit
set_option maxHeartbeats 400000

/-! ### the order of ways: the shorter first, then the one that comes first -/
def lx : List Nat → List Nat → Prop
  | x :: a, y :: b => x < y ∨ (x = y ∧ lx a b)
  | _, _ => False
def sl (a b : List Nat) : Prop := a.length < b.length ∨ (a.length = b.length ∧ lx a b)
def sle (a b : List Nat) : Prop := a = b ∨ sl a b
theorem lx_trans : ∀ {a b c : List Nat}, lx a b → lx b c → lx a c
  | x :: a, y :: b, z :: c, h, k => by
    rcases h with h | ⟨rfl, h⟩ <;> rcases k with k | ⟨rfl, k⟩
    · exact .inl (by omega)
    · exact .inl h
    · exact .inl k
    · exact .inr ⟨rfl, lx_trans h k⟩
  | [], _, _, h, _ => h.elim
  | _ :: _, [], _, h, _ => h.elim
  | _ :: _, _ :: _, [], _, k => k.elim
theorem lx_irrefl : ∀ (a : List Nat), ¬ lx a a
  | [], h => h
  | x :: a, h => by
    rcases h with h | ⟨_, h⟩
    · omega
    · exact lx_irrefl a h
theorem sl_trans {a b c : List Nat} (h : sl a b) (k : sl b c) : sl a c := by
  rcases h with h | ⟨h, h'⟩ <;> rcases k with k | ⟨k, k'⟩
  · exact .inl (by omega)
  · exact .inl (by omega)
  · exact .inl (by omega)
  · exact .inr ⟨by omega, lx_trans h' k'⟩
theorem sl_irrefl (a : List Nat) : ¬ sl a a := by
  rintro (h | ⟨_, h⟩)
  · omega
  · exact lx_irrefl a h
theorem sle_refl (a : List Nat) : sle a a := .inl rfl
theorem sle_sl {a b c : List Nat} (h : sle a b) (k : sl b c) : sl a c := h.elim (fun e => e ▸ k) fun h => sl_trans h k
theorem sl_sle {a b c : List Nat} (h : sl a b) (k : sle b c) : sl a c := k.elim (fun e => e ▸ h) fun k => sl_trans h k
theorem sle_trans {a b c : List Nat} (h : sle a b) (k : sle b c) : sle a c := h.elim (fun e => e ▸ k) fun h => .inr (sl_sle h k)
theorem sle_anti {a b : List Nat} (h : sle a b) (k : sle b a) : a = b := h.elim id fun h => absurd (sl_sle h k) (sl_irrefl a)
theorem sle_len {a b : List Nat} (h : sle a b) : a.length ≤ b.length := by
  rcases h with rfl | h | h <;> omega
theorem lx_app : ∀ {a b : List Nat} (x y : List Nat), lx a b → lx (a ++ x) (b ++ y)
  | x :: a, y :: b, u, v, h => by
    rcases h with h | ⟨e, h⟩
    · exact .inl h
    · exact .inr ⟨e, lx_app u v h⟩
  | [], _, _, _, h => h.elim
  | _ :: _, [], _, _, h => h.elim
theorem lx_pre : ∀ {a b : List Nat} (p : List Nat), lx a b → lx (p ++ a) (p ++ b)
  | _, _, [], h => h
  | _, _, _ :: p, h => .inr ⟨rfl, lx_pre p h⟩
theorem lx_pre' : ∀ {a b : List Nat} (p : List Nat), lx (p ++ a) (p ++ b) → lx a b
  | _, _, [], h => h
  | _, _, x :: p, h => by
    rcases h with h | ⟨_, h⟩
    · omega
    · exact lx_pre' p h
theorem sl_snoc {a b : List Nat} (h : sl a b) (i j : Nat) : sl (a ++ [i]) (b ++ [j]) := by
  rcases h with h | ⟨h, h'⟩
  · exact .inl (by simp; omega)
  · exact .inr ⟨by simp; omega, lx_app _ _ h'⟩
theorem sl_last (a : List Nat) {i j : Nat} (h : i < j) : sl (a ++ [i]) (a ++ [j]) := .inr ⟨by simp, lx_pre a (.inl h)⟩
theorem sl_one (a : List Nat) (i : Nat) : sl a (a ++ [i]) := .inl (by simp)
theorem sle_snoc {a b : List Nat} (h : sle a b) (i : Nat) : sle (a ++ [i]) (b ++ [i]) := h.elim (fun e => .inl (by rw [e])) fun h => .inr (sl_snoc h i i)
theorem sle_pre' {a b : List Nat} (p : List Nat) (h : sle (p ++ a) (p ++ b)) : sle a b := by
  rcases h with h | h | ⟨h, h'⟩
  · exact .inl (List.append_cancel_left h)
  · exact .inr (.inl (by simp at h; omega))
  · exact .inr (.inr ⟨by simp at h; omega, lx_pre' p h'⟩)
theorem lx_total : ∀ (a b : List Nat), a.length = b.length → a = b ∨ lx a b ∨ lx b a
  | [], [], _ => .inl rfl
  | x :: a, y :: b, h => by
    rcases Nat.lt_trichotomy x y with e | e | e
    · exact .inr (.inl (.inl e))
    · subst e
      rcases lx_total a b (by simpa using h) with e | e | e
      · exact .inl (by rw [e])
      · exact .inr (.inl (.inr ⟨rfl, e⟩))
      · exact .inr (.inr (.inr ⟨rfl, e⟩))
    · exact .inr (.inr (.inl e))
theorem sle_total (a b : List Nat) : sle a b ∨ sl b a := by
  rcases Nat.lt_trichotomy a.length b.length with h | h | h
  · exact .inl (.inr (.inl h))
  · rcases lx_total a b h with e | e | e
    · exact .inl (.inl e)
    · exact .inl (.inr (.inr ⟨h, e⟩))
    · exact .inr (.inr ⟨h.symm, e⟩)
  · exact .inr (.inl h)

/-! ### where a way leads -/
def Leads (L : List Ch) (n : Int) : ByteArray → List Nat → ByteArray → Prop
  | u, [], v => u = v
  | u, i :: p, v => ∃ c, L[i]? = some c ∧ c.src = u ∧ n ≤ c.most ∧ Leads L n c.dst p v
theorem Leads.app {L : List Ch} {n : Int} : ∀ {p q : List Nat} {u v x : ByteArray}, Leads L n u p v → Leads L n v q x → Leads L n u (p ++ q) x
  | [], _, _, _, _, h, k => by
    have : _ = _ := h
    subst this
    exact k
  | _ :: p, _, _, _, _, ⟨c, h1, h2, h3, h4⟩, k => ⟨c, h1, h2, h3, h4.app k⟩
theorem Leads.split {L : List Ch} {n : Int} : ∀ {p q : List Nat} {u x : ByteArray}, Leads L n u (p ++ q) x → ∃ v, Leads L n u p v ∧ Leads L n v q x
  | [], _, u, _, h => ⟨u, rfl, h⟩
  | _ :: p, _, _, _, ⟨c, h1, h2, h3, h4⟩ => by
    obtain ⟨v, k1, k2⟩ := Leads.split (p := p) h4
    exact ⟨v, ⟨c, h1, h2, h3, k1⟩, k2⟩
theorem Leads.uniq {L : List Ch} {n : Int} : ∀ {p : List Nat} {u v x : ByteArray}, Leads L n u p v → Leads L n u p x → v = x
  | [], _, _, _, h, k => by
    have h : _ = _ := h
    have k : _ = _ := k
    exact h.symm.trans k
  | _ :: _, _, _, _, ⟨c, h1, _, _, h4⟩, ⟨d, k1, _, _, k4⟩ => by
    rw [h1] at k1
    injection k1 with k1
    subst k1
    exact h4.uniq k4
theorem Leads.one {L : List Ch} {n : Int} {i : Nat} {u : ByteArray} {c : Ch} (h : L[i]? = some c) (h1 : c.src = u) (h2 : n ≤ c.most) : Leads L n u [i] c.dst := ⟨c, h, h1, h2, rfl⟩
theorem lead_iff {L : List Ch} {n : Int} : ∀ {way : List Int} {u v : ByteArray}, leadP L n u way = (v, true) ↔ 0 ≤ n ∧ ∃ p, way = nz p ∧ Leads L n u p v
  | [], u, v => by
    simp only [leadP, Prod.mk.injEq, decide_eq_true_eq]
    constructor
    · rintro ⟨rfl, h⟩
      exact ⟨h, [], rfl, rfl⟩
    · rintro ⟨h, p, e, k⟩
      cases p with
      | nil => exact ⟨k, h⟩
      | cons x p => simp [nz] at e
  | k :: way, u, v => by
    rw [leadP]
    by_cases hk : k < 0
    · rw [if_pos hk]
      constructor
      · intro h
        simp at h
      · rintro ⟨_, p, e, _⟩
        cases p with
        | nil => simp [nz] at e
        | cons x p =>
          simp only [nz, List.map_cons, List.cons.injEq] at e
          omega
    · rw [if_neg hk]
      cases hc : L[k.toNat]? with
      | none =>
        constructor
        · intro h
          simp at h
        · rintro ⟨_, p, e, g⟩
          cases p with
          | nil => simp [nz] at e
          | cons x p =>
            simp only [nz, List.map_cons, List.cons.injEq] at e
            obtain ⟨c, g1, _⟩ := g
            rw [e.1] at hc
            simp only [Int.toNat_natCast] at hc
            rw [hc] at g1
            cases g1
      | some c =>
        dsimp only
        split
        · rename_i hn
          constructor
          · intro h
            simp at h
          · rintro ⟨_, p, e, g⟩
            cases p with
            | nil => simp [nz] at e
            | cons x p =>
              simp only [nz, List.map_cons, List.cons.injEq] at e
              obtain ⟨c', g1, g2, g3, _⟩ := g
              rw [e.1] at hc
              simp only [Int.toNat_natCast] at hc
              rw [hc] at g1
              injection g1 with g1
              subst g1
              rcases hn with hn | hn
              · exact absurd g2 hn
              · omega
        · rename_i hn
          rw [lead_iff]
          constructor
          · rintro ⟨h0, p, e, g⟩
            refine ⟨h0, k.toNat :: p, ?_, c, hc, Classical.byContradiction fun e => hn (.inl e), Int.not_lt.1 fun e => hn (.inr e), g⟩
            simp only [nz, List.map_cons, List.cons.injEq]
            exact ⟨by omega, e⟩
          · rintro ⟨h0, p, e, g⟩
            cases p with
            | nil => simp [nz] at e
            | cons x p =>
              simp only [nz, List.map_cons, List.cons.injEq] at e
              obtain ⟨c', g1, g2, g3, g4⟩ := g
              rw [e.1] at hc
              simp only [Int.toNat_natCast] at hc
              rw [hc] at g1
              injection g1 with g1
              subst g1
              exact ⟨h0, p, e.2, g4⟩

/-! ### the best way -/
def Best (L : List Ch) (n : Int) (u : ByteArray) (T : List ByteArray) (a : List Nat) : Prop := (∃ v, v ∈ T ∧ Leads L n u a v) ∧ ∀ p v, Leads L n u p v → v ∈ T → sle a p
def NoWay (L : List Ch) (n : Int) (u : ByteArray) (T : List ByteArray) : Prop := ∀ p v, Leads L n u p v → v ∉ T
/-- what Path returns -/
def PathR (L : List Ch) (u : ByteArray) (T : List ByteArray) (n : Int) (a : List Nat) (is : Bool) : Prop :=
  (200 < L.length ∨ n < 0) ∧ a = [] ∧ is = false ∨ ¬ (200 < L.length ∨ n < 0) ∧ ((is = true ∧ Best L n u T a) ∨ (is = false ∧ a = [] ∧ NoWay L n u T))
theorem Best.uniq {L : List Ch} {n : Int} {u : ByteArray} {T : List ByteArray} {a b : List Nat} (h : Best L n u T a) (k : Best L n u T b) : a = b := by
  obtain ⟨⟨v, hv, h1⟩, h2⟩ := h
  obtain ⟨⟨x, hx, k1⟩, k2⟩ := k
  exact sle_anti (h2 _ _ k1 hx) (k2 _ _ h1 hv)

/-! ### the search -/
abbrev Mw := ByteArray → Option (List Nat)
def wt (m : Mw) (t : ByteArray) : List Nat := (m t).getD []
/-- between two types of the queue: done D, waiting Q -/
structure Srch (L : List Ch) (u : ByteArray) (T : List ByteArray) (n : Int) (m : Mw) (D Q : List ByteArray) : Prop where
  root : m u = some []
  leads : ∀ t p, m t = some p → Leads L n u p t
  dom : ∀ t, (∃ p, m t = some p) ↔ t ∈ D ++ Q
  sorted : (D ++ Q).Pairwise fun a b => sl (wt m a) (wt m b)
  far : ∀ t ∈ D, t ∉ T
  front : ∀ d ∈ D, ∀ i c, L[i]? = some c → c.src = d → n ≤ c.most → ∃ p, m c.dst = some p ∧ sle p (wt m d ++ [i])
  near : ∀ q ∈ Q, ∀ q' ∈ Q, sl (wt m q) (wt m q' ++ [0])
  len : ∀ t p, m t = some p → p.length ≤ D.length
/-- within one: at is being worked on, the changes before i are seen -/
structure Scan (L : List Ch) (u : ByteArray) (T : List ByteArray) (n : Int) (m : Mw) (D : List ByteArray) (at_ : ByteArray) (Q : List ByteArray) (i : Nat) : Prop where
  root : m u = some []
  leads : ∀ t p, m t = some p → Leads L n u p t
  dom : ∀ t, (∃ p, m t = some p) ↔ t ∈ D ++ at_ :: Q
  sorted : (D ++ at_ :: Q).Pairwise fun a b => sl (wt m a) (wt m b)
  far : ∀ t ∈ D ++ [at_], t ∉ T
  front : ∀ d ∈ D, ∀ i c, L[i]? = some c → c.src = d → n ≤ c.most → ∃ p, m c.dst = some p ∧ sle p (wt m d ++ [i])
  frontA : ∀ k, k < i → ∀ c, L[k]? = some c → c.src = at_ → n ≤ c.most → ∃ p, m c.dst = some p ∧ sle p (wt m at_ ++ [k])
  near : ∀ q ∈ Q, sl (wt m q) (wt m at_ ++ [i])
  len : ∀ t p, m t = some p → p.length ≤ D.length + 1
  lenA : (wt m at_).length ≤ D.length
theorem wt_eq {m : Mw} {t : ByteArray} {p : List Nat} (h : m t = some p) : wt m t = p := by simp [wt, h]
theorem pair_nodup {m : Mw} {l : List ByteArray} (h : l.Pairwise fun a b => sl (wt m a) (wt m b)) : l.Nodup := by
  refine List.Pairwise.imp (S := fun a b => a ≠ b) (fun {a b} h e => ?_) h
  subst e
  exact sl_irrefl _ h
theorem Srch.begin (L : List Ch) (u : ByteArray) (T : List ByteArray) (n : Int) : Srch L u T n (mset mnone u []) [] [u] where
  root := by simp [mset]
  leads := fun t p h => by
    unfold mset mnone at h
    split at h
    · rename_i e
      injection h with h
      subst h e
      exact rfl
    · cases h
  dom := fun t => by
    unfold mset mnone
    by_cases e : t = u <;> simp [e]
  sorted := by simp
  far := by simp
  front := by simp
  near := fun q hq q' hq' => sl_one _ _ |> fun h => by
    simp only [List.mem_singleton] at hq hq'
    subst hq hq'
    exact h
  len := fun t p h => by
    unfold mset mnone at h
    split at h
    · injection h with h
      subst h
      exact Nat.le_refl _
    · cases h
theorem Srch.open_ {L : List Ch} {u : ByteArray} {T : List ByteArray} {n : Int} {m : Mw} {D Q : List ByteArray} {at_ : ByteArray} (h : Srch L u T n m D (at_ :: Q)) (hT : at_ ∉ T) : Scan L u T n m D at_ Q 0 where
  root := h.root
  leads := h.leads
  dom := h.dom
  sorted := h.sorted
  far := fun t ht => by
    rcases List.mem_append.1 ht with e | e
    · exact h.far t e
    · rw [List.mem_singleton.1 e]
      exact hT
  front := h.front
  frontA := fun k hk => by omega
  near := fun q hq => h.near q (List.mem_cons_of_mem _ hq) at_ (by simp)
  len := fun t p e => by have := h.len t p e; omega
  lenA := by
    obtain ⟨p, hp⟩ := (h.dom at_).2 (by simp)
    rw [wt_eq hp]
    exact h.len _ _ hp
theorem Scan.skip {L : List Ch} {u : ByteArray} {T : List ByteArray} {n : Int} {m : Mw} {D Q : List ByteArray} {at_ : ByteArray} {i : Nat} {c : Ch} (h : Scan L u T n m D at_ Q i) (hc : L[i]? = some c) (hn : c.src ≠ at_ ∨ c.most < n ∨ ∃ p, m c.dst = some p) : Scan L u T n m D at_ Q (i + 1) where
  root := h.root
  leads := h.leads
  dom := h.dom
  sorted := h.sorted
  far := h.far
  front := h.front
  frontA := fun k hk c' hc' h1 h2 => by
    by_cases e : k < i
    · exact h.frontA k e c' hc' h1 h2
    · have : k = i := by omega
      subst this
      rw [hc] at hc'
      injection hc' with hc'
      subst hc'
      rcases hn with hn | hn | ⟨p, hp⟩
      · exact absurd h1 hn
      · omega
      · refine ⟨p, hp, .inr ?_⟩
        have hm := (h.dom c.dst).1 ⟨p, hp⟩
        rw [← wt_eq hp]
        rw [List.mem_append, List.mem_cons] at hm
        rcases hm with hm | hm | hm
        · exact sl_trans ((List.pairwise_append.1 h.sorted).2.2 _ hm _ (by simp)) (sl_one _ _)
        · rw [hm]
          exact sl_one _ _
        · exact h.near _ hm
  near := fun q hq => sl_trans (h.near q hq) (sl_last _ (by omega))
  len := h.len
  lenA := h.lenA
theorem Scan.add {L : List Ch} {u : ByteArray} {T : List ByteArray} {n : Int} {m : Mw} {D Q : List ByteArray} {at_ : ByteArray} {i : Nat} {c : Ch} (h : Scan L u T n m D at_ Q i) (hc : L[i]? = some c) (h1 : c.src = at_) (h2 : n ≤ c.most) (hm : m c.dst = none) :
    Scan L u T n (mset m c.dst (wt m at_ ++ [i])) D at_ (Q ++ [c.dst]) (i + 1) := by
  have hat : ∃ p, m at_ = some p := (h.dom at_).2 (by simp)
  obtain ⟨pa, hpa⟩ := hat
  have hold : ∀ t p, m t = some p → mset m c.dst (wt m at_ ++ [i]) t = some p := fun t p ht => by
    rw [mset_ne]
    · exact ht
    · rintro rfl
      rw [hm] at ht
      cases ht
  have hw : ∀ t, t ∈ D ++ at_ :: Q → wt (mset m c.dst (wt m at_ ++ [i])) t = wt m t := fun t ht => by
    obtain ⟨p, hp⟩ := (h.dom t).2 ht
    rw [wt_eq (hold t p hp), wt_eq hp]
  have hnew : wt (mset m c.dst (wt m at_ ++ [i])) c.dst = wt m at_ ++ [i] := by simp [wt, mset]
  have hbef : ∀ t, t ∈ D ++ at_ :: Q → sl (wt m t) (wt m at_ ++ [i]) := fun t ht => by
    rw [List.mem_append, List.mem_cons] at ht
    rcases ht with e | e | e
    · exact sl_trans ((List.pairwise_append.1 h.sorted).2.2 _ e _ (by simp)) (sl_one _ _)
    · rw [e]
      exact sl_one _ _
    · exact h.near _ e
  have hsplit : D ++ at_ :: (Q ++ [c.dst]) = (D ++ at_ :: Q) ++ [c.dst] := by simp
  exact {
    root := hold _ _ h.root
    leads := fun t p ht => by
      by_cases e : t = c.dst
      · subst e
        rw [show mset m c.dst (wt m at_ ++ [i]) c.dst = some (wt m at_ ++ [i]) by simp [mset]] at ht
        injection ht with ht
        subst ht
        rw [wt_eq hpa]
        exact (h.leads _ _ hpa).app (Leads.one hc h1 h2)
      · rw [mset_ne _ _ e] at ht
        exact h.leads t p ht
    dom := fun t => by
      rw [hsplit, List.mem_append, List.mem_singleton, ← h.dom]
      by_cases e : t = c.dst
      · subst e
        simp [mset]
      · rw [mset_ne _ _ e]
        simp [e]
    sorted := by
      rw [hsplit, List.pairwise_append]
      refine ⟨h.sorted.imp_of_mem fun ha hb k => by rw [hw _ ha, hw _ hb]; exact k, by simp, fun x hx y hy => ?_⟩
      rw [List.mem_singleton.1 hy, hw x hx, hnew]
      exact hbef x hx
    far := h.far
    front := fun d hd k c' g1 g2 g3 => by
      obtain ⟨p, hp, hl⟩ := h.front d hd k c' g1 g2 g3
      exact ⟨p, hold _ _ hp, by rw [hw d (by simp [hd])]; exact hl⟩
    frontA := fun k hk c' g1 g2 g3 => by
      rw [hw at_ (by simp)]
      by_cases e : k < i
      · obtain ⟨p, hp, hl⟩ := h.frontA k e c' g1 g2 g3
        exact ⟨p, hold _ _ hp, hl⟩
      · have : k = i := by omega
        subst this
        rw [hc] at g1
        injection g1 with g1
        subst g1
        exact ⟨_, by simp [mset], sle_refl _⟩
    near := fun q hq => by
      rw [hw at_ (by simp)]
      rcases List.mem_append.1 hq with e | e
      · rw [hw q (by simp [e])]
        exact sl_trans (h.near q e) (sl_last _ (by omega))
      · rw [List.mem_singleton.1 e, hnew]
        exact sl_last _ (by omega)
    len := fun t p ht => by
      by_cases e : t = c.dst
      · subst e
        rw [show mset m c.dst (wt m at_ ++ [i]) c.dst = some (wt m at_ ++ [i]) by simp [mset]] at ht
        injection ht with ht
        subst ht
        have := h.lenA
        simp
        omega
      · rw [mset_ne _ _ e] at ht
        exact h.len t p ht
    lenA := by
      rw [hw at_ (by simp)]
      exact h.lenA }
theorem Scan.close {L : List Ch} {u : ByteArray} {T : List ByteArray} {n : Int} {m : Mw} {D Q : List ByteArray} {at_ : ByteArray} {i : Nat} (h : Scan L u T n m D at_ Q i) (hi : L.length ≤ i) : Srch L u T n m (D ++ [at_]) Q where
  root := h.root
  leads := h.leads
  dom := fun t => by rw [h.dom]; simp
  sorted := by
    have := h.sorted
    rwa [show D ++ at_ :: Q = D ++ [at_] ++ Q by simp] at this
  far := h.far
  front := fun d hd k c g1 g2 g3 => by
    rcases List.mem_append.1 hd with e | e
    · exact h.front d e k c g1 g2 g3
    · rw [List.mem_singleton.1 e] at g2 ⊢
      exact h.frontA k (by have := (List.getElem?_eq_some_iff.1 g1).1; omega) c g1 g2 g3
  near := fun q hq q' hq' => by
    have h1 := h.near q hq
    have h2 : sl (wt m at_) (wt m q') := (List.pairwise_cons.1 (List.pairwise_append.1 h.sorted).2.1).1 _ hq'
    exact sl_trans h1 (sl_snoc h2 _ _)
  len := fun t p e => by
    have := h.len t p e
    simpa using this
/-- every way is led by something that waits, or ends in something that is done -/
theorem Srch.meets {L : List Ch} {u : ByteArray} {T : List ByteArray} {n : Int} {m : Mw} {D Q : List ByteArray} (h : Srch L u T n m D Q) : ∀ (k : Nat) (p : List Nat) (t : ByteArray), p.length = k → Leads L n u p t → (t ∈ D ∧ ∃ w, m t = some w ∧ sle w p) ∨ ∃ q ∈ Q, sle (wt m q) p
  | 0, p, t, hk, hp => by
    have : p = [] := List.length_eq_zero_iff.1 hk
    subst this
    have e : u = t := hp
    subst e
    have := (h.dom u).1 ⟨[], h.root⟩
    rcases List.mem_append.1 this with e | e
    · exact .inl ⟨e, [], h.root, sle_refl _⟩
    · exact .inr ⟨u, e, by rw [wt_eq h.root]; exact sle_refl _⟩
  | k + 1, p, t, hk, hp => by
    have hne : p ≠ [] := fun e => by rw [e] at hk; cases hk
    have e := List.dropLast_concat_getLast hne
    rw [← e] at hp ⊢
    generalize p.getLast hne = i at *
    have hk' : p.dropLast.length = k := by rw [List.length_dropLast]; omega
    generalize p.dropLast = p' at *
    obtain ⟨v, h1, c, h2, h3, h4, h5⟩ := hp.split
    have h5 : c.dst = t := h5
    rcases h.meets k p' v hk' h1 with ⟨hv, w, hw, hl⟩ | ⟨q, hq, hl⟩
    · obtain ⟨x, hx, hxl⟩ := h.front v hv i c h2 h3 h4
      rw [h5] at hx
      rw [wt_eq hw] at hxl
      have hle : sle x (p' ++ [i]) := sle_trans hxl (sle_snoc hl i)
      have := (h.dom t).1 ⟨x, hx⟩
      rcases List.mem_append.1 this with e | e
      · exact .inl ⟨e, x, hx, hle⟩
      · exact .inr ⟨t, e, by rw [wt_eq hx]; exact hle⟩
    · exact .inr ⟨q, hq, sle_trans hl (.inr (sl_one _ _))⟩
theorem Srch.found {L : List Ch} {u : ByteArray} {T : List ByteArray} {n : Int} {m : Mw} {D Q : List ByteArray} {at_ : ByteArray} {a : List Nat} (h : Srch L u T n m D (at_ :: Q)) (hT : at_ ∈ T) (ha : m at_ = some a) : Best L n u T a := by
  refine ⟨⟨at_, hT, h.leads _ _ ha⟩, fun p v hp hv => ?_⟩
  rcases h.meets _ p v rfl hp with ⟨hd, _⟩ | ⟨q, hq, hl⟩
  · exact absurd hv (h.far v hd)
  · rcases List.mem_cons.1 hq with e | e
    · rw [e, wt_eq ha] at hl
      exact hl
    · have := (List.pairwise_cons.1 (List.pairwise_append.1 h.sorted).2.1).1 _ e
      rw [wt_eq ha] at this
      exact .inr (sl_sle this hl)
theorem Srch.nothing {L : List Ch} {u : ByteArray} {T : List ByteArray} {n : Int} {m : Mw} {D : List ByteArray} (h : Srch L u T n m D []) : NoWay L n u T := fun p v hp hv => by
  rcases h.meets _ p v rfl hp with ⟨hd, _⟩ | ⟨q, hq, _⟩
  · exact h.far v hd hv
  · cases hq
/-- types that a way can come to -/
theorem lead_in {L : List Ch} {n : Int} : ∀ {p : List Nat} {u t : ByteArray}, Leads L n u p t → t ∈ u :: L.map Ch.dst
  | [], u, t, h => by
    have : u = t := h
    simp [this]
  | i :: p, u, t, ⟨c, h1, _, _, h4⟩ => by
    have := lead_in h4
    rw [List.mem_cons] at this ⊢
    rcases this with e | e
    · exact .inr (e ▸ List.mem_map.2 ⟨c, List.mem_of_getElem? h1, rfl⟩)
    · exact .inr e
theorem nodup_le {α : Type} : ∀ {l m : List α}, l.Nodup → (∀ x ∈ l, x ∈ m) → l.length ≤ m.length
  | [], m, _, _ => Nat.zero_le _
  | x :: l, m, hn, hs => by
    obtain ⟨h1, h2⟩ := List.nodup_cons.1 hn
    obtain ⟨m1, m2, rfl⟩ := List.append_of_mem (hs x (by simp))
    have : l.length ≤ (m1 ++ m2).length := nodup_le h2 fun y hy => by
      have := hs y (by simp [hy])
      rw [List.mem_append, List.mem_cons] at this
      rw [List.mem_append]
      rcases this with h | h | h
      · exact .inl h
      · exact absurd (h ▸ hy) h1
      · exact .inr h
    simp at this ⊢
    omega
theorem Srch.small {L : List Ch} {u : ByteArray} {T : List ByteArray} {n : Int} {m : Mw} {D Q : List ByteArray} (h : Srch L u T n m D Q) : D.length + Q.length ≤ L.length + 1 := by
  have := nodup_le (l := D ++ Q) (m := u :: L.map Ch.dst) (pair_nodup h.sorted) fun t ht => by
    obtain ⟨p, hp⟩ := (h.dom t).2 ht
    exact lead_in (h.leads _ _ hp)
  simpa using this
theorem Scan.small {L : List Ch} {u : ByteArray} {T : List ByteArray} {n : Int} {m : Mw} {D Q : List ByteArray} {at_ : ByteArray} {i : Nat} (h : Scan L u T n m D at_ Q i) : D.length + 1 + Q.length ≤ L.length + 1 := by
  have := nodup_le (l := D ++ at_ :: Q) (m := u :: L.map Ch.dst) (pair_nodup h.sorted) fun t ht => by
    obtain ⟨p, hp⟩ := (h.dom t).2 ht
    exact lead_in (h.leads _ _ hp)
  simp at this
  omega
end Go.Proofs.Ytkacfhhpmpmhkaa
