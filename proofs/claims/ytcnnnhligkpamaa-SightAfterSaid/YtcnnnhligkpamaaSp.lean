import Derived.Test.YtcnnnhligkpamaaSn
namespace Go.Proofs.Ytcnnnhligkpamaa
open Go.Dec Go.RowKit
set_option maxHeartbeats 400000

/-! ### stays -/
def endsE (e : Ev) : Int × Bool := if e.kind = 6 then (e.author, true) else (e.who, decide (e.kind = 7))
def En (e : Ev) (a g : Int) : Prop := (e.kind = 6 ∧ e.author = a ∨ e.kind = 7 ∧ e.who = a) ∧ e.group = g
instance (e : Ev) (a g : Int) : Decidable (En e a g) := by unfold En; infer_instance
theorem ends_En (e : Ev) (a g : Int) : ((endsE e).2 = true ∧ (endsE e).1 = a) ∧ e.group = g ↔ En e a g := by
  unfold endsE En
  by_cases h : e.kind = 6
  · simp [h]
  · simp [h]
theorem En_kind {e : Ev} {a g : Int} (h : En e a g) : e.kind ≠ 5 := by
  unfold En at h
  omega
def opn (out : List Sy) (a g : Int) : Prop := ∃ s ∈ out, s.to = -1 ∧ s.acc = a ∧ s.grp = g
instance (out : List Sy) (a g : Int) : Decidable (opn out a g) := by unfold opn; infer_instance
def shut (n : Int) (e : Ev) (s : Sy) : Sy := if s.to = -1 ∧ En e s.acc s.grp then { s with to := n } else s
def step (n : Nat) (out : List Sy) (e : Ev) : List Sy := out.map (shut n e) ++ (if e.kind = 5 ∧ ¬ opn out e.who e.group then [⟨e.who, e.group, n, -1⟩] else [])
def runS : Nat → List Sy → List Ev → List Sy
  | _, out, [] => out
  | n, out, e :: l => runS (n + 1) (step n out e) l
def S (l : List Ev) : List Sy := runS 0 [] l
theorem runS_app (a b : List Ev) : ∀ n out, runS n out (a ++ b) = runS (n + a.length) (runS n out a) b := by
  induction a with
  | nil => intro n out; rfl
  | cons e a ih =>
    intro n out
    rw [List.cons_append, runS, ih, runS, List.length_cons, show n + 1 + a.length = n + (a.length + 1) by omega]
theorem S_snoc (l : List Ev) (e : Ev) : S (l ++ [e]) = step l.length (S l) e := by
  unfold S
  rw [runS_app, Nat.zero_add]
  rfl
theorem step_len (n : Nat) (out : List Sy) (e : Ev) : (step n out e).length ≤ out.length + 1 := by
  unfold step
  rw [List.length_append, List.length_map]
  split <;> simp
theorem snoc_ind {α : Type} {p : List α → Prop} (h0 : p []) (h1 : ∀ l x, p l → p (l ++ [x])) : ∀ l, p l := by
  intro l
  have key : ∀ r : List α, p r.reverse := by
    intro r
    induction r with
    | nil => exact h0
    | cons x r ih =>
      rw [List.reverse_cons]
      exact h1 _ _ ih
  have := key l.reverse
  rwa [List.reverse_reverse] at this
theorem S_len (l : List Ev) : (S l).length ≤ l.length := by
  revert l
  refine snoc_ind (Nat.le_refl _) fun l e ih => ?_
  rw [S_snoc]
  have := step_len l.length (S l) e
  simp
  omega
/-- where a stay begins and ends -/
theorem S_rng : ∀ l : List Ev, ∀ s ∈ S l, 0 ≤ s.frm ∧ s.frm < l.length ∧ (s.to = -1 ∨ (s.frm < s.to ∧ s.to < l.length)) := by
  refine snoc_ind (fun s h => by cases h) fun l e ih s hs => ?_
  rw [S_snoc] at hs
  unfold step at hs
  simp only [List.length_append, List.length_cons, List.length_nil]
  rcases List.mem_append.1 hs with h | h
  · obtain ⟨s', h1, rfl⟩ := List.mem_map.1 h
    obtain ⟨g1, g2, g3⟩ := ih s' h1
    unfold shut
    split
    · rename_i hc
      exact ⟨g1, by dsimp only; omega, .inr ⟨by dsimp only; omega, by dsimp only; omega⟩⟩
    · exact ⟨g1, by omega, by omega⟩
  · split at h
    · rw [List.mem_singleton.1 h]
      exact ⟨by dsimp only; omega, by dsimp only; omega, .inl rfl⟩
    · cases h

theorem opn_step (n : Nat) (out : List Sy) (e : Ev) (hn : (n : Int) ≠ -1) (a g : Int) : opn (step n out e) a g ↔ (e.kind = 5 ∧ e.who = a ∧ e.group = g) ∨ (¬ En e a g ∧ opn out a g) := by
  constructor
  · rintro ⟨s, hs, h1, h2, h3⟩
    unfold step at hs
    rcases List.mem_append.1 hs with h | h
    · obtain ⟨s', g1, rfl⟩ := List.mem_map.1 h
      unfold shut at h1 h2 h3
      split at h1
      · exact absurd h1 hn
      · rename_i hc
        rw [if_neg hc] at h2 h3
        exact .inr ⟨fun he => hc ⟨h1, by rw [h2, h3]; exact he⟩, s', g1, h1, h2, h3⟩
    · split at h
      · rename_i hc
        rw [List.mem_singleton.1 h] at h2 h3
        exact .inl ⟨hc.1, h2, h3⟩
      · cases h
  · rintro (⟨h1, rfl, rfl⟩ | ⟨h1, s, hs, h2, rfl, rfl⟩)
    · by_cases ho : opn out e.who e.group
      · obtain ⟨s, hs, h2, h3, h4⟩ := ho
        refine ⟨s, List.mem_append.2 (.inl (List.mem_map.2 ⟨s, hs, ?_⟩)), h2, h3, h4⟩
        unfold shut
        rw [if_neg]
        exact fun hc => En_kind hc.2 h1
      · exact ⟨⟨e.who, e.group, n, -1⟩, List.mem_append.2 (.inr (by rw [if_pos ⟨h1, ho⟩]; simp)), rfl, rfl, rfl⟩
    · refine ⟨s, List.mem_append.2 (.inl (List.mem_map.2 ⟨s, hs, ?_⟩)), h2, rfl, rfl⟩
      unfold shut
      rw [if_neg]
      exact fun hc => h1 hc.2
/-- the last event of a place is a join; the events in reverse -/
def inP : List Ev → Int → Int → Bool
  | [], _, _ => false
  | e :: l, a, g => if e.kind = 5 ∧ e.who = a ∧ e.group = g then true else if En e a g then false else inP l a g
theorem inP_opn (r : List Ev) (a g : Int) : inP r a g = decide (opn (S r.reverse) a g) := by
  induction r with
  | nil => exact (decide_eq_false (fun ⟨s, h, _⟩ => by cases h)).symm
  | cons e r ih =>
    rw [List.reverse_cons, S_snoc, inP, ih]
    have := opn_step r.reverse.length (S r.reverse) e (by omega) a g
    split
    · rename_i h
      exact (decide_eq_true (this.2 (.inl h))).symm
    · rename_i h
      split
      · rename_i h2
        exact (decide_eq_false fun e => (this.1 e).elim h fun e => e.1 h2).symm
      · rename_i h2
        rw [decide_eq_decide, this]
        exact ⟨fun e => .inr ⟨h2, e⟩, fun e => e.elim (fun e => absurd e h) And.right⟩

/-! ### the other way to the stays -/
def firstE : List Ev → Int → Int → Int → Int
  | [], _, _, _ => -1
  | e :: l, k, a, g => if En e a g then k else firstE l (k + 1) a g
theorem drop_next {α : Type} {l : List α} {j : Nat} {x : α} (h : l[j]? = some x) : l.drop j = x :: l.drop (j + 1) := by
  obtain ⟨hj, rfl⟩ := List.getElem?_eq_some_iff.1 h
  exact List.drop_eq_getElem_cons hj
def close (l : List Ev) (i : Nat) (s : Sy) : Sy := if s.to = -1 then { s with to := firstE (l.drop i) i s.acc s.grp } else s
def half (l : List Ev) (i : Nat) : List Sy := (S (l.take i)).map (close l i)
theorem half_all (l : List Ev) : half l l.length = S l := by
  unfold half
  rw [List.take_length]
  refine (List.map_congr_left fun s _ => ?_).trans (List.map_id _)
  unfold close
  rw [List.drop_length]
  split
  · rename_i h
    rw [firstE, ← h]
    rfl
  · rfl
theorem half_0 (l : List Ev) : half l 0 = [] := rfl
theorem close_shut (l : List Ev) {i : Nat} {e : Ev} (h : l[i]? = some e) (s : Sy) : close l (i + 1) (shut i e s) = close l i s := by
  by_cases h1 : s.to = -1
  · by_cases h2 : En e s.acc s.grp
    · have e1 : shut i e s = { s with to := i } := if_pos ⟨h1, h2⟩
      rw [e1]
      unfold close
      rw [if_neg (show ¬ ((i : Int) = -1) by omega), if_pos h1, drop_next h, firstE, if_pos h2]
    · have e1 : shut i e s = s := if_neg fun hc => h2 hc.2
      rw [e1]
      unfold close
      rw [if_pos h1, if_pos h1, drop_next h, firstE, if_neg h2]
      rfl
  · have e1 : shut i e s = s := if_neg fun hc => h1 hc.1
    rw [e1]
    unfold close
    rw [if_neg h1, if_neg h1]
theorem half_succ (l : List Ev) {i : Nat} {e : Ev} (h : l[i]? = some e) :
    half l (i + 1) = half l i ++ (if e.kind = 5 ∧ inP (l.take i).reverse e.who e.group = false then [⟨e.who, e.group, i, firstE (l.drop (i + 1)) (i + 1) e.who e.group⟩] else []) := by
  have hi := (List.getElem?_eq_some_iff.1 h).1
  unfold half
  rw [take_next h, S_snoc, step, List.map_append, List.map_map, List.length_take, Nat.min_eq_left (by omega)]
  congr 1
  · exact List.map_congr_left fun s _ => close_shut l h s
  · rw [inP_opn, List.reverse_reverse]
    by_cases hc : e.kind = 5 ∧ ¬ opn (S (l.take i)) e.who e.group
    · rw [if_pos hc, if_pos ⟨hc.1, decide_eq_false hc.2⟩]
      rfl
    · rw [if_neg hc, if_neg fun c => hc ⟨c.1, of_decide_eq_false c.2⟩]
      rfl

/-! ### sight -/
def netP (a : Int) : Int := if a < 0 ∨ 1999 < a then -1 else a.tmod 12
def keyP (l : List Ev) (g frm id : Int) : Bool := ((l.take (id + 1).toNat).drop frm.toNat).any fun e => decide (e.kind = 8 ∧ e.group = g)
def letsP (p : Pf) (s : Sy) (l : List Ev) (id : Int) : Bool :=
  if p.history ≠ 1 ∧ id ≤ s.frm then false else if s.to = -1 ∨ id < s.to then true else if p.remove ≠ 1 then false else !keyP l s.grp (s.to + 1) id
def seesP (nets : List Pf) (l : List Ev) (a id : Int) : Bool := match l[id.toNat]? with
  | some e => decide (e.author = a) || (S l).any fun s => decide (s.acc = a ∧ s.grp = e.group) && nets.all fun p => letsP p s l id
  | none => false
def SeesP (nets : List Pf) (l : List Ev) (a id : Int) : Bool := decide (0 ≤ netP a ∧ 0 ≤ id ∧ id < l.length) && seesP nets l a id
def ToP (nets : List Pf) (l : List Ev) (n id : Int) : Bool := match l[id.toNat]? with
  | some e => decide (0 ≤ id) && ((e.author :: (S l).map Sy.acc).any fun a => decide (0 ≤ netP a ∧ netP a = n) && seesP nets l a id)
  | none => false
def AllP (nets : List Pf) (l : List Ev) (a : Int) : List Int := ((List.range l.length).filter fun i : Nat => SeesP nets l a (i : Int)).map fun i : Nat => (i : Int)
end Go.Proofs.Ytcnnnhligkpamaa
