import Derived.Test.YtjmjackeeiglmaaPt
namespace Go.Proofs.Ytjmjackeeiglmaa
open Go.Dec Go.RowKit
set_option maxHeartbeats 400000

/-! ### what reach is -/
theorem idx_ge (k : Int) (bs : List Bool) (x : Int) (h : x ∈ idx k bs) : k ≤ x := ((mem_idx k bs x).1 h).1
theorem idx_sorted : ∀ (k : Int) (bs : List Bool), (idx k bs).Pairwise (· < ·)
  | k, [] => by simp [idx]
  | k, a :: r => by
    cases a
    · simpa [idx] using idx_sorted (k + 1) r
    · simp only [idx, if_true, List.pairwise_cons]
      exact ⟨fun x hx => by have := idx_ge _ _ _ hx; omega, idx_sorted (k + 1) r⟩
theorem fl_append (roots : List Int) (l : List Pl) : ∀ (m : List Pl), ∃ t, fl roots (l ++ m) = fl roots l ++ t := by
  intro m
  have : ∀ (m : List Pl) (acc : List Bool), ∃ t, m.foldl (fun acc p => acc ++ [rule roots acc p]) acc = acc ++ t := by
    intro m
    induction m with
    | nil => intro acc; exact ⟨[], by simp⟩
    | cons p m ih =>
      intro acc
      obtain ⟨t, ht⟩ := ih (acc ++ [rule roots acc p])
      exact ⟨[rule roots acc p] ++ t, by rw [List.foldl_cons, ht]; simp⟩
  unfold fl
  rw [List.foldl_append]
  exact this m _
theorem fl_take (roots : List Int) (l : List Pl) (i : Nat) (h : i ≤ l.length) : fl roots (l.take i) = (fl roots l).take i := by
  obtain ⟨t, ht⟩ := fl_append roots (l.take i) (l.drop i)
  rw [List.take_append_drop] at ht
  have e : (fl roots (l.take i)).length = i := by rw [fl_len, List.length_take]; omega
  rw [ht, List.take_append_of_le_length (by omega)]
  exact (List.take_of_length_le (by omega)).symm
theorem fl_get (roots : List Int) (l : List Pl) (i : Nat) (p : Pl) (h : l[i]? = some p) : (fl roots l)[i]? = some (rule roots (fl roots (l.take i)) p) := by
  obtain ⟨hi, _⟩ := List.getElem?_eq_some_iff.1 h
  have h1 := fl_take roots l (i + 1) (by omega)
  rw [take_next h, fl_snoc] at h1
  have h2 : ((fl roots l).take (i + 1))[i]? = (fl roots l)[i]? := by rw [List.getElem?_take_of_lt (by omega)]
  rw [← h2, ← h1, List.getElem?_append_right (by rw [fl_len, List.length_take]; omega), fl_len, List.length_take, Nat.min_eq_left (by omega), Nat.sub_self]
  rfl
/-- reached: a root, or from a reached one -/
theorem reach_iff {roots : List Int} {l : List Pl} (hR : RtP l) {i : Nat} {p : Pl} (h : l[i]? = some p) : ((i : Int) ∈ idx 0 (fl roots l)) ↔ ((i : Int) ∈ roots ∨ ∃ f ∈ p.frm, f ∈ idx 0 (fl roots l)) := by
  have hi := (List.getElem?_eq_some_iff.1 h).1
  rw [mem_idx, Int.sub_zero, Int.toNat_natCast, fl_get roots l i p h]
  have hlen : (fl roots (l.take i)).length = i := by rw [fl_len, List.length_take]; omega
  have key : (p.frm.any fun f => (fl roots (l.take i)).getD f.toNat false) = true ↔ ∃ f ∈ p.frm, f ∈ idx 0 (fl roots l) := by
    rw [List.any_eq_true]
    refine ⟨fun ⟨f, hf, hg⟩ => ⟨f, hf, ?_⟩, fun ⟨f, hf, hg⟩ => ⟨f, hf, ?_⟩⟩
    · obtain ⟨f0, f1⟩ := (hR.ok i p h).mem hf
      rw [fl_take roots l i (by omega), List.getD_eq_getElem?_getD, List.getElem?_take_of_lt (by omega), ← List.getD_eq_getElem?_getD, ← mem_idx0 f0] at hg
      simpa using hg
    · obtain ⟨f0, f1⟩ := (hR.ok i p h).mem hf
      rw [fl_take roots l i (by omega), List.getD_eq_getElem?_getD, List.getElem?_take_of_lt (by omega), ← List.getD_eq_getElem?_getD, ← mem_idx0 f0]
      simpa using hg
  unfold rule
  rw [hlen]
  simp only [Option.some.injEq, Bool.or_eq_true, decide_eq_true_eq, key]
  exact ⟨fun h => h.2, fun h => ⟨by omega, h⟩⟩
theorem reach_lt {roots : List Int} {l : List Pl} {x : Int} (h : x ∈ idx 0 (fl roots l)) : 0 ≤ x ∧ x < l.length := by
  obtain ⟨h0, h1⟩ := (mem_idx 0 _ x).1 h
  have := (List.getElem?_eq_some_iff.1 h1).1
  rw [fl_len] at this
  omega
def Closed (l : List Pl) (set : List Int) : Prop := ∀ (i : Nat) (p : Pl), l[i]? = some p → ∀ f ∈ p.frm, f ∈ set → (i : Int) ∈ set
theorem reach_least {roots set : List Int} {l : List Pl} (hR : RtP l) (hr : ∀ r ∈ roots, 0 ≤ r → r < l.length → r ∈ set) (hc : Closed l set) : ∀ (n : Nat) (i : Nat), i < n → (i : Int) ∈ idx 0 (fl roots l) → (i : Int) ∈ set
  | 0, i, h, _ => by omega
  | n + 1, i, h, hm => by
    obtain ⟨_, hlt⟩ := reach_lt hm
    have hp : l[i]? = some (l[i]'(by omega)) := List.getElem?_eq_getElem (by omega)
    rcases (reach_iff hR hp).1 hm with e | ⟨f, hf, hg⟩
    · exact hr _ e (by omega) hlt
    · obtain ⟨f0, f1⟩ := (hR.ok i _ hp).mem hf
      have : ((f.toNat : Nat) : Int) = f := by omega
      have ih := reach_least hR hr hc n f.toNat (by omega) (by rw [this]; exact hg)
      rw [this] at ih
      exact hc i _ hp f hf ih

theorem closed_c (w : World) (s t : Sl) (l : List Pl) (set : List Int) (hP : RdP w s l) (hs : Rd w ci 1 t set) (hl : l.length ≤ 1000000) (hf : ∀ p ∈ l, p.frm.length ≤ 1000000) (hsl : set.length ≤ 1000000) :
    callC Try.prog 20 #[s.v, t.v] (fun (r : Bool) => .bool r) w fun r w' => (r = true ↔ Closed l set) ∧ w = w' := by
  have hPl := hP.len
  refine D20 _ _ w _ ?_
  unfold F20
  refine ⟨fun i w' => 0 ≤ i ∧ i ≤ l.length ∧ (∀ (j : Nat) p, (j : Int) < i → l[j]? = some p → ∀ f ∈ p.frm, f ∈ set → (j : Int) ∈ set) ∧ w = w', fun i _ => (l.length - i).toNat, ⟨by omega, by omega, fun j p hj => by omega, rfl⟩, ?_⟩
  rintro i w1 ⟨i0, i1, hok, rfl⟩
  refine ⟨fun hi => ?_, fun hi => ?_⟩
  · have hlt : i < l.length := by simpa [hPl] using hi
    obtain ⟨x, hx⟩ := getq i0 hlt
    have hxl := hf x (List.mem_of_getElem? hx)
    have rd : ∀ {K : Addr → Prop}, (∀ p fs, AtC w p [.int .i64 x.kind, .int .i64 x.id, fs.v] → Rd w ci 1 fs x.frm → K p) → ix s i 3 K := fun kk => hP.ix i0 hlt fun p y fs hy hat hfs => by
      rw [hx] at hy
      injection hy with hy
      subst hy
      exact kk p fs hat hfs
    refine ⟨fun k w' => 0 ≤ k ∧ k ≤ x.frm.length ∧ (∀ f ∈ x.frm.take k.toNat, f ∈ set → i ∈ set) ∧ w = w', fun k _ => (x.frm.length - k).toNat, ⟨by omega, by omega, by simp, rfl⟩, ?_⟩
    rintro k w2 ⟨k0, k1, hk, rfl⟩
    refine rd fun p fs hat hfs => hat.ld (j := 2) (x := fs) rfl ⟨fun hc => ?_, fun hc => ?_⟩
    · have hlt2 : k < x.frm.length := by simpa [hfs.len] using hc
      obtain ⟨f, hf'⟩ := getq k0 hlt2
      refine rd fun p fs hat hfs => hat.ld (j := 2) (x := fs) rfl (hfs.ix k0 hlt2 fun p' g hg hat' _ => hat'.ld0 rfl ?_)
      rw [hf'] at hg
      injection hg with hg
      subst hg
      refine (has_c w t set f hs hsl).use ?_
      rintro r w3 ⟨rfl, rfl⟩
      refine jn.mk (fun c w' => c = decide (f ∈ set ∧ i ∉ set) ∧ w = w') ⟨fun hc => (has_c w t set i hs hsl).use ?_, fun hc => ⟨?_, rfl⟩⟩ ?_
      · rintro r w4 ⟨rfl, rfl⟩
        have : f ∈ set := by simpa using hc
        exact ⟨by simp [this], rfl⟩
      · have : f ∉ set := by simpa using hc
        simp [this]
      rintro c w5 ⟨rfl, rfl⟩
      refine ⟨fun hc => ?_, fun hc => ?_⟩
      · have hb : f ∈ set ∧ i ∉ set := of_decide_eq_true hc
        refine ⟨⟨fun e => (by cases e), fun e => absurd (e _ x hx f (List.mem_of_getElem? hf') hb.1) ?_⟩, rfl⟩
        rw [show ((i.toNat : Nat) : Int) = i by omega]
        exact hb.2
      · have hb : ¬ (f ∈ set ∧ i ∉ set) := of_decide_eq_false hc
        rw [w64 (by omega) (by omega)]
        refine ⟨⟨by omega, by omega, fun g hg hgs => ?_, rfl⟩, by (try dsimp only); omega⟩
        rw [show (k + 1).toNat = k.toNat + 1 by omega, take_next hf', List.mem_append, List.mem_singleton] at hg
        rcases hg with hg | hg
        · exact hk g hg hgs
        · subst hg
          exact Decidable.byContradiction fun hn => hb ⟨hgs, hn⟩
    · have hge : x.frm.length ≤ k.toNat := by simp [hfs.len] at hc; omega
      rw [List.take_of_length_le hge] at hk
      rw [w64 (by omega) (by omega)]
      refine ⟨⟨by omega, by omega, fun j p hj hp f hfm hfs' => ?_, rfl⟩, by (try dsimp only); omega⟩
      by_cases e : (j : Int) < i
      · exact hok j p e hp f hfm hfs'
      · have : j = i.toNat := by omega
        subst this
        rw [hx] at hp
        injection hp with hp
        subst hp
        rw [show ((i.toNat : Nat) : Int) = i by omega]
        exact hk f hfm hfs'
  · have hge : ¬ i < l.length := by simpa [hPl] using hi
    refine ⟨⟨fun _ j p hp => hok j p (by have := (List.getElem?_eq_some_iff.1 hp).1; omega) hp, fun _ => rfl⟩, rfl⟩
end Go.Proofs.Ytjmjackeeiglmaa
