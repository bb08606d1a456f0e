import Derived.Test.YtcnnnhligkpamaaSu
namespace Go.Proofs.Ytcnnnhligkpamaa
open Go.Dec Go.RowKit
set_option maxHeartbeats 400000

/-! ### a stay of a beginning, and of the whole -/
structure Later (n : Nat) (s s' : Sy) : Prop where
  acc : s'.acc = s.acc
  grp : s'.grp = s.grp
  frm : s'.frm = s.frm
  to : s.to = s'.to ∨ (s.to = -1 ∧ (n : Int) ≤ s'.to)
theorem Later.shut {n k : Nat} {s s' : Sy} (h : Later n s s') (hk : n ≤ k) (e : Ev) : Later n s (shut k e s') := by
  by_cases hc : s'.to = -1 ∧ En e s'.acc s'.grp
  · have e1 : Go.Proofs.Ytcnnnhligkpamaa.shut k e s' = { s' with to := k } := if_pos hc
    rw [e1]
    refine ⟨h.acc, h.grp, h.frm, .inr ⟨?_, ?_⟩⟩
    · rcases h.to with h1 | h1
      · exact h1.trans hc.1
      · exact h1.1
    · show (n : Int) ≤ (k : Int)
      omega
  · have e1 : Go.Proofs.Ytcnnnhligkpamaa.shut k e s' = s' := if_neg hc
    rw [e1]
    exact h
theorem later_app (a : List Ev) : ∀ r : List Ev, (∀ s ∈ S a, ∃ s' ∈ S (a ++ r), Later a.length s s') ∧ (∀ s' ∈ S (a ++ r), s'.frm < a.length → ∃ s ∈ S a, Later a.length s s') := by
  refine snoc_ind ⟨fun s hs => ⟨s, by rw [List.append_nil]; exact hs, rfl, rfl, rfl, .inl rfl⟩, fun s hs _ => ⟨s, by rw [List.append_nil] at hs; exact hs, rfl, rfl, rfl, .inl rfl⟩⟩ fun r e ih => ?_
  rw [← List.append_assoc, S_snoc]
  have hk : a.length ≤ (a ++ r).length := by simp
  refine ⟨fun s hs => ?_, fun s' hs' hf => ?_⟩
  · obtain ⟨s', h1, h2⟩ := ih.1 s hs
    exact ⟨shut _ e s', List.mem_append.2 (.inl (List.mem_map.2 ⟨s', h1, rfl⟩)), h2.shut hk e⟩
  · unfold step at hs'
    rcases List.mem_append.1 hs' with h | h
    · obtain ⟨s0, h1, rfl⟩ := List.mem_map.1 h
      have hfr : s0.frm < a.length := by
        unfold shut at hf
        split at hf <;> exact hf
      obtain ⟨s, h2, h3⟩ := ih.2 s0 h1 hfr
      exact ⟨s, h2, h3.shut hk e⟩
    · split at h
      · rw [List.mem_singleton.1 h] at hf
        have : ((a ++ r).length : Int) < a.length := hf
        omega
      · cases h
theorem keyP_take {l : List Ev} {n : Nat} {g f id : Int} (h : id < n) : keyP (l.take n) g f id = keyP l g f id := by
  unfold keyP
  rw [List.take_take, Nat.min_eq_left (by omega)]
theorem lets_later {p : Pf} {s s' : Sy} {l : List Ev} {n : Nat} {id : Int} (h : Later n s s') (hid : id < n) : letsP p s (l.take n) id = letsP p s' l id := by
  unfold letsP
  rw [h.frm]
  split
  · rfl
  · rcases h.to with ht | ⟨h1, h2⟩
    · rw [ht, h.grp, keyP_take hid]
    · rw [if_pos (.inl h1), if_pos (.inr (by omega))]
theorem sees_whole {nets : List Pf} {l : List Ev} {n : Nat} {a id : Int} (h0 : 0 ≤ id) (hid : id < n) (hn : n ≤ l.length) (h : seesP nets (l.take n) a id = true) : seesP nets l a id = true := by
  unfold seesP at h ⊢
  rw [List.getElem?_take_of_lt (by omega)] at h
  cases he : l[id.toNat]? with
  | none => rw [he] at h; cases h
  | some e =>
    rw [he] at h
    dsimp only at h ⊢
    rw [Bool.or_eq_true] at h ⊢
    refine h.imp (fun e => e) fun h => ?_
    rw [List.any_eq_true] at h ⊢
    obtain ⟨s, h1, h2⟩ := h
    have hap := later_app (l.take n) (l.drop n)
    rw [List.take_append_drop, List.length_take, Nat.min_eq_left hn] at hap
    obtain ⟨s', h3, h4⟩ := hap.1 s h1
    refine ⟨s', h3, ?_⟩
    rw [h4.acc, h4.grp]
    have : (fun p => letsP p s (l.take n) id) = fun p => letsP p s' l id := funext fun p => lets_later h4 hid
    rw [← this]
    exact h2
theorem sees_since {nets : List Pf} {l : List Ev} {n : Nat} {a id : Int} (h0 : 0 ≤ id) (hid : id < n) (hn : n ≤ l.length) (hs : ∃ p ∈ nets, p.history ≠ 1) (h : seesP nets l a id = true) : seesP nets (l.take n) a id = true := by
  unfold seesP at h ⊢
  rw [List.getElem?_take_of_lt (by omega)]
  cases he : l[id.toNat]? with
  | none => rw [he] at h; cases h
  | some e =>
    rw [he] at h
    dsimp only at h ⊢
    rw [Bool.or_eq_true] at h ⊢
    refine h.imp (fun e => e) fun h => ?_
    rw [List.any_eq_true] at h ⊢
    obtain ⟨s', h1, h2⟩ := h
    have hap := later_app (l.take n) (l.drop n)
    rw [List.take_append_drop, List.length_take, Nat.min_eq_left hn] at hap
    obtain ⟨p, hp, hph⟩ := hs
    have hfr : s'.frm < n := by
      rw [Bool.and_eq_true] at h2
      have h3 := List.all_eq_true.1 h2.2 p hp
      unfold letsP at h3
      by_cases hc : p.history ≠ 1 ∧ id ≤ s'.frm
      · rw [if_pos hc] at h3
        cases h3
      · have : ¬ id ≤ s'.frm := fun e => hc ⟨hph, e⟩
        omega
    obtain ⟨s, h3, h4⟩ := hap.2 s' h1 hfr
    refine ⟨s, h3, ?_⟩
    rw [h4.acc, h4.grp] at h2
    have : (fun p => letsP p s (l.take n) id) = fun p => letsP p s' l id := funext fun p => lets_later h4 hid
    rw [this]
    exact h2
theorem mem_All {nets : List Pf} {l : List Ev} {a x : Int} : x ∈ AllP nets l a ↔ SeesP nets l a x = true := by
  unfold AllP
  rw [List.mem_map]
  constructor
  · rintro ⟨i, hi, rfl⟩
    exact (List.mem_filter.1 hi).2
  · intro h
    have h' := h
    unfold SeesP at h'
    rw [Bool.and_eq_true] at h'
    have := of_decide_eq_true h'.1
    exact ⟨x.toNat, List.mem_filter.2 ⟨List.mem_range.2 (by omega), by rw [show ((x.toNat : Nat) : Int) = x by omega]; exact h⟩, by omega⟩
theorem allN_rng (nets : List Pf) (l : List Ev) (a : Int) (n : Nat) : ∀ x ∈ allN nets l a n, 0 ≤ x ∧ x < n := fun x hx => by
  unfold allN at hx
  obtain ⟨i, hi, rfl⟩ := List.mem_map.1 hx
  have := List.mem_range.1 (List.mem_filter.1 hi).1
  omega
theorem allN_up (nets : List Pf) (l : List Ev) (a : Int) (n : Nat) : (allN nets l a n).Pairwise (· < ·) := by
  induction n with
  | zero => simp [allN]
  | succ n ih =>
    rw [allN_succ]
    split
    · rw [List.pairwise_append]
      refine ⟨ih, by simp, fun x hx y hy => ?_⟩
      rw [List.mem_singleton.1 hy]
      have := allN_rng nets l a n x hx
      omega
    · rw [List.append_nil]
      exact ih

theorem has_c (w : World) (s : Sl) (l : List Int) (n : Int) (h : Rd w ci 1 s l) (hl : l.length ≤ 1000000) : callC Try.prog 16 #[s.v, .int .i64 n] (fun (r : Bool) => .bool r) w fun r w' => r = decide (n ∈ l) ∧ w = w' := by
  have hsl := h.len
  refine D16 _ _ w _ ?_
  unfold F16
  refine ⟨fun i w' => 0 ≤ i ∧ i ≤ l.length ∧ n ∉ l.take i.toNat ∧ w = w', fun i _ => (l.length - i).toNat, ⟨by omega, by omega, by simp, rfl⟩, ?_⟩
  rintro i w' ⟨i0, i1, hn, rfl⟩
  refine ⟨fun hi => ?_, fun hi => ?_⟩
  · have hlt : i < l.length := by rw [hsl] at hi; exact of_decide_eq_true hi
    obtain ⟨x, hx⟩ := getq i0 hlt
    refine h.ixx i0 hx fun p hat _ => hat.ld0 rfl ⟨fun hc => ?_, fun hc => ?_⟩
    · have : x = n := of_decide_eq_true hc
      subst this
      exact ⟨(decide_eq_true (List.mem_of_getElem? hx)).symm, rfl⟩
    · have hne : x ≠ n := of_decide_eq_false hc
      rw [w64 (by omega) (by omega)]
      refine ⟨⟨by omega, by omega, ?_, rfl⟩, by (try dsimp only); omega⟩
      rw [toNat_succ i0, take_next hx]
      simp only [List.mem_append, List.mem_singleton, not_or]
      exact ⟨hn, fun e => hne e.symm⟩
  · have hge : l.length ≤ i.toNat := by have := of_decide_eq_false hi; omega
    rw [List.take_of_length_le hge] at hn
    exact ⟨(decide_eq_false hn).symm, rfl⟩

theorem keeps_c (w : World) (s t : Sl) (nets : List Pf) (l : List Ev) (cut a : Int) (hs : Rd w pf 22 s nets) (h : Rd w ev 12 t l) (hl : l.length ≤ maxLen) (hc : t.len ≤ t.cap) (c0 : 0 ≤ cut) (c1 : cut ≤ 255) :
    callC Try.prog 5 #[s.v, t.v, .int .u8 cut, .int .i64 a] (fun (r : Bool) => .bool r) w fun r w' => r = true ∧ Quiet w w' := by
  have hsl := hs.len
  have htl := h.len
  refine D5 _ _ _ _ w _ ?_
  unfold F5
  refine (small_c w).use ?_
  rintro r1 w1 ⟨rfl, q1⟩
  refine (few_c w1 s t nets l (hs.keepQ q1) (h.keepQ q1) hl).use ?_
  rintro r2 w2 ⟨hr2, q2⟩
  have q02 := q1.tr q2
  refine ⟨fun _ => ⟨rfl, q02⟩, fun g => ?_⟩
  obtain ⟨k1, k2⟩ := hr2 (by simpa using g)
  rw [htl, w64 (x := cut) (by omega) (by omega), w64 (x := (l.length : Int) + 1) (by omega) (by omega)]
  obtain ⟨n, en, hn⟩ : ∃ n : Nat, cut.tmod (l.length + 1) = n ∧ n ≤ l.length := ⟨(cut.tmod (l.length + 1)).toNat, by
    have := Int.tmod_nonneg ((l.length : Int) + 1) c0
    omega, by
    have := Int.tmod_nonneg ((l.length : Int) + 1) c0
    have := Int.tmod_lt_of_pos cut (show (0 : Int) < l.length + 1 by omega)
    omega⟩
  rw [en]
  refine ⟨by omega, rn_upto ap23 (h.keepQ q02) hc (by omega) (by omega) fun r5 h5 c5 _ => ?_⟩
  rw [show ((n : Int)).toNat = n by omega] at h5
  have hlt : (l.take n).length = n := by rw [List.length_take]; omega
  refine (All_c w2 s r5 nets _ a (hs.keepQ q02) h5 (by omega) (by omega) c5).use ?_
  rintro r6 w4 ⟨F6, o6, f6⟩
  refine (All_c w4 s t nets l a (hs.keepQ (q02.tr f6.q)) (h.keepQ (q02.tr f6.q)) (by omega) (by omega) hc).use ?_
  rintro r7 w5 ⟨F7, o7, f7⟩
  have h6 := (o6.keepQ f7.q).rd ci1 (by decide)
  have h7 := o7.rd ci1 (by decide)
  have h6l := h6.len
  have q05 := (q02.tr f6.q).tr f7.q
  have hup := allN_up nets (l.take n) a (l.take n).length
  have hrg := allN_rng nets (l.take n) a (l.take n).length
  have ha6 : (AllP nets (l.take n) a).length ≤ 20 := by
    have := allN_len nets (l.take n) a (l.take n).length
    show (allN nets (l.take n) a (l.take n).length).length ≤ 20
    omega
  have ha7 : (AllP nets l a).length ≤ 20 := by
    have := allN_len nets l a l.length
    show (allN nets l a l.length).length ≤ 20
    omega
  refine ⟨fun (c : Bool × Int) w' => 0 ≤ c.2 ∧ c.2 ≤ nets.length ∧ (c.1 = true → ∃ p ∈ nets, p.history ≠ 1) ∧ Quiet w5 w', fun c _ => (nets.length - c.2).toNat, ⟨by simp, by simp, fun e => (by cases e), Only.refl _ _⟩, ?_⟩
  rintro ⟨since, i⟩ w6 ⟨i0, i1, hsin, q6⟩
  dsimp only at i0 i1 hsin ⊢
  refine ⟨fun hi => ?_, fun _ => ?_⟩
  · have hlt : i < nets.length := by rw [hsl] at hi; exact of_decide_eq_true hi
    obtain ⟨p, hp⟩ := getq i0 hlt
    refine jp.mk (fun c => c = true → ∃ p ∈ nets, p.history ≠ 1) ⟨fun g _ => hsin g, fun g => (hs.keepQ (q05.tr q6)).ixx i0 hp fun pp hat _ => hat.ld (j := 14) rfl ?_⟩ fun c hcs => ?_
    · intro e
      exact ⟨p, List.mem_of_getElem? hp, by simpa using e⟩
    · rw [w64 (by omega) (by omega)]
      exact ⟨⟨by (try dsimp only); omega, by (try dsimp only); omega, hcs, q6⟩, by (try dsimp only); omega⟩
  refine ⟨fun id w' => 0 ≤ id ∧ id ≤ n ∧ Quiet w5 w', fun id _ => (n - id).toNat, ⟨by omega, by omega, q6⟩, ?_⟩
  rintro id w7 ⟨d0, d1, q7⟩
  refine ⟨fun hd => ?_, fun _ => ?_⟩
  · have hd := of_decide_eq_true hd
    have m6 : id ∈ AllP nets (l.take n) a ↔ SeesP nets (l.take n) a id = true := mem_All
    have m7 : id ∈ AllP nets l a ↔ SeesP nets l a id = true := mem_All
    have up : id ∈ AllP nets (l.take n) a → id ∈ AllP nets l a := fun e => by
      have e := m6.1 e
      unfold SeesP at e
      rw [Bool.and_eq_true] at e
      have e1 := of_decide_eq_true e.1
      refine m7.2 ?_
      unfold SeesP
      rw [Bool.and_eq_true]
      exact ⟨decide_eq_true ⟨e1.1, e1.2.1, by omega⟩, sees_whole d0 hd hn e.2⟩
    have down : since = true → id ∈ AllP nets l a → id ∈ AllP nets (l.take n) a := fun es e => by
      have e := m7.1 e
      unfold SeesP at e
      rw [Bool.and_eq_true] at e
      have e1 := of_decide_eq_true e.1
      refine m6.2 ?_
      unfold SeesP
      rw [Bool.and_eq_true]
      exact ⟨decide_eq_true ⟨e1.1, e1.2.1, by omega⟩, sees_since d0 hd hn (hsin es) e.2⟩
    have H6 := fun (w' : World) (q : Quiet w5 w') => has_c w' r6 _ id (h6.keepQ q) (by omega)
    have H7 := fun (w' : World) (q : Quiet w5 w') => has_c w' r7 _ id (h7.keepQ q) (by omega)
    refine (H6 w7 q7).use ?_
    rintro r17 w8 ⟨rfl, rfl⟩
    refine jn.mk (fun c w' => c = false ∧ Quiet w5 w') ⟨fun g1 => (H7 w7 q7).use ?_, fun _ => ⟨rfl, q7⟩⟩ ?_
    · rintro r w9 ⟨rfl, rfl⟩
      exact ⟨by rw [decide_eq_true (up (of_decide_eq_true g1))]; rfl, q7⟩
    rintro _ w10 ⟨rfl, q10⟩
    refine jn.mk (fun c w' => c = false ∧ Quiet w5 w') ⟨fun g1 => (by cases g1), fun _ => ?_⟩ ?_
    · refine jn.mk (fun c w' => (c = true → since = true ∧ id ∈ AllP nets l a) ∧ Quiet w5 w') ⟨fun g1 => (H7 w10 q10).use ?_, fun _ => ⟨fun e => (by cases e), q10⟩⟩ ?_
      · rintro r w11 ⟨rfl, rfl⟩
        exact ⟨fun e => ⟨g1, of_decide_eq_true e⟩, q10⟩
      rintro c27 w12 ⟨h27, q12⟩
      refine jn.mk (fun c w' => c = false ∧ Quiet w5 w') ⟨fun g1 => (H6 w12 q12).use ?_, fun _ => ⟨rfl, q12⟩⟩ fun c w' h => h
      rintro r w13 ⟨rfl, rfl⟩
      obtain ⟨e1, e2⟩ := h27 g1
      exact ⟨by rw [decide_eq_true (down e1 e2)]; rfl, q12⟩
    rintro _ w15 ⟨rfl, q15⟩
    refine ⟨fun g => (by cases g), fun _ => ?_⟩
    rw [w64 (by omega) (by omega)]
    exact ⟨⟨by omega, by omega, q15⟩, by (try dsimp only); omega⟩
  refine ⟨fun k w' => 0 ≤ k ∧ k ≤ (AllP nets (l.take n) a).length ∧ Quiet w5 w', fun k _ => ((AllP nets (l.take n) a).length - k).toNat, ⟨by omega, by omega, q7⟩, ?_⟩
  rintro k w16 ⟨e0, e1, q16⟩
  refine ⟨fun hk => ?_, fun _ => ⟨rfl, q05.tr q16⟩⟩
  have hkl : k < (AllP nets (l.take n) a).length := by rw [h6l] at hk; exact of_decide_eq_true hk
  obtain ⟨x, hx⟩ := getq e0 hkl
  have hxr := hrg x (List.mem_of_getElem? hx)
  rw [hlt] at hxr
  refine jn.mk (fun c w' => c = false ∧ Quiet w5 w') ?_ ?_
  · show tk w16 _
    unfold tk
    have qd := q16.tr (Only.drew (fun _ => False) w16)
    have hd := h6.keepQ qd
    refine hd.ixx e0 hx fun p hat _ => hat.ld0 rfl ⟨fun g1 => ?_, fun _ => hd.ixx e0 hx fun p hat _ => hat.ld0 rfl ⟨fun g1 => ?_, fun _ => ⟨fun g1 => ?_, fun _ => ⟨rfl, qd⟩⟩⟩⟩
    · have := of_decide_eq_true g1
      omega
    · have := of_decide_eq_true g1
      omega
    · have hk0 := of_decide_eq_true g1
      rw [w64 (by omega) (by omega), show max (k - 1) 0 = k - 1 by omega]
      obtain ⟨y, hy⟩ := getq (l := AllP nets (l.take n) a) (i := k - 1) (by omega) (by omega)
      refine hd.ixx e0 hx fun p hat _ => hat.ld0 rfl (hd.ixx (by omega) hy fun p hat _ => hat.ld0 rfl ⟨decide_eq_false ?_, qd⟩)
      have := List.pairwise_iff_getElem.1 hup (k - 1).toNat k.toNat (List.getElem?_eq_some_iff.1 hy).1 (List.getElem?_eq_some_iff.1 hx).1 (by omega)
      have ex : (allN nets (l.take n) a (l.take n).length)[k.toNat]'(List.getElem?_eq_some_iff.1 hx).1 = x := (List.getElem?_eq_some_iff.1 hx).2
      have ey : (allN nets (l.take n) a (l.take n).length)[(k - 1).toNat]'(List.getElem?_eq_some_iff.1 hy).1 = y := (List.getElem?_eq_some_iff.1 hy).2
      rw [ex, ey] at this
      omega
  · rintro _ w18 ⟨rfl, q18⟩
    refine ⟨fun g => (by cases g), fun _ => ?_⟩
    rw [w64 (by omega) (by omega)]
    exact ⟨⟨by omega, by omega, q18⟩, by (try dsimp only); omega⟩
theorem keeps (W : World) (s : Sl) (nets : List Pf) (hs : Rd W pf 22 s nets) (_ : ∀ ad, s.a = some ad → 0 < nets.length → ad.block < W.heap.size) (_ : nets.length ≤ maxLen)
    (t : Sl) (l : List Ev) (h : Rd W ev 12 t l) (_ : ∀ ad, t.a = some ad → 0 < l.length → ad.block < W.heap.size) (hl : l.length ≤ maxLen) (hc : t.len ≤ t.cap) (cut : Int) (h0 : 0 ≤ cut) (h1 : cut ≤ 255) (a : Int) (_ : -9223372036854775808 ≤ a) (_ : a ≤ 9223372036854775807) :
    callC Try.prog 5 #[s.v, t.v, .int .u8 cut, .int .i64 a] (fun (r : Bool) => .bool r) W fun r w' => r = true ∧ Below W.heap.size W w' :=
  (keeps_c W s t nets l cut a hs h hl hc h0 h1).use fun _ _ h => ⟨h.1, bq h.2⟩
end Go.Proofs.Ytcnnnhligkpamaa
