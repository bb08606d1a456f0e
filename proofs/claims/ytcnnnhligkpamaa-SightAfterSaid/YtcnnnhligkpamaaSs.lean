import Derived.Test.YtcnnnhligkpamaaSg
namespace Go.Proofs.Ytcnnnhligkpamaa
open Go.Dec Go.RowKit
set_option maxHeartbeats 400000

theorem clo40_c (w : World) (e : Ev) (b : Nat) (s : Sy) (hb : IsSy w b s) : callC Try.prog 40 #[evv e, .pointer (some ⟨b, 0, none⟩)] (fun (r : Bool) => .bool r) w fun r w' => r = decide (e.kind = 8 ∧ e.group = s.grp) ∧ Quiet w w' := by
  refine D40 _ _ _ _ _ _ _ _ _ _ _ _ _ w _ ?_
  unfold F40
  refine nwL fun b1 w1 hb1 q _ _ _ => ?_
  have hb1 : IsEv w1 b1 e := hb1
  refine hb1.at.ld (j := 3) rfl (jp.val (decide (e.kind = 8 ∧ e.group = s.grp)) ⟨fun h => hb1.at.ld (j := 4) rfl ((hb.keepQ q).at.ld (j := 1) rfl ?_), fun h => ?_⟩ ⟨rfl, q⟩)
  · have := of_decide_eq_true h
    simp [this]
  · have := of_decide_eq_false h
    exact (decide_eq_false fun c => this c.1).symm

theorem lets_c (w : World) (p : Pf) (s : Sy) (v : Sl) (l : List Ev) (id : Int) (h : Rd w ev 12 v l) (hl : l.length ≤ 1000000) (hc : v.len ≤ v.cap) (h0 : 0 ≤ id) (h1 : id < l.length) (ht : s.to = -1 ∨ 0 ≤ s.to) :
    callC Try.prog 34 #[pfv p, syv s, v.v, .int .i64 id] (fun (r : Bool) => .bool r) w fun r w' => r = letsP p s l id ∧ Quiet w w' := by
  refine D34 _ _ _ _ _ _ _ _ _ _ _ _ _ _ _ _ _ _ _ _ _ _ _ _ _ _ _ _ w _ ?_
  unfold F34
  refine nwL fun b1 w1 hb1 q1 _ _ _ => nwL fun b2 w2 hb2 q2 _ _ _ => ?_
  have hb1 : IsPf w2 b1 p := Blk.keepQ hb1 q2
  have hb2 : IsSy w2 b2 s := hb2
  have q := q1.tr q2
  unfold letsP
  refine hb1.at.ld (j := 14) rfl (jp.val (decide (p.history ≠ 1 ∧ id ≤ s.frm)) ⟨fun g => hb2.at.ld (j := 2) rfl ?_, fun g => ?_⟩ ⟨fun g => ⟨?_, q⟩, fun g => ?_⟩)
  · have : ¬ p.history = 1 := by simpa using g
    simp [this]
  · have : p.history = 1 := by simpa using g
    exact (decide_eq_false fun c => c.1 this).symm
  · rw [if_pos (of_decide_eq_true g)]
  rw [if_neg (of_decide_eq_false g)]
  refine hb2.at.ld (j := 3) rfl (jp.val (decide (s.to = -1 ∨ id < s.to)) ⟨fun g => ?_, fun g => hb2.at.ld (j := 3) rfl ?_⟩ ⟨fun g => ⟨?_, q⟩, fun g => ?_⟩)
  · exact (decide_eq_true (.inl (of_decide_eq_true g))).symm
  · have := of_decide_eq_false g
    show decide _ = decide _
    rw [decide_eq_decide]
    exact ⟨.inr, fun e => e.elim (fun e => absurd e this) fun e => e⟩
  · rw [if_pos (of_decide_eq_true g)]
  rw [if_neg (of_decide_eq_false g)]
  have g := of_decide_eq_false g
  refine hb1.at.ld (j := 15) rfl ⟨fun k => ⟨?_, q⟩, fun k => ?_⟩
  · rw [if_pos (by simpa using k)]
  rw [if_neg (by simpa using k)]
  refine hb2.at.ld (j := 3) rfl ?_
  rw [w64 (by omega) (by omega), w64 (by omega) (by omega)]
  refine rn_part ap23 (h.keepQ q) hc (by omega) (by omega) (by omega) fun r hr _ _ => ?_
  refine (anyEv w2 r _ _ (fun e => decide (e.kind = 8 ∧ e.group = s.grp)) hr (by rw [List.length_drop, List.length_take]; omega) fun w' x K q' _ hK => ?_).use ?_
  · exact cv_mk Try.func40 NN_40 NB_40 rfl ((clo40_c w' x b2 s (hb2.keepQ q')).use fun r w'' ⟨e, q''⟩ => e ▸ hK w'' q'')
  · rintro r w3 ⟨rfl, q3⟩
    exact ⟨rfl, q.tr q3⟩

theorem rlets_c (w : World) (p : Pf) (s : Sy) (v : Sl) (l : List Ev) (id : Int) (h : Rd w ev 12 v l) (hl : l.length ≤ 1000000) (h0 : 0 ≤ id) (h1 : id < l.length) (ht : s.to = -1 ∨ 0 ≤ s.to) :
    callC Try.prog 25 #[pfv p, syv s, v.v, .int .i64 id] (fun (r : Bool) => .bool r) w fun r w' => r = letsP p s l id ∧ Quiet w w' := by
  refine D25 _ _ _ _ _ _ _ _ _ _ _ _ _ _ _ _ _ _ _ _ _ _ _ _ _ _ _ _ w _ ?_
  unfold F25
  refine nwL fun b1 w1 hb1 q1 _ _ _ => nwL fun b2 w2 hb2 q2 _ _ _ => ?_
  have hb1 : IsPf w2 b1 p := Blk.keepQ hb1 q2
  have hb2 : IsSy w2 b2 s := hb2
  have q := q1.tr q2
  unfold letsP
  refine hb1.at.ld (j := 14) rfl (jp.val (decide (p.history ≠ 1 ∧ id ≤ s.frm)) ⟨fun g => hb2.at.ld (j := 2) rfl ?_, fun g => ?_⟩ ⟨fun g => ⟨?_, q⟩, fun g => ?_⟩)
  · have : ¬ p.history = 1 := by simpa using g
    simp [this]
  · have : p.history = 1 := by simpa using g
    exact (decide_eq_false fun c => c.1 this).symm
  · rw [if_pos (of_decide_eq_true g)]
  rw [if_neg (of_decide_eq_false g)]
  refine hb2.at.ld (j := 3) rfl (jp.val (decide (s.to = -1 ∨ id < s.to)) ⟨fun g => ?_, fun g => hb2.at.ld (j := 3) rfl ?_⟩ ⟨fun g => ⟨?_, q⟩, fun g => ?_⟩)
  · exact (decide_eq_true (.inl (of_decide_eq_true g))).symm
  · have := of_decide_eq_false g
    show decide _ = decide _
    rw [decide_eq_decide]
    exact ⟨.inr, fun e => e.elim (fun e => absurd e this) fun e => e⟩
  · rw [if_pos (of_decide_eq_true g)]
  rw [if_neg (of_decide_eq_false g)]
  have g := of_decide_eq_false g
  refine hb1.at.ld (j := 15) rfl ⟨fun k => ⟨?_, q⟩, fun k => ?_⟩
  · rw [if_pos (by simpa using k)]
  rw [if_neg (by simpa using k)]
  refine hb2.at.ld (j := 3) rfl ?_
  rw [w64 (by omega) (by omega)]
  refine ⟨fun k w' => s.to + 1 ≤ k ∧ k ≤ id + 1 ∧ keyP l s.grp (s.to + 1) (k - 1) = false ∧ Quiet w2 w', fun k _ => (id + 1 - k).toNat, ⟨by omega, by omega, ?_, Only.refl _ _⟩, ?_⟩
  · unfold keyP
    rw [List.drop_of_length_le (by rw [List.length_take]; omega)]
    rfl
  have hcut : ∀ k : Int, s.to + 1 ≤ k → k ≤ id → ∀ e, l[k.toNat]? = some e → keyP l s.grp (s.to + 1) k = (keyP l s.grp (s.to + 1) (k - 1) || decide (e.kind = 8 ∧ e.group = s.grp)) := fun k k0 k1 e he => by
    unfold keyP
    rw [show (k + 1).toNat = k.toNat + 1 by omega, take_next he, List.drop_append_of_le_length (by rw [List.length_take]; omega), List.any_append, show (k - 1 + 1) = k by omega]
    simp
  rintro k w3 ⟨k0, k1, hn, q3⟩
  refine ⟨fun hk => ?_, fun hk => ⟨?_, q.tr q3⟩⟩
  · have hk := of_decide_eq_true hk
    obtain ⟨e, he⟩ := getq (l := l) (i := k) (by omega) (by omega)
    have hck := hcut k k0 hk e he
    rw [hn, Bool.false_or] at hck
    refine jn.mk (fun b w' => b = keyP l s.grp (s.to + 1) k ∧ Quiet w2 w') ?_ ?_
    · show tk w3 _
      unfold tk
      have qd := q3.tr (Only.drew (fun _ => False) w3)
      rw [hck]
      refine (h.keepQ (q.tr qd)).ixx (by omega) he fun p hat _ => hat.ld (j := 3) rfl ⟨fun h8 => (h.keepQ (q.tr qd)).ixx (by omega) he fun p hat _ => hat.ld (j := 4) rfl ((hb2.keepQ qd).at.ld (j := 1) rfl ⟨?_, qd⟩), fun h8 => ⟨?_, qd⟩⟩
      · have := of_decide_eq_true h8
        simp [this]
      · have := of_decide_eq_false h8
        exact (decide_eq_false fun c => this c.1).symm
    · rintro b w5 ⟨rfl, q5⟩
      refine ⟨fun hb => ⟨?_, q.tr q5⟩, fun hb => ?_⟩
      · have : keyP l s.grp (s.to + 1) id = true := by
          unfold keyP at hb ⊢
          rw [List.any_eq_true] at hb ⊢
          obtain ⟨x, hx, hx2⟩ := hb
          refine ⟨x, ?_, hx2⟩
          obtain ⟨j, hj⟩ := List.getElem?_of_mem hx
          rw [List.getElem?_drop] at hj
          have hjl := (List.getElem?_eq_some_iff.1 hj).1
          rw [List.length_take] at hjl
          rw [List.getElem?_take_of_lt (by omega)] at hj
          refine List.mem_of_getElem? (i := j) ?_
          rw [List.getElem?_drop, List.getElem?_take_of_lt (by omega)]
          exact hj
        rw [this]
        rfl
      · rw [w64 (by omega) (by omega)]
        exact ⟨⟨by omega, by omega, by rw [show k + 1 - 1 = k by omega]; exact hb, q5⟩, by (try dsimp only); omega⟩
  · have : k = id + 1 := by have := of_decide_eq_false hk; omega
    subst this
    rw [show id + 1 - 1 = id by omega] at hn
    rw [hn]
    rfl

/-! ### who sees -/
structure Seen (w : World) (b1 b2 b3 b4 : Nat) (s t : Sl) (nets : List Pf) (l : List Ev) (a id : Int) : Prop where
  n : Blk w b1 22 #[Sl.v s]
  e : Blk w b2 23 #[Sl.v t]
  a : Blk w b3 3 #[.int .i64 a]
  i : Blk w b4 3 #[.int .i64 id]
  hn : Rd w pf 22 s nets
  he : Rd w ev 12 t l
theorem Seen.keepQ {w w' : World} {b1 b2 b3 b4 : Nat} {s t : Sl} {nets : List Pf} {l : List Ev} {a id : Int} (h : Seen w b1 b2 b3 b4 s t nets l a id) (q : Quiet w w') : Seen w' b1 b2 b3 b4 s t nets l a id :=
  ⟨h.n.keepQ q, h.e.keepQ q, h.a.keepQ q, h.i.keepQ q, h.hn.keepQ q, h.he.keepQ q⟩
theorem clo33_c (w : World) (p : Pf) (x : Sy) (b0 b2 b4 : Nat) (t : Sl) (l : List Ev) (id : Int) (hx : IsSy w b0 x) (he : Blk w b2 23 #[Sl.v t]) (hi : Blk w b4 3 #[.int .i64 id]) (h : Rd w ev 12 t l) (hl : l.length ≤ 1000000) (hc : t.len ≤ t.cap) (h0 : 0 ≤ id) (h1 : id < l.length) (ht : x.to = -1 ∨ 0 ≤ x.to) :
    callC Try.prog 33 #[pfv p, .pointer (some ⟨b0, 0, none⟩), .pointer (some ⟨b2, 0, none⟩), .pointer (some ⟨b4, 0, none⟩)] (fun (r : Bool) => .bool r) w fun r w' => r = !letsP p x l id ∧ Quiet w w' := by
  refine D33 _ _ _ _ _ _ _ _ _ _ _ _ _ _ _ _ _ _ _ _ _ _ _ _ _ w _ ?_
  unfold F33
  refine nwL fun b1 w1 hb1 q _ _ _ => ?_
  have hb1 : IsPf w1 b1 p := hb1
  refine pf_ld hb1.at (sy_ld (hx.keepQ q).at ((he.keepQ q).ld0 (x := t) rfl ((hi.keepQ q).ld0 (x := id) rfl ((lets_c w1 p x t l id (h.keepQ q) hl hc h0 h1 ht).use ?_))))
  rintro r w2 ⟨rfl, q2⟩
  exact ⟨rfl, q.tr q2⟩
theorem all_any {α : Type} (l : List α) (f : α → Bool) : l.all f = !l.any fun x => !f x := by
  induction l with
  | nil => rfl
  | cons x l ih => simp [ih]
theorem clo32_c (w : World) (x : Sy) (b1 b2 b3 b4 : Nat) (s t : Sl) (nets : List Pf) (l : List Ev) (a id : Int) (e : Ev) (H : Seen w b1 b2 b3 b4 s t nets l a id) (hn : nets.length ≤ 1000000) (hl : l.length ≤ 1000000) (hc : t.len ≤ t.cap) (h0 : 0 ≤ id) (h1 : l[id.toNat]? = some e) (ht : x.to = -1 ∨ 0 ≤ x.to) :
    callC Try.prog 32 #[syv x, .pointer (some ⟨b2, 0, none⟩), .pointer (some ⟨b4, 0, none⟩), .pointer (some ⟨b3, 0, none⟩), .pointer (some ⟨b1, 0, none⟩)] (fun (r : Bool) => .bool r) w
      fun r w' => r = (decide (x.acc = a ∧ x.grp = e.group) && nets.all fun p => letsP p x l id) ∧ Quiet w w' := by
  have hlt : id < l.length := by have := (List.getElem?_eq_some_iff.1 h1).1; omega
  refine D32 _ _ _ _ _ _ _ _ w _ ?_
  unfold F32
  refine nwL fun b0 w1 hb0 q1 _ _ _ => ?_
  have hb0 : IsSy w1 b0 x := hb0
  refine jn.mk (fun r w' => r = (decide (x.acc = a ∧ x.grp = e.group) && nets.all fun p => letsP p x l id) ∧ Quiet w w') ?_ fun r w' h => h
  show tk w1 _
  unfold tk
  have qd : Quiet w1 w1.drew := Only.drew _ _
  have q := q1.tr qd
  have H := H.keepQ q
  have hb0 := hb0.keepQ qd
  generalize w1.drew = w2 at *
  refine hb0.at.ld (j := 0) rfl (H.a.ld0 (x := a) rfl ⟨fun g => hb0.at.ld (j := 1) rfl (H.e.ld0 (x := t) rfl (H.i.ld0 (x := id) rfl (H.he.ixx h0 h1 fun p hat _ => hat.ld (j := 4) rfl ⟨fun g2 => H.n.ld0 (x := s) rfl ?_, fun g2 => ⟨?_, q⟩⟩))), fun g => ⟨?_, q⟩⟩)
  · refine (anyPf w2 s nets _ (fun p => !letsP p x l id) H.hn hn fun w' y K q' _ hK => ?_).use ?_
    · have H' := H.keepQ q'
      exact cv_mk Try.func33 NN_33 NB_33 rfl ((clo33_c w' y x b0 b2 b4 t l id (hb0.keepQ q') H'.e H'.i H'.he hl hc h0 hlt ht).use fun r w'' ⟨e, q''⟩ => e ▸ hK w'' q'')
    · rintro r w3 ⟨rfl, q3⟩
      have H3 := H.keepQ q3
      have c3 := H3.a.ld0' (o := 0) (i := 0) rfl
      have c1 := H3.e.ld0' (o := 0) (i := 0) rfl
      have c2 := H3.i.ld0' (o := 0) (i := 0) rfl
      rw [add_zero'] at c1 c2 c3
      refine ⟨AtC.cj (AtC.keep hat q3 (fun e => e)) rfl, c2, c1, (hb0.keepQ q3).at.cj rfl, c3, (hb0.keepQ q3).at.cj rfl, ?_, q.tr q3⟩
      rw [all_any, decide_eq_true ⟨of_decide_eq_true g, of_decide_eq_true g2⟩, Bool.true_and]
  · rw [decide_eq_false fun c => of_decide_eq_false g2 c.2, Bool.false_and]
  · rw [decide_eq_false fun c => of_decide_eq_false g c.1, Bool.false_and]
theorem sees_c (w : World) (s t v : Sl) (nets : List Pf) (l : List Ev) (a id : Int) (e : Ev) (hs : Rd w pf 22 s nets) (h : Rd w ev 12 t l) (hv : Rd w sy 4 v (S l)) (hn : nets.length ≤ 1000000) (hl : l.length ≤ 1000000) (hc : t.len ≤ t.cap) (h0 : 0 ≤ id) (h1 : l[id.toNat]? = some e) :
    callC Try.prog 22 #[s.v, t.v, v.v, .int .i64 a, .int .i64 id] (fun (r : Bool) => .bool r) w fun r w' => r = seesP nets l a id ∧ Quiet w w' := by
  have hSl := S_len l
  refine D22 _ _ _ _ _ w _ ?_
  unfold F22
  refine nwL fun b1 w1 hb1 q1 _ _ _ => nwL fun b2 w2 hb2 q2 _ _ _ => nwL fun b3 w3 hb3 q3 _ _ _ => nwL fun b4 w4 hb4 q4 _ _ _ => ?_
  have q := (q1.tr q2).tr (q3.tr q4)
  have H : Seen w4 b1 b2 b3 b4 s t nets l a id := ⟨hb1.keepQ (q2.tr (q3.tr q4)), hb2.keepQ (q3.tr q4), hb3.keepQ q4, hb4, hs.keepQ q, h.keepQ q⟩
  refine jn.mk (fun r w' => r = decide (e.author = a) ∧ Quiet w4 w') ?_ ?_
  · show tk w4 _
    unfold tk
    have qd : Quiet w4 w4.drew := Only.drew _ _
    have H := H.keepQ qd
    exact H.e.ld0 (x := t) rfl (H.i.ld0 (x := id) rfl (H.he.ixx h0 h1 fun p hat _ => hat.ld (j := 0) rfl (H.a.ld0 (x := a) rfl ⟨rfl, qd⟩)))
  · rintro r w6 ⟨rfl, q6⟩
    have H6 := H.keepQ q6
    unfold seesP
    rw [h1]
    dsimp only
    refine ⟨fun g => ⟨by rw [g]; rfl, q.tr q6⟩, fun g => ?_⟩
    rw [g, Bool.false_or]
    refine (anySy w6 v (S l) _ (fun x => decide (x.acc = a ∧ x.grp = e.group) && nets.all fun p => letsP p x l id) (hv.keepQ (q.tr q6)) (by omega) fun w' y K q' hy hK => ?_).use ?_
    · have := S_rng l y hy
      exact cv_mk Try.func32 NN_32 NB_32 rfl ((clo32_c w' y b1 b2 b3 b4 s t nets l a id e (H6.keepQ q') hn hl hc h0 h1 (by omega)).use fun r w'' ⟨e, q''⟩ => e ▸ hK w'' q'')
    · rintro r w7 ⟨rfl, q7⟩
      exact ⟨rfl, q.tr (q6.tr q7)⟩
theorem Sees_c (w : World) (s t : Sl) (nets : List Pf) (l : List Ev) (a id : Int) (hs : Rd w pf 22 s nets) (h : Rd w ev 12 t l) (hn : nets.length ≤ 1000000) (hl : l.length ≤ 1000000) (hc : t.len ≤ t.cap) :
    callC Try.prog 9 #[s.v, t.v, .int .i64 a, .int .i64 id] (fun (r : Bool) => .bool r) w fun r w' => r = SeesP nets l a id ∧ Quiet w w' := by
  have htl := h.len
  refine D9 _ _ _ _ w _ ?_
  unfold F9
  refine (net_c w a).use ?_
  rintro r w1 ⟨rfl, rfl⟩
  unfold SeesP
  refine ⟨fun g => ⟨?_, Only.refl _ _⟩, fun g => ?_⟩
  · have : ¬ (0 ≤ netP a ∧ 0 ≤ id ∧ id < l.length) := by rw [htl] at g; simp at g; omega
    rw [decide_eq_false this]
    rfl
  have g' : 0 ≤ netP a ∧ 0 ≤ id ∧ id < l.length := by rw [htl] at g; simp at g; omega
  rw [decide_eq_true g', Bool.true_and]
  obtain ⟨e, he⟩ := getq g'.2.1 g'.2.2
  refine (stays_c w t l h hl).use ?_
  rintro r7 w2 ⟨F, o, f⟩
  refine (sees_c w2 s t r7 nets l a id e (hs.keepQ f.q) (h.keepQ f.q) (o.rd sy_len (by decide)) hn hl hc g'.2.1 he).use ?_
  rintro r w3 ⟨rfl, q3⟩
  exact ⟨rfl, f.q.tr q3⟩
theorem rSees_c (w : World) (s t : Sl) (nets : List Pf) (l : List Ev) (a id : Int) (hs : Rd w pf 22 s nets) (h : Rd w ev 12 t l) (hn : nets.length ≤ 1000000) (hl : l.length ≤ 1000000) (hc : t.len ≤ t.cap) :
    callC Try.prog 10 #[s.v, t.v, .int .i64 a, .int .i64 id] (fun (r : Bool) => .bool r) w fun r w' => r = SeesP nets l a id ∧ Quiet w w' := by
  have htl := h.len
  have hsl := hs.len
  have hSl := S_len l
  refine D10 _ _ _ _ w _ ?_
  unfold F10
  refine (rnet_c w a).use ?_
  rintro r w1 ⟨rfl, rfl⟩
  unfold SeesP
  refine ⟨fun g => ⟨?_, Only.refl _ _⟩, fun g => ?_⟩
  · have : ¬ (0 ≤ netP a ∧ 0 ≤ id ∧ id < l.length) := by rw [htl] at g; simp at g; omega
    rw [decide_eq_false this]
    rfl
  have g' : 0 ≤ netP a ∧ 0 ≤ id ∧ id < l.length := by rw [htl] at g; simp at g; omega
  rw [decide_eq_true g', Bool.true_and]
  obtain ⟨e, he⟩ := getq g'.2.1 g'.2.2
  unfold seesP
  rw [he]
  dsimp only
  refine h.ixx g'.2.1 he fun p hat _ => hat.ld (j := 0) rfl ⟨fun g2 => ⟨by rw [g2]; rfl, Only.refl _ _⟩, fun g2 => ?_⟩
  rw [g2, Bool.false_or]
  refine (rstays_c w t l h hl hc).use ?_
  rintro r10 w2 ⟨F, o, f⟩
  have hr := o.rd sy_len (by decide)
  have hrl := hr.len
  refine ⟨fun i w' => 0 ≤ i ∧ i ≤ (S l).length ∧ ((S l).take i.toNat).any (fun x => decide (x.acc = a ∧ x.grp = e.group) && nets.all fun p => letsP p x l id) = false ∧ Quiet w2 w', fun i _ => ((S l).length - i).toNat, ⟨by omega, by omega, by simp, Only.refl _ _⟩, ?_⟩
  rintro i w3 ⟨i0, i1, hno, q3⟩
  refine ⟨fun hi => ?_, fun hi => ⟨?_, f.q.tr q3⟩⟩
  · have hlt : i < (S l).length := by rw [hrl] at hi; exact of_decide_eq_true hi
    obtain ⟨x, hx⟩ := getq i0 hlt
    have hxr := S_rng l x (List.mem_of_getElem? hx)
    refine jn.mk (fun b w' => b = decide (x.acc = a ∧ x.grp = e.group) ∧ Quiet w2 w') ?_ ?_
    · show tk w3 _
      unfold tk
      have qd := q3.tr (Only.drew (fun _ => False) w3)
      refine (hr.keepQ qd).ixx i0 hx fun p hat _ => hat.ld (j := 0) rfl ⟨fun g3 => (hr.keepQ qd).ixx i0 hx fun p hat _ => hat.ld (j := 1) rfl ((h.keepQ (f.q.tr qd)).ixx g'.2.1 he fun p hat _ => hat.ld (j := 4) rfl ⟨?_, qd⟩), fun g3 => ⟨?_, qd⟩⟩
      · have := of_decide_eq_true g3
        simp [this]
      · exact (decide_eq_false fun c => of_decide_eq_false g3 c.1).symm
    · rintro b w5 ⟨rfl, q5⟩
      refine ⟨fun (c : Bool × Int) w' => 0 ≤ c.2 ∧ c.2 ≤ nets.length ∧ c.1 = (decide (x.acc = a ∧ x.grp = e.group) && (nets.take c.2.toNat).all fun p => letsP p x l id) ∧ Quiet w2 w', fun c _ => (nets.length - c.2).toNat, ⟨by simp, by simp, by simp, q5⟩, ?_⟩
      rintro ⟨all, k⟩ w6 ⟨k0, k1, hall, q6⟩
      dsimp only at k0 k1 hall ⊢
      refine ⟨fun hk => ?_, fun hk => ?_⟩
      · rw [Bool.and_eq_true] at hk
        have hkl : k < nets.length := by rw [hsl] at hk; exact of_decide_eq_true hk.1
        obtain ⟨y, hy⟩ := getq k0 hkl
        have hk2 : all = true := hk.2
        refine jn.mk (fun b w' => b = letsP y x l id ∧ Quiet w2 w') ?_ ?_
        · show tk w6 _
          unfold tk
          have qd := q6.tr (Only.drew (fun _ => False) w6)
          refine (hs.keepQ (f.q.tr qd)).ixx k0 hy fun p hat _ => pf_ld hat ((hr.keepQ qd).ixx i0 hx fun p hat _ => sy_ld hat ((rlets_c _ y x t l id (h.keepQ (f.q.tr qd)) hl g'.2.1 g'.2.2 (by omega)).use ?_))
          rintro r w8 ⟨rfl, q8⟩
          exact ⟨rfl, qd.tr q8⟩
        · rintro b w9 ⟨rfl, q9⟩
          rw [w64 (by omega) (by omega)]
          refine ⟨⟨by (try dsimp only); omega, by (try dsimp only); omega, ?_, q9⟩, by (try dsimp only); omega⟩
          show _ = (decide (x.acc = a ∧ x.grp = e.group) && (nets.take (k + 1).toNat).all fun p => letsP p x l id)
          rw [toNat_succ k0, take_next hy, List.all_append, ← Bool.and_assoc, ← hall, hk2]
          simp
      · have hfin : all = (decide (x.acc = a ∧ x.grp = e.group) && nets.all fun p => letsP p x l id) := by
          cases hal : all with
          | true =>
            have : nets.length ≤ k.toNat := by rw [hsl, hal] at hk; simp at hk; omega
            rw [List.take_of_length_le this] at hall
            exact hal.symm.trans hall
          | false =>
            rw [hal] at hall
            cases hd : decide (x.acc = a ∧ x.grp = e.group) with
            | false => rfl
            | true =>
              rw [hd, Bool.true_and] at hall
              rw [Bool.true_and]
              have hall := hall.symm
              rw [List.all_eq_false] at hall
              obtain ⟨z, hz, hz2⟩ := hall
              exact (List.all_eq_false.2 ⟨z, List.mem_of_mem_take hz, hz2⟩).symm
        refine ⟨fun hc2 => ⟨?_, f.q.tr q6⟩, fun hc2 => ?_⟩
        · rw [List.any_eq_true.2 ⟨x, List.mem_of_getElem? hx, by rw [← hfin]; exact hc2⟩]
        · rw [w64 (by omega) (by omega)]
          refine ⟨⟨by omega, by omega, ?_, q6⟩, by (try dsimp only); omega⟩
          rw [toNat_succ i0, take_next hx, List.any_append, hno, Bool.false_or]
          have hc2 : all = false := hc2
          simp only [List.any_cons, List.any_nil, Bool.or_false, ← hfin, hc2]
  · have hge : (S l).length ≤ i.toNat := by have := of_decide_eq_false hi; omega
    rw [List.take_of_length_le hge] at hno
    exact hno.symm
end Go.Proofs.Ytcnnnhligkpamaa
