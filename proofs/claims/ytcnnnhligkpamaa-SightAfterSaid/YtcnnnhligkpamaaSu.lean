import Derived.Test.YtcnnnhligkpamaaSt
namespace Go.Proofs.Ytcnnnhligkpamaa
open Go.Dec Go.RowKit
set_option maxHeartbeats 400000

theorem small_c (w : World) : callC Try.prog 7 #[] (fun (r : Bool) => .bool r) w fun r w' => r = true ∧ Quiet w w' := by
  refine D7 w _ ?_
  unfold F7
  refine (story_c w).use ?_
  rintro r1 w1 ⟨h1, hc, q1⟩
  have hl : storyL.length ≤ 100000 := by decide
  refine (net0_c _ _ _).use ?_
  rintro r2 w2 ⟨rfl, q2⟩
  refine nwL fun b3 w3 hb3 q3 _ _ _ => ?_
  have n3 : Rd w3 pf 22 (⟨some ⟨b3, 0, none⟩, 1, 1⟩ : Sl) [netL 0 0] := pf_row (l := [netL 0 0]) hb3 rfl rfl
  refine (All_c w3 _ r1 _ storyL 1 n3 (h1.keepQ (q2.tr q3)) (by decide) hl hc).use ?_
  rintro r4 w4 ⟨F4, o4, f4⟩
  refine (net0_c _ _ _).use ?_
  rintro r5 w5 ⟨rfl, q5⟩
  refine nwL fun b6 w6 hb6 q6 _ _ _ => ?_
  have q16 := ((q2.tr q3).tr f4.q).tr (q5.tr q6)
  have n6 : Rd w6 pf 22 (⟨some ⟨b6, 0, none⟩, 1, 1⟩ : Sl) [netL 1 0] := pf_row (l := [netL 1 0]) hb6 rfl rfl
  refine (All_c w6 _ r1 _ storyL 1 n6 (h1.keepQ q16) (by decide) hl hc).use ?_
  rintro r7 w7 ⟨F7, o7, f7⟩
  refine (net0_c _ _ _).use ?_
  rintro r8 w8 ⟨rfl, q8⟩
  refine nwL fun b9 w9 hb9 q9 _ _ _ => ?_
  have q79 := q8.tr q9
  have q19 := (q16.tr f7.q).tr q79
  have n9 : Rd w9 pf 22 (⟨some ⟨b9, 0, none⟩, 1, 1⟩ : Sl) [netL 1 1] := pf_row (l := [netL 1 1]) hb9 rfl rfl
  refine (All_c w9 _ r1 _ storyL 1 n9 (h1.keepQ q19) (by decide) hl hc).use ?_
  rintro r10 w10 ⟨F10, o10, f10⟩
  refine (net0_c _ _ _).use ?_
  rintro r11 w11 ⟨rfl, q11⟩
  refine (net0_c _ _ _).use ?_
  rintro r12 w12 ⟨rfl, q12⟩
  refine nwL fun b13 w13 hb13 q13 _ _ _ => ?_
  have q1013 := (q11.tr q12).tr q13
  have q113 := (q19.tr f10.q).tr q1013
  have n13 : Rd w13 pf 22 (⟨some ⟨b13, 0, none⟩, 2, 2⟩ : Sl) [netL 0 1, netL 1 0] := pf_row (l := [netL 0 1, netL 1 0]) hb13 rfl rfl
  refine (All_c w13 _ r1 _ storyL 1 n13 (h1.keepQ q113) (by decide) hl hc).use ?_
  rintro r14 w14 ⟨F14, o14, f14⟩
  have hb := h1.keepQ (q113.tr f14.q)
  have nb := n13.keepQ f14.q
  have d4 := (o4.rd ci1 (by decide)).keepQ (((q5.tr q6).tr (f7.q.tr q79)).tr ((f10.q.tr q1013).tr f14.q))
  have d7 := (o7.rd ci1 (by decide)).keepQ (q79.tr ((f10.q.tr q1013).tr f14.q))
  have d10 := (o10.rd ci1 (by decide)).keepQ (q1013.tr f14.q)
  have d14 := o14.rd ci1 (by decide)
  have q014 := q1.tr (q113.tr f14.q)
  clear h1 n3 n6 n9 n13 o4 o7 o10 o14
  refine nwL fun b15 w15 hb15 q15 _ _ _ => ?_
  refine (ints_c w15 _ _ _ [3] (d4.keepQ q15) (ints_row hb15 rfl rfl) (by decide +kernel)).use ?_
  rintro r16 w16 ⟨hr16, q16'⟩
  have hr16 : r16 = true := hr16.trans (by decide +kernel)
  have q1416 := q15.tr q16'
  refine jn_t (W := w14) hr16 (nwL fun b19 w17 hb19 q17 _ _ _ => (ints_c w17 _ _ _ [0, 1, 2, 3] (d7.keepQ (q1416.tr q17)) (ints_row hb19 rfl rfl) (by decide +kernel)).use ?_) fun w19 q19 => ?_
  · rintro r w' ⟨hr, q⟩
    exact ⟨hr.trans (by decide +kernel), (q1416.tr q17).tr q⟩
  refine jn_t (W := w14) rfl (nwL fun b24 w20 hb24 q20 _ _ _ => (ints_c w20 _ _ _ [0, 1, 2, 3, 4, 5] (d10.keepQ (q19.tr q20)) (ints_row hb24 rfl rfl) (by decide +kernel)).use ?_) fun w22 q22 => ?_
  · rintro r w' ⟨hr, q⟩
    exact ⟨hr.trans (by decide +kernel), (q19.tr q20).tr q⟩
  refine jn_t (W := w14) rfl (nwL fun b29 w23 hb29 q23 _ _ _ => (ints_c w23 _ _ _ [3] (d14.keepQ (q22.tr q23)) (ints_row hb29 rfl rfl) (by decide +kernel)).use ?_) fun w25 q25 => ?_
  · rintro r w' ⟨hr, q⟩
    exact ⟨hr.trans (by decide +kernel), (q22.tr q23).tr q⟩
  refine jn_t (W := w14) rfl ((Sees_c w25 _ r1 _ storyL 1 3 (nb.keepQ q25) (hb.keepQ q25) (by decide) (by decide) hc).use ?_) fun w27 q27 => ?_
  · rintro r w' ⟨hr, q⟩
    exact ⟨hr.trans (by decide +kernel), q25.tr q⟩
  refine jn_t (W := w14) rfl ((Sees_c w27 _ r1 _ storyL 1 5 (nb.keepQ q27) (hb.keepQ q27) (by decide) (by decide) hc).use ?_) fun w29 q29 => ?_
  · rintro r w' ⟨hr, q⟩
    rw [hr]
    exact ⟨by decide +kernel, q27.tr q⟩
  refine jn_t (W := w14) rfl ((Sees_c w29 _ r1 _ storyL 0 7 (nb.keepQ q29) (hb.keepQ q29) (by decide) (by decide) hc).use ?_) fun w31 q31 => ?_
  · rintro r w' ⟨hr, q⟩
    exact ⟨hr.trans (by decide +kernel), q29.tr q⟩
  refine jn_t (W := w14) rfl ((To_c w31 _ r1 _ storyL 0 7 (nb.keepQ q31) (hb.keepQ q31) (by decide) (by decide) hc).use ?_) fun w33 q33 => ?_
  · rintro r w' ⟨hr, q⟩
    exact ⟨hr.trans (by decide +kernel), q31.tr q⟩
  refine jn_t (W := w14) rfl ((To_c w33 _ r1 _ storyL 1 7 (nb.keepQ q33) (hb.keepQ q33) (by decide) (by decide) hc).use ?_) fun w35 q35 => ?_
  · rintro r w' ⟨hr, q⟩
    rw [hr]
    exact ⟨by decide +kernel, q33.tr q⟩
  refine jn_t (W := w14) rfl ((To_c w35 _ r1 _ storyL 2 3 (nb.keepQ q35) (hb.keepQ q35) (by decide) (by decide) hc).use ?_) fun w37 q37 => ?_
  · rintro r w' ⟨hr, q⟩
    rw [hr]
    exact ⟨by decide +kernel, q35.tr q⟩
  exact ⟨rfl, q014.tr q37⟩

theorem tells_c (w : World) (s t : Sl) (nets : List Pf) (l : List Ev) (a n id : Int) (hs : Rd w pf 22 s nets) (h : Rd w ev 12 t l) (hl : l.length ≤ maxLen) (hc : t.len ≤ t.cap) :
    callC Try.prog 3 #[s.v, t.v, .int .i64 a, .int .i64 n, .int .i64 id] (fun (r : Bool) => .bool r) w fun r w' => r = true ∧ Quiet w w' := by
  refine D3 _ _ _ _ _ w _ ?_
  unfold F3
  refine (small_c w).use ?_
  rintro r1 w1 ⟨rfl, q1⟩
  refine (few_c w1 s t nets l (hs.keepQ q1) (h.keepQ q1) hl).use ?_
  rintro r2 w2 ⟨hr2, q2⟩
  have q02 := q1.tr q2
  refine ⟨fun _ => ⟨rfl, q02⟩, fun g => ?_⟩
  obtain ⟨k1, k2⟩ := hr2 (by simpa using g)
  refine (Sees_c w2 s t nets l a id (hs.keepQ q02) (h.keepQ q02) (by omega) (by omega) hc).use ?_
  rintro r4 w3 ⟨rfl, q3⟩
  have q03 := q02.tr q3
  refine (rSees_c w3 s t nets l a id (hs.keepQ q03) (h.keepQ q03) (by omega) (by omega) hc).use ?_
  rintro r5 w4 ⟨rfl, q4⟩
  have q04 := q03.tr q4
  refine jn_t (W := w) (by simp) ((To_c w4 s t nets l n id (hs.keepQ q04) (h.keepQ q04) (by omega) (by omega) hc).use ?_) fun w7 q07 => ?_
  · rintro r8 w5 ⟨rfl, q5⟩
    have q05 := q04.tr q5
    refine (rTo_c w5 s t nets l n id (hs.keepQ q05) (h.keepQ q05) (by omega) (by omega) hc).use ?_
    rintro r9 w6 ⟨rfl, q6⟩
    exact ⟨by simp, q05.tr q6⟩
  refine jn_t (W := w) rfl ((All_c w7 s t nets l a (hs.keepQ q07) (h.keepQ q07) (by omega) (by omega) hc).use ?_) fun w11 q11 => ⟨rfl, q11⟩
  rintro r15 w8 ⟨F, o, f⟩
  have q08 := q07.tr f.q
  refine (rAll_c w8 s t nets l a (hs.keepQ q08) (h.keepQ q08) (by omega) (by omega) hc).use ?_
  rintro r16 w9 ⟨F', o', f'⟩
  have hal := allN_len nets l a l.length
  refine (ints_c w9 _ _ _ _ ((o.keepQ f'.q).rd ci1 (by decide)) (o'.rd ci1 (by decide)) (show (allN nets l a l.length).length ≤ _ by omega)).use ?_
  rintro r17 w10 ⟨rfl, q10⟩
  exact ⟨by simp, (q08.tr f'.q).tr q10⟩
theorem tells (W : World) (s : Sl) (nets : List Pf) (hs : Rd W pf 22 s nets) (_ : ∀ ad, s.a = some ad → 0 < nets.length → ad.block < W.heap.size) (_ : nets.length ≤ maxLen)
    (t : Sl) (l : List Ev) (h : Rd W ev 12 t l) (_ : ∀ ad, t.a = some ad → 0 < l.length → ad.block < W.heap.size) (hl : l.length ≤ maxLen) (hc : t.len ≤ t.cap) (a : Int) (_ : -9223372036854775808 ≤ a) (_ : a ≤ 9223372036854775807)
    (n : Int) (_ : -9223372036854775808 ≤ n) (_ : n ≤ 9223372036854775807) (id : Int) (_ : -9223372036854775808 ≤ id) (_ : id ≤ 9223372036854775807) :
    callC Try.prog 3 #[s.v, t.v, .int .i64 a, .int .i64 n, .int .i64 id] (fun (r : Bool) => .bool r) W fun r w' => r = true ∧ Below W.heap.size W w' :=
  (tells_c W s t nets l a n id hs h hl hc).use fun _ _ h => ⟨h.1, bq h.2⟩
end Go.Proofs.Ytcnnnhligkpamaa
