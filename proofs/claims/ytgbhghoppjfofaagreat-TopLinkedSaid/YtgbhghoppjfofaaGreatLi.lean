import Derived.Test.YtgbhghoppjfofaaGreatHc
namespace Go.Proofs.YtgbhghoppjfofaaGreat
open Go.Dec Go.RowKit Go.Top
set_option maxHeartbeats 4000000
set_option maxRecDepth 10000

theorem hop_start {W w w' : World} {Fs Fr : Nat → Prop} {b bs br : Nat} {S : SS} {R : RS} {sl : Sl} (hs : IsS w Fs bs S) (hr : IsR w Fr br R) (hd : ∀ x, Fs x → ¬ Fr x) (hb : Blk w' b 33 #[.pointer (some ⟨bs, 0, none⟩), .pointer (some ⟨br, 0, none⟩), sl.v, .int .i64 0]) (q : Quiet w w') (hge : w.heap.size ≤ b) (_ : Quiet W w) :
    IsHop w' (fun x => (Fs x ∨ Fr x) ∨ x = b) b bs br S R sl 0 := by
  refine ⟨⟨Fs, Fr, hb, hs.keepQ q, hr.keepQ q, .inr rfl, fun x e => .inl (.inl e), fun x e => .inl (.inr e), fun e => ?_, fun e => ?_, hd⟩, fun x hx => ?_⟩
  · have := hs.lt b e
    omega
  · have := hr.lt b e
    omega
  · have := q.size
    have := hb.lt
    rcases hx with (e | e) | e
    · have := hs.lt x e
      omega
    · have := hr.lt x e
      omega
    · omega
theorem Rd_againQ {α : Type} {w : World} {c : α → List Value} {sz : Nat} {s : Sl} {l : List α} {i : Nat} {x : α} {p : Addr} (h : Rd w c sz s l) (hx : l[i]? = some x) (hp : ∃ ad, s.a = some ad ∧ p = ad.add (i * sz)) : AtC w p (c x) := by
  obtain ⟨ad, e, rfl⟩ := hp
  obtain ⟨ad', e', hat⟩ := h.2 _ x hx
  rw [e] at e'
  injection e' with e'
  exact e' ▸ hat
theorem linked_c (w : World) (p0 p1 p2 p5 : Int) (sl sm : Sl) (loss more : List Bool) (hl : Rd w cbo 1 sl loss) (hm : Rd w cbo 1 sm more) (c0 : 0 ≤ p2) (c1 : p2 ≤ 255) (d0 : 0 ≤ p5) (d1 : p5 ≤ 255) :
    callC Tryz.prog 3 #[.int .i64 p0, .int .i64 p1, .int .u8 p2, sl.v, sm.v, .int .u8 p5] (fun (r : Bool) => .bool r) w fun r w' => r = true ∧ Quiet w w' := by
  have e1 := hl.len
  have e2 := hm.len
  refine D3 _ _ _ _ _ _ w _ ?_
  unfold F3
  rw [w64 (x := p2) (by omega) (by omega), e1, e2]
  have n0 := Int.tmod_nonneg 41 c0
  have n1 := Int.tmod_lt_of_pos p2 (show (0 : Int) < 41 by decide)
  have m0 := Int.tmod_nonneg 4 d0
  have m1 := Int.tmod_lt_of_pos p5 (show (0 : Int) < 4 by decide)
  generalize p2.tmod 41 = n at *
  rw [w64 (x := p5.tmod 4) (by omega) (by omega)]
  generalize p5.tmod 4 = mo at *
  refine (alive_c w).use ?_
  rintro r9 w1 ⟨rfl, q1⟩
  refine ⟨fun _ => ⟨rfl, q1⟩, fun g => ?_⟩
  rw [Bool.or_eq_false_iff] at g
  have g1 := of_decide_eq_false g.1
  have g2 := of_decide_eq_false g.2
  refine (news_c w1 p0).use ?_
  rintro ⟨r13, e13⟩ w2 ⟨y2, z2, q2⟩
  refine (newr_c w2 p0).use ?_
  rintro ⟨r14, e14⟩ w3 ⟨y3, z3, q3⟩
  refine (news_c w3 p1).use ?_
  rintro ⟨r15, e15⟩ w4 ⟨y4, z4, q4⟩
  refine (newr_c w4 p1).use ?_
  rintro ⟨r16, e16⟩ w5 ⟨y5, z5, q5⟩
  refine ⟨fun gw => ⟨?_, (((q1.tr q2).tr q3).tr q4).tr q5⟩, fun gw => ?_⟩
  · by_cases h0 : win p0
    · have h1 : ¬ win p1 := fun h1 => by
        unfold win at h0 h1
        rw [decide_eq_false (show ¬ p0 < 1 by omega), decide_eq_false (show ¬ 64 < p0 by omega), decide_eq_false (show ¬ p1 < 1 by omega), decide_eq_false (show ¬ 64 < p1 by omega)] at gw
        cases gw
      have := z4 h1
      cases this
      simp
    · have := z2 h0
      cases this
      simp
  simp only [Bool.or_eq_false_iff] at gw
  obtain ⟨⟨⟨gw1, gw2⟩, gw3⟩, gw4⟩ := gw
  have gw1 := of_decide_eq_false gw1
  have gw2 := of_decide_eq_false gw2
  have gw3 := of_decide_eq_false gw3
  have gw4 := of_decide_eq_false gw4
  have hw0 : win p0 := by unfold win; omega
  have hw1 : win p1 := by unfold win; omega
  obtain ⟨bs, Fs, e13', s2, f2⟩ := y2 hw0
  obtain ⟨br, Fr, e14', r3, f3⟩ := y3 hw0
  obtain ⟨bt, Ft, e15', s4, f4⟩ := y4 hw1
  obtain ⟨bu, Fu, e16', r5, f5⟩ := y5 hw1
  cases e13'
  cases e14'
  cases e15'
  cases e16'
  refine ⟨fun e => (by simp at e), fun _ => ?_⟩
  clear y2 z2 y3 z3 y4 z4 y5 z5
  have z1 := q1.size
  have s5 := (s2.keepQ q3).keepQ (q4.tr q5)
  have r5' := r3.keepQ (q4.tr q5)
  have s5' := s4.keepQ q5
  refine nwL fun b47 w6 hb47 q6 g6 _ l6 => nwL fun b48 w7 hb48 q7 g7 _ l7 => ?_
  have hqw5 : Quiet w w5 := (((q1.tr q2).tr q3).tr q4).tr q5
  have d1' : ∀ x, Fs x → ¬ Fr x := fun x e e' => by
    have := s2.lt x e
    have := (f3.b x e').1
    omega
  have d2' : ∀ x, Ft x → ¬ Fu x := fun x e e' => by
    have := s4.lt x e
    have := (f5.b x e').1
    omega
  have H1 := (hop_start s5 r5' d1' hb47 q6 g6 hqw5).keepQ q7
  have H2 := hop_start (s5'.keepQ q6) (r5.keepQ q6) d2' hb48 q7 g7 (hqw5.tr q6)
  have hqw7 := (hqw5.tr q6).tr q7
  have O7 : Objs w w7 (two (fun x => (Fs x ∨ Fr x) ∨ x = b47) fun x => (Ft x ∨ Fu x) ∨ x = b48) := by
    have t2 := q2.size
    have t3 := q3.size
    have t4 := q4.size
    have t5 := q5.size
    have t6 := q6.size
    refine ⟨bq hqw7, ⟨fun i j x hi hj => ?_, fun i x hi => ?_, fun i x hi => ?_⟩⟩
    · unfold two at hi hj
      split at hi <;> split at hj <;> rename_i c1 c2
      · omega
      · split at hj
        · exfalso
          have hx : x < w3.heap.size ∨ x = b47 := by
            rcases hi with (e | e) | e
            · have := s2.lt x e; omega
            · have := r3.lt x e; omega
            · exact .inr e
          have hy : w3.heap.size ≤ x ∧ x ≠ b47 := by
            rcases hj with (e | e) | e
            · have := (f4.b x e).1; have := s4.lt x e; omega
            · have := (f5.b x e).1; have := r5.lt x e; omega
            · omega
          omega
        · exact hj.elim
      · split at hi
        · exfalso
          have hx : x < w3.heap.size ∨ x = b47 := by
            rcases hj with (e | e) | e
            · have := s2.lt x e; omega
            · have := r3.lt x e; omega
            · exact .inr e
          have hy : w3.heap.size ≤ x ∧ x ≠ b47 := by
            rcases hi with (e | e) | e
            · have := (f4.b x e).1; have := s4.lt x e; omega
            · have := (f5.b x e).1; have := r5.lt x e; omega
            · omega
          omega
        · exact hi.elim
      · split at hi <;> split at hj
        · omega
        · exact hj.elim
        · exact hi.elim
        · exact hi.elim
    · unfold two at hi
      split at hi
      · rcases hi with (e | e) | e
        · have := (f2.b x e).1; omega
        · have := (f3.b x e).1; omega
        · omega
      · split at hi
        · rcases hi with (e | e) | e
          · have := (f4.b x e).1; omega
          · have := (f5.b x e).1; omega
          · omega
        · exact hi.elim
    · unfold two at hi
      split at hi
      · exact H1.lt x hi
      · split at hi
        · exact H2.lt x hi
        · exact hi.elim
  have L1 := Lk.start hw0
  have L2 := Lk.start hw1
  generalize (fun x => (Fs x ∨ Fr x) ∨ x = b47) = F1 at H1 O7
  generalize (fun x => (Ft x ∨ Fu x) ∨ x = b48) = F2 at H2 O7
  -- all numbers are sent on the first link
  refine ⟨fun i w' => 0 ≤ i ∧ i ≤ n ∧ ∃ (S1 : SS) (F1 : Nat → Prop), S1.N = i ∧ IsHop w' F1 b47 bs br S1 (RS.new p0) sl 0 ∧ Lk S1 (RS.new p0) ∧ IsHop w' F2 b48 bt bu ⟨p1, 0, 0⟩ (RS.new p1) sm 0 ∧ Objs w w' (two F1 F2), fun i _ => (n - i).toNat, ⟨Int.le_refl _, n0, ⟨p0, 0, 0⟩, F1, rfl, H1, L1, H2, O7⟩, ?_⟩
  clear H1 H2 O7 L1
  rintro i w8 ⟨i0, i1, S1, F1, hN1, H1, L1, H2, O8⟩
  refine ⟨fun hi => ?_, fun hi => ?_⟩
  · have hi : i < n := of_decide_eq_true hi
    refine IsHop.stepS (S' := S1.send) H1 fun Fs hs hstep => (send_c w8 Fs bs S1 hs L1.so).use ?_
    rintro r w9 ⟨rfl, hs9, st9⟩
    obtain ⟨F1', H1', st9'⟩ := hstep w9 Fs hs9 st9
    rw [hN1]
    refine ⟨fun e => (by simp at e), fun _ => ?_⟩
    rw [w64 (by omega) (by omega)]
    exact ⟨⟨by omega, by omega, S1.send, F1', by show S1.N + 1 = i + 1; omega, H1', L1.send (by omega), H2.keep st9'.only O8.d10, O8.s0 st9'⟩, by (try dsimp only); omega⟩
  have hin : i = n := by have := of_decide_eq_false hi; omega
  subst hin
  clear hi i0 i1
  refine nwL fun b55 w10 hb55 q10 g10 _ l10 => ?_
  have O10 : Objs w w10 (four F1 F2 (fun x => x = b55) fun _ => False) := by
    have h1 : Objs w w8 (four F1 F2 (fun _ => False) fun _ => False) := O8.congr fun j x hx => by
      unfold four at hx
      unfold two
      split at hx
      · rename_i e
        rw [if_pos e]
        exact hx
      · split at hx
        · rename_i e e'
          rw [if_neg e, if_pos e']
          exact hx
        · split at hx
          · exact hx.elim
          · split at hx <;> exact hx.elim
    exact (h1.new 2 ⟨q10, fun x e => by omega⟩).congr (four_upd 2 _)
  rw [w64 (x := (loss.length : Int) + more.length) (by omega) (by omega), w64 (x := 2 * i) (by omega) (by omega), w64 (x := (loss.length : Int) + more.length + 2 * i) (by omega) (by omega), w64 (x := (loss.length : Int) + more.length + 2 * i + 4) (by omega) (by omega)]
  refine ⟨fun c w' => 0 ≤ c.2 ∧ c.2 ≤ 600 ∧ ∃ (S1 S2 : SS) (R1 R2 : RS) (a1 a2 : Int) (F1 F2 : Nat → Prop) (s : Sl), IsHop w' F1 b47 bs br S1 R1 sl a1 ∧ Lk S1 R1 ∧ IsHop w' F2 b48 bt bu S2 R2 sm a2 ∧ Lk S2 R2 ∧ S1.N = i ∧ S2.N = R1.R ∧ c.1 = R2.R ∧
      Blk w' b55 38 #[.int .i64 c.1, Sl.v s] ∧ s.len = 0 ∧ Objs w w' (four F1 F2 (fun x => x = b55) fun _ => False) ∧ 0 ≤ a1 ∧ a1 ≤ 256 * c.2 ∧ 0 ≤ a2 ∧ a2 ≤ 256 * c.2 ∧
      (i - S1.B) + max 0 (loss.length - a1) + (i - S2.B) + max 0 (more.length - a2) + c.2 ≤ 2 * i + loss.length + more.length, fun c _ => (600 - c.2).toNat,
    ⟨Int.le_refl _, by (try dsimp only); omega, S1, ⟨p1, 0, 0⟩, RS.new p0, RS.new p1, 0, 0, F1, F2, Sl.nil, H1.keepQ q10, L1, H2.keepQ q10, L2, hN1, rfl, rfl, hb55, rfl, O10, Int.le_refl _, by (try dsimp only); omega, Int.le_refl _, by (try dsimp only); omega, ?_⟩, ?_⟩
  · have := L1.so.b0
    dsimp only
    omega
  clear H1 L1 H2 hN1 O10 O8 hb55
  clear S1 F1 F2
  rintro ⟨came, rd⟩ w11 ⟨rd0, rd1, S1, S2, R1, R2, a1, a2, F1, F2, s, H1, L1, H2, L2, hN1, hN2, hcame, hb55, hs0, O, ha1, ha1', ha2, ha2', hpot⟩
  dsimp only at rd0 rd1 hcame hb55 ha1' ha2' hpot ⊢
  have hB1 := L1.so.b1
  have hB10 := L1.so.b0
  have hB2 := L2.so.b1
  have hB20 := L2.so.b0
  have hRN1 := L1.rN
  have hRN2 := L2.rN
  have hbR2 := L2.bR
  have hR10 := L1.qo.r0
  have hR20 := L2.qo.r0
  have q11 : Quiet w w11 := Quiet.ofBelow O.bl
  refine ⟨fun g => ?_, fun g => ?_⟩
  · rw [Bool.and_eq_true] at g
    have gr := of_decide_eq_true g.1
    have gc := of_decide_eq_true g.2
    -- the first link
    refine (round_c w w11 F1 b47 bs br S1 R1 sl a1 loss H1 hl q11 (fun x hx => O.sep.ge 0 x (by unfold four; simpa using hx)) L1 ha1 (by omega)).use ?_
    rintro ⟨o1, ok1⟩ w12 ⟨hok1, S1', R1', a1', F1', G1, H1', L1', hN1', hB1', hR1', hb1, hb1', st12, og1, hG1, hGF1, hp1⟩
    dsimp only at hok1 og1 ⊢
    subst hok1
    refine ⟨fun e => (by cases e), fun _ => ?_⟩
    have hl1 : (o1.len : Int) = R1'.R - R1.R := by
      have := (og1.rd ci1 (by decide)).len
      rw [seqI_len] at this
      omega
    have dj := O.dj4
    have O12 : Objs w w12 (four F1' F2 (fun x => x = b55) fun _ => False) := O.t0 st12
    have H2' := H2.keep st12.only dj.2.2.2.1
    have hb55' := hb55.keep st12.only fun e => dj.2.1 b55 e rfl
    have hRN1' := L1'.rN
    -- what came is sent on
    refine ⟨fun k w' => 0 ≤ k ∧ k ≤ o1.len ∧ ∃ (S2 : SS) (F2' : Nat → Prop), S2.N = R1.R + k ∧ IsHop w' F1' b47 bs br S1' R1' sl a1' ∧ IsHop w' F2' b48 bt bu S2 R2 sm a2 ∧ Lk S2 R2 ∧ Blk w' b55 38 #[.int .i64 came, Sl.v s] ∧ Objs w w' (four F1' F2' (fun x => x = b55) fun _ => False) ∧ i - S2.B + max 0 (more.length - a2) ≤ 2 * i + loss.length + more.length - rd - (i - S1.B) - max 0 (loss.length - a1),
      fun k _ => ((o1.len : Int) - k).toNat, ⟨Int.le_refl _, by omega, S2, F2, by omega, H1', H2', L2, hb55', O12, by omega⟩, ?_⟩
    clear O12 H2' hb55'
    clear H2 O H1 H1'
    rintro k w13 ⟨k0, k1, S2', F2', hN2', H1', H2', L2', hb55', O13, hpot'⟩
    have dj := O13.dj4
    refine ⟨fun hk => ?_, fun hk => ?_⟩
    · have hk : k < o1.len := of_decide_eq_true hk
      refine IsHop.stepS (S' := S2'.send) H2' fun Fs hs hstep => (send_c w13 Fs bt S2' hs L2'.so).use ?_
      rintro r w14 ⟨rfl, hs14, st14⟩
      obtain ⟨F2'', H2'', st⟩ := hstep w14 Fs hs14 st14
      refine ⟨fun e => (by simp at e), fun _ => ?_⟩
      rw [w64 (by omega) (by omega)]
      exact ⟨⟨by omega, by omega, S2'.send, F2'', by show S2'.N + 1 = _; omega, H1'.keep st.only dj.1, H2'', L2'.send (by omega), hb55'.keep st.only fun e => dj.2.2.1 b55 e rfl, O13.t1 st, hpot'⟩, by (try dsimp only); omega⟩
    have hko : k = o1.len := by have := of_decide_eq_false hk; omega
    have q13 : Quiet w w13 := Quiet.ofBelow O13.bl
    have hB2' := L2'.so.b0
    have hB2'' := L2'.so.b1
    have hbR2' := L2'.bR
    refine (round_c w w13 F2' b48 bt bu S2' R2 sm a2 more H2' hm q13 (fun x hx => O13.sep.ge 1 x (by unfold four; simpa using hx)) L2' ha2 (by omega)).use ?_
    rintro ⟨o2, ok2⟩ w15 ⟨hok2, S3, R2', a2', F3, G2, H3, L3, hN3, hB3, hR3, hb2, hb2', st15, og2, hG2, hGF2, hp2⟩
    dsimp only at hok2 og2 ⊢
    subst hok2
    refine ⟨fun e => (by cases e), fun _ => ?_⟩
    have hl2 : (o2.len : Int) = R2'.R - R2.R := by
      have := (og2.rd ci1 (by decide)).len
      rw [seqI_len] at this
      omega
    have O15 : Objs w w15 (four F1' F3 (fun x => x = b55) fun _ => False) := O13.t1 st15
    have H1'' := H1'.keep st15.only dj.1
    have hb55'' := hb55'.keep st15.only fun e => dj.2.2.1 b55 e rfl
    have hGb : ¬ G2 b55 := fun e => by
      have := (hG2 b55 e).1
      have := hb55'.lt
      omega
    have hRN3 := L3.rN
    refine ⟨fun c w' => 0 ≤ c.2 ∧ c.2 ≤ o2.len ∧ c.1 = R2.R + c.2 ∧ ∃ s : Sl, Blk w' b55 38 #[.int .i64 c.1, Sl.v s] ∧ s.len = 0 ∧ IsHop w' F1' b47 bs br S1' R1' sl a1' ∧ IsHop w' F3 b48 bt bu S3 R2' sm a2' ∧ OwnF w' G2 3 1 o2 ((seqI R2.R (R2'.R - R2.R).toNat).flatMap ci) ∧ Objs w w' (four F1' F3 (fun x => x = b55) fun _ => False),
      fun c _ => ((o2.len : Int) - c.2).toNat, ⟨Int.le_refl _, by (try dsimp only); omega, by (try dsimp only); omega, s, hb55'', hs0, H1'', H3, og2, O15⟩, ?_⟩
    clear H1'' H3 og2 O15 hb55''
    rintro ⟨cm, k⟩ w16 ⟨k0, k1, hcm, s, hb16, hs0, H1, H2, og2, O16⟩
    dsimp only at k0 k1 hcm hb16 ⊢
    refine ⟨fun hk => ?_, fun hk => ?_⟩
    · have hk : k < o2.len := of_decide_eq_true hk
      have hget : (seqI R2.R (R2'.R - R2.R).toNat)[k.toNat]? = some cm := by
        rw [seqI_get (by omega)]
        congr 1
        omega
      have hO := og2.rd ci1 (by decide)
      have hcm0 : 0 ≤ cm := by omega
      have hcm1 : cm < 1099511627776 := by omega
      refine jn.mk (fun l w' => ∃ (b77 : Nat) (s' : Sl), l.1 = some (⟨b77, 0, none⟩ : Addr) ∧ l.2 = true ∧ Blk w' b77 38 #[.int .i64 (cm + 1), Sl.v s'] ∧ s'.len = 0 ∧ Quiet w16 w') ?_ ?_
      · show Go.Dec.tk _ _
        unfold Go.Dec.tk
        have qd : Quiet w16 w16.drew := Only.drew _ _
        have hbd := hb16.keepQ qd
        refine Blk.ld (i := 0) (o := 0) hbd rfl (Blk.ld (i := 1) (o := 0) (x := s) hbd rfl ((hO.keepQ qd).ixx k0 hget fun p hat hp => hat.ld0 rfl ⟨?_, ?_⟩))
        · refine (otake_c _ cm mo s hs0 hcm0 hcm1 m0).use ?_
          rintro ⟨lo, s', fr⟩ w18 ⟨h1, h2, h3, q18⟩
          dsimp only at h1 h2 h3
          subst h1 h3
          refine nwL fun b77 w19 hb77 q19 g19 _ l19 => hb77.st0 (Nat.le_refl 2) fun w20 hb20 on20 _ => ⟨b77, s', rfl, rfl, by simpa [splice] using hb20, h2, ((qd.tr q18).tr q19).new on20 fun x e => ?_⟩
          have := (qd.tr q18).size
          omega
        · refine nwL fun b79 w21 hb79 q21 g21 _ l21 => ⟨?_, ⟨Blk.ld0' (hbd.keepQ q21) rfl, Blk.ld0' (hbd.keepQ q21) rfl⟩, (otake_c w21 cm mo s hs0 hcm0 hcm1 m0).use ?_⟩
          · simpa using (Rd_againQ (hO.keepQ (qd.tr q21)) hget hp).cj (j := 0) rfl
          rintro ⟨lo, s', fr⟩ w22 ⟨h1, h2, h3, q22⟩
          dsimp only at h1 h2 h3
          subst h1 h3
          refine (hb79.keepQ q22).st0 (Nat.le_refl 2) fun w23 hb23 on23 _ => ⟨b79, s', rfl, rfl, by simpa [splice] using hb23, h2, ((qd.tr q21).tr q22).new on23 fun x e => ?_⟩
          have : w16.drew.heap.size = w16.heap.size := rfl
          omega
      rintro ⟨l1, l2⟩ w24 ⟨b77, s', hl1', hl2', hb77, hs', q24⟩
      dsimp only at hl1' hl2' ⊢
      subst hl1' hl2'
      refine jn.mk (fun c w' => c = false ∧ Quiet w24 w') ?_ ?_
      · show Go.Dec.tk _ _
        unfold Go.Dec.tk
        have qd : Quiet w24 w24.drew := Only.drew _ _
        have hbd := hb77.keepQ qd
        refine nn_ (Blk.ld (i := 0) (o := 0) hbd rfl (Blk.ld (i := 1) (o := 0) (x := s') hbd rfl ((hO.keepQ (q24.tr qd)).ixx k0 hget fun p hat hp => hat.ld0 rfl ⟨?_, ?_⟩)))
        · refine (oagain_c _ (cm + 1) cm mo s' hs' hcm0 (by omega) (by omega)).use ?_
          rintro ⟨lo, s2, fr⟩ w26 ⟨h3, q26⟩
          refine nwL fun b91 w27 hb91 q27 g27 _ l27 => hb91.st0 (Nat.le_refl 2) fun w28 hb28 on28 _ => ⟨h3, ((qd.tr q26).tr q27).new on28 fun x e => ?_⟩
          have := (qd.tr q26).size
          omega
        · refine nwL fun b93 w29 hb93 q29 g29 _ l29 => ⟨?_, ⟨Blk.ld0' (hbd.keepQ q29) rfl, Blk.ld0' (hbd.keepQ q29) rfl⟩, (oagain_c w29 (cm + 1) cm mo s' hs' hcm0 (by omega) (by omega)).use ?_⟩
          · simpa using (Rd_againQ (hO.keepQ ((q24.tr qd).tr q29)) hget hp).cj (j := 0) rfl
          rintro ⟨lo, s2, fr⟩ w30 ⟨h3, q30⟩
          refine (hb93.keepQ q30).st0 (Nat.le_refl 2) fun w31 hb31 on31 _ => ⟨h3, ((qd.tr q29).tr q30).new on31 fun x e => ?_⟩
          have : w24.drew.heap.size = w24.heap.size := rfl
          omega
      rintro c w32 ⟨rfl, q32⟩
      have q1632 := q24.tr q32
      refine (hO.keepQ q1632).ixx k0 hget fun p hat _ => hat.ld0 rfl ⟨fun e => (by simp at e), fun _ => ?_⟩
      have hbd := hb77.keepQ q32
      refine nn_ (Blk.ld (i := 0) (o := 0) hbd rfl (Blk.ld (i := 1) (o := 0) (x := s') hbd rfl ((hb16.keepQ q1632).st0 (Nat.le_refl 2) fun w33 hb33 on33 s33 => ?_)))
      have O32 := O16.quiet q1632
      have dj2 := O32.dj4
      rw [w64 (by omega) (by omega), w64 (by omega) (by omega)]
      refine ⟨⟨by (try dsimp only); omega, by (try dsimp only); omega, by (try dsimp only); omega, s', by simpa [splice] using hb33, hs', (H1.keepQ q1632).keep on33 dj2.2.1, (H2.keepQ q1632).keep on33 dj2.2.2.1, (og2.keepQ q1632).keep on33 fun x e e' => hGb (e' ▸ e), O32.t2 ⟨on33, fun x e => .inl e⟩⟩, by (try dsimp only); omega⟩
    · have hke : k = o2.len := by have := of_decide_eq_false hk; omega
      rw [w64 (x := rd + 1) (by omega) (by omega)]
      have hL3 := L3.so.b1
      have hL3' := L3.so.b0
      have hL1' := L1'.so.b1
      refine ⟨⟨by (try dsimp only); omega, by (try dsimp only); omega, S1', S3, R1', R2', a1', a2', F1', F3, s, H1, L1', H2, L3, by omega, by omega, by (try dsimp only); omega, hb16, hs0, O16, by omega, by (try dsimp only); omega, by omega, by (try dsimp only); omega, ?_⟩, by (try dsimp only); omega⟩
      (try dsimp only)
      by_cases hB : S1.B < S1.N
      · rcases hp1 hB with e | e <;> omega
      · have hR : R1.R = i := by have := L1.bR; omega
        have hlt : S2'.B < S2'.N := by omega
        rcases hp2 hlt with e | e <;> omega
  · have hci : came = i := by
      rw [Bool.and_eq_false_iff] at g
      rcases g with g | g
      · have := of_decide_eq_false g
        omega
      · have := of_decide_eq_false g
        omega
    subst hci
    obtain ⟨Fs1, Fr1, _, hs1, hr1, _⟩ := H1.ex
    obtain ⟨Fs2, Fr2, _, hs2, hr2, _⟩ := H2.ex
    refine jn.mk (fun c w' => c = true ∧ Quiet w11 w') ⟨fun _ => Blk.ld (i := 0) (o := 0) hb55 rfl (Blk.ld (i := 1) (o := 0) (x := s) hb55 rfl ((ofloor_c w11 _ s hs0 (by omega) (by omega)).use ?_)), fun e => (by simp at e)⟩ ?_
    · rintro r w34 ⟨rfl, q34⟩
      exact ⟨decide_eq_true rfl, q34⟩
    rintro c w35 ⟨rfl, q35⟩
    refine jn.mk (fun c w' => c = true ∧ Quiet w11 w') ⟨fun _ => (left_c w35 Fs1 bs S1 (hs1.keepQ q35) L1.so).use ?_, fun e => (by cases e)⟩ ?_
    · rintro r w36 ⟨rfl, q36⟩
      exact ⟨decide_eq_true (by omega), q35.tr q36⟩
    rintro c w37 ⟨rfl, q37⟩
    refine jn.mk (fun c w' => c = true ∧ Quiet w11 w') ⟨fun _ => (next_c w37 Fr1 br R1 (hr1.keepQ q37)).use ?_, fun e => (by cases e)⟩ ?_
    · rintro r w38 ⟨rfl, rfl⟩
      exact ⟨decide_eq_true (by omega), q37⟩
    rintro c w39 ⟨rfl, q39⟩
    refine jn.mk (fun c w' => c = true ∧ Quiet w11 w') ⟨fun _ => (next_c w39 Fr2 bu R2 (hr2.keepQ q39)).use ?_, fun e => (by cases e)⟩ ?_
    · rintro r w40 ⟨rfl, rfl⟩
      exact ⟨decide_eq_true (by omega), q39⟩
    rintro c w41 ⟨rfl, q41⟩
    exact ⟨rfl, q11.tr q41⟩
theorem linked (W : World) (p0 : Int) (_ : -9223372036854775808 ≤ p0) (_ : p0 ≤ 9223372036854775807) (p1 : Int) (_ : -9223372036854775808 ≤ p1) (_ : p1 ≤ 9223372036854775807) (p2 : Int) (c0 : 0 ≤ p2) (c1 : p2 ≤ 255)
    (u : Sl) (one : List Bool) (hu : Rd W cbo 1 u one) (_ : ∀ ad, u.a = some ad → 0 < one.length → ad.block < W.heap.size) (_ : one.length ≤ maxLen) (v : Sl) (two : List Bool) (hv : Rd W cbo 1 v two) (_ : ∀ ad, v.a = some ad → 0 < two.length → ad.block < W.heap.size) (_ : two.length ≤ maxLen)
    (p5 : Int) (d0 : 0 ≤ p5) (d1 : p5 ≤ 255) :
    callC Tryz.prog 3 #[.int .i64 p0, .int .i64 p1, .int .u8 p2, u.v, v.v, .int .u8 p5] (fun (r : Bool) => .bool r) W fun r w' => r = true ∧ Below W.heap.size W w' :=
  (linked_c W p0 p1 p2 p5 u v one two hu hv c0 c1 d0 d1).use fun _ _ h => ⟨h.1, bq h.2⟩
end Go.Proofs.YtgbhghoppjfofaaGreat
