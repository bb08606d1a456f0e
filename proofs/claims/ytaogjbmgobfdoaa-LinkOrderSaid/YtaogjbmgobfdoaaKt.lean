import Derived.Test.YtaogjbmgobfdoaaKo
namespace Go.Proofs.Ytaogjbmgobfdoaa
open Go.Dec Go.RowKit
set_option maxHeartbeats 400000

theorem tells (W : World) (n : Int) (_ : -9223372036854775808 ≤ n) (_ : n ≤ 9223372036854775807) (s : Sl) (l : List Int) (hr : Rd W ci 1 s l) (hB : ∀ ad, s.a = some ad → 0 < l.length → ad.block < W.heap.size) (hl : l.length ≤ maxLen) (hq : ∀ x ∈ l, -9223372036854775808 ≤ x ∧ x ≤ 9223372036854775807)
    (t : Sl) (m : List Int) (hr' : Rd W ci 1 t m) (hB' : ∀ ad, t.a = some ad → 0 < m.length → ad.block < W.heap.size) (hl' : m.length ≤ maxLen) (hq' : ∀ x ∈ m, -9223372036854775808 ≤ x ∧ x ≤ 9223372036854775807) :
    callC Try.prog 3 #[.int .i64 n, s.v, t.v] (fun (r : Bool) => .bool r) W fun r w' => r = true ∧ Below W.heap.size W w' := by
  have ha : Arg W ci 1 s l := ⟨hr, hB⟩
  have hb : Arg W ci 1 t m := ⟨hr', hB'⟩
  have hsl := ha.len
  have htl := hb.len
  unfold maxLen at hl hl'
  refine D3 _ _ _ W _ ?_
  unfold F3
  refine (small_c W).use ?_
  rintro r w1 ⟨rfl, q1⟩
  refine ⟨fun _ => ⟨rfl, bq q1⟩, fun hc => ?_⟩
  have hlens : l.length ≤ 80 ∧ m.length ≤ 80 := by rw [hsl, htl] at hc; simp at hc; omega
  refine (news_c w1 n).use ?_
  rintro r5 w2 ⟨a1, a2, q2⟩
  refine (newt_c w2 n).use ?_
  rintro r6 w3 ⟨b1, b2, q3⟩
  refine (newr_c w3 n).use ?_
  rintro r7 w4 ⟨c1, c2, q4⟩
  refine (newq_c w4 n).use ?_
  rintro r8 w5 ⟨d1, d2, q5⟩
  have q15 := (((q1.tr q2).tr q3).tr q4).tr q5
  by_cases hw : win n
  case neg =>
    rw [a2 hw, b2 hw, c2 hw, d2 hw]
    refine ⟨fun hc => absurd hc (by simp), fun _ => ⟨fun _ => ⟨rfl, bq q15⟩, fun hc => absurd hc (by simp)⟩⟩
  obtain ⟨sb, F, rfl, hs, hF⟩ := a1 hw
  obtain ⟨tb, G, rfl, ht, hG⟩ := b1 hw
  obtain ⟨rb, H, rfl, hR, hH⟩ := c1 hw
  obtain ⟨qb, I, rfl, hQ, hI⟩ := d1 hw
  refine ⟨fun hc => absurd hc (by simp), fun _ => ⟨fun hc => absurd hc (by simp), fun _ => ?_⟩⟩
  have hO : Objs W w5 (four F G H I) := by
    have h0 := (Objs.none4 (Objs.start W)).quiet q1
    have h1 := (h0.new 0 hF).congr (four_upd (F := fun _ => False) (G := fun _ => False) (H := fun _ => False) (I := fun _ => False) 0 F)
    have h2 := (h1.new 1 hG).congr (four_upd (F := F) (G := fun _ => False) (H := fun _ => False) (I := fun _ => False) 1 G)
    have h3 := (h2.new 2 hH).congr (four_upd (F := F) (G := G) (H := fun _ => False) (I := fun _ => False) 2 H)
    exact (h3.new 3 hI).congr (four_upd (F := F) (G := G) (H := H) (I := fun _ => False) 3 I)
  have hw' := hw
  unfold win at hw'
  -- the senders
  refine ⟨fun i w' => 0 ≤ i ∧ i ≤ l.length ∧ ∃ S : SS, S.ok ∧ S.N ≤ i ∧ IsS w' F sb S ∧ IsT w' G tb S ∧ IsR w' H rb (RS.new n) ∧ IsQ w' I qb (RS.new n) ∧ Objs W w' (four F G H I), fun i _ => (l.length - i).toNat,
    ⟨by omega, by omega, ⟨n, 0, 0⟩, ⟨hw'.1, hw'.2, Int.le_refl _, Int.le_refl _, show (0 : Int) ≤ 900 by decide⟩, Int.le_refl _, ((hs.keepQ q3).keepQ q4).keepQ q5, (ht.keepQ q4).keepQ q5, hR.keepQ q5, hQ, hO⟩, ?_⟩
  clear hs ht hR hQ hO hF hG hH hI a1 a2 b1 b2 c1 c2 d1 d2 q15
  rintro i w6 ⟨i0, i1, S, hk, hN, hs, ht, hR, hQ, hO⟩
  dsimp only
  have stepS : ∀ {w w' : World} {S : SS}, Objs W w (four F G H I) → IsT w G tb S → IsR w H rb (RS.new n) → IsQ w I qb (RS.new n) → Stp F w F w' → Objs W w' (four F G H I) ∧ IsT w' G tb S ∧ IsR w' H rb (RS.new n) ∧ IsQ w' I qb (RS.new n) := fun hO ht hR hQ st =>
    ⟨hO.same 0 st, ht.keep st.only (hO.dj (i := 1) (j := 0) (by decide)), hR.keep st.only (hO.dj (i := 2) (j := 0) (by decide)), hQ.keep st.only (hO.dj (i := 3) (j := 0) (by decide))⟩
  have stepT : ∀ {w w' : World} {S : SS}, Objs W w (four F G H I) → IsS w F sb S → IsR w H rb (RS.new n) → IsQ w I qb (RS.new n) → Stp G w G w' → Objs W w' (four F G H I) ∧ IsS w' F sb S ∧ IsR w' H rb (RS.new n) ∧ IsQ w' I qb (RS.new n) := fun hO hs hR hQ st =>
    ⟨hO.same 1 st, hs.keep st.only (hO.dj (i := 0) (j := 1) (by decide)), hR.keep st.only (hO.dj (i := 2) (j := 1) (by decide)), hQ.keep st.only (hO.dj (i := 3) (j := 1) (by decide))⟩
  refine ⟨fun hi => ?_, fun hi => ?_⟩
  · have hlt : i < l.length := by simpa [hsl] using hi
    obtain ⟨x, hx⟩ := getq i0 hlt
    refine jn.mk (fun _ w' => ∃ S : SS, S.ok ∧ S.N ≤ i + 1 ∧ IsS w' F sb S ∧ IsT w' G tb S ∧ IsR w' H rb (RS.new n) ∧ IsQ w' I qb (RS.new n) ∧ Objs W w' (four F G H I)) ?_ ?_
    · refine ha.ixx i0 hx fun p hat => (hat _ hO.bl).ld0 rfl ⟨fun hc => ?_, fun hc => ?_⟩
      · refine (send_c w6 F sb S hs hk).use ?_
        rintro r30 w8 ⟨rfl, hs1, st1⟩
        obtain ⟨hO1, ht1, hR1, hQ1⟩ := stepS hO ht hR hQ st1
        refine (tsend_c w8 G tb S ht1 hk).use ?_
        rintro r31 w9 ⟨rfl, ht2, st2⟩
        obtain ⟨hO2, hs2, hR2, hQ2⟩ := stepT hO1 hs1 hR1 hQ1 st2
        obtain ⟨k0, k1, k2, k3, k4⟩ := hk
        refine ⟨fun hc => absurd hc (by simp), fun _ => ⟨S.send, ⟨k0, k1, k2, ?_, ?_⟩, ?_, hs2, ht2, hR2, hQ2, hO2⟩⟩
        · show S.B ≤ S.N + 1
          omega
        · show S.N + 1 ≤ 900
          omega
        · show S.N + 1 ≤ i + 1
          omega
      · refine jn.mk (fun c w' => c = false ∧ ∃ S : SS, S.ok ∧ S.N ≤ i + 1 ∧ IsS w' F sb S ∧ IsT w' G tb S ∧ IsR w' H rb (RS.new n) ∧ IsQ w' I qb (RS.new n) ∧ Objs W w' (four F G H I)) ?_ ?_
        · show tk w6 _
          unfold tk
          have qd : Quiet w6 w6.drew := Only.drew _ _
          have hOd := hO.quiet qd
          refine ha.ixx i0 hx fun p hat => (hat _ hOd.bl).ld0 rfl (ha.ixx i0 hx fun p' hat' => (hat' _ hOd.bl).ld0 rfl ?_)
          refine (ack_c _ F sb S x (hs.keepQ qd) hk).use ?_
          rintro r41 w11 ⟨rfl, hs1, st1⟩
          obtain ⟨hO1, ht1, hR1, hQ1⟩ := stepS hOd (ht.keepQ qd) (hR.keepQ qd) (hQ.keepQ qd) st1
          refine ⟨(hat' _ hO1.bl).cell0, (tack_c w11 G tb S x ht1 hk).use ?_⟩
          rintro r42 w12 ⟨rfl, ht2, st2⟩
          obtain ⟨hO2, hs2, hR2, hQ2⟩ := stepT hO1 hs1 hR1 hQ1 st2
          have hN' : (S.ack x).N = S.N := by unfold SS.ack; split <;> rfl
          exact ⟨by simp, S.ack x, hk.ack x, by rw [hN']; omega, hs2, ht2, hR2, hQ2, hO2⟩
        · rintro c w13 ⟨rfl, h⟩
          exact ⟨fun hc => (by cases hc), fun _ => h⟩
    · rintro _ w7 ⟨S', hk', hN', hs', ht', hR', hQ', hO'⟩
      refine jn.mk (fun c w' => c = false ∧ Quiet w7 w') ?_ ?_
      · show tk w7 _
        unfold tk
        have qd : Quiet w7 w7.drew := Only.drew _ _
        refine (frames_c _ F sb S' (hs'.keepQ qd) hk').use ?_
        rintro r47 w15 ⟨G1, o1, f1⟩
        refine (tframes_c _ G tb S' ((ht'.keepQ qd).keepQ f1.q) hk').use ?_
        rintro r48 w16 ⟨G2, o2, f2⟩
        have hfl := SS.frames_len S'
        have hw1 := hk'.w1
        refine (ints_c w16 r47 r48 _ _ ((o1.keepQ f2.q).rd ci1 (by decide)) (o2.rd ci1 (by decide)) (by omega)).use ?_
        rintro r49 w17 ⟨rfl, q17⟩
        have qq := ((qd.tr f1.q).tr f2.q).tr q17
        have tb1 := ht'.blk.keepQ qq
        refine ⟨fun hc => absurd hc (by simp), fun _ => nn_ (tb1.ld rfl (nn_ (tb1.ld rfl ?_)))⟩
        refine (left_c w17 F sb S' (hs'.keepQ qq) hk').use ?_
        rintro r55 w18 ⟨rfl, q18⟩
        obtain ⟨k0, k1, k2, k3, k4⟩ := hk'
        refine ⟨(tb1.keepQ q18).ld0' rfl, (tb1.keepQ q18).ld0' rfl, ?_, qq.tr q18⟩
        rw [w64 (by omega) (by omega)]
        simp
      · rintro c w19 ⟨rfl, q19⟩
        refine ⟨fun hc => (by cases hc), fun _ => ?_⟩
        rw [w64 (by omega) (by omega)]
        exact ⟨⟨by omega, by omega, S', hk', hN', hs'.keepQ q19, ht'.keepQ q19, hR'.keepQ q19, hQ'.keepQ q19, hO'.quiet q19⟩, by (try dsimp only); omega⟩
  -- the receivers
  have hO2 : Objs W w6 (two H I) := (hO.sub (fun i => i + 2) (fun i j e => by omega)).congr fun i b e => by
    unfold two at e
    split at e
    · rename_i h0
      subst h0
      exact e
    · split at e
      · rename_i h1
        subst h1
        exact e
      · exact e.elim
  clear hO hs ht hk stepS stepT hi i0 i1
  refine ⟨fun i w' => 0 ≤ i ∧ i ≤ m.length ∧ ∃ (Q : RS) (I : Nat → Prop), Q.ok ∧ Q.R ≤ 64 * i ∧ IsR w' H rb Q ∧ IsQ w' I qb Q ∧ Objs W w' (two H I), fun i _ => (m.length - i).toNat, ⟨by omega, by omega, RS.new n, I, RS.new_ok hw, show (0 : Int) ≤ 64 * 0 by decide, hR, hQ, hO2⟩, ?_⟩
  clear hR hQ hO2
  rintro i w20 ⟨i0, i1, Q, I, hk, hQR, hR, hQ, hO⟩
  refine ⟨fun hi => ?_, fun hi => ⟨rfl, hO.bl⟩⟩
  have hlt : i < m.length := by simpa [htl] using hi
  obtain ⟨x, hx⟩ := getq i0 hlt
  have hxb := hq' x (List.mem_of_getElem? hx)
  have hR1 := RS.take_R hk x
  refine hb.ixx i0 hx fun p hat => (hat _ hO.bl).ld0 rfl ?_
  refine (take_c w20 H rb Q x hR hk (by omega)).use ?_
  rintro r62 w21 ⟨e62, r1, s1, G1, o1, g1⟩
  have hO1 := hO.s0 s1
  have hQ1 := hQ.keep s1.only hO.d10
  refine hb.ixx i0 hx fun p hat => (hat _ hO1.bl).ld0 rfl ?_
  refine (qtake_c w21 I qb Q x hQ1 hk (by omega) hxb.2).use ?_
  rintro r65 w22 ⟨e65, I', G2, hQ2, s2, o2, g2, d2⟩
  have hO2 := hO1.s1 s2
  have r2 := r1.keep s2.only hO1.d01
  have o1' := o1.keep s2.only fun b e1 e2 => by
    have := (g1 b e1).1
    have := hQ.lt b e2
    omega
  have hgl : (Q.got x).length ≤ 64 := by
    unfold RS.got
    split
    · simp
    · rw [seqI_len]
      have h1 := lead_le (Q.mark x).H
      have h2 := (hk.mark x).h
      have h3 := (hk.mark x).w1
      omega
  rw [e62, e65]
  refine jn.mk (fun c w' => c = false ∧ Quiet w22 w') ?_ ?_
  · show tk w22 _
    unfold tk
    have qd : Quiet w22 w22.drew := Only.drew _ _
    refine (ints_c _ r62.1 r65.1 _ _ ((o1'.keepQ qd).rd ci1 (by decide)) ((o2.keepQ qd).rd ci1 (by decide)) (by omega)).use ?_
    rintro r68 w24 ⟨rfl, q24⟩
    have qq := qd.tr q24
    obtain ⟨hs, hb1, _, _⟩ := hQ2.ex
    have hb2 := hb1.keepQ qq
    refine ⟨fun hc => absurd hc (by simp), fun _ => ⟨fun hc => absurd hc (by simp), fun _ => nn_ (hb2.ld rfl ((next_c w24 H rb _ (r2.keepQ qq)).use ?_))⟩⟩
    rintro r77 w26 ⟨rfl, rfl⟩
    exact ⟨hb2.ld0' rfl, by simp, qq⟩
  · rintro c w27 ⟨rfl, q27⟩
    refine ⟨fun hc => (by cases hc), fun _ => ?_⟩
    rw [w64 (by omega) (by omega)]
    exact ⟨⟨by omega, by omega, Q.take x, I', hk.take x (by omega), by omega, r2.keepQ q27, hQ2.keepQ q27, hO2.quiet q27⟩, by (try dsimp only); omega⟩
end Go.Proofs.Ytaogjbmgobfdoaa
