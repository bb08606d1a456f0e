import Derived.Test.YtiohncdkpkonmaaNo
namespace Go.Proofs.Ytiohncdkpkonmaa
open Go.Dec Go.RowKit
set_option maxHeartbeats 400000

theorem mclone_c (w : World) (mb : Nat) (m : ByteArray → Option Int) (h : Mp Value.string (Value.int .i64) w mb m) :
    callC Try.prog 26 #[.map (some mb)] (fun (r : Option Nat) => .map r) w fun r w' => ∃ b, r = some b ∧ Mp Value.string (Value.int .i64) w' b m ∧ Quiet w w' ∧ w.heap.size ≤ b ∧ b < w'.heap.size := by
  refine D26 _ w _ ?_
  unfold F26
  refine ⟨fun hc => absurd hc (by simp), fun _ => ?_⟩
  refine rn_iface u48 (fun _ => rfl) ?_
  refine cx_clone h Try.func27 (by kernel_rfl) (by kernel_rfl) (by kernel_rfl) (by kernel_rfl) (fun _ => rfl) fun b w' hm q g l _ => ?_
  refine rn_assert u48 (fun _ => rfl) ?_
  exact ⟨b, rfl, hm, q, g, l⟩

theorem copy_c (w : World) (F : Nat → Prop) (nb : Nat) (L : List ByteArray) (h : IsN w F nb L) (hl : L.length ≤ 1000000) :
    callC Try.prog 23 #[.pointer (some ⟨nb, 0, none⟩)] (fun (r : Option Addr) => .pointer r) w fun r w' => ∃ mb G, r = some ⟨mb, 0, none⟩ ∧ IsN w' G mb L ∧ Fresh w w' G := by
  obtain ⟨ts, mb, h1, h2, h3, h4, h5⟩ := h.ex
  refine D23 _ w _ ?_
  unfold F23
  refine jn.in_ ?_
  show tk w _
  unfold tk
  have qd : Quiet w w.drew := Only.drew _ _
  refine nn_ ((h1.keepQ qd).ld (x := some mb) rfl ?_)
  refine (all_c _ F nb L (h.keepQ qd) hl).use ?_
  rintro r5 w2 ⟨FA, oA, fA⟩
  refine ⟨((h1.keepQ qd).keepQ fA.q).ld0' rfl, ?_⟩
  refine (mclone_c w2 mb _ ((h3.keepQ qd).keepQ fA.q)).use ?_
  rintro r6 w3 ⟨b, rfl, hm, q3, g3, l3⟩
  refine nwL fun b7 w4 hb7 q4 g4 _ l4 => ?_
  have s1 := (qd.tr fA.q).size
  have s0 := qd.size
  have s3 := q3.size
  have s4 := q4.size
  refine ⟨b7, fun x => x = b7 ∨ FA x ∨ x = b, rfl, ⟨⟨r5, b, hb7, ((oA.keepQ q3).keepQ q4).mono fun x hx => .inr (.inl hx), hm.keepQ q4, .inl rfl, .inr (.inr rfl)⟩, ?_⟩, ((qd.tr fA.q).tr q3).tr q4, ?_⟩
  · rintro x (e | e | e)
    · omega
    · have := (fA.b x e).2
      omega
    · omega
  · rintro x (e | e | e)
    · omega
    · have := fA.b x e
      omega
    · omega

theorem copies (W : World) (s : Sl) (l : List ByteArray) (hr : Rd W cs 1 s l) (hB : ∀ ad, s.a = some ad → 0 < l.length → ad.block < W.heap.size) (hl : l.length ≤ maxLen)
    (t : Sl) (m : List ByteArray) (hr' : Rd W cs 1 t m) (hB' : ∀ ad, t.a = some ad → 0 < m.length → ad.block < W.heap.size) (hl' : m.length ≤ maxLen)
    (u : Sl) (k : List ByteArray) (hr2 : Rd W cs 1 u k) (hB2 : ∀ ad, u.a = some ad → 0 < k.length → ad.block < W.heap.size) (hl2 : k.length ≤ maxLen) :
    callC Try.prog 6 #[s.v, t.v, u.v] (fun (r : Bool) => .bool r) W fun r w' => r = true ∧ Below W.heap.size W w' := by
  have ha : Arg W cs 1 s l := ⟨hr, hB⟩
  have hb : Arg W cs 1 t m := ⟨hr', hB'⟩
  have hc : Arg W cs 1 u k := ⟨hr2, hB2⟩
  have hsl := ha.len
  have htl := hb.len
  have hul := hc.len
  unfold maxLen at hl hl' hl2
  refine D6 _ _ _ W _ ?_
  unfold F6
  refine (small_c W).use ?_
  rintro r w1 ⟨rfl, q1⟩
  refine (new_c w1).use ?_
  rintro r2 w2 ⟨nb, F, rfl, hN, hF⟩
  have hO := ((oq q1).n0 hF)
  refine (few_c W w2 s l 24 ha hO.bl (by decide) (by decide) (by omega)).use ?_
  rintro r w3 ⟨hfew, rfl⟩
  refine jn.mk (fun c w' => (c = false → (l.length : Int) ≤ 24 ∧ (m.length : Int) ≤ 12) ∧ w2 = w') ⟨fun _ => ⟨fun e => (by cases e), rfl⟩, fun hc => (few_c W w2 t m 12 hb hO.bl (by decide) (by decide) (by omega)).use ?_⟩ ?_
  · rintro a w3 ⟨ha, rfl⟩
    exact ⟨fun e => ⟨(hfew (by simpa using hc)).1, (ha (by simpa using e)).1⟩, rfl⟩
  rintro c w5 ⟨hc4, rfl⟩
  refine jn.mk (fun c' w' => (c' = false → (l.length : Int) ≤ 24 ∧ (m.length : Int) ≤ 12 ∧ (k.length : Int) ≤ 12) ∧ w2 = w') ⟨fun _ => ⟨fun e => (by cases e), rfl⟩, fun hcc => (few_c W w2 u k 12 hc hO.bl (by decide) (by decide) (by omega)).use ?_⟩ ?_
  · rintro a w3 ⟨ha, rfl⟩
    exact ⟨fun e => ⟨(hc4 hcc).1, (hc4 hcc).2, (ha (by simpa using e)).1⟩, rfl⟩
  rintro c' w7 ⟨hc5, rfl⟩
  refine ⟨fun _ => ⟨rfl, hO.bl⟩, fun hcc => ?_⟩
  obtain ⟨h24, hm12, hk12⟩ := hc5 hcc
  refine ⟨fun hc => absurd hc (by simp), fun _ => ?_⟩
  refine ⟨fun i w' => 0 ≤ i ∧ i ≤ l.length ∧ ∃ F L, IsN w' F nb L ∧ (L.length : Int) ≤ i ∧ Objs W w' (two F fun _ => False), fun i _ => (l.length - i).toNat, ⟨by omega, by omega, F, [], hN, by simp, hO⟩, ?_⟩
  clear hN hF hO
  rintro i w8 ⟨i0, i1, F, L, hN, hLl, hO⟩
  refine ⟨fun hi => ?_, fun hi => ?_⟩
  · have hlt : i < l.length := by simpa [hsl] using hi
    obtain ⟨x, hx⟩ := getq i0 hlt
    refine ha.ixx i0 hx fun p hat => (hat _ hO.bl).ld0 rfl ((of_c w8 F nb L x hN (by omega)).use ?_)
    rintro r14 w7 ⟨_, F1, hN1, s1⟩
    have hol := ofP_len L x
    rw [w64 (by omega) (by omega)]
    exact ⟨⟨by omega, by omega, F1, _, hN1, by omega, hO.s0 s1⟩, by (try dsimp only); omega⟩
  clear hi
  refine (all_c w8 F nb L hN (by omega)).use ?_
  rintro r19 w10 ⟨FA, oA, fA⟩
  refine (copy_c w10 F nb L (hN.keepQ fA.q) (by omega)).use ?_
  rintro r20 w11 ⟨mb, G, rfl, hM, hG⟩
  refine ⟨fun hc => absurd hc (by simp), fun _ => ?_⟩
  have hO1 := ((hO.s1 (Fresh.grow fA)).s1 (Fresh.grow hG))
  have hN1 := (hN.keepQ fA.q).keepQ hG.q
  have oA1 := oA.keepQ hG.q
  have hO2 : Objs W w11 (two F fun b => FA b ∨ G b) := hO1.sh1 fun b e => e.elim (fun e => .inl (.inr e)) .inr
  clear hO1 hN oA fA hG hO
  have hL24 : (L.length : Int) ≤ 24 := by omega
  refine ⟨fun i w' => 0 ≤ i ∧ i ≤ m.length ∧ ∃ F L', IsN w' F nb L' ∧ (L'.length : Int) ≤ 24 + i ∧ IsN w' G mb L ∧ OwnF w' FA 9 1 r19 (L.flatMap cs) ∧ Objs W w' (two F fun b => FA b ∨ G b), fun i _ => (m.length - i).toNat, ⟨by omega, by omega, F, L, hN1, by omega, hM, oA1, hO2⟩, ?_⟩
  clear hN1 hM oA1 hO2 i0 i1
  rintro i w12 ⟨i0, i1, F, L', hN, hLl', hM, oA, hO⟩
  refine ⟨fun hi => ?_, fun hi => ?_⟩
  · have hlt : i < m.length := by simpa [htl] using hi
    obtain ⟨x, hx⟩ := getq i0 hlt
    refine hb.ixx i0 hx fun p hat => (hat _ hO.bl).ld0 rfl ((of_c w12 F nb L' x hN (by omega)).use ?_)
    rintro r14 w7 ⟨_, F1, hN1, s1⟩
    have hol := ofP_len L' x
    rw [w64 (by omega) (by omega)]
    exact ⟨⟨by omega, by omega, F1, _, hN1, by omega, hM.keep s1.only fun b e => hO.d10 b (.inr e), oA.keep s1.only fun b e => hO.d10 b (.inl e), hO.s0 s1⟩, by (try dsimp only); omega⟩
  clear hi
  refine (all_c w12 G mb L hM (by omega)).use ?_
  rintro r27 w14 ⟨FB, oB, fB⟩
  refine (strings_c w14 _ _ L L (oB.rd cs1 (by decide)) ((oA.keepQ fB.q).rd cs1 (by decide)) (by omega)).use ?_
  rintro r28 w15 ⟨rfl, q15⟩
  refine ⟨fun hc => absurd hc (by simp), fun _ => ?_⟩
  have qq := fB.q.tr q15
  have hO1 : Objs W w15 (two F G) := (hO.quiet qq).sh1 fun b e => .inr e
  have hN1 := hN.keepQ qq
  have hM1 := hM.keepQ qq
  clear oA oB fB hO hN hM
  refine (all_c w15 F nb L' hN1 (by omega)).use ?_
  rintro r30 w16 ⟨FC, oC, fC⟩
  have hO2 := hO1.s0 (Fresh.grow fC)
  have hN2 := hN1.keepQ fC.q
  have hM2 := hM1.keepQ fC.q
  have hdj : ∀ b, FC b → ¬ F b := fun b e1 e2 => by
    have := (fC.b b e1).1
    have := hN1.lt b e2
    omega
  clear hO1 hN1 hM1 fC
  refine ⟨fun i w' => 0 ≤ i ∧ i ≤ k.length ∧ ∃ G L2, IsN w' G mb L2 ∧ (L2.length : Int) ≤ 24 + i ∧ IsN w' F nb L' ∧ OwnF w' FC 9 1 r30 (L'.flatMap cs) ∧ Objs W w' (two (fun b => F b ∨ FC b) G), fun i _ => (k.length - i).toNat, ⟨by omega, by omega, G, L, hM2, by omega, hN2, oC, hO2⟩, ?_⟩
  clear hN2 hM2 oC hO2 i0
  have hL36 : (L'.length : Int) ≤ 36 := by omega
  clear i1
  rintro i w17 ⟨i0, i1, G, L2, hM, hLl2, hN, oC, hO⟩
  refine ⟨fun hi => ?_, fun hi => ?_⟩
  · have hlt : i < k.length := by simpa [hul] using hi
    obtain ⟨x, hx⟩ := getq i0 hlt
    refine hc.ixx i0 hx fun p hat => (hat _ hO.bl).ld0 rfl ((of_c w17 G mb L2 x hM (by omega)).use ?_)
    rintro r14 w7 ⟨_, G1, hM1, s1⟩
    have hol := ofP_len L2 x
    rw [w64 (by omega) (by omega)]
    exact ⟨⟨by omega, by omega, G1, _, hM1, by omega, hN.keep s1.only fun b e => hO.d01 b (.inl e), oC.keep s1.only fun b e => hO.d01 b (.inr e), hO.s1 s1⟩, by (try dsimp only); omega⟩
  refine (all_c w17 F nb L' hN (by omega)).use ?_
  rintro r36 w19 ⟨FD, oD, fD⟩
  refine (strings_c w19 _ _ L' L' (oD.rd cs1 (by decide)) ((oC.keepQ fD.q).rd cs1 (by decide)) (by omega)).use ?_
  rintro r37 w20 ⟨rfl, q20⟩
  refine ⟨fun hc => absurd hc (by simp), fun _ => ?_⟩
  have qq := fD.q.tr q20
  have hO1 : Objs W w20 (two F fun _ => False) := ((hO.quiet qq).sh0 fun b e => .inl e).sh1 fun b e => e.elim
  have hN1 := hN.keepQ qq
  have oC1 := oC.keepQ qq
  refine jn.mk (fun c w' => c = true ∧ ∃ F, IsN w' F nb L' ∧ OwnF w' FC 9 1 r30 (L'.flatMap cs) ∧ Objs W w' (two F fun _ => False)) ⟨fun _ => (long_c w20 65537).use ?_, fun hc => (by cases hc)⟩ ?_
  · rintro r w16 ⟨rfl, q16⟩
    refine (of_c w16 F nb _ _ (hN1.keepQ q16) (by omega)).use ?_
    have hs : 65536 < (longP 65537).size := by rw [longP_size]; decide
    unfold ofP
    rw [if_pos hs]
    rintro r w17 ⟨rfl, F', h1, h2⟩
    exact ⟨by simp, F', h1, (oC1.keepQ q16).keep h2.only hdj, (hO1.quiet q16).s0 h2⟩
  rintro c w23 ⟨rfl, F', hN2, oC2, hO2⟩
  refine jn.mk (fun c w' => c = true ∧ Quiet w23 w') ⟨fun _ => (all_c w23 F' nb L' hN2 (by omega)).use ?_, fun hc => (by cases hc)⟩ ?_
  · rintro r46 w24 ⟨FE, oE, fE⟩
    refine (strings_c w24 _ _ L' L' (oE.rd cs1 (by decide)) ((oC2.keepQ fE.q).rd cs1 (by decide)) (by omega)).use ?_
    rintro r47 w25 ⟨rfl, q⟩
    exact ⟨by simp, fE.q.tr q⟩
  rintro c w26 ⟨rfl, q⟩
  exact ⟨rfl, (hO2.quiet q).bl⟩
end Go.Proofs.Ytiohncdkpkonmaa
