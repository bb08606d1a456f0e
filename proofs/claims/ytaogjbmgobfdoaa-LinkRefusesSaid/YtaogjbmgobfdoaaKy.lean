import Derived.Test.YtaogjbmgobfdoaaKx
namespace Go.Proofs.Ytaogjbmgobfdoaa
open Go.Dec Go.RowKit
set_option maxHeartbeats 400000

theorem refuses (W : World) (n : Int) (_ : -9223372036854775808 ≤ n) (_ : n ≤ 9223372036854775807) (s : Sl) (l : List (Int × Int)) (hr : Rd W cA 2 s l) (hB : ∀ ad, s.a = some ad → 0 < l.length → ad.block < W.heap.size) (hl : l.length ≤ maxLen)
    (f : Int) (hf0 : -9223372036854775808 ≤ f) (hf1 : f ≤ 9223372036854775807) :
    callC Try.prog 6 #[.int .i64 n, s.v, .int .i64 f] (fun (r : Bool) => .bool r) W fun r w' => r = true ∧ Below W.heap.size W w' := by
  have ha : Arg W cA 2 s l := ⟨hr, hB⟩
  have hsl := ha.len
  unfold maxLen at hl
  refine D6 _ _ _ W _ ?_
  unfold F6
  refine (small_c W).use ?_
  rintro r w1 ⟨rfl, q1⟩
  refine (news_c w1 n).use ?_
  rintro r2 w2 ⟨a1, a2, q2⟩
  refine (newr_c w2 n).use ?_
  rintro r3 w3 ⟨b1, b2, q3⟩
  have q13 := (q1.tr q2).tr q3
  by_cases hw : win n
  case neg =>
    rw [a2 hw, b2 hw]
    exact ⟨fun _ => ⟨rfl, bq q13⟩, fun hc => absurd hc (by simp)⟩
  obtain ⟨sb, F, rfl, hs, hF⟩ := a1 hw
  obtain ⟨rb, H, rfl, hR, hH⟩ := b1 hw
  have hw' := hw
  unfold win at hw'
  refine ⟨fun hc => ⟨rfl, bq q13⟩, fun hc => ⟨fun hc => absurd hc (by simp), fun _ => ?_⟩⟩
  have h60 : l.length ≤ 60 := by rw [hsl] at hc; simp at hc; omega
  have hO : Objs W w3 (two F H) := ((oq q1).n0 hF).n1 hH
  refine ⟨fun (c : Int × Int) w' => 0 ≤ c.2 ∧ c.2 ≤ l.length ∧ ∃ (S : SS) (Q : RS), Lk S Q ∧ S.W = n ∧ c.1 = S.N ∧ S.N ≤ c.2 ∧ IsS w' F sb S ∧ IsR w' H rb Q ∧ Objs W w' (two F H), fun c _ => (l.length - c.2).toNat,
    ⟨by simp, by simp, ⟨n, 0, 0⟩, RS.new n, Lk.start hw, rfl, rfl, Int.le_refl _, hs.keepQ q3, hR, hO⟩, ?_⟩
  clear hs hR hO hF hH a1 a2 b1 b2 q13
  rintro ⟨sent, i⟩ w4 ⟨i0, i1, S, Q, hL, hWn, rfl, hNi, hs, hR, hO⟩
  dsimp only at i0 i1 hNi ⊢
  have hk := hL.so
  have hq := hL.qo
  have hrN := hL.rN
  have hn1 := hk.n1
  have hb0 := hk.b0
  have hb1 := hk.b1
  refine ⟨fun hi => ?_, fun hi => ?_⟩
  · have hlt : i < l.length := by simpa [hsl] using hi
    obtain ⟨⟨kind, num⟩, hx⟩ := getq i0 hlt
    refine jn.mk (fun (c : Int) w' => ∃ (S : SS) (Q : RS), Lk S Q ∧ S.W = n ∧ c = S.N ∧ S.N ≤ i + 1 ∧ IsS w' F sb S ∧ IsR w' H rb Q ∧ Objs W w' (two F H)) ?_ ?_
    · refine ha.ixx i0 hx fun p hat => (hat _ hO.bl).ld (j := 0) (x := kind) rfl ⟨fun hc => ?_, fun _ => ⟨fun hc => ?_, fun _ => ⟨fun hc => ?_, fun _ => ⟨S, Q, hL, hWn, rfl, by omega, hs, hR, hO⟩⟩⟩⟩
      · refine (send_c w4 F sb S hs hk).use ?_
        rintro r35 w7 ⟨_, hs1, st1⟩
        rw [w64 (by omega) (by omega)]
        refine ⟨S.send, Q, hL.send (by omega), hWn, rfl, ?_, hs1, hR.keep st1.only hO.d10, hO.s0 st1⟩
        show S.N + 1 ≤ i + 1
        omega
      · refine (frames_c w4 F sb S hs hk).use ?_
        rintro r21 w8 ⟨G1, o1, f1⟩
        have hg := o1.rd ci1 (by decide)
        have hgl := hg.len
        have hfl := SS.frames_len S
        have hw1 := hk.w1
        refine ⟨fun hc2 => ?_, fun _ => ⟨S, Q, hL, hWn, rfl, by omega, hs.keepQ f1.q, hR.keepQ f1.q, hO.quiet f1.q⟩⟩
        have hne : S.frames ≠ [] := fun e => by
          rw [hgl, e] at hc2
          simp at hc2
        have hO8 := hO.quiet f1.q
        refine ha.ixx i0 hx fun p hat => (hat _ hO8.bl).ld (j := 1) (x := num) rfl ?_
        refine (pick_c w8 r21 S.frames num hg hne (by omega)).use ?_
        rintro r25 w10 ⟨rfl, rfl⟩
        obtain ⟨f2, f3⟩ := frames_mem hk (pickP_mem num hne)
        refine (take_c w8 H rb Q _ (hR.keepQ f1.q) hq (by omega)).use ?_
        rintro r48 w11 ⟨_, hR1, st1, _⟩
        exact ⟨S, _, hL.take f2 f3, hWn, rfl, by omega, (hs.keepQ f1.q).keep st1.only hO8.d01, hR1, hO8.s1 st1⟩
      · refine (next_c w4 H rb Q hR).use ?_
        rintro r31 w11 ⟨rfl, rfl⟩
        obtain ⟨e1, e2, e3, e4, e5⟩ := hL.ack hq.r0 (Int.le_refl _)
        refine (ack_c w4 F sb S Q.R hs hk).use ?_
        rintro r76 w20 ⟨_, hs1, st1⟩
        exact ⟨S.ack Q.R, Q, e2, e5.trans hWn, e4.symm, by rw [e4]; omega, hs1, hR.keep st1.only hO.d10, hO.s0 st1⟩
    · rintro sent' w5 hI
      rw [w64 (by omega) (by omega)]
      exact ⟨⟨by (try dsimp only); omega, by (try dsimp only); omega, hI⟩, by (try dsimp only); omega⟩
  have hN60 : S.N ≤ 60 := by omega
  refine (scopy_c w4 F sb S hs).use ?_
  rintro r30 w12 ⟨xb, X, rfl, hX, fX⟩
  refine (rcopy_c w12 H rb Q (hR.keepQ fX.q)).use ?_
  rintro r31 w13 ⟨yb, Y, rfl, hY, fY⟩
  refine ⟨fun hc => absurd hc (by simp), fun _ => ?_⟩
  have hOb : Objs W w13 (four F H X Y) := by
    have h0 : Objs W w4 (four F H (fun _ => False) fun _ => False) := hO.congr fun i b e => by
      unfold four at e
      unfold two
      by_cases h0 : i = 0
      · simpa [h0] using e
      · by_cases h1 : i = 1
        · simpa [h1] using e
        · by_cases h2 : i = 2
          · simp [h2] at e
          · by_cases h3 : i = 3
            · simp [h3] at e
            · simp [h0, h1, h2, h3] at e
    have h1 := (h0.new 2 fX).congr (four_upd (F := F) (G := H) (H := fun _ => False) (I := fun _ => False) 2 X)
    exact (h1.new 3 fY).congr (four_upd (F := F) (G := H) (H := X) (I := fun _ => False) 3 Y)
  have hs13 := (hs.keepQ fX.q).keepQ fY.q
  have hR13 := (hR.keepQ fX.q).keepQ fY.q
  have hX13 := hX.keepQ fY.q
  clear hs hR hO hX fX fY hi
  refine (next_c w13 H rb Q hR13).use ?_
  rintro r35 w14 ⟨rfl, rfl⟩
  refine (take_c w13 H rb Q f hR13 hq (by omega)).use ?_
  rintro r36 w15 ⟨e36, hR15, st15, G1, o1, g1⟩
  have hO15 := hOb.same 1 st15
  have hs15 := hs13.keep st15.only (hOb.dj (i := 0) (j := 1) (by decide))
  have hX15 := hX13.keep st15.only (hOb.dj (i := 2) (j := 1) (by decide))
  have hY15 := hY.keep st15.only (hOb.dj (i := 3) (j := 1) (by decide))
  have hol := (o1.rd ci1 (by decide)).len
  have hr0 := hq.r0
  have hQW : Q.W = n := hL.w.symm.trans hWn
  refine jn.mk (fun c w' => c = false ∧ w15 = w') ⟨fun hc => ?_, fun _ => ⟨rfl, rfl⟩⟩ ?_
  · have hout : Q.out f := by
      unfold RS.out
      rw [hQW]
      by_cases h1 : f < Q.R
      · exact .inl h1
      · rw [w64 (by omega) (by omega)] at hc
        simp at hc
        omega
    have e1 : Q.take f = Q := by unfold RS.take; rw [if_pos hout]
    have e2 : Q.got f = [] := by unfold RS.got; rw [if_pos hout]
    rw [e1] at e36 hR15
    rw [e2] at hol
    rw [e36, hol]
    refine jn.mk (fun c w' => c = false ∧ w15 = w') ⟨fun hc => absurd hc (by simp), fun _ => (next_c w15 H rb Q hR15).use ?_⟩ ?_
    · rintro r45 w16 ⟨rfl, rfl⟩
      exact ⟨by simp, rfl⟩
    · rintro c w17 ⟨rfl, rfl⟩
      exact ⟨rfl, rfl⟩
  rintro c w18 ⟨rfl, rfl⟩
  refine ⟨fun hc => (by cases hc), fun _ => ?_⟩
  refine (left_c w15 F sb S hs15 hk).use ?_
  rintro r49 w19 ⟨rfl, q19⟩
  refine (ack_c w19 F sb S f (hs15.keepQ q19) hk).use ?_
  rintro r50 w20 ⟨rfl, hs20, st20⟩
  have hO19 := hO15.quiet q19
  have hO20 := hO19.same 0 st20
  have hX20 := (hX15.keepQ q19).keep st20.only (hO19.dj (i := 2) (j := 0) (by decide))
  have hY20 := (hY15.keepQ q19).keep st20.only (hO19.dj (i := 3) (j := 0) (by decide))
  have eb : IntKind.i64.wrap (S.N - (S.N - S.B)) = S.B := by rw [w64 (by omega) (by omega)]; omega
  rw [eb]
  have hke := hk.ack f
  refine jn.mk (fun c w' => c = false ∧ Quiet w20 w') ⟨fun hc => ?_, fun _ => ?_⟩ ?_
  · exfalso
    unfold SS.err at hc
    rw [← hWn] at hc
    by_cases h : f < 0 ∨ S.N < f ∨ S.B + S.W < f
    · rw [if_pos h] at hc
      by_cases h0 : 0 ≤ f
      · rw [w64 (by omega) (by omega)] at hc
        by_cases h1 : f ≤ S.N
        · have h2 : ¬ f ≤ S.B := by have := hk.w0; omega
          have h3 : ¬ f - S.B ≤ S.W := by omega
          simp [h2, h3] at hc
        · simp [h1] at hc
      · simp [h0] at hc
    · rw [if_neg h, w64 (by omega) (by omega)] at hc
      have h0 : 0 ≤ f := by omega
      have h1 : f ≤ S.N := by omega
      by_cases h2 : f ≤ S.B
      · simp [h0, h1, h2] at hc
      · have h3 : f - S.B ≤ S.W := by omega
        simp [h0, h1, h3] at hc
  · refine jn.mk (fun c w' => c = false ∧ Quiet w20 w') ⟨fun hc => ?_, fun _ => ⟨rfl, Only.refl _ _⟩⟩ ?_
    · have hbad : (f < 0 ∨ S.N < f ∨ S.B + S.W < f) := by
        refine Decidable.byContradiction fun h => ?_
        unfold SS.err at hc
        rw [if_neg h] at hc
        simp at hc
      have e1 : S.err f = 1 := by unfold SS.err; rw [if_pos hbad]
      have e2 : S.ack f = S := by unfold SS.ack; rw [if_pos hbad]
      rw [e1]
      rw [e2] at hs20
      refine jn.mk (fun c w' => c = false ∧ Quiet w20 w') ⟨fun hc => absurd hc (by decide), fun _ => (left_c w20 F sb S hs20 hk).use ?_⟩ ?_
      · rintro r67 w21 ⟨rfl, q⟩
        exact ⟨by simp, q⟩
      · rintro c w22 ⟨rfl, q⟩
        exact ⟨rfl, q⟩
    · rintro c w23 ⟨rfl, q⟩
      exact ⟨rfl, q⟩
  rintro c w24 ⟨rfl, q24⟩
  refine ⟨fun hc => (by cases hc), fun _ => ?_⟩
  have hO24 := hO20.quiet q24
  refine (send_c w24 X xb S (hX20.keepQ q24) hk).use ?_
  rintro r72 w25 ⟨_, hX25, st25⟩
  have hO25 := hO24.same 2 st25
  have hs25 := (hs20.keepQ q24).keep st25.only (hO24.dj (i := 0) (j := 2) (by decide))
  have hY25 := (hY20.keepQ q24).keep st25.only (hO24.dj (i := 3) (j := 2) (by decide))
  have hks : S.send.ok := ⟨hk.w0, hk.w1, hk.b0, by show S.B ≤ S.N + 1; omega, by show S.N + 1 ≤ 900; omega⟩
  refine jn.mk (fun c w' => c = true ∧ Quiet w25 w') ⟨fun _ => (left_c w25 X xb S.send hX25 hks).use ?_, fun hc => (by cases hc)⟩ ?_
  · rintro r75 w26 ⟨rfl, q⟩
    rw [w64 (by omega) (by omega)]
    refine ⟨?_, q⟩
    have : S.send.N - S.send.B = S.N - S.B + 1 := by show S.N + 1 - S.B = _; omega
    rw [this]
    simp
  rintro c w27 ⟨rfl, q27⟩
  refine jn.mk (fun c w' => c = true ∧ Quiet w25 w') ⟨fun _ => (next_c w27 Y yb Q (hY25.keepQ q27)).use ?_, fun hc => (by cases hc)⟩ ?_
  · rintro r79 w28 ⟨rfl, rfl⟩
    exact ⟨by simp, q27⟩
  rintro c w29 ⟨rfl, q29⟩
  refine jn.mk (fun c w' => c = true ∧ Quiet w25 w') ⟨fun _ => ?_, fun hc => (by cases hc)⟩ ?_
  · refine jn.mk (fun c w' => c = true ∧ Quiet w25 w') ⟨fun _ => ⟨rfl, q29⟩, fun hc => (left_c w29 F sb _ (hs25.keepQ q29) hke).use ?_⟩ ?_
    · rintro r85 w30 ⟨rfl, q⟩
      have hgood : ¬ (f < 0 ∨ S.N < f ∨ S.B + S.W < f) := by
        intro h
        unfold SS.err at hc
        rw [if_pos h] at hc
        simp at hc
      have e2 : S.ack f = { S with B := max S.B f } := by unfold SS.ack; rw [if_neg hgood]
      rw [e2, w64 (by omega) (by omega)]
      refine ⟨?_, q29.tr q⟩
      simp
      omega
    · rintro c w31 ⟨rfl, q⟩
      exact ⟨rfl, q⟩
  rintro c w32 ⟨rfl, q32⟩
  exact ⟨rfl, (hO25.quiet q32).bl⟩
end Go.Proofs.Ytaogjbmgobfdoaa
