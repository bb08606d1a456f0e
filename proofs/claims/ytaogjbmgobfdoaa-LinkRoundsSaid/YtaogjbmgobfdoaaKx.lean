import Derived.Test.YtaogjbmgobfdoaaKw
namespace Go.Proofs.Ytaogjbmgobfdoaa
open Go.Dec Go.RowKit
set_option maxHeartbeats 400000

/-- how many are left, read off the world -/
def leftOf (w : World) (b : Nat) : Nat := match w.cell? ⟨b, 1, none⟩, w.cell? ⟨b, 2, none⟩ with
  | some (.int _ n), some (.int _ m) => (n - m).toNat
  | _, _ => 0
theorem leftOf_eq {w : World} {F : Nat → Prop} {b : Nat} {S : SS} (h : IsS w F b S) : leftOf w b = (S.N - S.B).toNat := by
  unfold leftOf
  rw [h.blk.cell, h.blk.cell]
  rfl

structure Inv2 (W w : World) (F H : Nat → Prop) (sb rb : Nat) (n : Int) (sent : Int) (frs : Sl) (i : Int) : Prop where
  ex : ∃ (S : SS) (Q : RS) (Gf : Nat → Prop) (fr : List Int), Lk S Q ∧ S.W = n ∧ sent = S.N ∧ S.N ≤ i ∧ IsS w F sb S ∧ IsR w H rb Q ∧ OwnF w Gf 3 1 frs (fr.flatMap ci) ∧ Objs W w (four F H Gf fun _ => False) ∧ (∀ f ∈ fr, f < S.N ∧ f < S.B + S.W) ∧ fr.length ≤ 464

theorem rounds (W : World) (n : Int) (_ : -9223372036854775808 ≤ n) (_ : n ≤ 9223372036854775807) (s : Sl) (l : List (Int × Int)) (hr : Rd W cA 2 s l) (hB : ∀ ad, s.a = some ad → 0 < l.length → ad.block < W.heap.size) (hl : l.length ≤ maxLen) :
    callC Try.prog 5 #[.int .i64 n, s.v] (fun (r : Bool) => .bool r) W fun r w' => r = true ∧ Below W.heap.size W w' := by
  have ha : Arg W cA 2 s l := ⟨hr, hB⟩
  have hsl := ha.len
  unfold maxLen at hl
  refine D5 _ _ W _ ?_
  unfold F5
  refine (small_c W).use ?_
  rintro r w1 ⟨rfl, q1⟩
  refine (news_c w1 n).use ?_
  rintro r2 w2 ⟨a1, a2, q2⟩
  refine (newr_c w2 n).use ?_
  rintro r3 w3 ⟨b1, b2, q3⟩
  have q13 := (q1.tr q2).tr q3
  by_cases hw : win n
  case neg =>
    rw [a2 hw, b2 hw]
    exact ⟨fun _ => ⟨rfl, bq q13⟩, fun hc => absurd hc (by simp)⟩
  obtain ⟨sb, F, rfl, hs, hF⟩ := a1 hw
  obtain ⟨rb, H, rfl, hR, hH⟩ := b1 hw
  have hw' := hw
  unfold win at hw'
  refine ⟨fun hc => ⟨rfl, bq q13⟩, fun hc => ⟨fun hc => absurd hc (by simp), fun _ => ?_⟩⟩
  have h60 : l.length ≤ 60 := by rw [hsl] at hc; simp at hc; omega
  have hO : Objs W w3 (four F H (fun _ => False) fun _ => False) := by
    have h0 := (Objs.none4 (Objs.start W)).quiet q1
    have h1 := (h0.new 0 hF).congr (four_upd (F := fun _ => False) (G := fun _ => False) (H := fun _ => False) (I := fun _ => False) 0 F)
    exact (h1.new 1 hH).congr (four_upd (F := F) (G := fun _ => False) (H := fun _ => False) (I := fun _ => False) 1 H)
  refine ⟨fun (c : Int × Sl × Int) w' => 0 ≤ c.2.2 ∧ c.2.2 ≤ l.length ∧ Inv2 W w' F H sb rb n c.1 c.2.1 c.2.2, fun c _ => (l.length - c.2.2).toNat,
    ⟨by simp, by simp, ⟨⟨n, 0, 0⟩, RS.new n, _, [], Lk.start hw, rfl, rfl, Int.le_refl _, hs.keepQ q3, hR, OwnF.nil _ _ _ _, hO, by simp, by simp⟩⟩, ?_⟩
  clear hs hR hO hF hH a1 a2 b1 b2 q13
  rintro ⟨sent, frs, i⟩ w4 ⟨i0, i1, ⟨S, Q, Gf, fr, hL, hWn, rfl, hNi, hs, hR, oF, hO, hfr, hfl⟩⟩
  dsimp only at i0 i1 hNi ⊢
  have hk := hL.so
  have hq := hL.qo
  have hrN := hL.rN
  have hn1 := hk.n1
  have hb0 := hk.b0
  have hb1 := hk.b1
  have frl : frs.len = fr.length := (oF.rd ci1 (by decide)).len
  refine ⟨fun hi => ?_, fun hi => ?_⟩
  · have hlt : i < l.length := by simpa [hsl] using hi
    obtain ⟨⟨kind, num⟩, hx⟩ := getq i0 hlt
    have stay : ∀ w', Quiet w4 w' → Inv2 W w' F H sb rb n S.N frs (i + 1) := fun w' q =>
      ⟨S, Q, Gf, fr, hL, hWn, rfl, by omega, hs.keepQ q, hR.keepQ q, oF.keepQ q, hO.quiet q, hfr, hfl⟩
    refine jn.mk (fun (c : Int × Sl) w' => Inv2 W w' F H sb rb n c.1 c.2 (i + 1)) ?_ ?_
    · refine ha.ixx i0 hx fun p hat => (hat _ hO.bl).ld (j := 0) (x := kind) rfl ⟨fun hc => ?_, fun _ => ⟨fun hc => ?_, fun _ => ⟨fun hc => ?_, fun _ => ⟨fun hc => ?_, fun _ => stay w4 (Only.refl _ _)⟩⟩⟩⟩
      · refine (send_c w4 F sb S hs hk).use ?_
        rintro r35 w7 ⟨_, hs1, st1⟩
        rw [w64 (by omega) (by omega)]
        refine ⟨S.send, Q, Gf, fr, hL.send (by omega), hWn, rfl, ?_, hs1, hR.keep st1.only (hO.dj (i := 1) (j := 0) (by decide)), oF.keep st1.only (hO.dj (i := 2) (j := 0) (by decide)), hO.same 0 st1, fun f hf => ?_, hfl⟩
        · show S.N + 1 ≤ i + 1
          omega
        · have := hfr f hf
          exact ⟨by show f < S.N + 1; omega, this.2⟩
      · refine ⟨fun hc2 => ?_, fun _ => stay w4 (Only.refl _ _)⟩
        have h400 : frs.len < 400 := by simp at hc2; omega
        refine (frames_c w4 F sb S hs hk).use ?_
        rintro r41 w8 ⟨G1, o1, f1⟩
        have hfl1 := SS.frames_len S
        have hkw := hk.w1
        refine (oF.keepQ f1.q).app ap22 (o1.rd ci1 (by decide)) ci1 (by decide) cione (by unfold maxLen; omega) (by omega) fun r42 w9 Gf' o2 l2 st2 => ?_
        rw [← List.flatMap_append] at o2
        have hO8 := hO.quiet f1.q
        refine ⟨S, Q, Gf', fr ++ S.frames, hL, hWn, rfl, by omega, (hs.keepQ f1.q).keep st2.only (hO8.dj (i := 0) (j := 2) (by decide)), (hR.keepQ f1.q).keep st2.only (hO8.dj (i := 1) (j := 2) (by decide)), o2, (hO8.step 2 st2).congr (four_upd (F := F) (G := H) (H := Gf) (I := fun _ => False) 2 Gf'), fun f hf => ?_, ?_⟩
        · rcases List.mem_append.1 hf with e | e
          · exact hfr f e
          · exact frames_mem hk e
        · rw [List.length_append]
          omega
      · refine ⟨fun hc2 => ?_, fun _ => stay w4 (Only.refl _ _)⟩
        have hne : fr ≠ [] := by
          rintro rfl
          rw [frl] at hc2
          simp at hc2
        refine ha.ixx i0 hx fun p hat => (hat _ hO.bl).ld (j := 1) (x := num) rfl ?_
        refine (pick_c w4 frs fr num (oF.rd ci1 (by decide)) hne (by omega)).use ?_
        rintro r47 w10 ⟨rfl, rfl⟩
        obtain ⟨f1, f2⟩ := hfr _ (pickP_mem num hne)
        refine (take_c w4 H rb Q _ hR hq (by omega)).use ?_
        rintro r48 w11 ⟨_, hR1, st1, _⟩
        exact ⟨S, _, Gf, fr, hL.take f1 f2, hWn, rfl, by omega, hs.keep st1.only (hO.dj (i := 0) (j := 1) (by decide)), hR1, oF.keep st1.only (hO.dj (i := 2) (j := 1) (by decide)), hO.same 1 st1, hfr, hfl⟩
      · refine (next_c w4 H rb Q hR).use ?_
        rintro r31 w11 ⟨rfl, rfl⟩
        obtain ⟨e1, e2, e3, e4, e5⟩ := hL.ack hq.r0 (Int.le_refl _)
        refine (ack_c w4 F sb S Q.R hs hk).use ?_
        rintro r76 w20 ⟨_, hs1, st1⟩
        refine ⟨S.ack Q.R, Q, Gf, fr, e2, e5.trans hWn, e4.symm, by rw [e4]; omega, hs1, hR.keep st1.only (hO.dj (i := 1) (j := 0) (by decide)), oF.keep st1.only (hO.dj (i := 2) (j := 0) (by decide)), hO.same 0 st1, fun f hf => ?_, hfl⟩
        have := hfr f hf
        rw [e3, e4, e5]
        omega
    · rintro ⟨sent', frs'⟩ w5 hI
      rw [w64 (by omega) (by omega)]
      exact ⟨⟨by (try dsimp only); omega, by (try dsimp only); omega, hI⟩, by (try dsimp only); omega⟩
  -- the rounds
  have hO2 : Objs W w4 (two F H) := hO.congr fun i b e => by
    unfold two at e
    unfold four
    by_cases h0 : i = 0
    · simpa [h0] using e
    · by_cases h1 : i = 1
      · simpa [h1] using e
      · simp [h0, h1] at e
  have hN60 : S.N ≤ 60 := by omega
  clear hO oF hfr hfl frl hi i0 i1 hNi
  generalize hsN : S.N = sent at *
  refine ⟨fun _ w' => ∃ (S : SS) (Q : RS), Lk S Q ∧ S.W = n ∧ S.N = sent ∧ IsS w' F sb S ∧ IsR w' H rb Q ∧ Objs W w' (two F H), fun _ w' => leftOf w' sb, ⟨S, Q, hL, hWn, hsN, hs, hR, hO2⟩, ?_⟩
  clear hk hq hrN hn1 hb0 hb1 hL hWn hsN hs hR hO2
  rintro _ w13 ⟨S, Q, hL, hWn, hsN, hs, hR, hO⟩
  have hk := hL.so
  have hq := hL.qo
  have hrN := hL.rN
  have hbR := hL.bR
  have hb0 := hk.b0
  have hb1 := hk.b1
  have hmu := leftOf_eq hs
  refine (left_c w13 F sb S hs hk).use ?_
  rintro r34 w14 ⟨rfl, q14⟩
  refine ⟨fun hc => ?_, fun hc => ?_⟩
  · have hpos : 0 < S.N - S.B := by simpa using hc
    refine (left_c w14 F sb S (hs.keepQ q14) hk).use ?_
    rintro r36 w15 ⟨rfl, q15⟩
    have q135 := q14.tr q15
    refine (frames_c w15 F sb S (hs.keepQ q135) hk).use ?_
    rintro r37 w16 ⟨G1, o1, f1⟩
    have hg := o1.rd ci1 (by decide)
    have hgl := hg.len
    have hfl := SS.frames_len S
    rw [← hWn]
    have hw0 := hk.w0
    refine ⟨fun hc => absurd hc (by rw [hgl, hfl]; simp; omega), fun _ => ?_⟩
    have qq := q135.tr f1.q
    have hGH : ∀ b, G1 b → ¬ H b := fun b e1 e2 => by
      have := (f1.b b e1).1
      have := hR.lt b e2
      have := q135.size
      omega
    rw [hgl, hfl]
    have hm : (((min S.W (S.N - S.B)).toNat : Nat) : Int) = min S.W (S.N - S.B) := by omega
    rw [hm, w64 (x := min S.W (S.N - S.B) - 1) (by omega) (by omega)]
    refine ⟨fun j w' => -1 ≤ j ∧ j ≤ min S.W (S.N - S.B) - 1 ∧ ∃ Q', Lk S Q' ∧ IsS w' F sb S ∧ IsR w' H rb Q' ∧ OwnF w' G1 3 1 r37 (S.frames.flatMap ci) ∧ Objs W w' (two F H) ∧ ∀ p : Int, S.B + j + 1 ≤ p → p < S.B + min S.W (S.N - S.B) → p < Q'.R ∨ Q'.H[(p - Q'.R).toNat]? = some true, fun j _ => (j + 1).toNat,
      ⟨by omega, by omega, Q, hL, hs.keepQ qq, hR.keepQ qq, o1, hO.quiet qq, fun p h1 h2 => by omega⟩, ?_⟩
    clear o1 hg hgl
    rintro j w17 ⟨j0, j1, Q', hL', hs', hR', o', hO', hmk⟩
    have hq' := hL'.qo
    have hrN' := hL'.rN
    refine ⟨fun hj => ?_, fun hj => ?_⟩
    · have hj0 : 0 ≤ j := by simpa using hj
      have hgt : S.frames[j.toNat]? = some (S.B + j) := by
        have := seqI_get (n := (min S.W (S.N - S.B)).toNat) (a := S.B) (i := j.toNat) (by omega)
        rwa [show ((j.toNat : Nat) : Int) = j by omega] at this
      refine o'.ixx ci1 (by decide) hj0 hgt fun p hat _ => hat.ld0 rfl ?_
      have hn1 := hk.n1
      refine (take_c w17 H rb Q' (S.B + j) hR' hq' (by omega)).use ?_
      rintro r43 w18 ⟨_, hR1, st1, _⟩
      have hb := hL'.bR
      have hRl := RS.take_R hq' (S.B + j)
      rw [w64 (by omega) (by omega)]
      refine ⟨⟨by omega, by omega, _, hL'.take (f := S.B + j) (by omega) (by omega), hs'.keep st1.only hO'.d01, hR1, o'.keep st1.only hGH, hO'.s1 st1, fun p p0 p1 => ?_⟩, by (try dsimp only); omega⟩
      by_cases hpR : p < (Q'.take (S.B + j)).R
      · exact .inl hpR
      refine .inr ((take_get hq' p (by omega)).2 ?_)
      by_cases e : p = S.B + j
      · refine .inr ⟨?_, e⟩
        unfold RS.out
        have := hL'.w
        omega
      · rcases hmk p (by omega) p1 with e2 | e2
        · omega
        · exact .inl e2
    have hj' : j = -1 := by simp at hj; omega
    subst hj'
    have hreach : S.B + min S.W (S.N - S.B) ≤ Q'.R := by
      refine Decidable.byContradiction fun hn => ?_
      have hb := hL'.bR
      rcases hmk Q'.R (by omega) (by omega) with e | e
      · omega
      · rw [Int.sub_self] at e
        exact hL'.hd e
    refine (next_c w17 H rb Q' hR').use ?_
    rintro r44 w19 ⟨rfl, rfl⟩
    obtain ⟨e1, e2, e3, e4, e5⟩ := hL'.ack hq'.r0 (Int.le_refl _)
    refine (ack_c w17 F sb S Q'.R hs' hk).use ?_
    rintro r45 w20 ⟨rfl, hs1, st1⟩
    have hO2 := hO'.s0 st1
    have hR2 := hR'.keep st1.only hO'.d10
    rw [e1]
    refine jn.mk (fun c w' => c = false ∧ Quiet w20 w') ⟨fun hc => absurd hc (by decide), fun _ => (left_c w20 F sb _ hs1 e2.so).use ?_⟩ ?_
    · rintro r48 w21 ⟨rfl, q⟩
      rw [e3, e4, w64 (by omega) (by omega)]
      refine ⟨?_, q⟩
      simp
      omega
    · rintro c w22 ⟨rfl, q⟩
      refine ⟨fun hc => (by cases hc), fun _ => ?_⟩
      refine ⟨⟨S.ack Q'.R, Q', e2, e5, e4.trans hsN, hs1.keepQ q, hR2.keepQ q, hO2.quiet q⟩, ?_⟩
      show leftOf w22 sb < leftOf w13 sb
      rw [leftOf_eq (hs1.keepQ q), hmu, e3, e4]
      omega
  · have hz : S.N - S.B = 0 := by simp at hc; omega
    have hs14 := hs.keepQ q14
    have hR14 := hR.keepQ q14
    have hO14 := hO.quiet q14
    refine jn.mk (fun c w' => c = true ∧ w14 = w') ⟨fun _ => (next_c w14 H rb Q hR14).use ?_, fun hc => (by cases hc)⟩ ?_
    · rintro r53 w23 ⟨rfl, rfl⟩
      refine ⟨?_, rfl⟩
      simp
      omega
    rintro c w24 ⟨rfl, rfl⟩
    refine jn.mk (fun c w' => c = true ∧ Quiet w14 w') ⟨fun _ => (frames_c w14 F sb S hs14 hk).use ?_, fun hc => (by cases hc)⟩ ?_
    · rintro r57 w25 ⟨G1, o1, f1⟩
      have := (o1.rd ci1 (by decide)).len
      rw [SS.frames_len] at this
      have h0 : (min S.W (S.N - S.B)).toNat = 0 := by have := hk.w0; omega
      rw [h0] at this
      exact ⟨by rw [this]; decide, f1.q⟩
    rintro c w26 ⟨rfl, q⟩
    exact ⟨rfl, (hO14.quiet q).bl⟩
end Go.Proofs.Ytaogjbmgobfdoaa
