import Derived.Test.YtkacfhhpmpmhkaaCh
namespace Go.Proofs.Ytkacfhhpmpmhkaa
open Go.Dec Go.RowKit
set_option maxHeartbeats 1600000
set_option maxRecDepth 10000

theorem near_c (w : World) (s t : Sl) (L : List Ch) (u : ByteArray) (T : List ByteArray) (n : Int) (h : Rd w ch 3 s L) (h' : Rd w cb 1 t T) (hL : L.length ≤ 200) (hT : T.length ≤ 1000000) :
    callC Try.prog 23 #[s.v, .string u, t.v, .int .i64 n, .int .i64 (L.length : Int)] (fun (r : Int) => .int .i64 r) w fun r w' => NearR L n u T r ∧ Quiet w w' := by
  have hsl := h.len
  refine D23 _ _ _ _ _ w _ ?_
  unfold F23
  refine (has_c w t T u h' hT).use ?_
  rintro _ w1 ⟨rfl, rfl⟩
  refine ⟨fun g => ⟨.inl ⟨[], Best.nil (of_decide_eq_true g), rfl⟩, Only.refl _ _⟩, fun g => ?_⟩
  have hu : u ∉ T := of_decide_eq_false g
  refine nwL fun b3 w2 hb3 q3 g3 _ l3 => nwL fun b4 w3 hb4 q4 g4 _ l4 => ?_
  have z3 := q3.size
  have o3 : OwnF w3 (fun x => x = b3) 9 1 (⟨some ⟨b3, 0, none⟩, 1, 1⟩ : Sl) ([u].flatMap cb) := (own_row (n := 1) (sz := 1) hb3 rfl (by decide)).keepQ q4
  have r4 : Rd w3 cb 1 (⟨some ⟨b4, 0, none⟩, 1, 1⟩ : Sl) [u] := strs hb4 rfl rfl (by decide)
  have q03 := q3.tr q4
  -- seen may grow; the layer before is only read
  refine lp_ghost (fun (d : Nat) (l : Int × Sl × Sl × Int) w' => l.2.2.2 = d ∧ 1 ≤ d ∧ d ≤ L.length + 1 ∧ ∃ F S A, OwnF w' F 9 1 l.2.1 (S.flatMap cb) ∧ Fresh w w' F ∧ Rd w' cb 1 l.2.2.1 A ∧ (∀ ad, l.2.2.1.a = some ad → 0 < A.length → ¬ F ad.block ∧ ad.block < w'.heap.size) ∧ S.length ≤ 1 + d * 200 ∧ A.length ≤ 200 ∧ ((l.1 = -1 ∧ Lay L n u T (d - 1) S A) ∨ (0 ≤ l.1 ∧ NearR L n u T l.1))) (fun d => L.length + 1 - d) 1 ⟨rfl, Nat.le_refl _, by omega, _, _, _, o3, ⟨q03, fun b e => by omega⟩, r4, fun ad ha _ => by (simp only [Option.some.injEq] at ha; subst ha; exact ⟨fun e => by (have e : b4 = b3 := e); omega, l4⟩), by simp, by simp, .inl ⟨rfl, Lay.begin hu⟩⟩ ?_
  clear o3 r4 q03 hb3 hb4 q3 q4
  rintro N d ⟨best, sS, sA, dd⟩ w4 ⟨hd, d1, d2, F, S, A, oS, fS, rA, dA, hSl, hAl, hst⟩ hN
  dsimp only at hd oS rA dA hst ⊢
  subst hd
  refine ⟨fun hc => ?_, fun hc => ?_⟩
  rotate_left
  · rw [Bool.and_eq_false_iff, decide_eq_false_iff_not, decide_eq_false_iff_not] at hc
    refine ⟨?_, fS.q⟩
    rcases hst with ⟨e, hl⟩ | ⟨_, hr⟩
    · exact .inr ⟨hl.nothing (by omega), e⟩
    · exact hr
  rw [Bool.and_eq_true, decide_eq_true_eq, decide_eq_true_eq] at hc
  have hLay : Lay L n u T (d - 1) S A := by
    rcases hst with ⟨_, hl⟩ | ⟨h0, _⟩
    · exact hl
    · omega
  have hbest : best = -1 := by
    rcases hst with ⟨e, _⟩ | ⟨h0, _⟩
    · exact e
    · omega
  subst hbest
  have hd1 : d - 1 + 1 = d := by omega
  clear hst
  have hO : Objs w w4 (two F fun _ => False) := (((Objs.start w).none2.n0 fS))
  have hd200 : d ≤ 201 := by omega
  refine ⟨fun (l : Int × Sl × Sl × Int) w' => 0 ≤ l.2.2.2 ∧ l.2.2.2 ≤ L.length ∧ ∃ F' H S' B, Objs w w' (two F' H) ∧ OwnF w' F' 9 1 l.2.1 (S'.flatMap cb) ∧ OwnF w' H 9 1 l.2.2.1 (B.flatMap cb) ∧ Only (fun b => F b ∨ w4.heap.size ≤ b) w4 w' ∧ (∀ b, F' b → F b ∨ w4.heap.size ≤ b) ∧ (∀ b, H b → w4.heap.size ≤ b) ∧ Lin L n u (d - 1) S A S' B l.2.2.2.toNat ∧ S'.length ≤ S.length + l.2.2.2.toNat ∧ B.length ≤ l.2.2.2.toNat ∧ ((l.1 = -1 ∧ ∀ t ∈ B, t ∉ T) ∨ (l.1 = d ∧ ∃ t ∈ B, t ∈ T)), fun l _ => (L.length - l.2.2.2).toNat,
    ⟨by simp, by simp, F, _, S, [], hO, oS, OwnF.nil _ _ _ _, Only.refl _ _, fun b e => .inl e, fun b e => e.elim, ⟨fun t => by simp, by simp, fun k hk => absurd hk (by simp)⟩, by simp, by simp, .inl ⟨rfl, by simp⟩⟩, ?_⟩
  rintro ⟨bs, s1, s2, i⟩ w5 ⟨i0, i1, F', H, S', B, O, o1, o2, on, hF', hH, hX, hS', hB', hbs⟩
  dsimp only at i0 i1 o1 o2 hX hS' hB' hbs ⊢
  refine ⟨fun hi => ?_, fun hi => ?_⟩
  rotate_left
  · have hi : ¬ i < (s.len : Int) := of_decide_eq_false hi
    have hX' : L.length ≤ i.toNat := by omega
    rw [w64 (by omega) (by omega)]
    refine hN (d + 1) _ w5 ⟨by (try dsimp only); omega, by omega, by omega, F', S', B, o1, ⟨Quiet.ofBelow O.bl, fun b hb => ⟨O.sep.ge 0 b hb, O.sep.lt 0 b hb⟩⟩, o2.rd cb1 (by decide), fun ad ha _ => ?_, by omega, by omega, ?_⟩ (by omega)
    · have hb := o2.blk ad.block (by (have ha : s2.a = some ad := ha); simp [Sl.blk, ha])
      exact ⟨O.d10 _ hb, O.sep.lt 1 _ hb⟩
    · rcases hbs with ⟨e, ht⟩ | ⟨e, ht⟩
      · have := hX.close hLay hX' ht
        rw [hd1] at this
        exact .inl ⟨e, this⟩
      · have := hX.found hLay ht
        rw [hd1] at this
        refine .inr ⟨by (try dsimp only); omega, ?_⟩
        dsimp only
        rw [e]
        exact this
  have hi : i < (s.len : Int) := of_decide_eq_true hi
  obtain ⟨c, hc⟩ := getq (l := L) i0 (by omega)
  have hi1 : (i + 1).toNat = i.toNat + 1 := toNat_succ i0
  have r1 := o1.rd cb1 (by decide)
  have r2 := o2.rd cb1 (by decide)
  have r1l := r1.len
  have r2l := r2.len
  have rA5 : Rd w5 cb 1 sA A := rA.keep on fun ad ha hp => by
    obtain ⟨e1, e2⟩ := dA ad ha hp
    rintro (e | e)
    · exact e1 e
    · omega
  have q5 : Quiet w w5 := Quiet.ofBelow O.bl
  -- what the step leaves
  refine jn.mk (fun (l : Int × Sl × Sl) w' => ∃ F' H S' B, Objs w w' (two F' H) ∧ OwnF w' F' 9 1 l.2.1 (S'.flatMap cb) ∧ OwnF w' H 9 1 l.2.2 (B.flatMap cb) ∧ Only (fun b => F b ∨ w4.heap.size ≤ b) w4 w' ∧ (∀ b, F' b → F b ∨ w4.heap.size ≤ b) ∧ (∀ b, H b → w4.heap.size ≤ b) ∧ Lin L n u (d - 1) S A S' B (i.toNat + 1) ∧ S'.length ≤ S.length + (i.toNat + 1) ∧ B.length ≤ i.toNat + 1 ∧ ((l.1 = -1 ∧ ∀ t ∈ B, t ∉ T) ∨ (l.1 = d ∧ ∃ t ∈ B, t ∈ T))) ?_ ?_
  rotate_left
  · rintro ⟨b', s1', s2'⟩ w' ⟨F1, H1, S1, B1, k⟩
    rw [w64 (by omega) (by omega)]
    refine ⟨⟨by (try dsimp only); omega, by (try dsimp only); omega, F1, H1, S1, B1, ?_⟩, by (try dsimp only); omega⟩
    rw [hi1]
    exact k
  refine (h.keepQ q5).ixx i0 hc fun p hat _ => ch_ld hat (ch_box fun b17 w8 hb17 q17 g17 _ => ?_)
  have nF : ¬ F' b17 := fun e => by (have := O.sep.lt 0 b17 e; omega)
  have nH : ¬ H b17 := fun e => by (have := O.sep.lt 1 b17 e; omega)
  have onq : ∀ {w'}, Quiet w5 w' → Only (fun b => F b ∨ w4.heap.size ≤ b) w4 w' := fun q => on.then_ q fun _ _ e => e.elim
  have A17 := hb17.at
  refine A17.ld (j := 2) rfl ?_
  refine jn_orW (W := w8) (v := !decide (c.src ∈ A)) (Only.refl _ _) (fun _ => ?_) fun w10 q10 => ?_
  · refine A17.ld (j := 0) rfl ((has_c w8 sA A c.src (rA5.keepQ q17) (by omega)).use ?_)
    rintro _ w9 ⟨rfl, rfl⟩
    exact ⟨rfl, Only.refl _ _⟩
  refine jn_orW (W := w8) (v := decide (c.dst ∈ S')) q10 (fun _ => ?_) fun w12 q12 => ?_
  · refine (hb17.keepQ q10).at.ld (j := 1) rfl ((has_c w10 s1 S' c.dst (r1.keepQ (q17.tr q10)) (by omega)).use ?_)
    rintro _ w9 ⟨rfl, rfl⟩
    exact ⟨rfl, q10⟩
  have q512 := q17.tr q12
  have B12 := hb17.keepQ q12
  refine ⟨fun g => ?_, fun g => ?_⟩
  · rw [Bool.or_eq_true, Bool.or_eq_true, decide_eq_true_eq, Bool.not_eq_true', decide_eq_false_iff_not, decide_eq_true_eq] at g
    exact ⟨F', H, S', B, O.quiet q512, o1.keepQ q512, o2.keepQ q512, onq q512, hF', hH, hX.skip hc (by rcases g with (g | g) | g <;> simp [g]), by omega, by omega, hbs⟩
  rw [Bool.or_eq_false_iff, Bool.or_eq_false_iff, decide_eq_false_iff_not, Bool.not_eq_false', decide_eq_true_eq, decide_eq_false_iff_not] at g
  obtain ⟨⟨g1, g2⟩, g3⟩ := g
  have O12 := O.quiet q512
  have zw := on.size
  have z12 := q512.size
  refine B12.at.ld (j := 1) rfl ((o1.keepQ q512).push (news := cb c.dst) ap23 rfl rfl (by unfold maxLen; omega) (by omega) fun r33 w14 F1 o1a _ st1 => ?_)
  have O14 := O12.s0 st1
  have on14 : Only (fun b => F b ∨ w4.heap.size ≤ b) w4 w14 := (onq q512).then_ st1.only fun b _ e => hF' b e
  have hF1 : ∀ b, F1 b → F b ∨ w4.heap.size ≤ b := fun b e => by
    rcases st1.sub b e with e | e
    · exact hF' b e
    · exact .inr (by omega)
  have B14 : IsCh w14 b17 c := Blk.keep B12 st1.only nF
  have o2a : OwnF w14 H 9 1 s2 (B.flatMap cb) := (o2.keepQ q512).keep st1.only fun b hb e => O12.d01 b e hb
  have z14 := st1.only.size
  refine B14.at.ld (j := 1) rfl (o2a.push (news := cb c.dst) ap23 rfl rfl (by unfold maxLen; omega) (by omega) fun r36 w16 H1 o2b _ st2 => ?_)
  have O16 := O14.s1 st2
  have on16 : Only (fun b => F b ∨ w4.heap.size ≤ b) w4 w16 := on14.then_ st2.only fun b _ e => .inr (hH b e)
  have hH1 : ∀ b, H1 b → w4.heap.size ≤ b := fun b e => by
    rcases st2.sub b e with e | e
    · exact hH b e
    · omega
  have B16 : IsCh w16 b17 c := Blk.keep B14 st2.only nH
  have o1c : OwnF w16 F1 9 1 r33 ((S' ++ [c.dst]).flatMap cb) := by
    rw [List.flatMap_append]
    simpa using o1a.keep st2.only fun b hb e => O14.d01 b hb e
  have o2c : OwnF w16 H1 9 1 r36 ((B ++ [c.dst]).flatMap cb) := by
    rw [List.flatMap_append]
    simpa using o2b
  have q16 : Quiet w w16 := Quiet.ofBelow O16.bl
  have hX2 := hX.add hLay.last hc g2 (by omega)
  refine B16.at.ld (j := 1) rfl ((has_c w16 t T c.dst (h'.keepQ q16) hT).use ?_)
  rintro _ w17 ⟨rfl, rfl⟩
  refine ⟨fun g => ?_, fun g => ?_⟩
  · exact ⟨F1, H1, _, _, O16, o1c, o2c, on16, hF1, hH1, hX2, by simp; omega, by simp; omega, .inr ⟨rfl, c.dst, by simp, of_decide_eq_true g⟩⟩
  · refine ⟨F1, H1, _, _, O16, o1c, o2c, on16, hF1, hH1, hX2, by simp; omega, by simp; omega, ?_⟩
    rcases hbs with ⟨e, ht⟩ | ⟨e, x, hx, ht⟩
    · refine .inl ⟨e, fun y hy => ?_⟩
      rcases List.mem_append.1 hy with e | e
      · exact ht y e
      · rw [List.mem_singleton.1 e]
        exact of_decide_eq_false g
    · exact .inr ⟨e, x, by simp [hx], ht⟩
end Go.Proofs.Ytkacfhhpmpmhkaa
