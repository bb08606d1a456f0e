import Derived.Test.YtmnhehklhelpeaaSe
namespace Go.Proofs.Ytmnhehklhelpeaa
open Go.Dec Go.RowKit
set_option maxHeartbeats 1600000
set_option maxRecDepth 10000

theorem opens (W : World) (s : Sl) (l : List ByteArray) (h : Rd W cs 1 s l) (_ : ∀ ad, s.a = some ad → 0 < l.length → ad.block < W.heap.size) (hl : l.length ≤ maxLen) (t : ByteArray) (_ : t.size ≤ maxLen) (k : Int) (hk : -9223372036854775808 ≤ k) (hk' : k ≤ 9223372036854775807) (n : Int) (_ : -9223372036854775808 ≤ n) (_ : n ≤ 9223372036854775807) (d : Int) (_ : -9223372036854775808 ≤ d) (_ : d ≤ 9223372036854775807) (u : Int) (_ : 0 ≤ u) (_ : u ≤ 4294967295) (y : Int) (_ : -9223372036854775808 ≤ y) (_ : y ≤ 9223372036854775807) :
    callC Try.prog 5 #[s.v, .string t, .int .i64 k, .int .i64 n, .int .i64 d, .int .u32 u, .int .i64 y] (fun (r : Bool) => .bool r) W fun r w' => r = true ∧ Below W.heap.size W w' := by
  have hsl := h.len
  refine callC.use (R := fun r w' => r = true ∧ Quiet W w') ?_ fun _ _ h => ⟨h.1, bq h.2⟩
  refine D5 _ _ _ _ _ _ _ W _ ?_
  unfold F5
  refine (small_s W).use ?_
  rintro _ w1 ⟨rfl, q1⟩
  refine (few16_c w1 s l (h.keepQ q1) hl).use ?_
  rintro r10 w2 ⟨hf, rfl⟩
  refine ⟨fun g => ⟨rfl, q1⟩, fun g => ?_⟩
  rw [Bool.or_eq_false_iff, decide_eq_false_iff_not, Bool.not_eq_false'] at g
  obtain ⟨g1, g2⟩ := g
  obtain ⟨hl4, hl2⟩ := hf g1
  refine (made_c w1 s l t k n d (h.keepQ q1) hl4 hl2 (by omega) hk).use ?_
  rintro ⟨p, idx, r, er⟩ w3 ⟨sb, F, l', e1, hS, hN, hno, hyes⟩
  dsimp only at e1 hno hyes ⊢
  subst e1
  have Q3 := q1.tr hN.1
  refine ⟨fun g => ?_, fun g => ?_⟩
  · have : ¬ okN k n := fun c => by
      simp only [Bool.or_eq_true, decide_eq_true_eq] at g
      obtain ⟨⟨c1, c2⟩, c3, c4⟩ := c
      omega
    have e2 := hno this
    injection e2 with e2 e3
    injection e3 with e3 e4
    subst e2 e3 e4
    exact ⟨rfl, Q3⟩
  simp only [Bool.or_eq_false_iff, decide_eq_false_iff_not] at g
  obtain ⟨⟨⟨c1, c2⟩, c3⟩, c4⟩ := g
  have hok : okN k n := ⟨⟨by omega, by omega⟩, by omega, by omega⟩
  obtain ⟨N, rfl⟩ := Int.eq_ofNat_of_zero_le (show 0 ≤ n by omega)
  obtain ⟨k, rfl⟩ := Int.eq_ofNat_of_zero_le (show 0 ≤ k by omega)
  obtain ⟨a1, a2, K, a4, a5⟩ := hyes hok
  rw [Int.toNat_natCast, Int.toNat_natCast] at K
  subst a1 a2
  have Kl := K.1.len
  rw [spl_len] at Kl
  refine ⟨fun g => ?_, fun _ => ?_⟩
  · rw [Kl] at g
    simp at g
  have hkn : 1 ≤ (k : Int) ∧ (k : Int) ≤ N := ⟨by omega, by omega⟩
  have hN20 : N ≤ 20 := by omega
  have hv : Fld (l.length : Int) := by unfold Fld; omega
  have hi0 : (0 : Int) ≤ (l.length : Int) := by omega
  have hb : l'[((l.length : Nat) : Int).toNat]? = some ⟨t, k, false⟩ := by rw [Int.toNat_natCast]; exact a5
  refine (picked_c w3 r _ u K.1 (by rw [spl_len]; omega) (spl_nd _ _ _ _)).use ?_
  rintro r33 w4 ⟨m, G, o33, hm, hmn, hml, f33⟩
  have hmr := o33.rd pt_len (by decide)
  have hmrl := hmr.len
  have hS4 := hS.keepQ f33.q
  refine (open_s w4 F sb l' l.length r33 m hS4 hmr o33.cap (by omega)).use ?_
  rintro r34 w5 ⟨o34, q5⟩
  obtain ⟨e34, e34'⟩ := open_sub (b := ⟨t, k, false⟩) (v := (l.length : Int)) (d := d) (n := N) o34 hi0 hb hkn hN20 hv hm hmn
  rw [if_pos ⟨rfl, rfl⟩] at e34
  dsimp only at e34 e34'
  refine ⟨fun g => ?_, fun _ => ?_⟩
  · exfalso
    by_cases hc : (m.length : Int) < k
    · have hr : ¬ ((k : Int) ≤ (r33.len : Int)) := by omega
      rw [e34' hc, decide_eq_false hr] at g
      simp [beqS_e, e0] at g
    · have hr : ¬ ((r33.len : Int) < (k : Int)) := by omega
      rw [e34 (by omega), decide_eq_false hr] at g
      simp [beqS_e, e0] at g
  refine jn_andW (W := w5) (v := false) (Only.refl _ _) (fun hc => ?_) fun w7 q7 => ?_
  · simp only [Bool.and_eq_true, decide_eq_true_eq] at hc
    obtain ⟨⟨c5, c6⟩, c7⟩ := hc
    refine (fits_c w5 r33 m k y (hmr.keepQ q5) (by omega)).use ?_
    rintro r76 w6 ⟨f76, q6⟩
    have hw : WrongP m k = 0 := wrong_ok (by omega) (fun s hs => spl_in hN20 s (hm s hs)) (sub_nd hm hmn)
    exact ⟨by rw [f76.2 (fits_few hw (by omega) ⟨c6, c7⟩)]; rfl, q6⟩
  rw [Bool.and_false]
  refine ⟨fun g => (by cases g), fun _ => ?_⟩
  have q37 := (f33.q.tr q5).tr q7
  have L1 : (splP (l.length : Int) k N d).length ≤ 1000 := by rw [spl_len]; omega
  refine (open_s w7 F sb l' l.length r _ (hS.keepQ q37) (K.q q37).1 K.2.1 L1).use ?_
  rintro r79 w8 ⟨o79, q8⟩
  have e79 := (open_sub (b := ⟨t, k, false⟩) (v := (l.length : Int)) (d := d) (n := N) o79 hi0 hb hkn hN20 hv (fun p hp => hp) (spl_nd _ _ _ _)).1 (by rw [spl_len]; exact hkn.2)
  rw [if_pos ⟨rfl, rfl⟩] at e79
  have q38 := q37.tr q8
  have hb1 : burnL l' l.length = (l'.set l.length ⟨t, k, true⟩, 0) := by
    unfold burnL
    rw [if_neg (by omega), hb, Int.toNat_natCast]
    rfl
  refine (burn_s w8 F sb l' l.length (hS.keepQ q38) (by omega)).use ?_
  rintro r80 w9 ⟨e80, F9, hS9, s9⟩
  rw [hb1] at e80 hS9
  dsimp only at e80 hS9
  have K9 := (K.q q38).stp s9
  have hN9 := (hN.q q38).stp s9
  have hb9 : (l'.set l.length ⟨t, k, true⟩)[((l.length : Nat) : Int).toNat]? = some ⟨t, k, true⟩ := by
    rw [Int.toNat_natCast, List.getElem?_set_self (by omega)]
  refine (open_s w9 F9 sb _ l.length r _ hS9 K9.1 K9.2.1 L1).use ?_
  rintro r81 w10 ⟨o81, q10⟩
  have e81 := (open_sub (b := ⟨t, k, true⟩) (v := (l.length : Int)) (d := d) (n := N) o81 hi0 hb9 hkn hN20 hv (fun p hp => hp) (spl_nd _ _ _ _)).1 (by rw [spl_len]; exact hkn.2)
  rw [if_neg (by simp)] at e81
  have hb2 : burnL (l'.set l.length ⟨t, k, true⟩) l.length = (l'.set l.length ⟨t, k, true⟩, 5) := by
    unfold burnL
    rw [if_neg (by rw [List.length_set]; omega), hb9]
    rfl
  refine (burn_s w10 F9 sb _ l.length (hS9.keepQ q10) (by rw [List.length_set]; omega)).use ?_
  rintro r82 w11 ⟨e82, F11, hS11, s11⟩
  rw [hb2] at e82 hS11
  dsimp only at e82 hS11
  have hN11 := (hN9.q q10).stp s11
  refine jn_t (W := w11) ?_ ?_ fun w13 q13 => ⟨rfl, (q1.tr hN11.1).tr q13⟩
  · rw [e79, e80, e81, e82]
    simp [beqS_e, e0]
  · refine (len_s w11 F11 sb _ hS11).use ?_
    rintro r97 w12 ⟨rfl, rfl⟩
    refine ⟨decide_eq_true ?_, Only.refl _ _⟩
    rw [List.length_set, hsl, w64 (x := 2 * (l.length : Int)) (by omega) (by omega), w64 (by omega) (by omega)]
    omega
end Go.Proofs.Ytmnhehklhelpeaa
