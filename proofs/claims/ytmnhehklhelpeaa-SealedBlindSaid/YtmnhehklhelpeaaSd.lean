import Derived.Test.YtmnhehklhelpeaaSc
namespace Go.Proofs.Ytmnhehklhelpeaa
open Go.Dec Go.RowKit
set_option maxHeartbeats 1600000
set_option maxRecDepth 10000

theorem others (W : World) (t1 : ByteArray) (_ : t1.size ≤ maxLen) (t2 : ByteArray) (_ : t2.size ≤ maxLen) (k : Int) (hk : -9223372036854775808 ≤ k) (hk' : k ≤ 9223372036854775807) (n : Int) (_ : -9223372036854775808 ≤ n) (_ : n ≤ 9223372036854775807) (d : Int) (_ : -9223372036854775808 ≤ d) (_ : d ≤ 9223372036854775807) (z : Int) (_ : -9223372036854775808 ≤ z) (_ : z ≤ 9223372036854775807) :
    callC Try.prog 3 #[.string t1, .string t2, .int .i64 k, .int .i64 n, .int .i64 d, .int .i64 z] (fun (r : Bool) => .bool r) W fun r w' => r = true ∧ Below W.heap.size W w' := by
  refine callC.use (R := fun r w' => r = true ∧ Quiet W w') ?_ fun _ _ h => ⟨h.1, bq h.2⟩
  refine D3 _ _ _ _ _ _ W _ ?_
  unfold F3
  refine (small_s W).use ?_
  rintro _ w1 ⟨rfl, q1⟩
  refine (new_s w1).use ?_
  rintro _ w2 ⟨sb, F, rfl, hS, q2, f2⟩
  refine ⟨fun g => by simp at g, fun _ => ?_⟩
  refine ⟨fun g => ⟨rfl, q1.tr q2⟩, fun g => ?_⟩
  simp only [Bool.or_eq_false_iff, decide_eq_false_iff_not] at g
  obtain ⟨⟨⟨⟨⟨g1, g2⟩, g3⟩, g4⟩, g5⟩, g6⟩ := g
  have hok : okN k n := ⟨⟨by omega, by omega⟩, by omega, by omega⟩
  obtain ⟨N, rfl⟩ := Int.eq_ofNat_of_zero_le (show 0 ≤ n by omega)
  obtain ⟨k, rfl⟩ := Int.eq_ofNat_of_zero_le (show 0 ≤ k by omega)
  refine (seal_c w2 F sb [] t1 k N d hS (by decide) hk).use ?_
  rintro r23 w3 ⟨F3, l3, hS3, s3, hr3⟩
  obtain ⟨a1, a2, rfl, K1⟩ := hr3.ok hok (by omega)
  refine (seal_c w3 F3 sb _ t2 k N d hS3 (by simp) hk).use ?_
  rintro r24 w4 ⟨F4, l4, hS4, s4, hr4⟩
  obtain ⟨b1, b2, rfl, K2⟩ := hr4.ok hok (by omega)
  replace K1 := K1.stp s4
  have a1 : r23.1 = 0 := a1
  have b1 : r24.1 = 1 := b1
  have hS4 : IsS w4 F4 sb [⟨t1, k, false⟩, ⟨t2, k, false⟩] := hS4
  have K1 : Kp w4 F4 r23.2.1 (splP 0 k N d) := by rw [Int.toNat_natCast, Int.toNat_natCast] at K1; exact K1
  have K2 : Kp w4 F4 r24.2.1 (splP 1 k N d) := by rw [Int.toNat_natCast, Int.toNat_natCast] at K2; exact K2
  have K1l := K1.1.len
  have K2l := K2.1.len
  rw [spl_len] at K1l K2l
  have Q4 : Quiet W w4 := ((q1.tr q2).new s3.only fun x hx => by
    have := f2 x hx
    have := q1.size
    omega).new s4.only fun x hx => by
      rcases s3.sub x hx with e | e
      · have := f2 x e
        have := q1.size
        omega
      · have := q1.size
        have := q2.size
        omega
  refine ⟨fun g => ?_, fun _ => ?_⟩
  · rw [a1, a2, b1, b2, K1l, K2l] at g
    simp at g
  have L1 : ∀ v : Int, (splP v k N d).length ≤ 1000 := fun v => by rw [spl_len]; omega
  have hkn : 1 ≤ (k : Int) ∧ (k : Int) ≤ N := ⟨by omega, by omega⟩
  have hN : N ≤ 20 := by omega
  have f1 : Fld 1 := fld1
  rw [a1, b1]
  refine (open_s w4 F4 sb _ 0 _ _ hS4 K2.1 K2.2.1 (L1 1)).use ?_
  rintro r34 w5 ⟨o34, q5⟩
  have e34 := (open_sub (b := ⟨t1, k, false⟩) (v := 1) (d := d) (n := N) o34 (by decide) rfl hkn hN fld1 (fun p hp => hp) (spl_nd _ _ _ _)).1 (by rw [spl_len]; exact hkn.2)
  rw [if_neg (by simp)] at e34
  refine (open_s w5 F4 sb _ 1 _ _ (hS4.keepQ q5) (K1.q q5).1 K1.2.1 (L1 0)).use ?_
  rintro r35 w6 ⟨o35, q6⟩
  have e35 := (open_sub (b := ⟨t2, k, false⟩) (v := 0) (d := d) (n := N) o35 (by decide) rfl hkn hN fld0 (fun p hp => hp) (spl_nd _ _ _ _)).1 (by rw [spl_len]; exact hkn.2)
  rw [if_neg (by simp)] at e35
  have q46 := q5.tr q6
  refine (open_s w6 F4 sb _ 0 _ _ (hS4.keepQ q46) (K1.q q46).1 K1.2.1 (L1 0)).use ?_
  rintro r36 w7 ⟨o36, q7⟩
  have e36 := (open_sub (b := ⟨t1, k, false⟩) (v := 0) (d := d) (n := N) o36 (by decide) rfl hkn hN fld0 (fun p hp => hp) (spl_nd _ _ _ _)).1 (by rw [spl_len]; exact hkn.2)
  rw [if_pos (by simp)] at e36
  have q47 := q46.tr q7
  have hw : IntKind.i64.wrap ((N : Int) - k) = (N : Int) - k := w64 (by omega) (by omega)
  rw [hw]
  refine rn_from apS (K2.q q47).1 K2.2.1 (by omega) (by rw [spl_len]; omega) fun r37 h37 c37 _ => ?_
  have dl : ((splP 1 k N d).drop ((N : Int) - k).toNat).length = k := by rw [List.length_drop, spl_len]; omega
  refine (open_s w7 F4 sb _ 1 _ _ (hS4.keepQ q47) h37 c37 (by rw [dl]; omega)).use ?_
  rintro r38 w9 ⟨o38, q9⟩
  have e38 := (open_sub (b := ⟨t2, k, false⟩) (v := 1) (d := d) (n := N) o38 (by decide) rfl hkn hN fld1 (fun p hp => List.mem_of_mem_drop hp) ((spl_nd _ _ _ _).sublist (List.drop_sublist _ _))).1 (by rw [dl]; exact Int.le_refl _)
  rw [if_pos (by simp)] at e38
  have q49 := q47.tr q9
  refine (open_s w9 F4 sb _ z _ _ (hS4.keepQ q49) (K1.q q49).1 K1.2.1 (L1 0)).use ?_
  rintro r39 w10 ⟨o39, q10⟩
  refine ⟨?_, (Q4.tr q49).tr q10⟩
  have e39 : (decide (z = 0) || decide (z = 1) || decide (r39.2 = 4)) = true := by
    rw [Bool.or_eq_true, Bool.or_eq_true, decide_eq_true_eq, decide_eq_true_eq, decide_eq_true_eq]
    rcases o39 with ⟨_, rfl⟩ | ⟨b, j, z0, hb, _⟩
    · exact .inr rfl
    · have := (List.getElem?_eq_some_iff.1 hb).1
      simp at this
      omega
  rw [e39, e34, e35, e36, e38]
  simp [beqS_e, e0]
end Go.Proofs.Ytmnhehklhelpeaa
