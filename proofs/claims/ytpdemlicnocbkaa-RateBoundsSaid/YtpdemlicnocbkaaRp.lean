import Derived.Test.YtpdemlicnocbkaaRt
namespace Go.Proofs.Ytpdemlicnocbkaa
open Go.Dec Go.RowKit
set_option maxHeartbeats 400000

theorem phi_rt {lv st r bu x : Int} (h : Rt lv st r bu) (h0 : st ≤ x) (h1 : x ≤ 1073741824) : Rt (phi lv st r bu x) x r bu := by
  have := phi_bd h h0
  obtain ⟨r0, r1, u0, u1, l0, l1, s0, s1⟩ := h
  exact ⟨r0, r1, u0, u1, by omega, this.2, by omega, h1⟩
theorem phi_phi {lv st r bu x y : Int} (h : Rt lv st r bu) (h1 : x ≤ y) : phi (phi lv st r bu x) x r bu y = phi lv st r bu y := by
  have h2 : 0 ≤ (y - x) * r := Int.mul_nonneg (by omega) h.r0
  have h3 : (y - st) * r = (x - st) * r + (y - x) * r := by rw [← Int.add_mul]; congr 1; omega
  unfold phi
  omega
theorem phi_self {lv st r bu : Int} (h : lv ≤ bu) : phi lv st r bu st = lv := by unfold phi; simp; omega
theorem take_ok {lv st r bu x n : Int} (h : Rt lv st r bu) (h0 : st ≤ x) (h1 : x ≤ 1073741824) (hn : ¬ n < 0) : takeP lv st r bu x n = if phi lv st r bu x < n then (lv, st, 6) else (phi lv st r bu x - n, x, 0) := by
  unfold takeP
  rw [if_neg hn, free_ok h h0 h1]
  simp

theorem parts (W : World) (lv : Int) (_ : -9223372036854775808 ≤ lv) (_ : lv ≤ 9223372036854775807) (r : Int) (_ : -9223372036854775808 ≤ r) (_ : r ≤ 9223372036854775807)
    (bu : Int) (_ : -9223372036854775808 ≤ bu) (_ : bu ≤ 9223372036854775807) (f : Int) (f0 : 0 ≤ f) (f1 : f ≤ 65535) (g : Int) (g0 : 0 ≤ g) (g1 : g ≤ 65535)
    (n : Int) (_ : -9223372036854775808 ≤ n) (_ : n ≤ 9223372036854775807) (p : Int) (_ : -9223372036854775808 ≤ p) (_ : p ≤ 9223372036854775807) :
    callC Try.prog 5 #[.int .i64 lv, .int .i64 r, .int .i64 bu, .int .u16 f, .int .u16 g, .int .i64 n, .int .i64 p] (fun (r : Bool) => .bool r) W fun r w' => r = true ∧ Below W.heap.size W w' := by
  refine D5 _ _ _ _ _ _ _ W _ ?_
  unfold F5
  have bq : ∀ {w : World}, Quiet W w → Below W.heap.size W w := fun q => q.below (Nat.le_refl _) fun _ e => e.elim
  rw [w64 (x := f) (by omega) (by omega), w64 (x := g) (by omega) (by omega), w64 (x := f + g) (by omega) (by omega), w64 (x := f + g + g) (by omega) (by omega)]
  refine (small_c W).use ?_
  rintro c w1 ⟨rfl, q1⟩
  refine slot2 fun b2 w3 hb q3 _ _ => hb.ld rfl (hb.ld rfl ?_)
  refine (right_c w3 lv 0 r bu).use ?_
  rintro c w4 ⟨rfl, q4⟩
  have q := (q1.tr q3).tr q4
  have h4 := hb.keepQ q4
  refine ⟨fun _ => ⟨rfl, bq q⟩, fun hc => h4.ld rfl (h4.ld rfl ?_)⟩
  have hr := rightP_iff.1 (show rightP lv 0 r bu = true by simpa using hc)
  have hl0 := hr.l0
  refine (take_c w4 lv 0 r bu f 0).use ?_
  rintro c w5 ⟨rfl, q5⟩
  have p1 := phi_bd hr f0
  rw [take_ok hr f0 (by omega) (by omega), if_neg (by omega)]
  refine slot2 fun b11 w7 h11 q7 _ _ => ?_
  have h7 := (h4.keepQ q5).keepQ q7
  refine h7.ld rfl (h7.ld rfl ?_)
  refine (take_c w7 lv 0 r bu (f + g) n).use ?_
  rintro c w8 ⟨rfl, q8⟩
  refine slot2 fun b16 w10 h16 q10 _ _ => ?_
  have h11a := (h11.keepQ q8).keepQ q10
  refine h11a.ld rfl (h11a.ld rfl ?_)
  refine (take_c w10 (phi lv 0 r bu f - 0) f r bu (f + g) n).use ?_
  rintro c w11 ⟨rfl, q11⟩
  refine slot2 fun b21 w13 h21 q13 _ _ => ?_
  have h16a := (h16.keepQ q11).keepQ q13
  have qa := ((((q.tr q5).tr q7).tr (q8.tr q10)).tr (q11.tr q13))
  have h13 := (((h7.keepQ q8).keepQ q10).keepQ q11).keepQ q13
  rw [Int.sub_zero] at h21 ⊢
  by_cases hn : n < 0
  · have e1 : ∀ a b, takeP a b r bu (f + g) n = (a, b, 1) := fun a b => by unfold takeP; rw [if_pos hn]
    rw [e1, e1]
    refine jp.val false ⟨fun hc => absurd hc (by simp), fun _ => jp.val false ⟨fun hc => absurd hc (by simp), fun _ => rfl⟩ rfl⟩ ⟨fun hc => absurd hc (by decide), fun _ => ?_⟩
    exact ⟨fun _ => ⟨rfl, bq qa⟩, fun hc => absurd hc (by simp)⟩
  have hr2 := phi_rt hr f0 (by omega)
  have pp := phi_phi hr (show f ≤ f + g by omega)
  have p2 := phi_bd hr (show (0 : Int) ≤ f + g by omega)
  rw [take_ok hr (by omega) (by omega) hn] at h16a ⊢
  rw [take_ok hr2 (by omega) (by omega) hn, pp] at h21 ⊢
  by_cases hlt : phi lv 0 r bu (f + g) < n
  · rw [if_pos hlt] at h16a h21 ⊢
    rw [if_pos hlt]
    refine jp.val false ⟨fun hc => absurd hc (by simp), fun _ => jp.val false ⟨fun hc => absurd hc (by simp), fun _ => rfl⟩ rfl⟩ ⟨fun hc => absurd hc (by decide), fun _ => ?_⟩
    exact ⟨fun _ => ⟨rfl, bq qa⟩, fun hc => absurd hc (by simp)⟩
  rw [if_neg hlt] at h16a h21 ⊢
  rw [if_neg hlt]
  refine jp.val false ⟨fun hc => absurd hc (by simp), fun _ => jp.val false ⟨fun _ => h16a.ld rfl (h16a.ld rfl (h21.ld rfl (h21.ld rfl (by simp)))), fun hc => absurd hc (by simp)⟩ rfl⟩ ⟨fun hc => absurd hc (by decide), fun _ => ?_⟩
  refine ⟨fun _ => ⟨rfl, bq qa⟩, fun hc => h13.ld rfl (h13.ld rfl ?_)⟩
  have hp : 0 ≤ p ∧ p ≤ n := by simpa using hc
  refine (take_c w13 lv 0 r bu (f + g) p).use ?_
  rintro c w14 ⟨rfl, q14⟩
  rw [take_ok hr (by omega) (by omega) (by omega), if_neg (by omega)]
  refine slot2 fun b44 w16 h44 q16 _ _ => h44.ld rfl (h44.ld rfl ?_)
  rw [w64 (x := n - p) (by omega) (by omega)]
  refine (take_c w16 (phi lv 0 r bu (f + g) - p) (f + g) r bu (f + g) (n - p)).use ?_
  rintro c w17 ⟨rfl, q17⟩
  have hr3 : Rt (phi lv 0 r bu (f + g) - p) (f + g) r bu := by
    obtain ⟨r0, r1, u0, u1, l0, l1, s0, s1⟩ := hr
    exact ⟨r0, r1, u0, u1, by omega, by omega, by omega, by omega⟩
  rw [take_ok hr3 (Int.le_refl _) (by omega) (by omega), phi_self hr3.l1, if_neg (by omega)]
  refine slot2 fun b49 w19 h49 q19 _ _ => ?_
  have h19 := (((h13.keepQ q14).keepQ q16).keepQ q17).keepQ q19
  refine h19.ld rfl (h19.ld rfl ?_)
  refine (take_c w19 lv 0 r bu (f + g + g) n).use ?_
  rintro c w20 ⟨rfl, q20⟩
  have p3 := phi_mono (lv := lv) hr (show f + g ≤ f + g + g by omega)
  rw [take_ok hr (by omega) (by omega) hn, if_neg (by omega)]
  refine slot2 fun b54 w22 h54 q22 _ _ => ?_
  have h49a := (h49.keepQ q20).keepQ q22
  have h16b := (((((h16a.keepQ q14).keepQ q16).keepQ q17).keepQ q19).keepQ q20).keepQ q22
  refine jp.val true ⟨fun _ => h49a.ld rfl (h49a.ld rfl (h16b.ld rfl (h16b.ld rfl ?_))), fun hc => absurd hc (by simp)⟩ ⟨rfl, bq ((((qa.tr q14).tr (q16.tr q17)).tr q19).tr (q20.tr q22))⟩
  simp
  omega

end Go.Proofs.Ytpdemlicnocbkaa
