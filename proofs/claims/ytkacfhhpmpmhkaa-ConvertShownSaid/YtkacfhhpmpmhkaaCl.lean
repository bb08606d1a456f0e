import Derived.Test.YtkacfhhpmpmhkaaCj
namespace Go.Proofs.Ytkacfhhpmpmhkaa
open Go.Dec Go.RowKit
set_option maxHeartbeats 1600000
set_option maxRecDepth 10000

theorem right_files {a : Ap} (h : CheckA a = 0) : a.types ≠ [] → 0 < a.files := by
  unfold CheckA at h
  by_cases h1 : RightA a
  · by_cases h2 : RangeA a
    · obtain ⟨k1, k2, k3, k4, k5, k6, k7, k8⟩ := h2
      have h0 := h1.1 a.files (by unfold nums9; simp)
      unfold numOK at h0
      intro hne
      have : a.types.length ≠ 0 := fun e => hne (List.length_eq_zero_iff.1 e)
      omega
    · rw [if_neg (fun c => c h1), if_pos h2] at h
      cases h
  · rw [if_pos h1] at h
    cases h
theorem check_len {a : Ap} (h : CheckA a = 0) : a.types.length ≤ 20 := by
  unfold CheckA at h
  by_cases h1 : RightA a
  · exact right_len h1
  · rw [if_pos h1] at h
    cases h
theorem shown_c (w : World) (s z y : Sl) (L : List Ch) (u : ByteArray) (n : Int) (a b : Ap) (h : Rd w ch 3 s L) (hz : Rd w cb 1 z a.types) (hy : Rd w cb 1 y b.types) (cz : z.len ≤ z.cap) (cy : y.len ≤ y.cap) :
    callC Try.prog 7 #[s.v, .string u, .int .i64 n, pfv (pfOf a z), pfv (pfOf b y)] (fun (r : Bool) => .bool r) w fun r w' => r = true ∧ Quiet w w' := by
  refine D7 _ _ _ _ _ _ _ _ _ _ _ _ _ _ _ _ _ _ _ _ _ _ _ _ _ _ _ _ _ _ _ _ _ _ _ _ _ _ _ _ _ _ _ _ _ _ _ w _ ?_
  unfold F7
  refine nwL fun b9 w1 hb9 q1 _ _ _ => nwL fun b10 W hb10 q2 _ _ _ => ?_
  have hb9 : IsPf W b9 (pfOf a z) := Blk.keepQ hb9 q2
  have hb10 : IsPf W b10 (pfOf b y) := hb10
  have q0 := q1.tr q2
  have hA : ∀ w', Quiet W w' → AtC w' (Addr.mk b9 0 none) (pf (pfOf a z)) := fun w' q => (hb9.keepQ q).at
  have hB : ∀ w', Quiet W w' → AtC w' (Addr.mk b10 0 none) (pf (pfOf b y)) := fun w' q => (hb10.keepQ q).at
  replace h := h.keepQ q0
  replace hz := hz.keepQ q0
  replace hy := hy.keepQ q0
  refine (small_c W).use ?_
  rintro _ w3 ⟨rfl, q⟩
  refine pf_ld (hA _ q) ((fewp_c w3 a z (hz.keepQ q)).use ?_)
  rintro r34 w4 ⟨h34, q4⟩
  replace q := q.tr q4
  refine jn.mk (fun r w' => (r = false → a.types.length ≤ 12 ∧ b.types.length ≤ 12) ∧ Quiet W w') ⟨fun g => ⟨fun e => (by cases e), q⟩, fun g => pf_ld (hB _ q) ((fewp_c w4 b y (hy.keepQ q)).use ?_)⟩ ?_
  · rintro r59 w5 ⟨h59, q5⟩
    exact ⟨fun e => ⟨h34 (by simpa using g), h59 (by simpa using e)⟩, q.tr q5⟩
  clear q
  rintro c60 w6 ⟨h60, q⟩
  refine jn.mk (fun r w' => (r = false → c60 = false ∧ L.length ≤ 12) ∧ Quiet W w') ⟨fun g => ⟨fun e => (by cases e), q⟩, fun g => (few_c w6 s Sl.nil L u [] (h.keepQ q) (Rd.nil _ _ _)).use ?_⟩ ?_
  · rintro r63 w7 ⟨h63, rfl⟩
    exact ⟨fun e => ⟨g, (h63 (by simpa using e)).1⟩, q⟩
  clear q
  rintro c64 w8 ⟨h64, q⟩
  refine ⟨fun _ => ⟨rfl, q0.tr q⟩, fun g => ?_⟩
  obtain ⟨g1, lL⟩ := h64 g
  obtain ⟨la, lb⟩ := h60 g1
  refine pf_ld (hA _ q) ((check_c w8 a z (hz.keepQ q) cz).use ?_)
  rintro _ w9 ⟨rfl, q9⟩
  replace q := q.tr q9
  refine jn_orW (W := W) (v := !decide (CheckA b = 0)) q (fun _ => pf_ld (hB _ q) ((check_c w9 b y (hy.keepQ q) cy).use ?_)) fun w11 q => ?_
  · rintro _ w10 ⟨rfl, q10⟩
    exact ⟨rfl, q.tr q10⟩
  refine ⟨fun _ => ⟨rfl, q0.tr q⟩, fun g => ?_⟩
  rw [Bool.or_eq_false_iff, Bool.not_eq_false', Bool.not_eq_false', decide_eq_true_eq, decide_eq_true_eq] at g
  obtain ⟨ca, cb'⟩ := g
  refine (hA _ q).ld (j := 12) rfl ((path_c w11 s z L u a.types n (h.keepQ q) (hz.keepQ q) (by omega)).use ?_)
  rintro ⟨r, is⟩ w12 ⟨p, hr, _, hp, q12⟩
  dsimp only at hr hp ⊢
  replace q := q.tr q12
  have hrl := hr.len
  rw [nz_len] at hrl
  have hpl := hp.len_le
  refine jn.mk (fun _ w' => Quiet W w') ⟨fun hi => ?_, fun _ => q⟩ ?_
  · obtain ⟨n0, _, hb⟩ := hp.yes hi
    obtain ⟨⟨v, hv, hl⟩, _⟩ := hb
    refine (lead_c w12 s r L u (nz p) n (h.keepQ q) hr (by rw [nz_len]; omega)).use ?_
    rintro _ w14 ⟨rfl, rfl⟩
    rw [show leadP L n u (nz p) = (v, true) from lead_iff.2 ⟨n0, p, rfl, hl⟩]
    refine jn_any' (W := W) false ?_ fun w' q => ⟨fun g => (by cases g), fun _ => q⟩
    show tk _ _
    unfold tk
    replace q := q.tr (Only.drew (fun _ => False) _)
    refine ⟨fun g => (by cases g), fun _ => pf_ld (hA _ q) ((hA _ q).ld (j := 11) rfl ((fits_c _ a z v n (hz.keepQ q) (by omega)).use ?_))⟩
    rintro _ w16 ⟨rfl, q16⟩
    replace q := q.tr q16
    refine ⟨(hA _ q).cj (j := 11) rfl, ?_, q⟩
    have hf := right_files ca (fun e => by rw [e] at hv; cases hv)
    have : decide (FitsA a v n) = decide (n ≤ (pfOf a z).bytes) := decide_eq_decide.2 ⟨fun e => e.2.2.2, fun e => ⟨hf, hv, n0, e⟩⟩
    rw [this]
    simp
  clear q
  rintro _ w13 q
  refine pf_ld (hA _ q) ((fits_c w13 a z u n (hz.keepQ q) (by omega)).use ?_)
  rintro _ w18 ⟨rfl, q18⟩
  replace q := q.tr q18
  refine ⟨fun g => ?_, fun _ => ?_⟩
  · rw [Bool.and_eq_true, decide_eq_true_eq] at g
    obtain ⟨⟨f1, f2, f3, f4⟩, g⟩ := g
    obtain ⟨e, hb, _⟩ := hp.finds f3 (by omega) (p := []) (v := u) rfl f2
    have : p = [] := hb.in_.1 f2
    rw [e, hrl, this] at g
    simp at g
  refine jn_any' (W := W) true ⟨fun _ => ?_, fun g => (by cases g)⟩ fun w' q => ⟨rfl, q0.tr q⟩
  refine pf_ld (hA _ q) (pf_ld (hB _ q) ((atMost_c w18 a b z y (hz.keepQ q) (hy.keepQ q) (by omega) (by omega)).use ?_))
  rintro _ w19 ⟨rfl, q19⟩
  replace q := q.tr q19
  refine jn_andW (W := W) (v := decide (FitsA a u n)) q (fun _ => pf_ld (hA _ q) ((fits_c w19 a z u n (hz.keepQ q) (by omega)).use ?_)) fun w21 q => ?_
  · rintro _ w20 ⟨rfl, q20⟩
    exact ⟨rfl, q.tr q20⟩
  refine jn_andW (W := W) (v := !decide (FitsA b u n)) q (fun _ => pf_ld (hB _ q) ((fits_c w21 b y u n (hy.keepQ q) (by omega)).use ?_)) fun w23 q => ⟨?_, q⟩
  · rintro _ w22 ⟨rfl, q22⟩
    exact ⟨rfl, q.tr q22⟩
  rw [Bool.not_eq_true', Bool.eq_false_iff]
  intro g
  simp only [Bool.and_eq_true, decide_eq_true_eq, Bool.not_eq_true', decide_eq_false_iff_not] at g
  obtain ⟨⟨⟨⟨x1, x2, x3, x4, x5, x6, x7, x8⟩, _, _, x13⟩, f1, f2, f3, f4⟩, g⟩ := g
  exact g ⟨by omega, x13 u f2, f3, by omega⟩
theorem shown (W : World) (s : Sl) (L : List Ch) (h : Rd W ch 3 s L) (_ : ∀ ad, s.a = some ad → 0 < L.length → ad.block < W.heap.size) (_ : L.length ≤ maxLen) (u : ByteArray) (_ : u.size ≤ maxLen) (n : Int) (_ : -9223372036854775808 ≤ n) (_ : n ≤ 9223372036854775807) (x : Pf) (l : List ByteArray) (hx : Rd W cb 1 x.types l) (kx : x.types.len ≤ x.types.cap) (y : Pf) (m : List ByteArray) (hy : Rd W cb 1 y.types m) (ky : y.types.len ≤ y.types.cap) :
    callC Try.prog 7 #[s.v, .string u, .int .i64 n, pfv x, pfv y] (fun (r : Bool) => .bool r) W fun r w' => r = true ∧ Below W.heap.size W w' :=
  (shown_c W s x.types y.types L u n (apOf x l) (apOf y m) h hx hy kx ky).use fun _ _ h => ⟨h.1, bq h.2⟩
end Go.Proofs.Ytkacfhhpmpmhkaa
