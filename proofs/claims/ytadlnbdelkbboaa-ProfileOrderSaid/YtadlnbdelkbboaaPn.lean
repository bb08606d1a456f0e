import Derived.Test.YtadlnbdelkbboaaPi
import Derived.Test.YtadlnbdelkbboaaPl
namespace Go.Proofs.Ytadlnbdelkbboaa
open Go.Dec Go.RowKit
set_option maxHeartbeats 1600000
set_option maxRecDepth 10000

theorem order_c (w : World) (a b c : Ap) (s t u : Sl) (h1 : Rd w cb 1 s a.types) (h2 : Rd w cb 1 t b.types) (h3 : Rd w cb 1 u c.types) (k1 : s.len ≤ s.cap) (k2 : t.len ≤ t.cap) (k3 : u.len ≤ u.cap) :
    callC Try.prog 5 #[pfv (pfOf a s), pfv (pfOf b t), pfv (pfOf c u)] (fun (r : Bool) => .bool r) w fun r w' => r = true ∧ Quiet w w' := by
  refine D5 _ _ _ _ _ _ _ _ _ _ _ _ _ _ _ _ _ _ _ _ _ _ _ _ _ _ _ _ _ _ _ _ _ _ _ _ _ _ _ _ _ _ _ _ _ _ _ _ _ _ _ _ _ _ _ _ _ _ _ _ _ _ _ _ _ _ w _ ?_
  unfold F5
  refine nwL fun b1 w1 hb1 q1 _ _ _ => nwL fun b2 w2 hb2 q2 _ _ _ => nwL fun b3 W hb3 q3 _ _ _ => ?_
  have hb1 : IsPf W b1 (pfOf a s) := Blk.keepQ hb1 (q2.tr q3)
  have hb2 : IsPf W b2 (pfOf b t) := Blk.keepQ hb2 q3
  have hb3 : IsPf W b3 (pfOf c u) := hb3
  have q0 := (q1.tr q2).tr q3
  replace h3 := h3.keepQ q0
  have hC : ∀ w', Quiet W w' → AtC w' (Addr.mk b3 0 none) (pf (pfOf c u)) := fun w' q => (hb3.keepQ q).at
  replace h1 := h1.keepQ q0
  replace h2 := h2.keepQ q0
  have hA : ∀ w', Quiet W w' → AtC w' (Addr.mk b1 0 none) (pf (pfOf a s)) := fun w' q => (hb1.keepQ q).at
  have hB : ∀ w', Quiet W w' → AtC w' (Addr.mk b2 0 none) (pf (pfOf b t)) := fun w' q => (hb2.keepQ q).at
  refine (small_c W).use ?_
  rintro _ w4 ⟨rfl, q⟩
  repeat (first | refine pf_ld (hA _ q) ?_ | refine pf_ld (hB _ q) ?_ | refine pf_ld (hC _ q) ?_)
  refine (few3_c _ a b c s t u (h1.keepQ q) (h2.keepQ q) (h3.keepQ q)).use ?_
  rintro r71 w5 ⟨hfew, q5⟩
  replace q := q.tr q5
  clear q5
  refine jn_orW (v := !decide (CheckA a = 0 ∧ CheckA b = 0 ∧ CheckA c = 0)) q (fun _ => ?_) fun w7 q => ?_
  · repeat (first | refine pf_ld (hA _ q) ?_ | refine pf_ld (hB _ q) ?_ | refine pf_ld (hC _ q) ?_)
    refine (fine3_c _ a b c s t u (h1.keepQ q) (h2.keepQ q) (h3.keepQ q) k1 k2 k3).use ?_
    rintro _ w6 ⟨rfl, q6⟩
    exact ⟨rfl, q.tr q6⟩
  refine ⟨fun _ => ⟨rfl, q0.tr q⟩, fun g => ?_⟩
  have hg : r71 = true ∧ (CheckA a = 0 ∧ CheckA b = 0 ∧ CheckA c = 0) := by
    rw [Bool.or_eq_false_iff, Bool.not_eq_false', Bool.not_eq_false', decide_eq_true_eq] at g
    exact g
  obtain ⟨la, lb, lc⟩ := hfew hg.1
  have fa := ((fine_iff a).1 hg.2.1).1
  have fb := ((fine_iff b).1 hg.2.2.1).1
  have fc := ((fine_iff c).1 hg.2.2.2).1
  repeat (first | refine pf_ld (hA _ q) ?_ | refine pf_ld (hB _ q) ?_ | refine pf_ld (hC _ q) ?_)
  refine (atMost_c _ a a s s (h1.keepQ q) (h1.keepQ q) (by omega) (by omega)).use ?_
  rintro _ w101 ⟨rfl, q101⟩
  replace q := q.tr q101
  refine jn_orW (v := (decide (LeA a b) && decide (LeA b c)) && !decide (LeA a c)) q (fun _ => ?_) fun w q => ?_
  · repeat (first | refine pf_ld (hA _ q) ?_ | refine pf_ld (hB _ q) ?_ | refine pf_ld (hC _ q) ?_)
    refine (atMost_c _ a b s t (h1.keepQ q) (h2.keepQ q) (by omega) (by omega)).use ?_
    rintro _ w102 ⟨rfl, q102⟩
    replace q := q.tr q102
    refine jn_andW (v := decide (LeA b c)) q (fun _ => ?_) fun w q => ?_
    · repeat (first | refine pf_ld (hA _ q) ?_ | refine pf_ld (hB _ q) ?_ | refine pf_ld (hC _ q) ?_)
      refine (atMost_c _ b c t u (h2.keepQ q) (h3.keepQ q) (by omega) (by omega)).use ?_
      rintro _ w103 ⟨rfl, q103⟩
      replace q := q.tr q103
      exact ⟨rfl, q⟩
    refine jn_andW (v := !decide (LeA a c)) q (fun _ => ?_) fun w q => ⟨rfl, q⟩
    repeat (first | refine pf_ld (hA _ q) ?_ | refine pf_ld (hB _ q) ?_ | refine pf_ld (hC _ q) ?_)
    refine (atMost_c _ a c s u (h1.keepQ q) (h3.keepQ q) (by omega) (by omega)).use ?_
    rintro _ w104 ⟨rfl, q104⟩
    replace q := q.tr q104
    exact ⟨rfl, q⟩
  have hz : ((!decide (LeA a a)) || ((decide (LeA a b) && decide (LeA b c)) && !decide (LeA a c))) = false := by
    rw [decide_eq_true (le_refl a)]
    by_cases g1 : LeA a b
    · by_cases g2 : LeA b c
      · have := fa.edit
        rw [decide_eq_true (le_trans (by omega) g1 g2)]
        simp
      · simp [g2]
    · simp [g1]
  refine ⟨fun g => absurd g (by rw [hz]; exact Bool.false_ne_true), fun _ => ?_⟩
  refine jn_any' (W := W) true ?_ fun w q => ⟨rfl, q0.tr q⟩
  show tk _ _
  unfold tk
  replace q := q.tr (Only.drew (fun _ => False) _)
  refine ⟨fun _ => ?_, fun g => (by cases g)⟩
  repeat (first | refine pf_ld (hA _ q) ?_ | refine pf_ld (hB _ q) ?_ | refine pf_ld (hC _ q) ?_)
  refine (atMost_c _ a b s t (h1.keepQ q) (h2.keepQ q) (by omega) (by omega)).use ?_
  rintro _ w105 ⟨rfl, q105⟩
  replace q := q.tr q105
  repeat (refine ⟨by first | exact pf_cj (hA _ q) | exact pf_cj (hB _ q) | exact pf_cj (hC _ q), ?_⟩)
  have he : decide (LeA a b ∧ LeA b a) = decide (AlikeA a b) := decide_eq_decide.2 (alike_iff fa fb)
  refine ⟨fun g1 => ?_, fun g1 => ?_⟩
  · repeat (first | refine pf_ld (hA _ q) ?_ | refine pf_ld (hB _ q) ?_ | refine pf_ld (hC _ q) ?_)
    refine (atMost_c _ b a t s (h2.keepQ q) (h1.keepQ q) (by omega) (by omega)).use ?_
    rintro _ w106 ⟨rfl, q106⟩
    replace q := q.tr q106
    repeat (refine ⟨by first | exact pf_cj (hA _ q) | exact pf_cj (hB _ q) | exact pf_cj (hC _ q), ?_⟩)
    refine (alike_c _ a b s t (h1.keepQ q) (h2.keepQ q) (by omega) (by omega)).use ?_
    rintro _ w107 ⟨rfl, q107⟩
    replace q := q.tr q107
    refine ⟨?_, q⟩
    rw [← he, Bool.decide_and, g1]
    simp
  · refine (alike_c _ a b s t (h1.keepQ q) (h2.keepQ q) (by omega) (by omega)).use ?_
    rintro _ w108 ⟨rfl, q108⟩
    replace q := q.tr q108
    refine ⟨?_, q⟩
    rw [← he, Bool.decide_and, g1]
    rfl
theorem order (W : World) (x : Pf) (l : List ByteArray) (hx : Rd W cb 1 x.types l) (kx : x.types.len ≤ x.types.cap) (y : Pf) (m : List ByteArray) (hy : Rd W cb 1 y.types m) (ky : y.types.len ≤ y.types.cap) (z : Pf) (n : List ByteArray) (hz : Rd W cb 1 z.types n) (kz : z.types.len ≤ z.types.cap) :
    callC Try.prog 5 #[pfv x, pfv y, pfv z] (fun (r : Bool) => .bool r) W fun r w' => r = true ∧ Below W.heap.size W w' :=
  (order_c W (apOf x l) (apOf y m) (apOf z n) x.types y.types z.types hx hy hz kx ky kz).use fun _ _ h => ⟨h.1, bq h.2⟩
end Go.Proofs.Ytadlnbdelkbboaa

