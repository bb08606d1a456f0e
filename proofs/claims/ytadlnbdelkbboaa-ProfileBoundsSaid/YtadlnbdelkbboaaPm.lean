import Derived.Test.YtadlnbdelkbboaaPi
import Derived.Test.YtadlnbdelkbboaaPl
namespace Go.Proofs.Ytadlnbdelkbboaa
open Go.Dec Go.RowKit
set_option maxHeartbeats 1600000
set_option maxRecDepth 10000

theorem bounds_c (w : World) (a b c : Ap) (s t u : Sl) (h1 : Rd w cb 1 s a.types) (h2 : Rd w cb 1 t b.types) (h3 : Rd w cb 1 u c.types) (k1 : s.len ≤ s.cap) (k2 : t.len ≤ t.cap) (k3 : u.len ≤ u.cap) :
    callC Try.prog 4 #[pfv (pfOf a s), pfv (pfOf b t), pfv (pfOf c u)] (fun (r : Bool) => .bool r) w fun r w' => r = true ∧ Quiet w w' := by
  refine D4 _ _ _ _ _ _ _ _ _ _ _ _ _ _ _ _ _ _ _ _ _ _ _ _ _ _ _ _ _ _ _ _ _ _ _ _ _ _ _ _ _ _ _ _ _ _ _ _ _ _ _ _ _ _ _ _ _ _ _ _ _ _ _ _ _ _ w _ ?_
  unfold F4
  refine nwL fun b1 w1 hb1 q1 _ _ _ => nwL fun b2 w2 hb2 q2 _ _ _ => nwL fun b3 W hb3 q3 _ _ _ => ?_
  have hb1 : IsPf W b1 (pfOf a s) := Blk.keepQ hb1 (q2.tr q3)
  have hb2 : IsPf W b2 (pfOf b t) := Blk.keepQ hb2 q3
  have hb3 : IsPf W b3 (pfOf c u) := hb3
  have q0 := (q1.tr q2).tr q3
  replace h3 := h3.keepQ q0
  have hC : ∀ w', Quiet W w' → AtC w' (Addr.mk b3 0 none) (pf (pfOf c u)) := fun w' q => (hb3.keepQ q).at
  replace h1 := h1.keepQ q0
  replace h2 := h2.keepQ q0
  have hA : ∀ w', Quiet W w' → AtC w' (Addr.mk b1 0 none) (pf (pfOf a s)) := fun w' q => (hb1.keepQ q).at
  have hB : ∀ w', Quiet W w' → AtC w' (Addr.mk b2 0 none) (pf (pfOf b t)) := fun w' q => (hb2.keepQ q).at
  refine (small_c W).use ?_
  rintro _ w4 ⟨rfl, q⟩
  repeat (first | refine pf_ld (hA _ q) ?_ | refine pf_ld (hB _ q) ?_ | refine pf_ld (hC _ q) ?_)
  refine (few3_c _ a b c s t u (h1.keepQ q) (h2.keepQ q) (h3.keepQ q)).use ?_
  rintro r71 w5 ⟨hfew, q5⟩
  replace q := q.tr q5
  clear q5
  refine jn_orW (v := !decide (CheckA a = 0 ∧ CheckA b = 0 ∧ CheckA c = 0)) q (fun _ => ?_) fun w7 q => ?_
  · repeat (first | refine pf_ld (hA _ q) ?_ | refine pf_ld (hB _ q) ?_ | refine pf_ld (hC _ q) ?_)
    refine (fine3_c _ a b c s t u (h1.keepQ q) (h2.keepQ q) (h3.keepQ q) k1 k2 k3).use ?_
    rintro _ w6 ⟨rfl, q6⟩
    exact ⟨rfl, q.tr q6⟩
  refine ⟨fun _ => ⟨rfl, q0.tr q⟩, fun g => ?_⟩
  have hg : r71 = true ∧ (CheckA a = 0 ∧ CheckA b = 0 ∧ CheckA c = 0) := by
    rw [Bool.or_eq_false_iff, Bool.not_eq_false', Bool.not_eq_false', decide_eq_true_eq] at g
    exact g
  obtain ⟨la, lb, lc⟩ := hfew hg.1
  have fa := ((fine_iff a).1 hg.2.1).1
  have fb := ((fine_iff b).1 hg.2.2.1).1
  have fc := ((fine_iff c).1 hg.2.2.2).1
  have lm := meet_len a b
  have lj := join_len a b
  repeat (first | refine pf_ld (hA _ q) ?_ | refine pf_ld (hB _ q) ?_ | refine pf_ld (hC _ q) ?_)
  refine (meet_c _ a b s t (h1.keepQ q) (h2.keepQ q) (by omega) (by omega)).use ?_
  rintro _ w8 ⟨_, rfl, sl, Fl, rfl, ol, fl⟩
  refine pf_box (x := pfOf (meetA a b) sl) fun b8 w10 hb8 q10 _ _ => ?_
  replace q := (q.tr fl.q).tr q10
  repeat (first | refine pf_ld (hA _ q) ?_ | refine pf_ld (hB _ q) ?_ | refine pf_ld (hC _ q) ?_)
  refine (join_c _ a b s t (h1.keepQ q) (h2.keepQ q) (by omega) (by omega)).use ?_
  rintro _ w11 ⟨_, rfl, sh, Fh, rfl, oh, fh⟩
  refine pf_box (x := pfOf (joinA a b) sh) fun b9 W2 hb9 q13 _ _ => ?_
  have q11 := fh.q.tr q13
  have hl := ((ol.keepQ q10).rd cb1 (by decide)).keepQ q11
  have hh := (oh.rd cb1 (by decide)).keepQ q13
  have hkl := ol.cap
  have hkh := oh.cap
  replace hb8 := hb8.keepQ q11
  replace q := q.tr q11
  replace h1 := h1.keepQ q
  replace h2 := h2.keepQ q
  replace hA : ∀ w', Quiet W2 w' → AtC w' (Addr.mk b1 0 none) (pf (pfOf a s)) := fun w' q' => hA w' (q.tr q')
  replace hB : ∀ w', Quiet W2 w' → AtC w' (Addr.mk b2 0 none) (pf (pfOf b t)) := fun w' q' => hB w' (q.tr q')
  have hL : ∀ w', Quiet W2 w' → AtC w' (Addr.mk b8 0 none) (pf (pfOf (meetA a b) sl)) := fun w' q => (hb8.keepQ q).at
  have hH : ∀ w', Quiet W2 w' → AtC w' (Addr.mk b9 0 none) (pf (pfOf (joinA a b) sh)) := fun w' q => (hb9.keepQ q).at
  replace h3 := h3.keepQ q
  replace hC : ∀ w', Quiet W2 w' → AtC w' (Addr.mk b3 0 none) (pf (pfOf c u)) := fun w' q' => hC w' (q.tr q')
  have Q := q0.tr q
  replace q := Only.refl (fun _ => False) W2
  clear q13 q11 q10 fl fh ol oh hb1 hb2 hb3 hb8 hb9
  repeat (first | refine pf_ld (hA _ q) ?_ | refine pf_ld (hB _ q) ?_ | refine pf_ld (hC _ q) ?_ | refine pf_ld (hL _ q) ?_ | refine pf_ld (hH _ q) ?_)
  refine (atMost_c _ (meetA a b) a sl s (hl.keepQ q) (h1.keepQ q) (by omega) (by omega)).use ?_
  rintro _ w101 ⟨rfl, q101⟩
  replace q := q.tr q101
  refine jn_orW (v := !decide (LeA (meetA a b) b)) q (fun _ => ?_) fun w q => ?_
  · repeat (first | refine pf_ld (hA _ q) ?_ | refine pf_ld (hB _ q) ?_ | refine pf_ld (hC _ q) ?_ | refine pf_ld (hL _ q) ?_ | refine pf_ld (hH _ q) ?_)
    refine (atMost_c _ (meetA a b) b sl t (hl.keepQ q) (h2.keepQ q) (by omega) (by omega)).use ?_
    rintro _ w102 ⟨rfl, q102⟩
    replace q := q.tr q102
    exact ⟨rfl, q⟩
  refine jn_orW (v := !decide (LeA a (joinA a b))) q (fun _ => ?_) fun w q => ?_
  · repeat (first | refine pf_ld (hA _ q) ?_ | refine pf_ld (hB _ q) ?_ | refine pf_ld (hC _ q) ?_ | refine pf_ld (hL _ q) ?_ | refine pf_ld (hH _ q) ?_)
    refine (atMost_c _ a (joinA a b) s sh (h1.keepQ q) (hh.keepQ q) (by omega) (by omega)).use ?_
    rintro _ w103 ⟨rfl, q103⟩
    replace q := q.tr q103
    exact ⟨rfl, q⟩
  refine jn_orW (v := !decide (LeA b (joinA a b))) q (fun _ => ?_) fun w q => ?_
  · repeat (first | refine pf_ld (hA _ q) ?_ | refine pf_ld (hB _ q) ?_ | refine pf_ld (hC _ q) ?_ | refine pf_ld (hL _ q) ?_ | refine pf_ld (hH _ q) ?_)
    refine (atMost_c _ b (joinA a b) t sh (h2.keepQ q) (hh.keepQ q) (by omega) (by omega)).use ?_
    rintro _ w104 ⟨rfl, q104⟩
    replace q := q.tr q104
    exact ⟨rfl, q⟩
  refine ⟨fun g => absurd g ?_, fun _ => ?_⟩
  · simp only [decide_eq_true (meet_le fa fb).1, decide_eq_true (meet_le fa fb).2, decide_eq_true (le_join fa fb).1, decide_eq_true (le_join fa fb).2, Bool.not_true, Bool.or_false]
    exact Bool.false_ne_true
  repeat (first | refine pf_ld (hA _ q) ?_ | refine pf_ld (hB _ q) ?_ | refine pf_ld (hC _ q) ?_ | refine pf_ld (hL _ q) ?_ | refine pf_ld (hH _ q) ?_)
  refine (atMost_c _ c a u s (h3.keepQ q) (h1.keepQ q) (by omega) (by omega)).use ?_
  rintro _ w105 ⟨rfl, q105⟩
  replace q := q.tr q105
  refine jn_andW (v := decide (LeA c b)) q (fun _ => ?_) fun w q => ?_
  · repeat (first | refine pf_ld (hA _ q) ?_ | refine pf_ld (hB _ q) ?_ | refine pf_ld (hC _ q) ?_ | refine pf_ld (hL _ q) ?_ | refine pf_ld (hH _ q) ?_)
    refine (atMost_c _ c b u t (h3.keepQ q) (h2.keepQ q) (by omega) (by omega)).use ?_
    rintro _ w106 ⟨rfl, q106⟩
    replace q := q.tr q106
    exact ⟨rfl, q⟩
  repeat (first | refine pf_ld (hA _ q) ?_ | refine pf_ld (hB _ q) ?_ | refine pf_ld (hC _ q) ?_ | refine pf_ld (hL _ q) ?_ | refine pf_ld (hH _ q) ?_)
  refine (atMost_c _ a c s u (h1.keepQ q) (h3.keepQ q) (by omega) (by omega)).use ?_
  rintro _ w107 ⟨rfl, q107⟩
  replace q := q.tr q107
  refine jn_andW (v := decide (LeA b c)) q (fun _ => ?_) fun w q => ?_
  · repeat (first | refine pf_ld (hA _ q) ?_ | refine pf_ld (hB _ q) ?_ | refine pf_ld (hC _ q) ?_ | refine pf_ld (hL _ q) ?_ | refine pf_ld (hH _ q) ?_)
    refine (atMost_c _ b c t u (h2.keepQ q) (h3.keepQ q) (by omega) (by omega)).use ?_
    rintro _ w108 ⟨rfl, q108⟩
    replace q := q.tr q108
    exact ⟨rfl, q⟩
  refine jn_andW (v := decide (LeA c (meetA a b)) == (decide (LeA c a) && decide (LeA c b))) q (fun _ => ?_) fun w q => ?_
  · repeat (first | refine pf_ld (hA _ q) ?_ | refine pf_ld (hB _ q) ?_ | refine pf_ld (hC _ q) ?_ | refine pf_ld (hL _ q) ?_ | refine pf_ld (hH _ q) ?_)
    refine (atMost_c _ c (meetA a b) u sl (h3.keepQ q) (hl.keepQ q) (by omega) (by omega)).use ?_
    rintro _ w109 ⟨rfl, q109⟩
    replace q := q.tr q109
    exact ⟨rfl, q⟩
  refine jn_andW (v := decide (LeA (joinA a b) c) == (decide (LeA a c) && decide (LeA b c))) q (fun _ => ?_) fun w q => ?_
  · repeat (first | refine pf_ld (hA _ q) ?_ | refine pf_ld (hB _ q) ?_ | refine pf_ld (hC _ q) ?_ | refine pf_ld (hL _ q) ?_ | refine pf_ld (hH _ q) ?_)
    refine (atMost_c _ (joinA a b) c sh u (hh.keepQ q) (h3.keepQ q) (by omega) (by omega)).use ?_
    rintro _ w110 ⟨rfl, q110⟩
    replace q := q.tr q110
    exact ⟨rfl, q⟩
  refine ⟨?_, Q.tr q⟩
  have m1 : decide (LeA c (meetA a b)) = decide (LeA c a ∧ LeA c b) := decide_eq_decide.2 (le_meet fa fb fc)
  have m2 : decide (LeA (joinA a b) c) = decide (LeA a c ∧ LeA b c) := decide_eq_decide.2 (join_le (r := c) fa fb)
  rw [← Bool.decide_and, ← Bool.decide_and, m1, m2]
  simp
theorem bounds (W : World) (x : Pf) (l : List ByteArray) (hx : Rd W cb 1 x.types l) (kx : x.types.len ≤ x.types.cap) (y : Pf) (m : List ByteArray) (hy : Rd W cb 1 y.types m) (ky : y.types.len ≤ y.types.cap) (z : Pf) (n : List ByteArray) (hz : Rd W cb 1 z.types n) (kz : z.types.len ≤ z.types.cap) :
    callC Try.prog 4 #[pfv x, pfv y, pfv z] (fun (r : Bool) => .bool r) W fun r w' => r = true ∧ Below W.heap.size W w' :=
  (bounds_c W (apOf x l) (apOf y m) (apOf z n) x.types y.types z.types hx hy hz kx ky kz).use fun _ _ h => ⟨h.1, bq h.2⟩
end Go.Proofs.Ytadlnbdelkbboaa

