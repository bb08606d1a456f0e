import Derived.Test.YtadlnbdelkbboaaPi
import Derived.Test.YtadlnbdelkbboaaPl
namespace Go.Proofs.Ytadlnbdelkbboaa
open Go.Dec Go.RowKit
set_option maxHeartbeats 1600000
set_option maxRecDepth 10000

theorem absorbs_c (w : World) (a b : Ap) (s t : Sl) (h1 : Rd w cb 1 s a.types) (h2 : Rd w cb 1 t b.types) (k1 : s.len ≤ s.cap) (k2 : t.len ≤ t.cap) :
    callC Try.prog 7 #[pfv (pfOf a s), pfv (pfOf b t)] (fun (r : Bool) => .bool r) w fun r w' => r = true ∧ Quiet w w' := by
  refine D7 _ _ _ _ _ _ _ _ _ _ _ _ _ _ _ _ _ _ _ _ _ _ _ _ _ _ _ _ _ _ _ _ _ _ _ _ _ _ _ _ _ _ _ _ w _ ?_
  unfold F7
  refine nwL fun b1 w1 hb1 q1 _ _ _ => nwL fun b2 W hb2 q2 _ _ _ => ?_
  have hb1 : IsPf W b1 (pfOf a s) := Blk.keepQ hb1 q2
  have hb2 : IsPf W b2 (pfOf b t) := hb2
  have q0 := q1.tr q2
  replace h1 := h1.keepQ q0
  replace h2 := h2.keepQ q0
  have hA : ∀ w', Quiet W w' → AtC w' (Addr.mk b1 0 none) (pf (pfOf a s)) := fun w' q => (hb1.keepQ q).at
  have hB : ∀ w', Quiet W w' → AtC w' (Addr.mk b2 0 none) (pf (pfOf b t)) := fun w' q => (hb2.keepQ q).at
  refine (small_c W).use ?_
  rintro _ w4 ⟨rfl, q⟩
  repeat (first | refine pf_ld (hA _ q) ?_ | refine pf_ld (hB _ q) ?_)
  refine (few3_c _ a b a s t s (h1.keepQ q) (h2.keepQ q) (h1.keepQ q)).use ?_
  rintro r71 w5 ⟨hfew, q5⟩
  replace q := q.tr q5
  clear q5
  refine jn_orW (v := !decide (CheckA a = 0 ∧ CheckA b = 0 ∧ CheckA a = 0)) q (fun _ => ?_) fun w7 q => ?_
  · repeat (first | refine pf_ld (hA _ q) ?_ | refine pf_ld (hB _ q) ?_)
    refine (fine3_c _ a b a s t s (h1.keepQ q) (h2.keepQ q) (h1.keepQ q) k1 k2 k1).use ?_
    rintro _ w6 ⟨rfl, q6⟩
    exact ⟨rfl, q.tr q6⟩
  refine ⟨fun _ => ⟨rfl, q0.tr q⟩, fun g => ?_⟩
  have hg : r71 = true ∧ (CheckA a = 0 ∧ CheckA b = 0 ∧ CheckA a = 0) := by
    rw [Bool.or_eq_false_iff, Bool.not_eq_false', Bool.not_eq_false', decide_eq_true_eq] at g
    exact g
  obtain ⟨la, lb, lc⟩ := hfew hg.1
  have fa := ((fine_iff a).1 hg.2.1).1
  have fb := ((fine_iff b).1 hg.2.2.1).1
  have lm := meet_len a b
  have lj := join_len a b
  repeat (first | refine pf_ld (hA _ q) ?_ | refine pf_ld (hB _ q) ?_)
  refine (meet_c _ a b s t (h1.keepQ q) (h2.keepQ q) (by omega) (by omega)).use ?_
  rintro _ w8 ⟨_, rfl, sl, Fl, rfl, ol, fl⟩
  refine pf_box (x := pfOf (meetA a b) sl) fun b8 w10 hb8 q10 _ _ => ?_
  replace q := (q.tr fl.q).tr q10
  repeat (first | refine pf_ld (hA _ q) ?_ | refine pf_ld (hB _ q) ?_)
  refine (join_c _ a b s t (h1.keepQ q) (h2.keepQ q) (by omega) (by omega)).use ?_
  rintro _ w11 ⟨_, rfl, sh, Fh, rfl, oh, fh⟩
  refine pf_box (x := pfOf (joinA a b) sh) fun b9 W2 hb9 q13 _ _ => ?_
  have q11 := fh.q.tr q13
  have hl := ((ol.keepQ q10).rd cb1 (by decide)).keepQ q11
  have hh := (oh.rd cb1 (by decide)).keepQ q13
  have hkl := ol.cap
  have hkh := oh.cap
  replace hb8 := hb8.keepQ q11
  replace q := q.tr q11
  replace h1 := h1.keepQ q
  replace h2 := h2.keepQ q
  replace hA : ∀ w', Quiet W2 w' → AtC w' (Addr.mk b1 0 none) (pf (pfOf a s)) := fun w' q' => hA w' (q.tr q')
  replace hB : ∀ w', Quiet W2 w' → AtC w' (Addr.mk b2 0 none) (pf (pfOf b t)) := fun w' q' => hB w' (q.tr q')
  have hL : ∀ w', Quiet W2 w' → AtC w' (Addr.mk b8 0 none) (pf (pfOf (meetA a b) sl)) := fun w' q => (hb8.keepQ q).at
  have hH : ∀ w', Quiet W2 w' → AtC w' (Addr.mk b9 0 none) (pf (pfOf (joinA a b) sh)) := fun w' q => (hb9.keepQ q).at
  have Q := q0.tr q
  replace q := Only.refl (fun _ => False) W2
  clear q13 q11 q10 fl fh ol oh hb1 hb2 hb8 hb9
  have fl := fine_meet fa fb
  have fh := fine_join fa fb
  have le1 := meet_len a a
  have le2 := join_len a a
  have le3 := meet_len b a
  have le4 := join_len b a
  have le5 := meet_len a (joinA a b)
  have le6 := join_len a (meetA a b)
  refine jn_any' (W := W2) false ?_ fun w q => ⟨fun g => (by cases g), fun _ => ?_⟩
  · show tk _ _
    unfold tk
    replace q := q.tr (Only.drew (fun _ => False) _)
    repeat (first | refine pf_ld (hA _ q) ?_ | refine pf_ld (hB _ q) ?_ | refine pf_ld (hL _ q) ?_ | refine pf_ld (hH _ q) ?_)
    refine (meet_c _ a a s s (h1.keepQ q) (h1.keepQ q) (by omega) (by omega)).use ?_
    rintro _ v1 ⟨_, rfl, m1, G1, rfl, o1, f1⟩
    replace q := q.tr f1.q
    have r1 := o1.rd cb1 (by decide)
    repeat (refine ⟨by first | exact pf_cj (hA _ q) | exact pf_cj (hB _ q) | exact pf_cj (hL _ q) | exact pf_cj (hH _ q), ?_⟩)
    refine (same_c _ (meetA a a) a m1 s r1 (h1.keepQ q) (by omega)).use ?_
    rintro _ u1 ⟨rfl, p1⟩
    replace q := q.tr p1
    rw [decide_eq_true (meet_idem fa)]
    refine ⟨fun g => (by cases g), fun _ => ?_⟩
    repeat (first | refine pf_ld (hA _ q) ?_ | refine pf_ld (hB _ q) ?_ | refine pf_ld (hL _ q) ?_ | refine pf_ld (hH _ q) ?_)
    refine (join_c _ a a s s (h1.keepQ q) (h1.keepQ q) (by omega) (by omega)).use ?_
    rintro _ v2 ⟨_, rfl, m2, G2, rfl, o2, f2⟩
    replace q := q.tr f2.q
    have r2 := o2.rd cb1 (by decide)
    repeat (refine ⟨by first | exact pf_cj (hA _ q) | exact pf_cj (hB _ q) | exact pf_cj (hL _ q) | exact pf_cj (hH _ q), ?_⟩)
    refine (same_c _ (joinA a a) a m2 s r2 (h1.keepQ q) (by omega)).use ?_
    rintro _ u2 ⟨rfl, p2⟩
    replace q := q.tr p2
    rw [decide_eq_true (join_idem fa)]
    refine ⟨fun g => (by cases g), fun _ => ?_⟩
    repeat (first | refine pf_ld (hA _ q) ?_ | refine pf_ld (hB _ q) ?_ | refine pf_ld (hL _ q) ?_ | refine pf_ld (hH _ q) ?_)
    refine (meet_c _ b a t s (h2.keepQ q) (h1.keepQ q) (by omega) (by omega)).use ?_
    rintro _ v3 ⟨_, rfl, m3, G3, rfl, o3, f3⟩
    replace q := q.tr f3.q
    have r3 := o3.rd cb1 (by decide)
    repeat (refine ⟨by first | exact pf_cj (hA _ q) | exact pf_cj (hB _ q) | exact pf_cj (hL _ q) | exact pf_cj (hH _ q), ?_⟩)
    refine (alike_c _ (meetA a b) (meetA b a) sl m3 (hl.keepQ q) r3 (by omega) (by omega)).use ?_
    rintro _ u3 ⟨rfl, p3⟩
    replace q := q.tr p3
    rw [decide_eq_true (meet_comm fa fb)]
    refine ⟨fun g => (by cases g), fun _ => ?_⟩
    repeat (first | refine pf_ld (hA _ q) ?_ | refine pf_ld (hB _ q) ?_ | refine pf_ld (hL _ q) ?_ | refine pf_ld (hH _ q) ?_)
    refine (join_c _ b a t s (h2.keepQ q) (h1.keepQ q) (by omega) (by omega)).use ?_
    rintro _ v4 ⟨_, rfl, m4, G4, rfl, o4, f4⟩
    replace q := q.tr f4.q
    have r4 := o4.rd cb1 (by decide)
    repeat (refine ⟨by first | exact pf_cj (hA _ q) | exact pf_cj (hB _ q) | exact pf_cj (hL _ q) | exact pf_cj (hH _ q), ?_⟩)
    refine (alike_c _ (joinA a b) (joinA b a) sh m4 (hh.keepQ q) r4 (by omega) (by omega)).use ?_
    rintro _ u4 ⟨rfl, p4⟩
    replace q := q.tr p4
    rw [decide_eq_true (join_comm fa fb)]
    exact ⟨rfl, q⟩
  refine jn_any' (W := W2) false ?_ fun w q => ⟨fun g => (by cases g), fun _ => ?_⟩
  · show tk _ _
    unfold tk
    replace q := q.tr (Only.drew (fun _ => False) _)
    repeat (first | refine pf_ld (hA _ q) ?_ | refine pf_ld (hB _ q) ?_ | refine pf_ld (hL _ q) ?_ | refine pf_ld (hH _ q) ?_)
    refine (meet_c _ a (joinA a b) s sh (h1.keepQ q) (hh.keepQ q) (by omega) (by omega)).use ?_
    rintro _ v5 ⟨_, rfl, m5, G5, rfl, o5, f5⟩
    replace q := q.tr f5.q
    have r5 := o5.rd cb1 (by decide)
    repeat (refine ⟨by first | exact pf_cj (hA _ q) | exact pf_cj (hB _ q) | exact pf_cj (hL _ q) | exact pf_cj (hH _ q), ?_⟩)
    refine (same_c _ (meetA a (joinA a b)) a m5 s r5 (h1.keepQ q) (by omega)).use ?_
    rintro _ u5 ⟨rfl, p5⟩
    replace q := q.tr p5
    rw [decide_eq_true (meet_join fa fb)]
    refine ⟨fun g => (by cases g), fun _ => ?_⟩
    repeat (first | refine pf_ld (hA _ q) ?_ | refine pf_ld (hB _ q) ?_ | refine pf_ld (hL _ q) ?_ | refine pf_ld (hH _ q) ?_)
    refine (join_c _ a (meetA a b) s sl (h1.keepQ q) (hl.keepQ q) (by omega) (by omega)).use ?_
    rintro _ v6 ⟨_, rfl, m6, G6, rfl, o6, f6⟩
    replace q := q.tr f6.q
    have r6 := o6.rd cb1 (by decide)
    repeat (refine ⟨by first | exact pf_cj (hA _ q) | exact pf_cj (hB _ q) | exact pf_cj (hL _ q) | exact pf_cj (hH _ q), ?_⟩)
    refine (same_c _ (joinA a (meetA a b)) a m6 s r6 (h1.keepQ q) (by omega)).use ?_
    rintro _ u6 ⟨rfl, p6⟩
    replace q := q.tr p6
    rw [decide_eq_true (join_meet fa fb)]
    exact ⟨rfl, q⟩
  repeat (first | refine pf_ld (hA _ q) ?_ | refine pf_ld (hB _ q) ?_ | refine pf_ld (hL _ q) ?_ | refine pf_ld (hH _ q) ?_)
  refine (atMost_c _ a b s t (h1.keepQ q) (h2.keepQ q) (by omega) (by omega)).use ?_
  rintro _ w101 ⟨rfl, q101⟩
  replace q := q.tr q101
  refine jn_andW (v := decide (LeA a b) == decide (AlikeA (meetA a b) a)) q (fun _ => ?_) fun w q => ?_
  · repeat (first | refine pf_ld (hA _ q) ?_ | refine pf_ld (hB _ q) ?_ | refine pf_ld (hL _ q) ?_ | refine pf_ld (hH _ q) ?_)
    refine (alike_c _ (meetA a b) a sl s (hl.keepQ q) (h1.keepQ q) (by omega) (by omega)).use ?_
    rintro _ w102 ⟨rfl, q102⟩
    replace q := q.tr q102
    exact ⟨rfl, q⟩
  refine jn_andW (v := decide (LeA a b) == decide (AlikeA (joinA a b) b)) q (fun _ => ?_) fun w q => ?_
  · repeat (first | refine pf_ld (hA _ q) ?_ | refine pf_ld (hB _ q) ?_ | refine pf_ld (hL _ q) ?_ | refine pf_ld (hH _ q) ?_)
    refine (alike_c _ (joinA a b) b sh t (hh.keepQ q) (h2.keepQ q) (by omega) (by omega)).use ?_
    rintro _ w103 ⟨rfl, q103⟩
    replace q := q.tr q103
    exact ⟨rfl, q⟩
  refine ⟨?_, Q.tr q⟩
  have m1 : decide (AlikeA (meetA a b) a) = decide (LeA a b) := (decide_eq_decide.2 (le_iff_meet fa fb)).symm
  have m2 : decide (AlikeA (joinA a b) b) = decide (LeA a b) := (decide_eq_decide.2 (le_iff_join fa fb)).symm
  rw [m1, m2]
  simp
theorem absorbs (W : World) (x : Pf) (l : List ByteArray) (hx : Rd W cb 1 x.types l) (kx : x.types.len ≤ x.types.cap) (y : Pf) (m : List ByteArray) (hy : Rd W cb 1 y.types m) (ky : y.types.len ≤ y.types.cap) :
    callC Try.prog 7 #[pfv x, pfv y] (fun (r : Bool) => .bool r) W fun r w' => r = true ∧ Below W.heap.size W w' :=
  (absorbs_c W (apOf x l) (apOf y m) x.types y.types hx hy kx ky).use fun _ _ h => ⟨h.1, bq h.2⟩
end Go.Proofs.Ytadlnbdelkbboaa

