import Derived.Test.YtadlnbdelkbboaaPi
import Derived.Test.YtadlnbdelkbboaaPg
namespace Go.Proofs.Ytadlnbdelkbboaa
open Go.Dec Go.RowKit
set_option maxHeartbeats 800000
set_option maxRecDepth 10000

theorem tells_c (w : World) (a b : Ap) (s t : Sl) (h : Rd w cb 1 s a.types) (h' : Rd w cb 1 t b.types) (hs : s.len ≤ s.cap) :
    callC Try.prog 3 #[pfv (pfOf a s), pfv (pfOf b t)] (fun (r : Bool) => .bool r) w fun r w' => r = true ∧ Quiet w w' := by
  refine D3 _ _ _ _ _ _ _ _ _ _ _ _ _ _ _ _ _ _ _ _ _ _ _ _ _ _ _ _ _ _ _ _ _ _ _ _ _ _ _ _ _ _ _ _ w _ ?_
  unfold F3
  refine nwL fun b1 w1 hb1 q1 _ _ _ => nwL fun b2 w2 hb2 q2 _ _ _ => ?_
  have hb1 : IsPf w2 b1 (pfOf a s) := Blk.keepQ hb1 q2
  have hb2 : IsPf w2 b2 (pfOf b t) := hb2
  have q02 := q1.tr q2
  have h2 := h.keepQ q02
  have h2' := h'.keepQ q02
  have hA : ∀ w', Quiet w2 w' → AtC w' (Addr.mk b1 0 none) (pf (pfOf a s)) := fun w' q => (hb1.keepQ q).at
  have hB : ∀ w', Quiet w2 w' → AtC w' (Addr.mk b2 0 none) (pf (pfOf b t)) := fun w' q => (hb2.keepQ q).at
  refine (small_c w2).use ?_
  rintro r3 w3 ⟨rfl, q⟩
  repeat (first | refine pf_ld (hA _ q) ?_ | refine pf_ld (hB _ q) ?_)
  refine (few3_c w3 a b a s t s (h2.keepQ q) (h2'.keepQ q) (h2.keepQ q)).use ?_
  rintro r70 w4 ⟨hfew, q4⟩
  replace q := q.tr q4
  refine ⟨fun _ => ⟨rfl, q02.tr q⟩, fun g => ?_⟩
  obtain ⟨la, lb, _⟩ := hfew (by simpa using g)
  refine jn.mk (fun r w' => r = true ∧ Quiet w2 w') ?_ fun r w' ⟨e, q'⟩ => ⟨e, q02.tr q'⟩
  show tk w4 _
  unfold tk
  replace q := q.tr (Only.drew (fun _ => False) w4)
  refine ⟨fun _ => ?_, fun g => (by cases g)⟩
  repeat (first | refine pf_ld (hA _ q) ?_ | refine pf_ld (hB _ q) ?_)
  refine (check_c _ a s (h2.keepQ q) hs).use ?_
  rintro r119 w6 ⟨rfl, q6⟩
  replace q := q.tr q6
  repeat (refine ⟨by first | exact pf_cj (hA _ q) | exact pf_cj (hB _ q), ?_⟩)
  refine (rcheck_c _ a s (h2.keepQ q)).use ?_
  rintro r120 w7 ⟨rfl, q7⟩
  replace q := q.tr q7
  refine ⟨fun _ => ?_, fun g => absurd rfl (of_decide_eq_false g)⟩
  repeat (first | refine pf_ld (hA _ q) ?_ | refine pf_ld (hB _ q) ?_)
  refine (atMost_c _ a b s t (h2.keepQ q) (h2'.keepQ q) (by omega) (by omega)).use ?_
  rintro r210 w8 ⟨rfl, q8⟩
  replace q := q.tr q8
  repeat (refine ⟨by first | exact pf_cj (hA _ q) | exact pf_cj (hB _ q), ?_⟩)
  refine (ratMost_c _ a b s t (h2.keepQ q) (h2'.keepQ q) (by omega) (by omega)).use ?_
  rintro r211 w9 ⟨rfl, q9⟩
  replace q := q.tr q9
  refine ⟨fun _ => ?_, fun g => by simp at g⟩
  repeat (first | refine pf_ld (hA _ q) ?_ | refine pf_ld (hB _ q) ?_)
  refine (meet_c _ a b s t (h2.keepQ q) (h2'.keepQ q) (by omega) (by omega)).use ?_
  rintro r301 w10 ⟨_, rfl, s1, F1, rfl, o1, f1⟩
  replace q := q.tr f1.q
  repeat (refine ⟨by first | exact pf_cj (hA _ q) | exact pf_cj (hB _ q), ?_⟩)
  refine (rmeet_c _ a b s t (h2.keepQ q) (h2'.keepQ q) (by omega) (by omega)).use ?_
  rintro r302 w11 ⟨_, rfl, s2, F2, rfl, o2, f2⟩
  replace q := q.tr f2.q
  have hlen : (meetA a b).types.length ≤ 1000000 := by
    have h1 : (meetA a b).types = (meet1 (meet0 a b)).types := rfl
    rw [h1]
    unfold meet1
    split
    · simp
    · have h2 := List.length_filter_le (fun t => decide (t ∈ b.types)) a.types
      show (a.types.filter fun t => decide (t ∈ b.types)).length ≤ 1000000
      omega
  refine (same_c _ _ _ s1 s2 ((o1.keepQ f2.q).rd cb1 (by decide)) (o2.rd cb1 (by decide)) hlen).use ?_
  rintro r303 w12 ⟨rfl, q12⟩
  replace q := q.tr q12
  refine ⟨fun _ => ?_, fun g => absurd rfl (of_decide_eq_false g)⟩
  repeat (first | refine pf_ld (hA _ q) ?_ | refine pf_ld (hB _ q) ?_)
  refine (join_c _ a b s t (h2.keepQ q) (h2'.keepQ q) (by omega) (by omega)).use ?_
  rintro r393 w13 ⟨_, rfl, s3, F3, rfl, o3, f3⟩
  replace q := q.tr f3.q
  repeat (refine ⟨by first | exact pf_cj (hA _ q) | exact pf_cj (hB _ q), ?_⟩)
  refine (rjoin_c _ a b s t (h2.keepQ q) (h2'.keepQ q) (by omega) (by omega)).use ?_
  rintro r394 w14 ⟨_, rfl, s4, F4, rfl, o4, f4⟩
  replace q := q.tr f4.q
  have hlen2 : (joinA a b).types.length ≤ 1000000 := by
    have h2 := List.length_filter_le (fun t => !decide (t ∈ a.types)) b.types
    show (a.types ++ b.types.filter fun t => !decide (t ∈ a.types)).length ≤ 1000000
    rw [List.length_append]
    omega
  refine (same_c _ _ _ s3 s4 ((o3.keepQ f4.q).rd cb1 (by decide)) (o4.rd cb1 (by decide)) hlen2).use ?_
  rintro r395 w15 ⟨rfl, q15⟩
  exact ⟨decide_eq_true rfl, q.tr q15⟩
theorem tells (W : World) (x : Pf) (l : List ByteArray) (h : Rd W cb 1 x.types l) (hc : x.types.len ≤ x.types.cap) (y : Pf) (m : List ByteArray) (h' : Rd W cb 1 y.types m) (_ : y.types.len ≤ y.types.cap) :
    callC Try.prog 3 #[pfv x, pfv y] (fun (r : Bool) => .bool r) W fun r w' => r = true ∧ Below W.heap.size W w' :=
  (tells_c W (apOf x l) (apOf y m) x.types y.types h h' hc).use fun _ _ h => ⟨h.1, bq h.2⟩
end Go.Proofs.Ytadlnbdelkbboaa
