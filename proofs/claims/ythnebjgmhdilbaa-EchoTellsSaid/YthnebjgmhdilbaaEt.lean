import Derived.Test.YthnebjgmhdilbaaEq
namespace Go.Proofs.Ythnebjgmhdilbaa
open Go.Dec Go.RowKit
set_option maxHeartbeats 400000

theorem tells_c (w : World) (s t : Sl) (l cs : List Cp) (near : Int) (h : Rd w cp 5 s l) (h' : Rd w cp 5 t cs) (hl : l.length ≤ maxLen) (hl' : cs.length ≤ maxLen) (hs : ∀ x ∈ l, i64 x.step) (hs' : ∀ x ∈ cs, i64 x.step) (hn : near ≤ 9223372036854775807) :
    callC Try.prog 3 #[s.v, t.v, .int .i64 near] (fun (r : Bool) => .bool r) w fun r w' => r = true ∧ Quiet w w' := by
  have hsl := h.len
  have htl := h'.len
  refine D3 _ _ _ w _ ?_
  unfold F3
  refine (small_c w).use ?_
  rintro r1 w1 ⟨rfl, q1⟩
  refine ⟨fun _ => ⟨rfl, q1⟩, fun hc => ?_⟩
  have hb : l.length ≤ 40 ∧ cs.length ≤ 40 := by rw [hsl, htl] at hc; simp at hc; omega
  refine (pairs_c w1 s t l cs near (h.keepQ q1) (h'.keepQ q1) (by omega) (by omega) hs hs' hn).use ?_
  rintro r5 w2 ⟨F, o5, f5⟩
  have q2 := q1.tr f5.q
  refine (rpairs_c w2 s t l cs near (h.keepQ q2) (h'.keepQ q2) (by omega) (by omega) hs hs' hn).use ?_
  rintro r6 w3 ⟨F', o6, f6⟩
  have q3 := q2.tr f6.q
  refine (ints_c w3 _ _ _ _ ((o5.keepQ f6.q).rd ci1 (by decide)) (o6.rd ci1 (by decide)) (by rw [pairsP_len]; omega)).use ?_
  rintro r7 w4 ⟨rfl, q4⟩
  have q4' := q3.tr q4
  refine ⟨fun hc => by simp at hc, fun _ => ?_⟩
  refine ⟨fun i w' => 0 ≤ i ∧ i ≤ cs.length ∧ Quiet w w', fun i _ => (cs.length - i).toNat, ⟨by omega, by omega, q4'⟩, ?_⟩
  rintro i w5 ⟨i0, i1, q5⟩
  refine ⟨fun hi => ?_, fun _ => ⟨rfl, q5⟩⟩
  have hlt : i < cs.length := by rw [htl] at hi; simp at hi; omega
  obtain ⟨c, hc⟩ := getq i0 hlt
  have hcs := hs' c (List.mem_of_getElem? hc)
  refine (h'.keepQ q5).ixx i0 hc fun p hat _ => ld5 hat ((match_c w5 s l c near (h.keepQ q5) (by omega) hs hcs hn).use ?_)
  rintro r19 w6 ⟨rfl, q6⟩
  have q6' := q5.tr q6
  refine (h'.keepQ q6').ixx i0 hc fun p hat _ => ld5 hat ((rmatch_c w6 s l c near (h.keepQ q6') (by omega) hs hcs hn).use ?_)
  rintro r26 w7 ⟨rfl, q7⟩
  have q7' := q6'.tr q7
  refine ⟨fun hc => by simp at hc, fun _ => ?_⟩
  refine ⟨fun k w' => 0 ≤ k ∧ k ≤ l.length ∧ Quiet w w', fun k _ => (l.length - k).toNat, ⟨by omega, by omega, q7'⟩, ?_⟩
  rintro k w8 ⟨k0, k1, q8⟩
  refine ⟨fun hk => ?_, fun _ => ?_⟩
  · have hkl : k < l.length := by rw [hsl] at hk; simp at hk; omega
    obtain ⟨x, hx⟩ := getq k0 hkl
    refine jn.mk (fun c w' => c = false ∧ Quiet w w') ?_ ?_
    · show tk w8 _
      unfold tk
      have qd : Quiet w w8.drew := q8.tr (Only.drew _ _)
      refine (h.keepQ qd).ixx k0 hx fun p1 hat1 _ => ld5 hat1 ((h'.keepQ qd).ixx i0 hc fun p2 hat2 _ => ld5 hat2 ((h.keepQ qd).ixx k0 hx fun p3 hat3 _ => ld5 hat3 ((h'.keepQ qd).ixx i0 hc fun p4 hat4 _ => ld5 hat4 ((score_c _ x c).use ?_))))
      rintro r60 w10 ⟨rfl, q10⟩
      have k3 := AtC.keep hat3 q10 id
      have k4 := AtC.keep hat4 q10 id
      refine ⟨⟨k4.cj rfl, k4.cj rfl, k4.cj rfl, k4.cj rfl, k4.cj rfl⟩, ⟨k3.cj rfl, k3.cj rfl, k3.cj rfl, k3.cj rfl, k3.cj rfl⟩, (rscore_c _ x c).use ?_⟩
      rintro r61 w11 ⟨rfl, q11⟩
      exact ⟨by simp, qd.tr (q10.tr q11)⟩
    · rintro _ w12 ⟨rfl, q12⟩
      refine ⟨fun h => by simp at h, fun _ => ?_⟩
      rw [w64 (by omega) (by omega)]
      exact ⟨⟨by omega, by omega, q12⟩, by (try dsimp only); omega⟩
  · rw [w64 (by omega) (by omega)]
    exact ⟨⟨by omega, by omega, q8⟩, by (try dsimp only); omega⟩
theorem tells (W : World) (s : Sl) (l : List Cp) (hr : Rd W cp 5 s l) (_ : ∀ ad, s.a = some ad → 0 < l.length → ad.block < W.heap.size) (hl : l.length ≤ maxLen) (hq : ∀ x ∈ l, okC x)
    (t : Sl) (m : List Cp) (hr' : Rd W cp 5 t m) (_ : ∀ ad, t.a = some ad → 0 < m.length → ad.block < W.heap.size) (hl' : m.length ≤ maxLen) (hq' : ∀ x ∈ m, okC x) (near : Int) (_ : -9223372036854775808 ≤ near) (hn : near ≤ 9223372036854775807) :
    callC Try.prog 3 #[s.v, t.v, .int .i64 near] (fun (r : Bool) => .bool r) W fun r w' => r = true ∧ Below W.heap.size W w' :=
  (tells_c W s t l m near hr hr' hl hl' (fun x hx => (hq x hx).2.2.1) (fun x hx => (hq' x hx).2.2.1) hn).use fun _ _ h => ⟨h.1, bq h.2⟩
end Go.Proofs.Ythnebjgmhdilbaa
