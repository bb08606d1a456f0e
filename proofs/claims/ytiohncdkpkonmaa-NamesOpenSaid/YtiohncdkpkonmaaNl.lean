import Derived.Test.YtiohncdkpkonmaaNt
namespace Go.Proofs.Ytiohncdkpkonmaa
open Go.Dec Go.RowKit
set_option maxHeartbeats 400000

theorem bq {W w : World} (q : Quiet W w) : Below W.heap.size W w := q.below (Nat.le_refl _) fun _ e => e.elim
theorem oq {W w : World} (q : Quiet W w) : Objs W w (two (fun _ => False) fun _ => False) := (Objs.none2 (Objs.start W)).quiet q

theorem openP_len {l L : List ByteArray} (h : (openP l).1 = some L) : L = l := by
  unfold openP at h
  split at h
  · cases h
  · split at h
    · injection h with h
      exact h.symm
    · cases h

theorem tells (W : World) (s : Sl) (l : List ByteArray) (hr : Rd W cs 1 s l) (hB : ∀ ad, s.a = some ad → 0 < l.length → ad.block < W.heap.size) (hl : l.length ≤ maxLen)
    (t : Sl) (m : List ByteArray) (hr' : Rd W cs 1 t m) (hB' : ∀ ad, t.a = some ad → 0 < m.length → ad.block < W.heap.size) (hl' : m.length ≤ maxLen)
    (n : Int) (_ : -9223372036854775808 ≤ n) (_ : n ≤ 9223372036854775807) (name : Int) (_ : -9223372036854775808 ≤ name) (_ : name ≤ 9223372036854775807) :
    callC Try.prog 3 #[s.v, t.v, .int .i64 n, .int .i64 name] (fun (r : Bool) => .bool r) W fun r w' => r = true ∧ Below W.heap.size W w' := by
  have ha : Arg W cs 1 s l := ⟨hr, hB⟩
  have hb : Arg W cs 1 t m := ⟨hr', hB'⟩
  have htl := hb.len
  unfold maxLen at hl hl'
  refine D3 _ _ _ _ W _ ?_
  unfold F3
  refine (small_c W).use ?_
  rintro r w1 ⟨rfl, q1⟩
  refine (few_c W w1 s l 24 ha (bq q1) (by decide) (by decide) (by omega)).use ?_
  rintro r w2 ⟨hfew, rfl⟩
  refine jn.mk (fun c w' => (c = false → ((l.length : Int) ≤ 24 ∧ ∀ p ∈ l, p.size ≤ 200) ∧ (m.length : Int) ≤ 24) ∧ w1 = w') ⟨fun _ => ⟨fun e => (by cases e), rfl⟩, fun hc => (few_c W w1 t m 24 hb (bq q1) (by decide) (by decide) (by omega)).use ?_⟩ ?_
  · rintro a w3 ⟨ha, rfl⟩
    exact ⟨fun e => ⟨hfew (by simpa using hc), (ha (by simpa using e)).1⟩, rfl⟩
  rintro c w4 ⟨hc4, rfl⟩
  refine ⟨fun _ => ⟨rfl, bq q1⟩, fun hc => ?_⟩
  obtain ⟨⟨h24, h200⟩, hm24⟩ := hc4 hc
  refine (long_c w1 n).use ?_
  rintro r8 w5 ⟨rfl, q5⟩
  refine nwL fun b9 w6 hb9 q6 _ _ _ => ?_
  refine (open_c w6 _ _ (rd1 hb9) (by simp)).use ?_
  rintro r10 w7 ⟨h10, q7, _⟩
  refine (long_c w7 n).use ?_
  rintro r11 w8 ⟨rfl, q8⟩
  refine nwL fun b12 w9 hb12 q9 _ _ _ => ?_
  refine (ropen_c w9 _ _ (rd1 hb12) (by simp)).use ?_
  rintro r13 w10 ⟨h13, q10, _⟩
  have qa := (((((q1.tr q5).tr q6).tr q7).tr q8).tr q9).tr q10
  refine (open_c w10 _ _ (ha.at (bq qa)) (by omega)).use ?_
  rintro r14 w11 ⟨h14, q11, m14⟩
  refine (ropen_c w11 _ _ (ha.at (bq (qa.tr q11))) (by omega)).use ?_
  rintro r15 w12 ⟨h15, q12, m15⟩
  have qb := (qa.tr q11).tr q12
  have hnn : r14.1.isNone = r15.1.isNone ∧ ((r14.1.isNone = true ∧ r15.1.isNone = true) ∨ ∃ nb rb F G, r14.1 = some ⟨nb, 0, none⟩ ∧ r15.1 = some ⟨rb, 0, none⟩ ∧ IsN w12 F nb l ∧ IsR w12 G rb l ∧ Objs W w12 (two F G)) := by
    cases ho : (openP l).1 with
    | none =>
      rw [ho] at m14 m15
      dsimp only at m14 m15
      rw [m14, m15]
      exact ⟨rfl, .inl ⟨rfl, rfl⟩⟩
    | some L =>
      rw [ho] at m14 m15
      dsimp only at m14 m15
      obtain ⟨nb, F, e1, hN, hF⟩ := m14
      obtain ⟨rb, G, e2, hR, hG⟩ := m15
      obtain rfl := openP_len ho
      rw [e1, e2]
      exact ⟨rfl, .inr ⟨nb, rb, F, G, rfl, rfl, hN.keepQ hG.q, hR, ((oq qa).n0 hF).n1 hG⟩⟩
  obtain ⟨hn1, hn2⟩ := hnn
  refine ⟨fun hc => absurd hc (by simp [h10, h13, h14, h15, hn1]), fun _ => ?_⟩
  refine jn.mk (fun (c : Option Addr × Option Addr) w' => ∃ nb rb L F G, c = (some ⟨nb, 0, none⟩, some ⟨rb, 0, none⟩) ∧ IsN w' F nb L ∧ IsR w' G rb L ∧ L.length ≤ 24 ∧ Objs W w' (two F G)) ⟨fun hc => ?_, fun hc => ?_⟩ ?_
  · refine (new_c w12).use ?_
    rintro r26 w14 ⟨nb, F, rfl, hN, hF⟩
    refine (rnew_c w14).use ?_
    rintro r27 w15 ⟨rb, G, rfl, hR, hG⟩
    exact ⟨nb, rb, [], F, G, rfl, hN.keepQ hG.q, hR, by simp, ((oq qb).n0 hF).n1 hG⟩
  · rcases hn2 with ⟨e1, e2⟩ | ⟨nb, rb, F, G, e1, e2, hN, hR, hO⟩
    · rw [e1] at hc
      simp at hc
    · exact ⟨nb, rb, l, F, G, by rw [e1, e2], hN, hR, by omega, hO⟩
  rintro c w13 ⟨nb, rb, L, F, G, rfl, hN, hR, hL, hO⟩
  dsimp only
  refine ⟨fun hc => absurd hc (by simp), fun _ => ?_⟩
  refine (long_c w13 n).use ?_
  rintro r29 w16 ⟨rfl, q16⟩
  refine (of_c w16 F nb L _ (hN.keepQ q16) (by omega)).use ?_
  rintro r30 w17 ⟨rfl, F1, hN1, s1⟩
  have hO1 := (hO.quiet q16).s0 s1
  have hR1 := (hR.keepQ q16).keep s1.only (hO.quiet q16).d10
  refine (long_c w17 n).use ?_
  rintro r31 w18 ⟨rfl, q18⟩
  refine (rof_c w18 G rb L _ (hR1.keepQ q18) (by omega)).use ?_
  rintro r32 w19 ⟨rfl, G1, hR2, s2⟩
  have hO2 := (hO1.quiet q18).s1 s2
  have hN2 := (hN1.keepQ q18).keep s2.only (hO1.quiet q18).d01
  have hol := ofP_len L (longP n)
  refine ⟨fun hc => absurd hc (by simp), fun _ => ?_⟩
  generalize (ofP L (longP n)).1 = L1 at *
  refine ⟨fun i w' => 0 ≤ i ∧ i ≤ m.length ∧ ∃ F G L, IsN w' F nb L ∧ IsR w' G rb L ∧ (L.length : Int) ≤ 25 + i ∧ Objs W w' (two F G), fun i _ => (m.length - i).toNat, ⟨by omega, by omega, F1, G1, L1, hN2, hR2, by omega, hO2⟩, ?_⟩
  clear hN hR hO hN1 hR1 hO1 hN2 hR2 hO2 s1 s2 hL hol
  rintro i w20 ⟨i0, i1, F, G, L, hN, hR, hL, hO⟩
  refine ⟨fun hi => ?_, fun hi => ?_⟩
  · have hlt : i < m.length := by simpa [htl] using hi
    obtain ⟨x, hx⟩ := getq i0 hlt
    refine (text_c w20 F nb L name hN).use ?_
    rintro r36 w21 ⟨rfl, rfl⟩
    refine (rtext_c w20 G rb L name hR).use ?_
    rintro r37 w21 ⟨rfl, rfl⟩
    refine jn.mk (fun c w' => c = false ∧ ∃ F G L, IsN w' F nb L ∧ IsR w' G rb L ∧ (L.length : Int) ≤ 25 + (i + 1) ∧ Objs W w' (two F G)) ?_ ?_
    · show tk w20 _
      unfold tk
      have qd : Quiet w20 w20.drew := Only.drew _ _
      have hOd := hO.quiet qd
      refine hb.ixx i0 hx fun p hat => (hat _ hOd.bl).ld0 rfl (hb.ixx i0 hx fun p' hat' => (hat' _ hOd.bl).ld0 rfl ?_)
      refine (of_c _ F nb L x (hN.keepQ qd) (by omega)).use ?_
      rintro r44 w24 ⟨rfl, F1, hN1, s1⟩
      have hO1 := hOd.s0 s1
      have hR1 := (hR.keepQ qd).keep s1.only hOd.d10
      refine ⟨(hat' _ hO1.bl).cell0, ?_⟩
      refine (rof_c _ G rb L x hR1 (by omega)).use ?_
      rintro r45 w25 ⟨rfl, G1, hR2, s2⟩
      have hO2 := hO1.s1 s2
      have hN2 := hN1.keep s2.only hO1.d01
      have hol := ofP_len L x
      refine ⟨fun hc => absurd hc (by simp), fun _ => ?_⟩
      refine (len_c w25 F1 nb _ hN2).use ?_
      rintro r50 w26 ⟨rfl, rfl⟩
      refine (rlen_c w25 G1 rb _ hR2).use ?_
      rintro r51 w27 ⟨rfl, rfl⟩
      refine ⟨fun hc => absurd hc (by simp), fun _ => ⟨fun hc => absurd hc (by simp [beqS_eq]), fun _ => ⟨by simp, F1, G1, _, hN2, hR2, by omega, hO2⟩⟩⟩
    · rintro c w28 ⟨rfl, F', G', L', h1, h2, h3, h4⟩
      refine ⟨fun hc => (by cases hc), fun _ => ?_⟩
      rw [w64 (by omega) (by omega)]
      exact ⟨⟨by omega, by omega, F', G', L', h1, h2, h3, h4⟩, by (try dsimp only); omega⟩
  · refine (text_c w20 F nb L name hN).use ?_
    rintro r57 w21 ⟨rfl, rfl⟩
    refine (rtext_c w20 G rb L name hR).use ?_
    rintro r58 w21 ⟨rfl, rfl⟩
    refine jn.mk (fun c w' => c = true ∧ Quiet w20 w') ⟨fun _ => (all_c w20 F nb L hN (by omega)).use ?_, fun hc => absurd hc (by simp [beqS_eq])⟩ ?_
    · rintro r65 w31 ⟨FA, oA, fA⟩
      refine (rall_c w31 G rb L (hR.keepQ fA.q) (by omega)).use ?_
      rintro r66 w32 ⟨FB, oB, fB⟩
      refine (strings_c w32 _ _ L L ((oA.keepQ fB.q).rd cs1 (by decide)) (oB.rd cs1 (by decide)) (by omega)).use ?_
      rintro r67 w33 ⟨rfl, q⟩
      exact ⟨by simp, (fA.q.tr fB.q).tr q⟩
    rintro c w34 ⟨rfl, q⟩
    exact ⟨rfl, (hO.quiet q).bl⟩
end Go.Proofs.Ytiohncdkpkonmaa
