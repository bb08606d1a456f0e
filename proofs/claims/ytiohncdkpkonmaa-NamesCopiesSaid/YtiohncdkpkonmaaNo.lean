import Derived.Test.YtiohncdkpkonmaaNi
namespace Go.Proofs.Ytiohncdkpkonmaa
open Go.Dec Go.RowKit
set_option maxHeartbeats 400000

structure Good (L : List ByteArray) : Prop where
  nd : L.Nodup
  sz : ∀ x ∈ L, x.size ≤ 200
theorem ofP_good {L : List ByteArray} {x : ByteArray} (h : Good L) (hx : x.size ≤ 200) : Good (ofP L x).1 ∧ x ∈ (ofP L x).1 ∧ ∀ y ∈ L, y ∈ (ofP L x).1 := by
  cases hp : pos L x with
  | some j =>
    rw [ofP_old (by omega) hp]
    exact ⟨h, List.mem_of_getElem? (pos_some hp), fun y hy => hy⟩
  | none =>
    rw [ofP_new (by omega) hp]
    have hn := pos_none.1 hp
    refine ⟨⟨?_, fun y hy => ?_⟩, by simp, fun y hy => List.mem_append.2 (.inl hy)⟩
    · rw [List.nodup_append]
      refine ⟨h.nd, by simp, fun a ha b hb e => ?_⟩
      simp at hb
      subst hb
      subst e
      exact hn ha
    · rcases List.mem_append.1 hy with e | e
      · exact h.sz y e
      · simp at e
        exact e ▸ hx
theorem openP_good {L : List ByteArray} (h : Good L) : openP L = (some L, 0) := by
  unfold openP
  rw [if_neg, if_pos h.nd]
  rw [List.any_eq_true]
  rintro ⟨x, hx, e⟩
  have := h.sz x hx
  simp at e
  omega
theorem openP_twice {L : List ByteArray} {x : ByteArray} (h : Good L) (hx : x ∈ L) : openP (L ++ [x]) = (none, 5) := by
  have hs := h.sz x hx
  unfold openP
  rw [if_neg, if_neg]
  · intro e
    rw [List.nodup_append] at e
    exact e.2.2 x hx x (by simp) rfl
  · rw [List.any_eq_true]
    rintro ⟨y, hy, e⟩
    have : y.size ≤ 200 := by
      rcases List.mem_append.1 hy with e | e
      · exact h.sz y e
      · simp at e
        exact e ▸ hs
    simp at e
    omega

theorem opens (W : World) (s : Sl) (l : List ByteArray) (hr : Rd W cs 1 s l) (hB : ∀ ad, s.a = some ad → 0 < l.length → ad.block < W.heap.size) (hl : l.length ≤ maxLen)
    (t : Sl) (m : List ByteArray) (hr' : Rd W cs 1 t m) (hB' : ∀ ad, t.a = some ad → 0 < m.length → ad.block < W.heap.size) (hl' : m.length ≤ maxLen) :
    callC Try.prog 5 #[s.v, t.v] (fun (r : Bool) => .bool r) W fun r w' => r = true ∧ Below W.heap.size W w' := by
  have ha : Arg W cs 1 s l := ⟨hr, hB⟩
  have hb : Arg W cs 1 t m := ⟨hr', hB'⟩
  have hsl := ha.len
  have htl := hb.len
  unfold maxLen at hl hl'
  refine D5 _ _ W _ ?_
  unfold F5
  refine (small_c W).use ?_
  rintro r w1 ⟨rfl, q1⟩
  refine (new_c w1).use ?_
  rintro r2 w2 ⟨nb, F, rfl, hN, hF⟩
  have hO := ((oq q1).n0 hF)
  refine (few_c W w2 s l 24 ha hO.bl (by decide) (by decide) (by omega)).use ?_
  rintro r w3 ⟨hfew, rfl⟩
  refine jn.mk (fun c w' => (c = false → ((l.length : Int) ≤ 24 ∧ ∀ p ∈ l, p.size ≤ 200) ∧ ((m.length : Int) ≤ 12 ∧ ∀ p ∈ m, p.size ≤ 200)) ∧ w2 = w') ⟨fun _ => ⟨fun e => (by cases e), rfl⟩, fun hc => (few_c W w2 t m 12 hb hO.bl (by decide) (by decide) (by omega)).use ?_⟩ ?_
  · rintro a w3 ⟨ha, rfl⟩
    exact ⟨fun e => ⟨hfew (by simpa using hc), ha (by simpa using e)⟩, rfl⟩
  rintro c w5 ⟨hc4, rfl⟩
  refine ⟨fun _ => ⟨rfl, hO.bl⟩, fun hc => ?_⟩
  obtain ⟨⟨h24, h200⟩, hm12, hm200⟩ := hc4 hc
  refine ⟨fun hc => absurd hc (by simp), fun _ => ?_⟩
  refine ⟨fun i w' => 0 ≤ i ∧ i ≤ l.length ∧ ∃ F L, IsN w' F nb L ∧ Good L ∧ (L.length : Int) ≤ i ∧ (∀ (j : Nat) x, (j : Int) < i → l[j]? = some x → x ∈ L) ∧ Objs W w' (two F fun _ => False), fun i _ => (l.length - i).toNat, ⟨by omega, by omega, F, [], hN, ⟨by simp, by simp⟩, by simp, fun j x hj => by omega, hO⟩, ?_⟩
  clear hN hF hO
  rintro i w6 ⟨i0, i1, F, L, hN, hg, hLl, hin, hO⟩
  refine ⟨fun hi => ?_, fun hi => ?_⟩
  · have hlt : i < l.length := by simpa [hsl] using hi
    obtain ⟨x, hx⟩ := getq i0 hlt
    have hsz := h200 x (List.mem_of_getElem? hx)
    refine ha.ixx i0 hx fun p hat => (hat _ hO.bl).ld0 rfl ((of_c w6 F nb L x hN (by omega)).use ?_)
    rintro r14 w7 ⟨_, F1, hN1, s1⟩
    obtain ⟨g1, g2, g3⟩ := ofP_good hg hsz
    have hol := ofP_len L x
    rw [w64 (by omega) (by omega)]
    refine ⟨⟨by omega, by omega, F1, _, hN1, g1, by omega, fun j y hj hy => ?_, hO.s0 s1⟩, by (try dsimp only); omega⟩
    by_cases e : (j : Int) < i
    · exact g3 y (hin j y e hy)
    · have : j = i.toNat := by omega
      subst this
      rw [hx] at hy
      injection hy with hy
      exact hy ▸ g2
  have hge : (l.length : Int) = i := by simp [hsl] at hi; omega
  subst hge
  clear i0 i1 hi
  refine (all_c w6 F nb L hN (by omega)).use ?_
  rintro r15 w8 ⟨FA, oA, fA⟩
  refine (open_c w8 r15 L (oA.rd cs1 (by decide)) (by omega)).use ?_
  rw [openP_good hg]
  rintro ⟨ra, re⟩ w9 ⟨h1, q9, mb, G, h2, hM, hG⟩
  dsimp only at h1 h2
  subst h1 h2
  have hO1 := (hO.quiet fA.q).n1 hG
  have hN1 := (hN.keepQ fA.q).keepQ q9
  refine ⟨fun hc => absurd hc (by simp), fun _ => ?_⟩
  clear oA fA hO hN hG
  -- the texts again
  refine ⟨fun i w' => 0 ≤ i ∧ i ≤ l.length ∧ ∃ F G, IsN w' F nb L ∧ IsN w' G mb L ∧ Objs W w' (two F G), fun i _ => (l.length - i).toNat, ⟨by omega, by omega, F, G, hN1, hM, hO1⟩, ?_⟩
  clear hN1 hM hO1
  rintro i w10 ⟨i0, i1, F, G, hN, hM, hO⟩
  refine ⟨fun hi => ?_, fun hi => ?_⟩
  · have hlt : i < l.length := by simpa [hsl] using hi
    obtain ⟨x, hx⟩ := getq i0 hlt
    have hsz := h200 x (List.mem_of_getElem? hx)
    have hxL := hin i.toNat x (by omega) hx
    obtain ⟨j, hj⟩ := pos_mem hxL
    refine jn.mk (fun c w' => c = false ∧ ∃ F G, IsN w' F nb L ∧ IsN w' G mb L ∧ Objs W w' (two F G)) ?_ ?_
    · show tk w10 _
      unfold tk
      have qd : Quiet w10 w10.drew := Only.drew _ _
      have hOd := hO.quiet qd
      refine ha.ixx i0 hx fun p hat => (hat _ hOd.bl).ld0 rfl (ha.ixx i0 hx fun p' hat' => (hat' _ hOd.bl).ld0 rfl ?_)
      refine (of_c _ G mb L x (hM.keepQ qd) (by omega)).use ?_
      rw [ofP_old (by omega) hj]
      rintro r28 w12 ⟨rfl, G1, hM1, s1⟩
      have hOe := hOd.s1 s1
      refine ⟨(hat' _ hOe.bl).cell0, ?_⟩
      refine (of_c _ F nb L x ((hN.keepQ qd).keep s1.only hOd.d01) (by omega)).use ?_
      rw [ofP_old (by omega) hj]
      rintro r29 w13 ⟨rfl, F1, hN1, s2⟩
      exact ⟨by simp, F1, G1, hN1, hM1.keep s2.only hOe.d10, hOe.s0 s2⟩
    · rintro c w14 ⟨rfl, F', G', h1, h2, h3⟩
      refine ⟨fun hc => (by cases hc), fun _ => ?_⟩
      rw [w64 (by omega) (by omega)]
      exact ⟨⟨by omega, by omega, F', G', h1, h2, h3⟩, by (try dsimp only); omega⟩
  clear i0 i1 hi
  -- further ones
  refine ⟨fun i w' => 0 ≤ i ∧ i ≤ m.length ∧ ∃ F G L', IsN w' F nb L' ∧ IsN w' G mb L' ∧ Good L' ∧ (L'.length : Int) ≤ 24 + i ∧ (∀ x ∈ L, x ∈ L') ∧ Objs W w' (two F G), fun i _ => (m.length - i).toNat, ⟨by omega, by omega, F, G, L, hN, hM, hg, by omega, fun x h => h, hO⟩, ?_⟩
  clear hN hM hO
  rintro i w15 ⟨i0, i1, F, G, L', hN, hM, hg', hLl', hsub, hO⟩
  refine ⟨fun hi => ?_, fun hi => ?_⟩
  · have hlt : i < m.length := by simpa [htl] using hi
    obtain ⟨x, hx⟩ := getq i0 hlt
    have hsz := hm200 x (List.mem_of_getElem? hx)
    obtain ⟨g1, g2, g3⟩ := ofP_good hg' hsz
    have hol := ofP_len L' x
    refine jn.mk (fun c w' => c = false ∧ ∃ F G L', IsN w' F nb L' ∧ IsN w' G mb L' ∧ Good L' ∧ (L'.length : Int) ≤ 24 + (i + 1) ∧ (∀ x ∈ L, x ∈ L') ∧ Objs W w' (two F G)) ?_ ?_
    · show tk w15 _
      unfold tk
      have qd : Quiet w15 w15.drew := Only.drew _ _
      have hOd := hO.quiet qd
      refine hb.ixx i0 hx fun p hat => (hat _ hOd.bl).ld0 rfl (hb.ixx i0 hx fun p' hat' => (hat' _ hOd.bl).ld0 rfl ?_)
      refine (of_c _ G mb L' x (hM.keepQ qd) (by omega)).use ?_
      rintro r28 w12 ⟨rfl, G1, hM1, s1⟩
      have hOe := hOd.s1 s1
      refine ⟨(hat' _ hOe.bl).cell0, ?_⟩
      refine (of_c _ F nb L' x ((hN.keepQ qd).keep s1.only hOd.d01) (by omega)).use ?_
      rintro r29 w13 ⟨rfl, F1, hN1, s2⟩
      exact ⟨by simp, F1, G1, _, hN1, hM1.keep s2.only hOe.d10, g1, by omega, fun y hy => g3 y (hsub y hy), hOe.s0 s2⟩
    · rintro c w19 ⟨rfl, F', G', L2, h1, h2, h3, h4, h5, h6⟩
      refine ⟨fun hc => (by cases hc), fun _ => ?_⟩
      rw [w64 (by omega) (by omega)]
      exact ⟨⟨by omega, by omega, F', G', L2, h1, h2, h3, h4, h5, h6⟩, by (try dsimp only); omega⟩
  refine (all_c w15 G mb L' hM (by omega)).use ?_
  rintro r44 w20 ⟨FA, oA, fA⟩
  refine (all_c w20 F nb L' (hN.keepQ fA.q) (by omega)).use ?_
  rintro r45 w21 ⟨FB, oB, fB⟩
  refine (strings_c w21 _ _ L' L' ((oA.keepQ fB.q).rd cs1 (by decide)) (oB.rd cs1 (by decide)) (by omega)).use ?_
  rintro r46 w22 ⟨rfl, q22⟩
  have qq := (fA.q.tr fB.q).tr q22
  have hO2 := hO.quiet qq
  have hN2 := hN.keepQ qq
  refine ⟨fun hc => absurd hc (by simp), fun _ => ⟨fun _ => ⟨rfl, hO2.bl⟩, fun hc => ?_⟩⟩
  have hpos : 0 < l.length := by rw [hsl] at hc; simp at hc; exact List.length_pos_iff.2 hc
  obtain ⟨x, hx⟩ := getq (l := l) (i := 0) (by omega) (by omega)
  have hx0 : l[0]? = some x := hx
  have hxL := hsub x (hin 0 x (by omega) hx0)
  have htw := openP_twice hg' hxL
  refine jn.mk (fun (c : Option Addr × Int) w' => c = (none, 5) ∧ Objs W w' (two F G)) ?_ ?_
  · show tk w22 _
    unfold tk
    have qd : Quiet w22 w22.drew := Only.drew _ _
    have hOd := hO2.quiet qd
    refine ha.ixx (by omega) hx fun p hat => (hat _ hOd.bl).ld0 rfl ⟨?_, ?_⟩
    · refine (all_c _ F nb L' (hN2.keepQ qd) (by omega)).use ?_
      rintro r53 w24 ⟨FC, oC, fC⟩
      have hOe := hOd.quiet fC.q
      have hcl := (oC.rd cs1 (by decide)).len
      refine ⟨(hat _ hOe.bl).cell0, ?_⟩
      refine OwnF.push ap22 oC rfl rfl (by unfold maxLen; omega) (by omega) fun r w26 F' ho' _ st' => ?_
      have ho2 : OwnF w26 F' 9 1 r ((L' ++ [x]).flatMap cs) := by simpa [cs] using ho'
      refine (open_c w26 r _ (ho2.rd cs1 (by decide)) (by simp; omega)).use ?_
      rw [htw]
      rintro ⟨ra, re⟩ w27 ⟨h1, q27, h2⟩
      dsimp only at h1 h2
      subst h1 h2
      exact ⟨rfl, (hOd.quiet (fC.stp st').q).quiet q27⟩
    · refine nwL fun b57 w28 hb57 q28 g28 _ l28 => ?_
      refine (all_c _ F nb L' ((hN2.keepQ qd).keepQ q28) (by omega)).use ?_
      rintro r58 w29 ⟨FC, oC, fC⟩
      have hcl := (oC.rd cs1 (by decide)).len
      refine oC.app ap22 (rd1 (hb57.keepQ fC.q)) cs1 (by decide) csone (by simp; unfold maxLen; omega) (by simp; omega) fun r w30 F' ho' _ st' => ?_
      have ho2 : OwnF w30 F' 9 1 r ((L' ++ [x]).flatMap cs) := by simpa [cs] using ho'
      refine (open_c w30 r _ (ho2.rd cs1 (by decide)) (by simp; omega)).use ?_
      rw [htw]
      rintro ⟨ra, re⟩ w31 ⟨h1, q31, h2⟩
      dsimp only at h1 h2
      subst h1 h2
      exact ⟨rfl, ((hOd.quiet q28).quiet (fC.stp st').q).quiet q31⟩
  · rintro c w32 ⟨rfl, h⟩
    exact ⟨by simp, h.bl⟩
end Go.Proofs.Ytiohncdkpkonmaa
