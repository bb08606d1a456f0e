import Derived.Test.YtiohncdkpkonmaaNl
namespace Go.Proofs.Ytiohncdkpkonmaa
open Go.Dec Go.RowKit
set_option maxHeartbeats 400000

def ci (i : Int) : List Value := [.int .i64 i]
theorem ci1 (i : Int) : (ci i).length = 1 := rfl
theorem ap42 : appOK Try.prog 42 3 1 8 = true := by kernel_rfl
/-- got's m-th is where the m-th text stands -/
structure Fits (l L : List ByteArray) (got : List Int) (i : Nat) : Prop where
  len : got.length = i
  nd : L.Nodup
  le : L.length ≤ i
  at_ : ∀ m x, m < i → l[m]? = some x → ∃ k : Nat, got[m]? = some (k : Int) ∧ L[k]? = some x
theorem Fits.zero (l : List ByteArray) : Fits l [] [] 0 := ⟨rfl, by simp, by simp, fun m x h => by omega⟩
theorem ofP_old {L : List ByteArray} {x : ByteArray} {j : Nat} (hx : x.size ≤ 65536) (h : pos L x = some j) : ofP L x = (L, (j : Int)) := by
  unfold ofP
  rw [if_neg (by omega), h]
theorem ofP_new {L : List ByteArray} {x : ByteArray} (hx : x.size ≤ 65536) (h : pos L x = none) : ofP L x = (L ++ [x], (L.length : Int)) := by
  unfold ofP
  rw [if_neg (by omega), h]
theorem Fits.step {l L : List ByteArray} {got : List Int} {i : Nat} {x : ByteArray} (h : Fits l L got i) (hx : l[i]? = some x) (hs : x.size ≤ 65536) : Fits l (ofP L x).1 (got ++ [(ofP L x).2]) (i + 1) := by
  cases hp : pos L x with
  | some j =>
    rw [ofP_old hs hp]
    refine ⟨by simp [h.len], h.nd, by have := h.le; dsimp only; omega, fun m y hm hy => ?_⟩
    by_cases e : m = i
    · subst e
      rw [hx] at hy
      injection hy with hy
      subst hy
      exact ⟨j, by rw [List.getElem?_append_right (by rw [h.len]; exact Nat.le_refl _), h.len, Nat.sub_self]; rfl, pos_some hp⟩
    · obtain ⟨k, h1, h2⟩ := h.at_ m y (by omega) hy
      exact ⟨k, by rw [List.getElem?_append_left (by rw [h.len]; omega)]; exact h1, h2⟩
  | none =>
    have hn := pos_none.1 hp
    rw [ofP_new hs hp]
    refine ⟨by simp [h.len], ?_, by have := h.le; simp; omega, fun m y hm hy => ?_⟩
    · rw [List.nodup_append]
      refine ⟨h.nd, by simp, fun a ha b hb e => ?_⟩
      simp at hb
      subst hb
      subst e
      exact hn ha
    by_cases e : m = i
    · subst e
      rw [hx] at hy
      injection hy with hy
      subst hy
      exact ⟨L.length, by rw [List.getElem?_append_right (by rw [h.len]; exact Nat.le_refl _), h.len, Nat.sub_self]; rfl, by simp⟩
    · obtain ⟨k, h1, h2⟩ := h.at_ m y (by omega) hy
      exact ⟨k, by rw [List.getElem?_append_left (by rw [h.len]; omega)]; exact h1, by rw [List.getElem?_append_left (List.getElem?_eq_some_iff.1 h2).1]; exact h2⟩
theorem Fits.same {l L : List ByteArray} {got : List Int} {i m n : Nat} {x y : ByteArray} {g k : Int} (h : Fits l L got i) (hm : m < i) (hn : n < i) (hx : l[m]? = some x) (hy : l[n]? = some y) (hg : got[m]? = some g) (hk : got[n]? = some k) : g = k ↔ x = y := by
  obtain ⟨a, a1, a2⟩ := h.at_ m x hm hx
  obtain ⟨b, b1, b2⟩ := h.at_ n y hn hy
  rw [hg] at a1
  rw [hk] at b1
  injection a1 with a1
  injection b1 with b1
  subst a1 b1
  constructor
  · intro e
    have : a = b := by omega
    subst this
    rw [a2] at b2
    injection b2
  · intro e
    subst e
    obtain ⟨c1, c2⟩ := List.getElem?_eq_some_iff.1 a2
    obtain ⟨d1, d2⟩ := List.getElem?_eq_some_iff.1 b2
    have := (List.getElem_inj h.nd).1 (c2.trans d2.symm)
    omega
theorem textP_get {L : List ByteArray} {k : Nat} {x : ByteArray} (h : L[k]? = some x) : textP L (k : Int) = (x, true) := by
  have hl := (List.getElem?_eq_some_iff.1 h).1
  unfold textP
  rw [if_neg (by omega), Int.toNat_natCast, h]
  rfl

theorem ideal (W : World) (s : Sl) (l : List ByteArray) (hr : Rd W cs 1 s l) (hB : ∀ ad, s.a = some ad → 0 < l.length → ad.block < W.heap.size) (hl : l.length ≤ maxLen) :
    callC Try.prog 4 #[s.v] (fun (r : Bool) => .bool r) W fun r w' => r = true ∧ Below W.heap.size W w' := by
  have ha : Arg W cs 1 s l := ⟨hr, hB⟩
  have hsl := ha.len
  unfold maxLen at hl
  refine D4 _ W _ ?_
  unfold F4
  refine (small_c W).use ?_
  rintro r w1 ⟨rfl, q1⟩
  refine (new_c w1).use ?_
  rintro r2 w2 ⟨nb, F, rfl, hN, hF⟩
  have hO := ((oq q1).n0 hF)
  refine (few_c W w2 s l 30 ha hO.bl (by decide) (by decide) (by omega)).use ?_
  rintro r w3 ⟨hfew, rfl⟩
  refine ⟨fun _ => ⟨rfl, hO.bl⟩, fun hc => ?_⟩
  obtain ⟨h30, h200⟩ := hfew (by simpa using hc)
  refine ⟨fun hc => absurd hc (by simp), fun _ => ?_⟩
  refine ⟨fun (c : Sl × Int) w' => 0 ≤ c.2 ∧ c.2 ≤ l.length ∧ ∃ F G L got, IsN w' F nb L ∧ OwnF w' G 3 1 c.1 (got.flatMap ci) ∧ Objs W w' (two F G) ∧ Fits l L got c.2.toNat, fun c _ => (l.length - c.2).toNat, ⟨by simp, by simp, F, _, [], [], hN, OwnF.nil _ _ _ _, hO, Fits.zero l⟩, ?_⟩
  clear hN hF hO
  rintro ⟨row, i⟩ w4 ⟨i0, i1, F, G, L, got, hN, hG, hO, hf⟩
  dsimp only at i0 i1 hG hf ⊢
  have hLl := hf.le
  have hgl := hf.len
  refine ⟨fun hi => ?_, fun hi => ?_⟩
  · have hlt : i < l.length := by simpa [hsl] using hi
    obtain ⟨x, hx⟩ := getq i0 hlt
    have hsz := h200 x (List.mem_of_getElem? hx)
    refine (len_c w4 F nb L hN).use ?_
    rintro r8 w5 ⟨rfl, rfl⟩
    refine ha.ixx i0 hx fun p hat => (hat _ hO.bl).ld0 rfl ?_
    refine (of_c w4 F nb L x hN (by omega)).use ?_
    rintro r11 w6 ⟨rfl, F1, hN1, s1⟩
    have hO1 := hO.s0 s1
    have hG1 := hG.keep s1.only hO.d10
    have hf1 := hf.step hx (by omega)
    have hcase : (∃ j : Nat, j < L.length ∧ ofP L x = (L, (j : Int))) ∨ ofP L x = (L ++ [x], (L.length : Int)) := by
      cases hp : pos L x with
      | some j => exact .inl ⟨j, pos_lt hp, ofP_old (by omega) hp⟩
      | none => exact .inr (ofP_new (by omega) hp)
    refine jn.mk (fun c w' => c = false ∧ w6 = w') ⟨fun hc => ?_, fun _ => ?_⟩ ?_
    · exfalso
      rcases hcase with ⟨j, hj, e⟩ | e <;> rw [e] at hc <;> simp at hc <;> omega
    · refine jn.mk (fun c w' => c = false ∧ w6 = w') ⟨fun hc => (len_c w6 F1 nb _ hN1).use ?_, fun _ => ⟨rfl, rfl⟩⟩ ?_
      · rintro r w7 ⟨rfl, rfl⟩
        refine ⟨?_, rfl⟩
        rw [w64 (by omega) (by omega)]
        rcases hcase with ⟨j, hj, e⟩ | e
        · rw [e] at hc
          simp at hc
          omega
        · rw [e]
          simp
      · rintro c w8 ⟨rfl, rfl⟩
        exact ⟨rfl, rfl⟩
    rintro c w9 ⟨rfl, rfl⟩
    refine jn.mk (fun c w' => c = false ∧ w6 = w') ⟨fun hc => (by cases hc), fun _ => ?_⟩ ?_
    · refine jn.mk (fun c w' => c = false ∧ w6 = w') ⟨fun hc => (len_c w6 F1 nb _ hN1).use ?_, fun _ => ⟨rfl, rfl⟩⟩ ?_
      · rintro r w7 ⟨rfl, rfl⟩
        refine ⟨?_, rfl⟩
        rcases hcase with ⟨j, hj, e⟩ | e
        · rw [e]
          simp
        · rw [e] at hc
          simp at hc
      · rintro c w8 ⟨rfl, rfl⟩
        exact ⟨rfl, rfl⟩
    rintro c w12 ⟨rfl, rfl⟩
    refine ⟨fun hc => (by cases hc), fun _ => ?_⟩
    have hrl := (hG1.rd ci1 (by decide)).len
    refine OwnF.push ap42 hG1 rfl rfl (by unfold maxLen; omega) (by omega) fun r30 w14 G' ho' _ st' => ?_
    have hO2 := hO1.s1 st'
    have hN2 := hN1.keep st'.only hO1.d01
    have hgot : OwnF w14 G' 3 1 r30 ((got ++ [(ofP L x).2]).flatMap ci) := by simpa [ci] using ho'
    generalize hL' : (ofP L x).1 = L' at *
    generalize hk' : (ofP L x).2 = k at *
    clear ho' hN1 hO1 hG1 hN hO hG
    have hkk : (got ++ [k])[i.toNat]? = some k := by rw [List.getElem?_append_right (by omega), hgl, Nat.sub_self]; rfl
    refine ⟨fun m w' => 0 ≤ m ∧ m ≤ i + 1 ∧ Quiet w14 w', fun m _ => (i + 1 - m).toNat, ⟨by omega, by omega, Only.refl _ _⟩, ?_⟩
    rintro m w15 ⟨m0, m1, q15⟩
    refine ⟨fun hm => ?_, fun hm => ?_⟩
    · have hmi : m ≤ i := by simpa using hm
      obtain ⟨y, hy⟩ := getq (l := l) m0 (by omega)
      obtain ⟨g, hg, hLg⟩ := hf1.at_ m.toNat y (by omega) hy
      refine (hgot.keepQ q15).ixx ci1 (by decide) m0 hg fun p hat hFp => hat.ld0 rfl ?_
      refine (text_c w15 F1 nb L' g (hN2.keepQ q15)).use ?_
      rintro r35 w16 ⟨rfl, rfl⟩
      rw [textP_get hLg]
      have hsame := hf1.same (by omega) (by omega) hy hx hg hkk
      refine jn.mk (fun c w' => c = false ∧ Quiet w14 w') ?_ ?_
      · show tk w15 _
        unfold tk
        have qd : Quiet w14 w15.drew := q15.tr (Only.drew _ _)
        have hOd := hO2.quiet qd
        refine ⟨fun hc => absurd hc (by simp), fun _ => ha.ixx m0 hy fun p2 hat2 => (hat2 _ hOd.bl).ld0 rfl ⟨fun hc => absurd hc (by simp [beqS_eq]), fun _ => ?_⟩⟩
        refine (hgot.keepQ qd).ixx ci1 (by decide) m0 hg fun p3 hat3 _ => hat3.ld0 rfl (ha.ixx m0 hy fun p4 hat4 => (hat4 _ hOd.bl).ld0 rfl (ha.ixx i0 hx fun p5 hat5 => (hat5 _ hOd.bl).ld0 rfl ⟨?_, qd⟩))
        rw [beqS_eq]
        simp [hsame]
      · rintro c w18 ⟨rfl, q18⟩
        refine ⟨fun hc => (by cases hc), fun _ => ?_⟩
        rw [w64 (by omega) (by omega)]
        exact ⟨⟨by omega, by omega, q18⟩, by (try dsimp only); omega⟩
    · rw [w64 (by omega) (by omega)]
      refine ⟨⟨by (try dsimp only); omega, by (try dsimp only); omega, F1, G', L', _, hN2.keepQ q15, hgot.keepQ q15, hO2.quiet q15, ?_⟩, by (try dsimp only); omega⟩
      show Fits l L' _ (i + 1).toNat
      rw [toNat_succ i0]
      exact hf1
  · have hge : l.length = i.toNat := by simp [hsl] at hi; omega
    rw [← hge] at hf
    refine (all_c w4 F nb L hN (by omega)).use ?_
    rintro r57 w19 ⟨FA, oA, fA⟩
    have hN1 := hN.keepQ fA.q
    refine (len_c w19 F nb L hN1).use ?_
    rintro r58 w20 ⟨rfl, rfl⟩
    have hal := (oA.rd cs1 (by decide)).len
    refine ⟨fun hc => absurd hc (by simp [hal]), fun _ => ?_⟩
    have hO1 := hO.s1 (Fresh.grow fA)
    have hG1 := (hG.keepQ fA.q).mono (G := fun b => G b ∨ FA b) fun b => .inl
    have hA1 := oA.mono (G := fun b => G b ∨ FA b) fun b => .inr
    generalize (fun b => G b ∨ FA b) = H at *
    clear hN hG hO oA fA
    refine ⟨fun j w' => 0 ≤ j ∧ j ≤ l.length ∧ ∃ F, IsN w' F nb L ∧ OwnF w' H 3 1 row (got.flatMap ci) ∧ OwnF w' H 9 1 r57 (L.flatMap cs) ∧ Objs W w' (two F H), fun j _ => (l.length - j).toNat, ⟨by omega, by omega, F, hN1, hG1, hA1, hO1⟩, ?_⟩
    clear hN1 hG1 hA1 hO1
    rintro j w21 ⟨j0, j1, F, hN, hG, hA, hO⟩
    refine ⟨fun hj => ?_, fun hj => ⟨rfl, hO.bl⟩⟩
    have hlt : j < l.length := by simpa [hsl] using hj
    obtain ⟨x, hx⟩ := getq j0 hlt
    have hsz := h200 x (List.mem_of_getElem? hx)
    obtain ⟨g, hg, hLg⟩ := hf.at_ j.toNat x (by omega) hx
    refine jn.mk (fun c w' => c = false ∧ ∃ F, IsN w' F nb L ∧ OwnF w' H 3 1 row (got.flatMap ci) ∧ OwnF w' H 9 1 r57 (L.flatMap cs) ∧ Objs W w' (two F H)) ?_ ?_
    · show tk w21 _
      unfold tk
      have qd : Quiet w21 w21.drew := Only.drew _ _
      have hOd := hO.quiet qd
      have hGd := hG.keepQ qd
      have hAd := hA.keepQ qd
      refine hGd.ixx ci1 (by decide) j0 hg fun p64 a64 F64 => a64.ld0 rfl ?_
      refine hAd.ixx cs1 (by decide) (by omega) (i := (g : Int)) (x := x) (by rw [Int.toNat_natCast]; exact hLg) fun p66 a66 F66 => a66.ld0 rfl ?_
      refine ha.ixx j0 hx fun p68 a68 => (a68 _ hOd.bl).ld0 rfl ⟨fun hc => absurd hc (by simp [beqS_eq]), fun _ => ?_⟩
      refine ha.ixx j0 hx fun p71 a71 => (a71 _ hOd.bl).ld0 rfl (hGd.ixx ci1 (by decide) j0 hg fun p73 a73 F73 => a73.ld0 rfl ?_)
      refine (of_c _ F nb L x (hN.keepQ qd) (by omega)).use ?_
      rw [ofP_old (by omega) (pos_of_get hf.nd hLg)]
      rintro r75 w23 ⟨rfl, F1, hN1, s1⟩
      have hO1 := hOd.s0 s1
      refine ⟨(a73.keep s1.only (hOd.d10 _ F73)).cell0, (a68 _ hO1.bl).cell0, (a66.keep s1.only (hOd.d10 _ F66)).cell0, (a64.keep s1.only (hOd.d10 _ F64)).cell0, by simp, F1, hN1, hGd.keep s1.only hOd.d10, hAd.keep s1.only hOd.d10, hO1⟩
    · rintro c w24 ⟨rfl, F', h1, h2, h3, h4⟩
      refine ⟨fun hc => (by cases hc), fun _ => ?_⟩
      rw [w64 (by omega) (by omega)]
      exact ⟨⟨by omega, by omega, F', h1, h2, h3, h4⟩, by (try dsimp only); omega⟩
end Go.Proofs.Ytiohncdkpkonmaa
