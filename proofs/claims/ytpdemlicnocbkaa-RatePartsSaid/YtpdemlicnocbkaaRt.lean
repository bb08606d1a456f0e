import Derived.Test.YtpdemlicnocbkaaRr
namespace Go.Proofs.Ytpdemlicnocbkaa
open Go.Dec Go.RowKit
set_option maxHeartbeats 400000

def ci (i : Int) : List Value := [.int .i64 i]
theorem rdI {w : World} {b n : Nat} {l : List Int} {cs : Array Value} (h : Blk w b 3 cs) (hn : n = l.length) (hc : cs = (l.map (Value.int .i64)).toArray) : Rd w ci 1 (⟨some ⟨b, 0, none⟩, n, n⟩ : Sl) l := by
  subst hc
  refine ⟨hn, fun i x hx => ⟨_, rfl, fun j u hu => ?_⟩⟩
  match j, hu with
  | 0, hu =>
    simp [ci] at hu
    subst hu
    rw [mk_add, mk_add, h.cell]
    simp [hx]
  | j + 1, hu => simp [ci] at hu

theorem steps4 (i : Int) (h0 : 0 ≤ i) (h1 : i < 4) : ∃ st fr, [(2 : Int), 4, 5, 1073741824][i.toNat]? = some st ∧ [(3 : Int), 9, 10, 10][i.toNat]? = some fr ∧ freeP 0 1 3 10 st = (fr, 0) := by
  rcases (by omega : i = 0 ∨ i = 1 ∨ i = 2 ∨ i = 3) with rfl | rfl | rfl | rfl
  · exact ⟨_, _, rfl, rfl, by decide⟩
  · exact ⟨_, _, rfl, rfl, by decide⟩
  · exact ⟨_, _, rfl, rfl, by decide⟩
  · exact ⟨_, _, rfl, rfl, by decide⟩
theorem many4 (i : Int) (h0 : 0 ≤ i) (h1 : i < 4) : ∃ st fr, [(0 : Int), 3, 4, 10][i.toNat]? = some st ∧ [(1 : Int), 2, 3, 5][i.toNat]? = some fr ∧ nextP 0 1 3 10 st = (fr, 0) := by
  rcases (by omega : i = 0 ∨ i = 1 ∨ i = 2 ∨ i = 3) with rfl | rfl | rfl | rfl
  · exact ⟨_, _, rfl, rfl, by decide⟩
  · exact ⟨_, _, rfl, rfl, by decide⟩
  · exact ⟨_, _, rfl, rfl, by decide⟩
  · exact ⟨_, _, rfl, rfl, by decide⟩

theorem small_c (w : World) : callC Try.prog 7 #[] (fun (r : Bool) => .bool r) w fun r w' => r = true ∧ Quiet w w' := by
  refine D7 w _ ?_
  unfold F7
  refine (take_c w 10 0 3 10 0 4).use ?_
  rintro c w1 ⟨rfl, q1⟩
  rw [show takeP 10 0 3 10 0 4 = (6, 0, 0) by decide]
  refine slot2 fun b2 w3 hb2 q3 _ _ => ?_
  refine hb2.ld rfl (hb2.ld rfl ?_)
  refine (take_c w3 6 0 3 10 0 9).use ?_
  rintro c w4 ⟨rfl, q4⟩
  rw [show takeP 6 0 3 10 0 9 = (6, 0, 6) by decide]
  refine slot2 fun b7 w6 hb7 q6 _ _ => ?_
  have hb2a := (hb2.keepQ q4).keepQ q6
  refine hb2a.ld rfl (hb2a.ld rfl ?_)
  refine (take_c w6 6 0 3 10 1 9).use ?_
  rintro c w7 ⟨rfl, q7⟩
  rw [show takeP 6 0 3 10 1 9 = (0, 1, 0) by decide]
  refine slot2 fun b12 w9 hb12 q9 _ _ => ?_
  have hb2b := (hb2a.keepQ q7).keepQ q9
  have q : Quiet w w9 := ((((q1.tr q3).tr q4).tr q6).tr q7).tr q9
  refine jp.val false ⟨fun hc => absurd hc (by decide), fun _ => hb2b.ld rfl (hb2b.ld rfl (by decide))⟩ ?_
  refine jp.val false ⟨fun hc => absurd hc (by decide), fun _ => hb12.ld rfl (hb12.ld rfl (by decide))⟩ ?_
  refine ⟨fun hc => absurd hc (by decide), fun _ => ?_⟩
  refine nwL fun b29 w10 hb29 q10 _ _ _ => nwL fun b30 w11 hb30 q11 _ _ _ => ?_
  have r29 : Rd w11 ci 1 (⟨some ⟨b29, 0, none⟩, 4, 4⟩ : Sl) [2, 4, 5, 1073741824] := rdI (hb29.keepQ q11) rfl rfl
  have r30 : Rd w11 ci 1 (⟨some ⟨b30, 0, none⟩, 4, 4⟩ : Sl) [3, 9, 10, 10] := rdI hb30 rfl rfl
  have h12 := (hb12.keepQ q10).keepQ q11
  have qa : Quiet w w11 := (q.tr q10).tr q11
  refine ⟨fun i w' => 0 ≤ i ∧ i ≤ 4 ∧ Quiet w11 w', fun i _ => (4 - i).toNat, ⟨by omega, by omega, Only.refl _ _⟩, ?_⟩
  rintro i w12 ⟨i0, i1, q12⟩
  have qd : Quiet w12 w12.drew := Only.drew _ _
  refine ⟨fun hi => ?_, fun hi => ?_⟩
  · have hi' : i < 4 := by simpa using hi
    obtain ⟨st, fr, e1, e2, e3⟩ := steps4 i i0 hi'
    refine jn.mk (fun (c : Int × Int) w' => c = (fr, 0) ∧ Quiet w11 w') ?_ ?_
    · show tk w12 _
      unfold tk
      have q13 := q12.tr qd
      have hb := h12.keepQ q13
      refine hb.ld rfl (hb.ld rfl ?_)
      refine (r29.keepQ q13).ix i0 hi' fun p x hx hat _ => hat.ld0 rfl ?_
      rw [e1] at hx
      injection hx with hx
      subst hx
      refine (free_c _ 0 1 3 10 st).use ?_
      rintro c w14 ⟨rfl, q14⟩
      rw [e3]
      exact ⟨rfl, q13.tr q14⟩
    rintro c w15 ⟨rfl, q15⟩
    refine jp.val false ⟨fun hc => absurd hc (by simp), fun _ => ?_⟩ ⟨fun hc => absurd hc (by decide), fun _ => ?_⟩
    · refine (r30.keepQ q15).ix i0 hi' fun p x hx hat _ => hat.ld0 rfl ?_
      rw [e2] at hx
      injection hx with hx
      subst hx
      simp
    · rw [w64 (by omega) (by omega)]
      exact ⟨⟨by omega, by omega, q15⟩, by (try dsimp only); omega⟩
  refine nwL fun b47 w16 hb47 q16 _ _ _ => nwL fun b48 w17 hb48 q17 _ _ _ => ?_
  have r47 : Rd w17 ci 1 (⟨some ⟨b47, 0, none⟩, 4, 4⟩ : Sl) [0, 3, 4, 10] := rdI (hb47.keepQ q17) rfl rfl
  have r48 : Rd w17 ci 1 (⟨some ⟨b48, 0, none⟩, 4, 4⟩ : Sl) [1, 2, 3, 5] := rdI hb48 rfl rfl
  have qb := (qa.tr q12).tr (q16.tr q17)
  have h12b := (h12.keepQ q12).keepQ (q16.tr q17)
  clear i0 i1 hi qd
  refine ⟨fun i w' => 0 ≤ i ∧ i ≤ 4 ∧ Quiet w17 w', fun i _ => (4 - i).toNat, ⟨by omega, by omega, Only.refl _ _⟩, ?_⟩
  rintro i w18 ⟨i0, i1, q18⟩
  have qd : Quiet w18 w18.drew := Only.drew _ _
  refine ⟨fun hi => ?_, fun hi => ?_⟩
  · have hi' : i < 4 := by simpa using hi
    obtain ⟨st, fr, e1, e2, e3⟩ := many4 i i0 hi'
    refine jn.mk (fun (c : Int × Int) w' => c = (fr, 0) ∧ Quiet w17 w') ?_ ?_
    · show tk w18 _
      unfold tk
      have q19 := q18.tr qd
      have hb := h12b.keepQ q19
      refine hb.ld rfl (hb.ld rfl ?_)
      refine (r47.keepQ q19).ix i0 hi' fun p x hx hat _ => hat.ld0 rfl ?_
      rw [e1] at hx
      injection hx with hx
      subst hx
      refine (next_c _ 0 1 3 10 st).use ?_
      rintro c w20 ⟨rfl, q20⟩
      rw [e3]
      exact ⟨rfl, q19.tr q20⟩
    rintro c w21 ⟨rfl, q21⟩
    refine jp.val false ⟨fun hc => absurd hc (by simp), fun _ => ?_⟩ ⟨fun hc => absurd hc (by decide), fun _ => ?_⟩
    · refine (r48.keepQ q21).ix i0 hi' fun p x hx hat _ => hat.ld0 rfl ?_
      rw [e2] at hx
      injection hx with hx
      subst hx
      simp
    · rw [w64 (by omega) (by omega)]
      exact ⟨⟨by omega, by omega, q21⟩, by (try dsimp only); omega⟩
  have hb := h12b.keepQ q18
  refine hb.ld rfl (hb.ld rfl ?_)
  refine (next_c _ 0 1 3 10 11).use ?_
  rintro c w22 ⟨rfl, q22⟩
  rw [show nextP 0 1 3 10 11 = (0, 6) by decide]
  have hb' := hb.keepQ q22
  refine jn.mk (fun c w' => c = true ∧ Quiet w22 w') ⟨fun _ => hb'.ld rfl (hb'.ld rfl ?_), fun hc => absurd hc (by decide)⟩ ?_
  · refine (right_c _ 0 1 3 10).use ?_
    rintro c w23 ⟨rfl, q23⟩
    exact ⟨by decide, q23⟩
  rintro c w24 ⟨rfl, q24⟩
  have hb2 := hb'.keepQ q24
  refine jn.mk (fun c w' => c = true ∧ Quiet w24 w') ⟨fun _ => hb2.ld rfl (hb2.ld rfl ?_), fun hc => absurd hc (by decide)⟩ ?_
  · refine (right_c _ 0 1 (-1) 10).use ?_
    rintro c w23 ⟨rfl, q23⟩
    exact ⟨by decide, q23⟩
  rintro c w26 ⟨rfl, q26⟩
  exact ⟨rfl, (((qb.tr q18).tr q22).tr q24).tr q26⟩

theorem tells (W : World) (lv : Int) (_ : -9223372036854775808 ≤ lv) (_ : lv ≤ 9223372036854775807) (s : Int) (_ : -9223372036854775808 ≤ s) (_ : s ≤ 9223372036854775807) (r : Int) (_ : -9223372036854775808 ≤ r) (_ : r ≤ 9223372036854775807)
    (bu : Int) (_ : -9223372036854775808 ≤ bu) (_ : bu ≤ 9223372036854775807) (x : Int) (_ : -9223372036854775808 ≤ x) (_ : x ≤ 9223372036854775807) (n : Int) (_ : -9223372036854775808 ≤ n) (_ : n ≤ 9223372036854775807) :
    callC Try.prog 3 #[.int .i64 lv, .int .i64 s, .int .i64 r, .int .i64 bu, .int .i64 x, .int .i64 n] (fun (r : Bool) => .bool r) W fun r w' => r = true ∧ Below W.heap.size W w' := by
  refine D3 _ _ _ _ _ _ W _ ?_
  unfold F3
  refine (small_c W).use ?_
  rintro c w1 ⟨rfl, q1⟩
  refine slot2 fun b2 w3 hb2 q3 _ _ => hb2.ld rfl (hb2.ld rfl ?_)
  refine (take_c w3 lv s r bu x n).use ?_
  rintro c w4 ⟨rfl, q4⟩
  refine slot2 fun b7 w6 hb7 q6 _ _ => ?_
  refine (rtake_c w6 lv s r bu x n).use ?_
  rintro c w7 ⟨rfl, rfl⟩
  have hb := (hb2.keepQ q4).keepQ q6
  refine hb.ld rfl (hb.ld rfl ?_)
  refine (free_c w6 lv s r bu x).use ?_
  rintro c w8 ⟨rfl, q8⟩
  refine (rfree_c w8 lv s r bu x).use ?_
  rintro c w9 ⟨rfl, rfl⟩
  have hb' := hb.keepQ q8
  refine hb'.ld rfl (hb'.ld rfl ?_)
  refine (next_c w8 lv s r bu n).use ?_
  rintro c w10 ⟨rfl, q10⟩
  refine (rnext_c w10 lv s r bu n).use ?_
  rintro c w11 ⟨rfl, rfl⟩
  have h7 := (hb7.keepQ q8).keepQ q10
  have h2 := hb'.keepQ q10
  refine jp.val true ⟨fun _ => h7.ld rfl (h7.ld rfl (by simp)), fun hc => absurd hc (by decide)⟩ ?_
  refine jn.mk (fun c w' => c = true ∧ Quiet w10 w') ⟨fun _ => h2.ld rfl (h2.ld rfl ?_), fun hc => absurd hc (by simp)⟩ ?_
  · refine (right_c w10 lv s r bu).use ?_
    rintro c w12 ⟨rfl, q12⟩
    refine (rright_c w12 lv s r bu).use ?_
    rintro c w13 ⟨rfl, rfl⟩
    exact ⟨by simp, q12⟩
  rintro c w14 ⟨rfl, q14⟩
  exact ⟨rfl, ((((((q1.tr q3).tr q4).tr q6).tr q8).tr q10).tr q14).below (Nat.le_refl _) fun _ e => e.elim⟩

theorem nexts (W : World) (lv : Int) (_ : -9223372036854775808 ≤ lv) (_ : lv ≤ 9223372036854775807) (s : Int) (_ : -9223372036854775808 ≤ s) (_ : s ≤ 9223372036854775807) (r : Int) (_ : -9223372036854775808 ≤ r) (_ : r ≤ 9223372036854775807)
    (bu : Int) (_ : -9223372036854775808 ≤ bu) (_ : bu ≤ 9223372036854775807) (n : Int) (_ : -9223372036854775808 ≤ n) (_ : n ≤ 9223372036854775807) (x : Int) (_ : -9223372036854775808 ≤ x) (_ : x ≤ 9223372036854775807) :
    callC Try.prog 6 #[.int .i64 lv, .int .i64 s, .int .i64 r, .int .i64 bu, .int .i64 n, .int .i64 x] (fun (r : Bool) => .bool r) W fun r w' => r = true ∧ Below W.heap.size W w' := by
  refine D6 _ _ _ _ _ _ W _ ?_
  unfold F6
  have bq : ∀ {w : World}, Quiet W w → Below W.heap.size W w := fun q => q.below (Nat.le_refl _) fun _ e => e.elim
  refine (small_c W).use ?_
  rintro c w1 ⟨rfl, q1⟩
  refine slot2 fun b2 w3 hb q3 _ _ => hb.ld rfl (hb.ld rfl ?_)
  refine (right_c w3 lv s r bu).use ?_
  rintro c w4 ⟨rfl, q4⟩
  have q := (q1.tr q3).tr q4
  have h4 := hb.keepQ q4
  refine ⟨fun _ => ⟨rfl, bq q⟩, fun hc => h4.ld rfl (h4.ld rfl ?_)⟩
  have hc' : rightP lv s r bu = true ∧ ¬ n < 0 := by simpa using hc
  have hr := rightP_iff.1 hc'.1
  have hn := hc'.2
  have hs0 := hr.s0
  have hs1 := hr.s1
  have tk0 : ∀ {y : Int}, s ≤ y → y ≤ 1073741824 → (takeP lv s r bu y n).2.2 = if phi lv s r bu y < n then 6 else 0 := by
    intro y h0 h1
    unfold takeP
    rw [if_neg hn, free_ok hr h0 h1]
    simp only [if_true]
    split <;> rfl
  refine (next_c w4 lv s r bu n).use ?_
  rintro c w5 ⟨rfl, q5⟩
  have h5 := h4.keepQ q5
  rcases next_spec hr (n := n) (by omega) with ⟨a, e, g1, g2, g3, g4⟩ | ⟨e, g⟩
  · rw [e]
    refine ⟨fun hc => absurd hc (by simp), fun _ => ⟨fun hc => absurd hc (by simp; omega), fun _ => h5.ld rfl (h5.ld rfl ?_)⟩⟩
    refine (take_c w5 lv s r bu a n).use ?_
    rintro c w9 ⟨rfl, q9⟩
    refine slot2 fun b31 w11 hb31 q11 _ _ => ?_
    have h11 := (h5.keepQ q9).keepQ q11
    refine h11.ld rfl (h11.ld rfl ?_)
    rw [w64 (x := a - 1) (by omega) (by omega)]
    refine (take_c w11 lv s r bu (max (a - 1) s) n).use ?_
    rintro c w12 ⟨rfl, q12⟩
    refine slot2 fun b36 w14 hb36 q14 _ _ => ?_
    rw [tk0 g1 g2, if_neg (by omega), tk0 (y := max (a - 1) s) (by omega) (by omega)]
    have hiff : ((if phi lv s r bu (max (a - 1) s) < n then (6 : Int) else 0) = 0) ↔ a = s := by
      by_cases ha : a = s
      · have : max (a - 1) s = a := by omega
        rw [this, if_neg (by omega)]
        simp [ha]
      · have := g4 (max (a - 1) s) (by omega) (by omega)
        rw [if_pos this]
        simp [ha]
    have q14' := (((q.tr q5).tr (q9.tr q11)).tr q12).tr q14
    have h14 := (h11.keepQ q12).keepQ q14
    refine ⟨fun hc => absurd hc (by simp only [hiff]; simp), fun _ => ⟨fun _ => ⟨rfl, bq q14'⟩, fun hx => h14.ld rfl (h14.ld rfl ?_)⟩⟩
    have hx' : s ≤ x ∧ x ≤ 1073741824 := by simpa using hx
    refine (take_c w14 lv s r bu x n).use ?_
    rintro c w15 ⟨rfl, q15⟩
    refine slot2 fun b47 w17 hb47 q17 _ _ => ?_
    refine ⟨?_, bq ((q14'.tr q15).tr q17)⟩
    rw [tk0 hx'.1 hx'.2]
    by_cases hax : a ≤ x
    · have := phi_mono (lv := lv) hr hax
      rw [if_neg (by omega)]
      simp [hax]
    · have := g4 x hx'.1 (by omega)
      rw [if_pos this]
      simp [hax]
  · rw [e]
    refine ⟨fun _ => h5.ld rfl (h5.ld rfl ?_), fun hc => absurd hc (by simp)⟩
    refine (take_c w5 lv s r bu 1073741824 n).use ?_
    rintro c w6 ⟨rfl, q6⟩
    refine slot2 fun b17 w8 hb17 q8 _ _ => ?_
    rw [tk0 hs1 (Int.le_refl _), if_pos g]
    exact ⟨rfl, bq (((q.tr q5).tr q6).tr q8)⟩
end Go.Proofs.Ytpdemlicnocbkaa
