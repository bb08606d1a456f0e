import Derived.Test.YtpdemlicnocbkaaRp
namespace Go.Proofs.Ytpdemlicnocbkaa
open Go.Dec Go.RowKit
set_option maxHeartbeats 400000

/-! ### bounds -/
structure Want where
  steps : Int
  n : Int
def cw (x : Want) : List Value := [.int .u16 x.steps, .int .i64 x.n]
theorem cw2 (x : Want) : (cw x).length = 2 := rfl

structure BI (W : World) (l : List Want) (lv0 r bu : Int) (b : Nat) (at_ sum i : Int) (w : World) : Prop where
  ex : ∃ lv s, Blk w b 24 #[.int .i64 lv, .int .i64 s] ∧ Rt lv s r bu ∧ s ≤ at_ ∧ sum + lv ≤ lv0 + s * r
  i0 : 0 ≤ i
  i1 : i ≤ l.length
  a0 : 0 ≤ at_
  a1 : at_ ≤ 65535 * i
  s0 : 0 ≤ sum
  q : Quiet W w

theorem bounds (W : World) (lv0 : Int) (_ : -9223372036854775808 ≤ lv0) (_ : lv0 ≤ 9223372036854775807) (r : Int) (_ : -9223372036854775808 ≤ r) (_ : r ≤ 9223372036854775807)
    (bu : Int) (_ : -9223372036854775808 ≤ bu) (_ : bu ≤ 9223372036854775807) (s : Sl) (l : List Want) (h : Rd W cw 2 s l) (_ : ∀ ad, s.a = some ad → 0 < l.length → ad.block < W.heap.size) (_ : l.length ≤ maxLen)
    (hok : ∀ y ∈ l, (0 ≤ y.steps ∧ y.steps ≤ 65535) ∧ (-9223372036854775808 ≤ y.n ∧ y.n ≤ 9223372036854775807)) :
    callC Try.prog 4 #[.int .i64 lv0, .int .i64 r, .int .i64 bu, s.v] (fun (r : Bool) => .bool r) W fun r w' => r = true ∧ Below W.heap.size W w' := by
  refine D4 _ _ _ _ W _ ?_
  unfold F4
  have bq : ∀ {w : World}, Quiet W w → Below W.heap.size W w := fun q => q.below (Nat.le_refl _) fun _ e => e.elim
  have hsl := h.len
  refine (small_c W).use ?_
  rintro c w1 ⟨rfl, q1⟩
  refine slot2 fun b2 w3 hb q3 ge3 _ => ?_
  have qa := q1.tr q3
  have gb : W.heap.size ≤ b2 := Nat.le_trans q1.size ge3
  refine jn.mk (fun c w' => (c = false → (l.length : Int) ≤ 60 ∧ Rt lv0 0 r bu) ∧ Quiet w3 w') ⟨fun _ => ⟨fun e => (by cases e), Only.refl _ _⟩, fun hc => hb.ld rfl (hb.ld rfl ((right_c w3 lv0 0 r bu).use ?_))⟩ ?_
  · rintro c w4 ⟨rfl, q4⟩
    have : (l.length : Int) ≤ 60 := by simp [hsl] at hc; omega
    exact ⟨fun e => ⟨this, rightP_iff.1 (by simpa using e)⟩, q4⟩
  rintro c w5 ⟨hok5, q5⟩
  refine ⟨fun _ => ⟨rfl, bq (qa.tr q5)⟩, fun hc => ?_⟩
  obtain ⟨h60, hr0⟩ := hok5 hc
  refine ⟨fun (c : Int × Int × Int) w => BI W l lv0 r bu b2 c.1 c.2.1 c.2.2 w, fun c _ => (l.length - c.2.2).toNat, ⟨⟨lv0, 0, hb.keepQ q5, hr0, by simp, by simp⟩, by simp, by simp, by simp, by simp, by simp, qa.tr q5⟩, ?_⟩
  rintro ⟨at_, sum, i⟩ w6 ⟨⟨lv, st, hb6, hr, hst, hsum⟩, i0, i1, a0, a1, s0, q6⟩
  dsimp only at *
  refine ⟨fun hi => ?_, fun hi => ⟨rfl, bq q6⟩⟩
  have hlt : i < l.length := by simpa [hsl] using hi
  obtain ⟨x, hx⟩ : ∃ x, l[i.toNat]? = some x := ⟨_, List.getElem?_eq_getElem (by omega)⟩
  obtain ⟨⟨st0, st1⟩, n0, n1⟩ := hok x (List.mem_of_getElem? hx)
  have rd6 := h.keepQ q6
  have get : ∀ {K : Addr → Prop}, (∀ p, AtC w6 p (cw x) → K p) → ix s i 2 K := fun k => rd6.ix i0 hlt fun p y hy hat _ => by
    rw [hx] at hy
    injection hy with hy
    subst hy
    exact k p hat
  refine jn.mk (fun (c : Int × Int) w' => BI W l lv0 r bu b2 c.1 c.2 (i + 1) w') ?_ ?_
  rotate_left
  · rintro ⟨a, b⟩ w7 hT
    have := hT.i1
    rw [w64 (by omega) (by omega)]
    exact ⟨hT, by (try dsimp only); omega⟩
  refine get fun p hat => hat.ld (j := 0) rfl (get fun p' hat' => hat'.ld (j := 1) rfl (hb6.ld rfl (hb6.ld rfl ?_)))
  rw [w64 (x := x.steps) (by omega) (by omega), w64 (x := at_ + x.steps) (by omega) (by omega)]
  have hle : at_ + x.steps ≤ 1073741824 := by omega
  have hle2 : at_ + x.steps ≤ 3932100 := by omega
  have hge : st ≤ at_ + x.steps := by omega
  have ha1 : at_ + x.steps ≤ 65535 * (i + 1) := by omega
  have ha0 : 0 ≤ at_ + x.steps := by omega
  generalize at_ + x.steps = a at *
  refine (take_c w6 lv st r bu a x.n).use ?_
  rintro c w8 ⟨rfl, q8⟩
  refine slot2 fun b22 w10 hb22 q10 _ _ => ?_
  have hb10 := (hb6.keepQ q8).keepQ q10
  refine hb10.ld rfl (hb10.ld rfl ?_)
  refine (free_c w10 lv st r bu a).use ?_
  rintro c w11 ⟨rfl, q11⟩
  have hb11 := hb10.keepQ q11
  have h22 := hb22.keepQ q11
  have qb : Quiet W w11 := ((q6.tr q8).tr q10).tr q11
  rw [free_ok hr hge hle]
  dsimp only
  have pb := phi_bd hr hge
  obtain ⟨r0, r1, u0, u1, l0, l1, s0', s1⟩ := id hr
  refine jp.val false ⟨fun hc => absurd hc (by simp), fun _ => hb11.ld rfl (by simp; omega)⟩ ⟨fun hc => absurd hc (by simp; omega), fun _ => ?_⟩
  refine ⟨fun hn => ?_, fun hn => ?_⟩
  · have hn' : x.n < 0 := by simpa using hn
    have e : takeP lv st r bu a x.n = (lv, st, 1) := by unfold takeP; rw [if_pos hn']
    rw [e] at h22 ⊢
    refine jp.val false ⟨fun hc => absurd hc (by simp), fun _ => h22.ld rfl (h22.ld rfl (hb11.ld rfl (hb11.ld rfl (by simp))))⟩ ⟨fun hc => absurd hc (by decide), fun _ => ?_⟩
    exact ⟨⟨lv, st, hb11, hr, hge, hsum⟩, by omega, by omega, ha0, ha1, s0, qb⟩
  have hn' : ¬ x.n < 0 := by simpa using hn
  rw [take_ok hr hge hle hn'] at h22 ⊢
  by_cases hlt2 : phi lv st r bu a < x.n
  · rw [if_pos hlt2] at h22 ⊢
    refine ⟨fun _ => ?_, fun hc => absurd hc (by simp)⟩
    refine jp.val false ⟨fun hc => absurd hc (by simp), fun _ => h22.ld rfl (h22.ld rfl (hb11.ld rfl (hb11.ld rfl (by simp))))⟩ ⟨fun hc => absurd hc (by simp; omega), fun _ => ?_⟩
    exact ⟨⟨lv, st, hb11, hr, hge, hsum⟩, by omega, by omega, ha0, ha1, s0, qb⟩
  rw [if_neg hlt2] at h22 ⊢
  refine ⟨fun hc => absurd hc (by simp), fun _ => ?_⟩
  have hphi : phi lv st r bu a ≤ lv + (a - st) * r := by unfold phi; omega
  have hmul : a * r = st * r + (a - st) * r := by rw [← Int.add_mul]; congr 1; omega
  have hm0 : 0 ≤ a * r := Int.mul_nonneg ha0 r0
  have hm1 : a * r ≤ 3932100 * 1099511627776 := Int.mul_le_mul hle2 r1 r0 (by omega)
  have hl0' := hr0.l1
  have hsum2 : sum + x.n + (phi lv st r bu a - x.n) ≤ lv0 + a * r := by omega
  have hsum3 : sum + x.n ≤ lv0 + a * r := by omega
  rw [w64 (x := a * r) (by omega) (by omega), w64 (x := lv0 + a * r) (by have := hr0.l0; omega) (by omega), w64 (x := sum + x.n) (by omega) (by omega)]
  have hr2 : Rt (phi lv st r bu a - x.n) a r bu := ⟨r0, r1, u0, u1, by omega, by omega, by omega, by omega⟩
  refine jp.val false ⟨fun hc => absurd hc (by simp; omega), fun _ => h22.ld rfl ?_⟩ ?_
  · rw [w64 (by omega) (by omega)]
    simp
  refine jp.val false ⟨fun hc => absurd hc (by decide), fun _ => h22.ld rfl (by simp)⟩ ?_
  refine jn.mk (fun c w' => c = false ∧ Quiet w11 w') ⟨fun hc => absurd hc (by decide), fun _ => h22.ld rfl (h22.ld rfl ((right_c w11 _ a r bu).use ?_))⟩ ?_
  · rintro c w12 ⟨rfl, q12⟩
    exact ⟨by rw [rightP_iff.2 hr2]; rfl, q12⟩
  rintro c w13 ⟨rfl, q13⟩
  refine ⟨fun hc => absurd hc (by decide), fun _ => ?_⟩
  have h22' := h22.keepQ q13
  refine h22'.ld rfl (h22'.ld rfl ((hb11.keepQ q13).st0 (by simp) fun w14 hb14 on14 _ => ?_))
  refine ⟨⟨_, _, hb14, hr2, Int.le_refl _, hsum2⟩, by omega, by omega, ha0, ha1, by omega, ?_⟩
  exact ((qb.tr q13).trans on14).mono fun k hk e => e.elim id fun e => by omega
end Go.Proofs.Ytpdemlicnocbkaa
