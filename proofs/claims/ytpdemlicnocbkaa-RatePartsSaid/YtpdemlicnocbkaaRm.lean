import Derived.Test.YtpdemlicnocbkaaMem
import Derived.Test.YtpdemlicnocbkaaFs1
import Derived.Test.YtpdemlicnocbkaaFs2
import Derived.Test.YtpdemlicnocbkaaFs3
namespace Go.Dec
theorem Only.tr {a b c : World} (h : Quiet a b) (k : Quiet b c) : Quiet a c := (h.trans k).mono fun _ _ e => e.elim id id
theorem slot2 {t : TypeId} {z0 z1 x y : Value} {w : World} {K : Nat → World → Prop}
    (k : ∀ b w', Blk w' b t #[x, y] → Quiet w w' → w.heap.size ≤ b → b < w'.heap.size → K b w') : nw t #[z0, z1] w fun b w1 => st (Addr.mk b 0 none) [x, y] w1 fun w2 => K b w2 := by
  refine nwL fun b w1 hb hq hge hsz hlt => ?_
  refine hb.st0 (by simp) fun w2 hb2 on hs => ?_
  exact k b w2 hb2 ((hq.trans on).mono fun b' h' e => e.elim id fun e => by omega) hge (by omega)
end Go.Dec
namespace Go.Proofs.Ytpdemlicnocbkaa
open Go.Dec
set_option maxHeartbeats 400000

/-! ### what the functions compute -/
def rightP (lv st r bu : Int) : Bool := ((((((((decide (0 ≤ r)) && (decide (r ≤ 1099511627776))) && (decide (0 ≤ bu))) && (decide (bu ≤ 1099511627776))) && (decide (0 ≤ lv))) && (decide (lv ≤ bu))) && (decide (0 ≤ st))) && (decide (st ≤ 1073741824)))
structure Rt (lv st r bu : Int) : Prop where
  r0 : 0 ≤ r
  r1 : r ≤ 1099511627776
  u0 : 0 ≤ bu
  u1 : bu ≤ 1099511627776
  l0 : 0 ≤ lv
  l1 : lv ≤ bu
  s0 : 0 ≤ st
  s1 : st ≤ 1073741824
theorem rightP_iff {lv st r bu : Int} : rightP lv st r bu = true ↔ Rt lv st r bu := by
  unfold rightP
  simp only [Bool.and_eq_true, decide_eq_true_eq]
  exact ⟨fun ⟨⟨⟨⟨⟨⟨⟨a, b⟩, c⟩, d⟩, e⟩, f⟩, g⟩, h⟩ => ⟨a, b, c, d, e, f, g, h⟩, fun ⟨a, b, c, d, e, f, g, h⟩ => ⟨⟨⟨⟨⟨⟨⟨a, b⟩, c⟩, d⟩, e⟩, f⟩, g⟩, h⟩⟩
/-- the places at a step -/
def phi (lv st r bu x : Int) : Int := min bu (lv + (x - st) * r)
def freeP (lv st r bu x : Int) : Int × Int :=
  if rightP lv st r bu = true then (if x < 0 ∨ 1073741824 < x then (0, 3) else if x < st then (0, 16) else (phi lv st r bu x, 0)) else (0, 1)
def takeP (lv st r bu x n : Int) : Int × Int × Int :=
  if n < 0 then (lv, st, 1) else if (freeP lv st r bu x).2 = 0 then (if (freeP lv st r bu x).1 < n then (lv, st, 6) else ((freeP lv st r bu x).1 - n, x, 0)) else (lv, st, (freeP lv st r bu x).2)
def nextP (lv st r bu n : Int) : Int × Int :=
  if n < 0 ∨ ¬ rightP lv st r bu = true then (0, 1) else if n ≤ lv then (st, 0) else if bu < n ∨ r = 0 then (0, 6) else
    let a := st + (n - lv) / r + (if 0 < (n - lv) % r then 1 else 0)
    if 1073741824 < a then (0, 6) else (a, 0)

theorem phi_bd {lv st r bu x : Int} (h : Rt lv st r bu) (hx : st ≤ x) : lv ≤ phi lv st r bu x ∧ phi lv st r bu x ≤ bu := by
  obtain ⟨r0, r1, u0, u1, l0, l1, s0, s1⟩ := h
  have : 0 ≤ (x - st) * r := Int.mul_nonneg (by omega) r0
  unfold phi
  omega
theorem phi_mono {lv st r bu x y : Int} (h : Rt lv st r bu) (hx : x ≤ y) : phi lv st r bu x ≤ phi lv st r bu y := by
  have : (x - st) * r ≤ (y - st) * r := Int.mul_le_mul_of_nonneg_right (by omega) h.r0
  unfold phi
  omega
theorem free_ok {lv st r bu x : Int} (h : Rt lv st r bu) (h0 : st ≤ x) (h1 : x ≤ 1073741824) : freeP lv st r bu x = (phi lv st r bu x, 0) := by
  have := h.s0
  unfold freeP
  rw [if_pos (rightP_iff.2 h), if_neg (by omega), if_neg (by omega)]
theorem free_bd {lv st r bu x : Int} (h : (freeP lv st r bu x).2 = 0) : Rt lv st r bu ∧ st ≤ x ∧ x ≤ 1073741824 := by
  unfold freeP at h
  split at h
  · rename_i hr
    split at h
    · simp at h
    · split at h
      · simp at h
      · exact ⟨rightP_iff.1 hr, by omega, by omega⟩
  · simp at h

theorem number_c (w : World) (n : Int) : callC Try.prog 17 #[.int .i64 n] (fun (r : Bool) => .bool r) w fun r w' => r = (decide (0 ≤ n) && decide (n ≤ 1099511627776)) ∧ w = w' := D17 _ w _ ⟨rfl, rfl⟩
theorem step_c (w : World) (n : Int) : callC Try.prog 16 #[.int .i64 n] (fun (r : Bool) => .bool r) w fun r w' => r = (decide (0 ≤ n) && decide (n ≤ 1073741824)) ∧ w = w' := D16 _ w _ ⟨rfl, rfl⟩

theorem right_c (w : World) (lv st r bu : Int) : callC Try.prog 14 #[.agg #[.int .i64 lv, .int .i64 st], .int .i64 r, .int .i64 bu] (fun (r : Bool) => .bool r) w fun c w' => c = rightP lv st r bu ∧ Quiet w w' := by
  refine D14 _ _ _ _ w _ ?_
  unfold F14
  refine nwL fun b w1 hb hq _ _ _ => ?_
  refine (number_c w1 r).use ?_
  rintro c1 w2 ⟨rfl, rfl⟩
  refine jn.mk (fun c w' => c = ((decide (0 ≤ r) && decide (r ≤ 1099511627776)) && (decide (0 ≤ bu) && decide (bu ≤ 1099511627776))) ∧ w1 = w') ⟨fun hc => (number_c w1 bu).use ?_, fun hc => ⟨by simp [hc], rfl⟩⟩ ?_
  · rintro c2 w3 ⟨rfl, rfl⟩
    exact ⟨by simp [hc], rfl⟩
  rintro c w4 ⟨rfl, rfl⟩
  refine jp.val (((decide (0 ≤ r) && decide (r ≤ 1099511627776)) && (decide (0 ≤ bu) && decide (bu ≤ 1099511627776))) && decide (0 ≤ lv)) ⟨fun hc => hb.ld rfl (by simp [hc]), fun hc => by simp [hc]⟩ ?_
  refine jp.val ((((decide (0 ≤ r) && decide (r ≤ 1099511627776)) && (decide (0 ≤ bu) && decide (bu ≤ 1099511627776))) && decide (0 ≤ lv)) && decide (lv ≤ bu)) ⟨fun hc => hb.ld rfl (by simp [hc]), fun hc => by simp [hc]⟩ ?_
  refine jn.mk (fun c w' => c = rightP lv st r bu ∧ w1 = w') ⟨fun hc => hb.ld rfl ((step_c w1 st).use ?_), fun hc => ⟨?_, rfl⟩⟩ ?_
  · rintro c2 w3 ⟨rfl, rfl⟩
    refine ⟨?_, rfl⟩
    simp only [Bool.and_eq_true] at hc
    simp [rightP, hc]
  · unfold rightP
    revert hc
    generalize decide (0 ≤ r) = a, decide (r ≤ 1099511627776) = b, decide (0 ≤ bu) = c, decide (bu ≤ 1099511627776) = d, decide (0 ≤ lv) = e, decide (lv ≤ bu) = f
    intro hc
    cases a <;> cases b <;> cases c <;> cases d <;> cases e <;> cases f <;> simp_all
  rintro c w6 ⟨rfl, rfl⟩
  exact ⟨rfl, hq⟩

theorem free_c (w : World) (lv st r bu x : Int) : callC Try.prog 10 #[.agg #[.int .i64 lv, .int .i64 st], .int .i64 r, .int .i64 bu, .int .i64 x] (fun (r : Int × Int) => .tuple #[.int .i64 r.1, .int .i64 r.2]) w fun c w' => c = freeP lv st r bu x ∧ Quiet w w' := by
  refine D10 _ _ _ _ _ w _ ?_
  unfold F10
  refine nwL fun b w1 hb hq _ _ _ => ?_
  refine hb.ld rfl (hb.ld rfl ?_)
  refine (right_c w1 lv st r bu).use ?_
  rintro c w2 ⟨rfl, q2⟩
  have q := hq.tr q2
  refine ⟨fun hc => ?_, fun hc => ?_⟩
  · unfold freeP
    rw [if_neg (by simpa using hc)]
    exact ⟨rfl, q⟩
  have hR : rightP lv st r bu = true := by simpa using hc
  have hr := rightP_iff.1 hR
  refine (step_c w2 x).use ?_
  rintro c w3 ⟨rfl, rfl⟩
  refine ⟨fun hc => ?_, fun hc => ?_⟩
  · unfold freeP
    rw [if_pos hR, if_pos (by simp at hc; omega)]
    exact ⟨rfl, q⟩
  have hx : 0 ≤ x ∧ x ≤ 1073741824 := by simpa using hc
  have hb2 := hb.keepQ q2
  refine hb2.ld rfl ⟨fun hc => ?_, fun hc => ?_⟩
  · unfold freeP
    rw [if_pos hR, if_neg (by omega), if_pos (by simpa using hc)]
    exact ⟨rfl, q⟩
  have hst : st ≤ x := by simpa using hc
  rw [free_ok hr hst hx.2]
  obtain ⟨r0, r1, u0, u1, l0, l1, s0, s1⟩ := hr
  have qd : Quiet w2 w2.drew := Only.drew _ _
  refine jn.mk (fun c w' => c = decide (bu < lv + (x - st) * r) ∧ Quiet w2 w') ?_ ?_
  · show tk w2 _
    unfold tk
    refine ⟨fun hc => ?_, fun hc => ?_⟩
    · have hr0 : 0 < r := by simpa using hc
      refine (hb2.keepQ qd).ld rfl ((hb2.keepQ qd).ld rfl ⟨by omega, ?_, qd⟩)
      have hdiv : (bu - lv).tdiv r = (bu - lv) / r := Int.tdiv_eq_ediv_of_nonneg (by omega)
      have h1 : 0 ≤ (bu - lv) / r := Int.ediv_nonneg (by omega) r0
      have h2 : (bu - lv) / r ≤ bu - lv := Int.ediv_le_self _ (by omega)
      rw [w64 (x := bu - lv) (by omega) (by omega), hdiv, w64 (x := (bu - lv) / r) (by omega) (by omega), w64 (x := x - st) (by omega) (by omega)]
      have := @Int.ediv_lt_iff_lt_mul (bu - lv) (x - st) r hr0
      rw [decide_eq_decide, this]
      omega
    · have hr0 : r = 0 := by have : ¬ 0 < r := by simpa using hc
                             omega
      subst hr0
      exact ⟨by simp; omega, qd⟩
  rintro c w5 ⟨rfl, q5⟩
  refine ⟨fun hc => ?_, fun hc => ?_⟩
  · have : bu < lv + (x - st) * r := by simpa using hc
    exact ⟨by unfold phi; rw [Prod.mk.injEq]; omega, q.tr q5⟩
  · have hle : ¬ bu < lv + (x - st) * r := by simpa using hc
    have h0 : 0 ≤ (x - st) * r := Int.mul_nonneg (by omega) r0
    refine (hb2.keepQ q5).ld rfl ((hb2.keepQ q5).ld rfl ⟨?_, q.tr q5⟩)
    rw [w64 (x := x - st) (by omega) (by omega), w64 (x := (x - st) * r) (by omega) (by omega), w64 (by omega) (by omega)]
    unfold phi
    rw [Prod.mk.injEq]
    omega

theorem take_c (w : World) (lv s r bu x n : Int) : callC Try.prog 8 #[.agg #[.int .i64 lv, .int .i64 s], .int .i64 r, .int .i64 bu, .int .i64 x, .int .i64 n] (fun (r : Int × Int × Int) => .tuple #[.agg #[.int .i64 r.1, .int .i64 r.2.1], .int .i64 r.2.2]) w fun c w' => c = takeP lv s r bu x n ∧ Quiet w w' := by
  refine D8 _ _ _ _ _ _ w _ ?_
  unfold F8
  refine nwL fun b1 w1 hb1 q1 _ _ lt1 => nwL fun b2 w2 hb2 q2 ge2 _ _ => ?_
  have hb1' := hb1.keepQ q2
  have q := q1.tr q2
  have fin : ∀ (w3 : World) (u v e : Int), Quiet w2 w3 → (u, v, e) = takeP lv s r bu x n → st (Addr.mk b2 0 none) [.int .i64 u, .int .i64 v] w3 fun w4 => ld (Value.int .i64) ((Addr.mk b2 0 none).add 0) w4 fun x7 => ld (Value.int .i64) ((Addr.mk b2 0 none).add 1) w4 fun x8 =>
      ((x7, x8, e) : Int × Int × Int) = takeP lv s r bu x n ∧ Quiet w w4 := by
    intro w3 u v e q3 he
    refine (hb2.keepQ q3).st0 (by simp) fun w4 hb4 on4 hs4 => hb4.ld rfl (hb4.ld rfl ⟨he, ?_⟩)
    have sz := q1.size
    exact ((q.tr q3).trans on4).mono fun b hb e => e.elim id fun e => by omega
  refine ⟨fun hc => ?_, fun hc => ?_⟩
  · have : n < 0 := by simpa using hc
    refine hb1'.ld rfl (hb1'.ld rfl (fin w2 _ _ _ (Only.refl _ _) ?_))
    unfold takeP
    rw [if_pos this]
  have hn : ¬ n < 0 := by simpa using hc
  refine hb1'.ld rfl (hb1'.ld rfl ?_)
  refine (free_c w2 lv s r bu x).use ?_
  rintro c w4 ⟨rfl, q4⟩
  have hb4 := hb1'.keepQ q4
  refine ⟨fun hc => ?_, fun hc => ?_⟩
  · refine hb4.ld rfl (hb4.ld rfl (fin w4 _ _ _ q4 ?_))
    unfold takeP
    rw [if_neg hn, if_neg (by simpa using hc)]
  have hf : (freeP lv s r bu x).2 = 0 := by simpa using hc
  obtain ⟨hr, h0, h1⟩ := free_bd hf
  have hphi := phi_bd hr h0
  have e1 : (freeP lv s r bu x).1 = phi lv s r bu x := by rw [free_ok hr h0 h1]
  have := hr.l0
  have := hr.u1
  refine ⟨fun hc => ?_, fun hc => ?_⟩
  · refine hb4.ld rfl (hb4.ld rfl (fin w4 _ _ _ q4 ?_))
    unfold takeP
    rw [if_neg hn, if_pos hf, if_pos (by simpa using hc)]
  · have hc' : ¬ (freeP lv s r bu x).1 < n := by simpa using hc
    refine fin w4 _ _ _ q4 ?_
    unfold takeP
    rw [if_neg hn, if_pos hf, if_neg hc', w64 (by omega) (by omega)]

theorem next_c (w : World) (lv s r bu n : Int) : callC Try.prog 12 #[.agg #[.int .i64 lv, .int .i64 s], .int .i64 r, .int .i64 bu, .int .i64 n] (fun (r : Int × Int) => .tuple #[.int .i64 r.1, .int .i64 r.2]) w fun c w' => c = nextP lv s r bu n ∧ Quiet w w' := by
  refine D12 _ _ _ _ _ w _ ?_
  unfold F12
  refine nwL fun b w1 hb hq _ _ _ => ?_
  refine jn.mk (fun c w' => c = decide (n < 0 ∨ ¬ rightP lv s r bu = true) ∧ Quiet w1 w') ⟨fun hc => ⟨?_, Only.refl _ _⟩, fun hc => hb.ld rfl (hb.ld rfl ((right_c w1 lv s r bu).use ?_))⟩ ?_
  · have : n < 0 := by simpa using hc
    simp [this]
  · rintro c w2 ⟨rfl, q2⟩
    have : ¬ n < 0 := by simpa using hc
    refine ⟨?_, q2⟩
    simp only [this, false_or]
    cases rightP lv s r bu <;> simp
  rintro c w3 ⟨rfl, q3⟩
  have q := hq.tr q3
  have hb3 := hb.keepQ q3
  refine ⟨fun hc => ?_, fun hc => ?_⟩
  · have hc' : n < 0 ∨ ¬ rightP lv s r bu = true := of_decide_eq_true hc
    unfold nextP
    rw [if_pos hc']
    exact ⟨rfl, q⟩
  have hc' : ¬ (n < 0 ∨ ¬ rightP lv s r bu = true) := of_decide_eq_false hc
  have hr := rightP_iff.1 (Decidable.not_not.1 fun h => hc' (.inr h))
  have hn : ¬ n < 0 := fun h => hc' (.inl h)
  unfold nextP
  rw [if_neg hc']
  obtain ⟨r0, r1, u0, u1, l0, l1, s0, s1⟩ := hr
  refine hb3.ld rfl ⟨fun hc => ?_, fun hc => ?_⟩
  · rw [if_pos (by simpa using hc)]
    exact hb3.ld rfl ⟨rfl, q⟩
  have hnl : ¬ n ≤ lv := by simpa using hc
  rw [if_neg hnl]
  refine ⟨fun hc => ?_, fun hc => ?_⟩
  · rw [if_pos (by simpa using hc)]
    exact ⟨rfl, q⟩
  have hbr : ¬ (bu < n ∨ r = 0) := by simpa using hc
  rw [if_neg hbr]
  have hr0 : r ≠ 0 := fun e => hbr (.inr e)
  refine hb3.ld rfl ?_
  have wn : IntKind.i64.wrap (n - lv) = n - lv := w64 (by omega) (by omega)
  have hd : (n - lv).tdiv r = (n - lv) / r := Int.tdiv_eq_ediv_of_nonneg (by omega)
  have hm : (n - lv).tmod r = (n - lv) % r := Int.tmod_eq_emod_of_nonneg (by omega)
  have h1 : 0 ≤ (n - lv) / r := Int.ediv_nonneg (by omega) r0
  have h2 : (n - lv) / r ≤ n - lv := Int.ediv_le_self _ (by omega)
  simp only [wn, hd, hm]
  rw [w64 (x := (n - lv) / r) (by omega) (by omega)]
  refine jn.mk (fun a w' => a = s + (n - lv) / r ∧ Quiet w3 w') ?_ ?_
  · show tk w3 _
    unfold tk
    have qd : Quiet w3 w3.drew := Only.drew _ _
    refine (hb3.keepQ qd).ld rfl ⟨hr0, ?_, qd⟩
    rw [w64 (by omega) (by omega)]
  rintro a w5 ⟨rfl, q5⟩
  refine jn.mk (fun a w' => a = s + (n - lv) / r + (if 0 < (n - lv) % r then 1 else 0) ∧ w5 = w') ⟨hr0, fun hc => ?_, fun hc => ?_⟩ ?_
  · rw [w64 (by omega) (by omega), if_pos (by simpa using hc)]
    exact ⟨rfl, rfl⟩
  · rw [if_neg (by simpa using hc)]
    exact ⟨by omega, rfl⟩
  rintro a w6 ⟨ha, rfl⟩
  rw [← ha]
  refine ⟨fun hc => ?_, fun hc => ?_⟩
  · rw [if_pos (by simpa using hc)]
    exact ⟨rfl, q.tr q5⟩
  · rw [if_neg (by simpa using hc)]
    exact ⟨rfl, q.tr q5⟩

/-- what Next says: the least step with n places -/
theorem next_spec {lv st r bu n : Int} (h : Rt lv st r bu) (hn : 0 ≤ n) :
    (∃ a, nextP lv st r bu n = (a, 0) ∧ st ≤ a ∧ a ≤ 1073741824 ∧ n ≤ phi lv st r bu a ∧ (∀ x, st ≤ x → x < a → phi lv st r bu x < n)) ∨ (nextP lv st r bu n = (0, 6) ∧ phi lv st r bu 1073741824 < n) := by
  have hR := rightP_iff.2 h
  obtain ⟨r0, r1, u0, u1, l0, l1, s0, s1⟩ := id h
  unfold nextP
  rw [if_neg (by simp [hR]; omega)]
  by_cases c1 : n ≤ lv
  · rw [if_pos c1]
    exact .inl ⟨st, rfl, by omega, s1, by have := phi_bd h (Int.le_refl st); omega, fun x h0 h1 => by omega⟩
  rw [if_neg c1]
  by_cases c2 : bu < n ∨ r = 0
  · rw [if_pos c2]
    refine .inr ⟨rfl, ?_⟩
    rcases c2 with c2 | c2
    · have := (phi_bd h s1).2
      omega
    · subst c2
      unfold phi
      simp
      omega
  rw [if_neg c2]
  have hr0 : 0 < r := by omega
  dsimp only
  -- the least step
  have key : ∀ x, n ≤ phi lv st r bu x ↔ st + (n - lv) / r + (if 0 < (n - lv) % r then 1 else 0) ≤ x := by
    intro x
    have hdm := Int.mul_ediv_add_emod (n - lv) r
    have hm0 := Int.emod_nonneg (n - lv) (b := r) (by omega)
    have hm1 := Int.emod_lt_of_pos (n - lv) hr0
    generalize (n - lv) / r = q at *
    generalize (n - lv) % r = m at *
    have e : n ≤ phi lv st r bu x ↔ n - lv ≤ (x - st) * r := by unfold phi; omega
    rw [e, ← hdm]
    have e2 : (x - st) * r = r * q + r * (x - st - q) := by rw [← Int.mul_add, Int.mul_comm]; congr 1; omega
    rw [e2]
    constructor
    · intro hle
      split
      · rename_i hm
        have : 0 < r * (x - st - q) := by omega
        have : 0 < x - st - q := by
          refine Decidable.byContradiction fun hc => ?_
          have : r * (x - st - q) ≤ r * 0 := Int.mul_le_mul_of_nonneg_left (by omega) r0
          omega
        omega
      · have : 0 ≤ r * (x - st - q) := by omega
        have : 0 ≤ x - st - q := by
          refine Decidable.byContradiction fun hc => ?_
          have : r * (x - st - q) ≤ r * (-1) := Int.mul_le_mul_of_nonneg_left (by omega) r0
          omega
        omega
    · intro hle
      split at hle
      · have : r * 1 ≤ r * (x - st - q) := Int.mul_le_mul_of_nonneg_left (by omega) r0
        omega
      · have : r * 0 ≤ r * (x - st - q) := Int.mul_le_mul_of_nonneg_left (by omega) r0
        omega
  have hd0 : 0 ≤ (n - lv) / r := Int.ediv_nonneg (by omega) r0
  generalize st + (n - lv) / r + (if 0 < (n - lv) % r then 1 else 0) = a at key ⊢
  by_cases c3 : 1073741824 < a
  · rw [if_pos c3]
    refine .inr ⟨rfl, ?_⟩
    have := key 1073741824
    omega
  · rw [if_neg c3]
    refine .inl ⟨a, rfl, ?_, by omega, (key a).2 (Int.le_refl _), fun x h0 h1 => ?_⟩
    · have h1 := (key (st - 1))
      have h2 := phi_mono (lv := lv) (x := st - 1) (y := st) h (by omega)
      have h3 : phi lv st r bu st = lv := by unfold phi; simp; omega
      have h4 := key st
      omega
    · have := key x
      omega
end Go.Proofs.Ytpdemlicnocbkaa
