import Derived.Test.YtpdemlicnocbkaaRm
namespace Go.Proofs.Ytpdemlicnocbkaa
open Go.Dec
set_option maxHeartbeats 400000

/-! ### the reference -/
theorem rright_c (w : World) (lv st r bu : Int) : callC Try.prog 15 #[.int .i64 lv, .int .i64 st, .int .i64 r, .int .i64 bu] (fun (r : Bool) => .bool r) w fun c w' => c = rightP lv st r bu ∧ w = w' := D15 _ _ _ _ w _ ⟨rfl, rfl⟩

/-- a doubling step keeps what is reached at last -/
theorem dbl {bu lv more left M : Int} (u1 : bu ≤ 1099511627776) (l0 : 0 ≤ lv) (l1 : lv ≤ bu) (m0 : 0 ≤ more) (m1 : more ≤ 1099511627777) (k0 : 0 < left) (h : min bu (lv + left * more) = M) :
    min bu ((if left % 2 = 1 then min (lv + more) bu else lv) + left / 2 * min (2 * more) 1099511627777) = M := by
  have hl : left = 2 * (left / 2) + left % 2 := by omega
  generalize hk : left / 2 = k at *
  have hk0 : 0 ≤ k := by omega
  have hp : 0 ≤ k * more := Int.mul_nonneg hk0 m0
  have e1 : k * (2 * more) = 2 * (k * more) := by rw [← Int.mul_assoc, Int.mul_comm k 2, Int.mul_assoc]
  have e2 : left * more = 2 * (k * more) + (left % 2) * more := by
    rw [hl, Int.add_mul, Int.mul_assoc]
    congr 2
    omega
  rw [e2] at h
  by_cases hc : 2 * more ≤ 1099511627777
  · have hmin : min (2 * more) 1099511627777 = 2 * more := by omega
    rw [hmin, e1]
    split
    · rename_i ho
      rw [ho] at h
      omega
    · rename_i ho
      have : left % 2 = 0 := by omega
      rw [this] at h
      omega
  · have hmin : min (2 * more) 1099511627777 = 1099511627777 := by omega
    rw [hmin]
    by_cases hz : k = 0
    · subst hz
      have : left % 2 = 1 := by omega
      rw [this] at h ⊢
      simp
      omega
    · have hge : k * more ≥ 1 * more := Int.mul_le_mul_of_nonneg_right (by omega) m0
      have hge2 : k * 1099511627777 ≥ 1 * 1099511627777 := Int.mul_le_mul_of_nonneg_right (by omega) (by omega)
      rcases (by omega : left % 2 = 0 ∨ left % 2 = 1) with ho | ho
      · rw [ho] at h ⊢
        simp only [show ¬ ((0 : Int) = 1) by decide, if_false]
        omega
      · rw [ho] at h ⊢
        simp only [if_true]
        omega

theorem rfree_c (w : World) (lv st r bu x : Int) : callC Try.prog 11 #[.int .i64 lv, .int .i64 st, .int .i64 r, .int .i64 bu, .int .i64 x] (fun (r : Int × Int) => .tuple #[.int .i64 r.1, .int .i64 r.2]) w fun c w' => c = freeP lv st r bu x ∧ w = w' := by
  refine D11 _ _ _ _ _ w _ ?_
  unfold F11
  refine (rright_c w lv st r bu).use ?_
  rintro c w2 ⟨rfl, rfl⟩
  refine ⟨fun hc => ?_, fun hc => ?_⟩
  · unfold freeP
    rw [if_neg (by simpa using hc)]
    exact ⟨rfl, rfl⟩
  have hR : rightP lv st r bu = true := by simpa using hc
  have hr := rightP_iff.1 hR
  refine ⟨fun hc => ?_, fun hc => ?_⟩
  · unfold freeP
    rw [if_pos hR, if_pos (by simpa using hc)]
    exact ⟨rfl, rfl⟩
  have hx : ¬ (x < 0 ∨ 1073741824 < x) := by simpa using hc
  refine ⟨fun hc => ?_, fun hc => ?_⟩
  · unfold freeP
    rw [if_pos hR, if_neg hx, if_pos (by simpa using hc)]
    exact ⟨rfl, rfl⟩
  have hst : st ≤ x := by simpa using hc
  rw [free_ok hr hst (by omega)]
  obtain ⟨r0, r1, u0, u1, l0, l1, s0, s1⟩ := hr
  refine ⟨fun (c : Int × Int × Int) w' => 0 ≤ c.1 ∧ c.1 ≤ bu ∧ 0 ≤ c.2.1 ∧ c.2.1 ≤ 1073741824 ∧ 0 ≤ c.2.2 ∧ c.2.2 ≤ 1099511627777 ∧ min bu (c.1 + c.2.1 * c.2.2) = phi lv st r bu x ∧ w = w', fun c _ => c.2.1.toNat, ?_, ?_⟩
  · dsimp only
    rw [w64 (by omega) (by omega)]
    exact ⟨l0, l1, by omega, by omega, r0, by omega, rfl, rfl⟩
  rintro ⟨l, k, m⟩ w' ⟨a0, a1, k0, k1, m0, m1, hM, rfl⟩
  dsimp only at a0 a1 k0 k1 m0 m1 hM ⊢
  refine ⟨fun hk => ?_, fun hk => ?_⟩
  · have hk0 : 0 < k := by simpa using hk
    have hd : k.tdiv 2 = k / 2 := Int.tdiv_eq_ediv_of_nonneg k0
    have hm : k.tmod 2 = k % 2 := Int.tmod_eq_emod_of_nonneg k0
    refine jn.mk (fun c w' => c = (if k % 2 = 1 then min (l + m) bu else l) ∧ w = w') ⟨fun hc => ?_, fun hc => ?_⟩ ?_
    · rw [hm] at hc
      rw [if_pos (by simpa using hc), w64 (by omega) (by omega)]
      exact ⟨rfl, rfl⟩
    · rw [hm] at hc
      rw [if_neg (by simpa using hc)]
      exact ⟨rfl, rfl⟩
    rintro c w' ⟨rfl, rfl⟩
    have := dbl u1 a0 a1 m0 m1 hk0 hM
    rw [hd, w64 (x := k / 2) (by omega) (by omega), w64 (x := 2 * m) (by omega) (by omega)]
    refine ⟨⟨?_, ?_, by (try dsimp only); omega, by (try dsimp only); omega, by (try dsimp only); omega, by (try dsimp only); omega, this, rfl⟩, by (try dsimp only); omega⟩
    · split <;> omega
    · split <;> omega
  · have hk0 : k = 0 := by have : ¬ 0 < k := by simpa using hk
                           omega
    subst hk0
    rw [Int.zero_mul] at hM
    exact ⟨by rw [Prod.mk.injEq]; exact ⟨by omega, rfl⟩, rfl⟩

theorem rtake_c (w : World) (lv s r bu x n : Int) : callC Try.prog 9 #[.int .i64 lv, .int .i64 s, .int .i64 r, .int .i64 bu, .int .i64 x, .int .i64 n] (fun (r : Int × Int × Int) => .tuple #[.int .i64 r.1, .int .i64 r.2.1, .int .i64 r.2.2]) w fun c w' => c = takeP lv s r bu x n ∧ w = w' := by
  refine D9 _ _ _ _ _ _ w _ ?_
  unfold F9
  refine ⟨fun hc => ?_, fun hc => ?_⟩
  · unfold takeP
    rw [if_pos (by simpa using hc)]
    exact ⟨rfl, rfl⟩
  have hn : ¬ n < 0 := by simpa using hc
  refine (rfree_c w lv s r bu x).use ?_
  rintro c w2 ⟨rfl, rfl⟩
  unfold takeP
  rw [if_neg hn]
  refine ⟨fun hc => ?_, fun hc => ?_⟩
  · rw [if_neg (by simpa using hc)]
    exact ⟨rfl, rfl⟩
  have hf : (freeP lv s r bu x).2 = 0 := by simpa using hc
  rw [if_pos hf]
  obtain ⟨hr, h0, h1⟩ := free_bd hf
  have hphi := phi_bd hr h0
  have e1 : (freeP lv s r bu x).1 = phi lv s r bu x := by rw [free_ok hr h0 h1]
  have := hr.l0
  have := hr.u1
  refine ⟨fun hc => ?_, fun hc => ?_⟩
  · rw [if_pos (by simpa using hc)]
    exact ⟨rfl, rfl⟩
  · have hc' : ¬ (freeP lv s r bu x).1 < n := by simpa using hc
    rw [if_neg hc', w64 (by omega) (by omega)]
    exact ⟨rfl, rfl⟩

theorem rnext_c (w : World) (lv s r bu n : Int) : callC Try.prog 13 #[.int .i64 lv, .int .i64 s, .int .i64 r, .int .i64 bu, .int .i64 n] (fun (r : Int × Int) => .tuple #[.int .i64 r.1, .int .i64 r.2]) w fun c w' => c = nextP lv s r bu n ∧ w = w' := by
  refine D13 _ _ _ _ _ w _ ?_
  unfold F13
  refine jn.mk (fun c w' => c = decide (n < 0 ∨ ¬ rightP lv s r bu = true) ∧ w = w') ⟨fun hc => ⟨?_, rfl⟩, fun hc => (rright_c w lv s r bu).use ?_⟩ ?_
  · have : n < 0 := by simpa using hc
    simp [this]
  · rintro c w2 ⟨rfl, rfl⟩
    have : ¬ n < 0 := by simpa using hc
    refine ⟨?_, rfl⟩
    simp only [this, false_or]
    cases rightP lv s r bu <;> simp
  rintro c w3 ⟨rfl, rfl⟩
  refine ⟨fun hc => ?_, fun hc => ?_⟩
  · have hc' : n < 0 ∨ ¬ rightP lv s r bu = true := of_decide_eq_true hc
    unfold nextP
    rw [if_pos hc']
    exact ⟨rfl, rfl⟩
  have hc' : ¬ (n < 0 ∨ ¬ rightP lv s r bu = true) := of_decide_eq_false hc
  have hr := rightP_iff.1 (Decidable.not_not.1 fun h => hc' (.inr h))
  have hn : ¬ n < 0 := fun h => hc' (.inl h)
  have hs1 := hr.s1
  have hs0 := hr.s0
  refine (rfree_c w lv s r bu 1073741824).use ?_
  rintro c w4 ⟨rfl, rfl⟩
  rw [free_ok hr hs1 (Int.le_refl _)]
  dsimp only
  refine ⟨fun hc => ?_, fun hc => ?_⟩
  · have hlt : phi lv s r bu 1073741824 < n := by simpa using hc
    rcases next_spec hr (n := n) (by omega) with ⟨a, _, h1, h2, h3, _⟩ | ⟨h1, _⟩
    · have := phi_mono hr h2
      omega
    · exact ⟨h1.symm, rfl⟩
  have hge : n ≤ phi lv s r bu 1073741824 := by simpa using hc
  refine ⟨fun (c : Int × Int) w' => s ≤ c.1 ∧ c.1 ≤ c.2 ∧ c.2 ≤ 1073741824 ∧ n ≤ phi lv s r bu c.2 ∧ (∀ x, s ≤ x → x < c.1 → phi lv s r bu x < n) ∧ w = w', fun c _ => (c.2 - c.1).toNat, ⟨Int.le_refl _, hs1, Int.le_refl _, hge, fun x h0 h1 => by (try dsimp only at h1); omega, rfl⟩, ?_⟩
  rintro ⟨lo, hi⟩ w' ⟨h0, h1, h2, h3, h4, rfl⟩
  dsimp only at h0 h1 h2 h3 h4 ⊢
  refine ⟨fun hk => ?_, fun hk => ?_⟩
  · have hk' : lo < hi := by simpa using hk
    have hd : (lo + hi).tdiv 2 = (lo + hi) / 2 := Int.tdiv_eq_ediv_of_nonneg (by omega)
    rw [w64 (x := lo + hi) (by omega) (by omega), hd, w64 (x := (lo + hi) / 2) (by omega) (by omega)]
    refine (rfree_c w lv s r bu _).use ?_
    rintro c w5 ⟨rfl, rfl⟩
    rw [free_ok hr (by omega) (by omega)]
    dsimp only
    refine ⟨fun hc => ?_, fun hc => ?_⟩
    · have hc' : n ≤ phi lv s r bu ((lo + hi) / 2) := by simpa using hc
      exact ⟨⟨h0, by (try dsimp only); omega, by (try dsimp only); omega, hc', h4, rfl⟩, by (try dsimp only); omega⟩
    · have hc' : ¬ n ≤ phi lv s r bu ((lo + hi) / 2) := by simpa using hc
      rw [w64 (by omega) (by omega)]
      refine ⟨⟨by (try dsimp only); omega, by (try dsimp only); omega, h2, h3, fun x g0 g1 => ?_, rfl⟩, by (try dsimp only); omega⟩
      have := phi_mono (lv := lv) hr (x := x) (y := (lo + hi) / 2) (by omega)
      omega
  · have hk' : lo = hi := by have : ¬ lo < hi := by simpa using hk
                             omega
    subst hk'
    rcases next_spec hr (n := n) (by omega) with ⟨a, e, g1, g2, g3, g4⟩ | ⟨_, g⟩
    · refine ⟨?_, rfl⟩
      rw [e]
      have : lo = a := by
        rcases Int.lt_trichotomy lo a with h | h | h
        · have := g4 lo h0 h
          omega
        · exact h
        · have := h4 a g1 h
          omega
      rw [this]
    · omega
end Go.Proofs.Ytpdemlicnocbkaa
