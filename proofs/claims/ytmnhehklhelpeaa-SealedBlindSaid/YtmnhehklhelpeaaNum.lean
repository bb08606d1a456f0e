/-
  The field of the numbers below 2147483647. Plain arithmetic, no program.
-/
import Derived.Test.YtmnhehklhelpeaaQueue
namespace Go.Dec

def noDiv (p k : Nat) : Nat → Bool := Nat.rec (fun _ => true) (fun _ ih d => (p % d != 0) && ih (d + 2)) k
theorem noDiv_at (p : Nat) : ∀ (k s : Nat), noDiv p k s = true → ∀ j, j < k → p % (s + 2 * j) ≠ 0
  | 0, _, _, j, hj => by omega
  | k + 1, s, h, j, hj => by
    have h : ((p % s != 0) && noDiv p k (s + 2)) = true := h
    rw [Bool.and_eq_true, bne_iff_ne] at h
    cases j with
    | zero => exact h.1
    | succ j =>
      have := noDiv_at p k (s + 2) h.2 j (by omega)
      rwa [show s + 2 + 2 * j = s + 2 * (j + 1) by omega] at this
/-- a number without a divisor -/
def IsPr (p : Nat) : Prop := 2 ≤ p ∧ ∀ d, d ∣ p → d = 1 ∨ d = p
theorem prime_of (p b : Nat) (h2 : 2 ≤ p) (ho : p % 2 = 1) (hb : p < (2 * b + 3) * (2 * b + 3)) (h : noDiv p b 3 = true) : IsPr p := by
  have small : ∀ d, d ∣ p → d < 2 * b + 3 → d ≤ 1 := by
    intro d hd hl
    refine Nat.le_of_not_lt fun h1 => ?_
    have hm : p % d = 0 := Nat.mod_eq_zero_of_dvd hd
    by_cases he : d % 2 = 0
    · have : 2 ∣ p := Nat.dvd_trans (Nat.dvd_of_mod_eq_zero he) hd
      have := Nat.mod_eq_zero_of_dvd this
      omega
    · have := noDiv_at p b 3 h ((d - 3) / 2) (by omega)
      rw [show 3 + 2 * ((d - 3) / 2) = d by omega] at this
      exact this hm
  refine ⟨h2, fun d hd => ?_⟩
  obtain ⟨e, he⟩ := id hd
  by_cases h1 : d < 2 * b + 3
  · have := small d hd h1
    have h0 : d ≠ 0 := by
      rintro rfl
      rw [Nat.zero_mul] at he
      omega
    exact .inl (by omega)
  · have hed : e ∣ p := ⟨d, by rw [he, Nat.mul_comm]⟩
    by_cases h3 : e < 2 * b + 3
    · have := small e hed h3
      have h0 : e ≠ 0 := by
        rintro rfl
        rw [Nat.mul_zero] at he
        omega
      have e1 : e = 1 := by omega
      rw [e1, Nat.mul_one] at he
      exact .inr he.symm
    · have := Nat.mul_le_mul (Nat.le_of_not_lt h1) (Nat.le_of_not_lt h3)
      omega
theorem euclid {p : Nat} (hp : IsPr p) {a b : Nat} (h : p ∣ a * b) : p ∣ a ∨ p ∣ b := by
  rcases hp.2 _ (Nat.gcd_dvd_left p a) with e | e
  · exact .inr (Nat.Coprime.dvd_of_dvd_mul_left e h)
  · exact .inl (e ▸ Nat.gcd_dvd_right p a)
def prodN : List Nat → Nat
  | [] => 1
  | x :: l => x * prodN l
theorem prodN_perm {l m : List Nat} (h : l.Perm m) : prodN l = prodN m := by
  induction h with
  | nil => rfl
  | cons x _ ih => rw [prodN, prodN, ih]
  | swap x y l => rw [prodN, prodN, prodN, prodN, ← Nat.mul_assoc, ← Nat.mul_assoc, Nat.mul_comm x y]
  | trans _ _ h1 h2 => rw [h1, h2]
theorem prodN_map (p a : Nat) : ∀ l : List Nat, prodN (l.map fun x => a * x % p) % p = a ^ l.length * prodN l % p
  | [] => rfl
  | x :: l => by
    have ih := prodN_map p a l
    rw [List.map_cons, prodN, prodN, List.length_cons, Nat.pow_succ, show a ^ l.length * a * (x * prodN l) = (a * x) * (a ^ l.length * prodN l) by
      rw [Nat.mul_assoc, Nat.mul_comm (a ^ l.length), Nat.mul_assoc, Nat.mul_assoc, Nat.mul_assoc, Nat.mul_comm (prodN l)]]
    rw [Nat.mul_mod, ih, Nat.mod_mod, ← Nat.mul_mod]
theorem prodN_not {p : Nat} (hp : IsPr p) : ∀ l : List Nat, (∀ x ∈ l, ¬ p ∣ x) → ¬ p ∣ prodN l
  | [], _, h => by
    have h1 : p ≤ 1 := Nat.le_of_dvd (by decide) h
    have := hp.1
    omega
  | x :: l, hl, h => by
    rcases euclid hp h with h | h
    · exact hl x (by simp) h
    · exact prodN_not hp l (fun y hy => hl y (by simp [hy])) h
theorem nodup_full {l m : List Nat} (hl : l.Nodup) (hm : m.Nodup) (hs : ∀ x ∈ l, x ∈ m) (hn : m.length ≤ l.length) : l.Perm m := by
  have key : ∀ {l m : List Nat}, l.Nodup → (∀ x ∈ l, x ∈ m) → l.length ≤ m.length := by
    intro l
    induction l with
    | nil => intro m _ _; exact Nat.zero_le _
    | cons x l ih =>
      intro m hn hs
      obtain ⟨h1, h2⟩ := List.nodup_cons.1 hn
      obtain ⟨m1, m2, rfl⟩ := List.append_of_mem (hs x (by simp))
      have : l.length ≤ (m1 ++ m2).length := ih h2 fun y hy => by
        have := hs y (by simp [hy])
        rw [List.mem_append, List.mem_cons] at this
        rw [List.mem_append]
        rcases this with h | h | h
        · exact .inl h
        · exact absurd (h ▸ hy) h1
        · exact .inr h
      simp at this ⊢
      omega
  refine (List.perm_ext_iff_of_nodup hl hm).2 fun y => ⟨hs y, fun hy => Classical.byContradiction fun h => ?_⟩
  have := key (l := y :: l) (m := m) (List.nodup_cons.2 ⟨h, hl⟩) fun z hz => by
    rcases List.mem_cons.1 hz with e | e
    · exact e ▸ hy
    · exact hs z e
  simp at this
  omega
theorem mod_dvd {p a b : Nat} (h : b % p = a % p) : p ∣ b - a := Nat.dvd_of_mod_eq_zero (Nat.sub_mod_eq_zero_of_mod_eq h)
theorem dvd_mod {p a b : Nat} (hab : a ≤ b) (h : p ∣ b - a) : b % p = a % p := by
  obtain ⟨k, hk⟩ := h
  rw [show b = a + p * k by omega, Nat.add_mul_mod_self_left]
/-- Fermat's little theorem -/
theorem fermat {p : Nat} (hp : IsPr p) {a : Nat} (ha : ¬ p ∣ a) : a ^ (p - 1) % p = 1 := by
  have h2 := hp.1
  have hL : (List.range' 1 (p - 1)).length = p - 1 := List.length_range'
  have hmem : ∀ x, x ∈ List.range' 1 (p - 1) ↔ 1 ≤ x ∧ x < p := fun x => by
    rw [List.mem_range'_1]
    omega
  have hnd : ∀ x, 1 ≤ x → x < p → ¬ p ∣ x := fun x h1 h2 h => by
    have := Nat.le_of_dvd (by omega) h
    omega
  have hperm : ((List.range' 1 (p - 1)).map fun x => a * x % p).Perm (List.range' 1 (p - 1)) := by
    refine nodup_full ?_ List.nodup_range' ?_ (by rw [List.length_map]; exact Nat.le_refl _)
    · rw [List.nodup_iff_pairwise_ne, List.pairwise_map]
      refine (List.nodup_iff_pairwise_ne.1 (List.nodup_range' (s := 1) (n := p - 1))).imp_of_mem fun {x y} hx hy hne he => ?_
      obtain ⟨x1, x2⟩ := (hmem x).1 hx
      obtain ⟨y1, y2⟩ := (hmem y).1 hy
      rcases Nat.lt_or_gt_of_ne hne with h | h
      · have hd : p ∣ a * y - a * x := mod_dvd he.symm
        rw [← Nat.mul_sub] at hd
        rcases euclid hp hd with h' | h'
        · exact ha h'
        · exact hnd (y - x) (by omega) (by omega) h'
      · have hd : p ∣ a * x - a * y := mod_dvd he
        rw [← Nat.mul_sub] at hd
        rcases euclid hp hd with h' | h'
        · exact ha h'
        · exact hnd (x - y) (by omega) (by omega) h'
    · intro y hy
      obtain ⟨x, hx, rfl⟩ := List.mem_map.1 hy
      obtain ⟨x1, x2⟩ := (hmem x).1 hx
      refine (hmem _).2 ⟨Nat.pos_of_ne_zero fun h => ?_, Nat.mod_lt _ (by omega)⟩
      rcases euclid hp (Nat.dvd_of_mod_eq_zero h) with h' | h'
      · exact ha h'
      · exact hnd x x1 x2 h'
  have h1 := prodN_map p a (List.range' 1 (p - 1))
  rw [prodN_perm hperm, hL] at h1
  have hP := prodN_not hp (List.range' 1 (p - 1)) fun x hx => hnd x ((hmem x).1 hx).1 ((hmem x).1 hx).2
  generalize prodN (List.range' 1 (p - 1)) = P at h1 hP
  generalize a ^ (p - 1) = A at h1 ⊢
  have hA : ¬ A = 0 := by
    rintro rfl
    rw [Nat.zero_mul, Nat.zero_mod] at h1
    exact hP (Nat.dvd_of_mod_eq_zero h1)
  have hle : P ≤ A * P := Nat.le_mul_of_pos_left P (by omega)
  have hd : p ∣ A * P - P := mod_dvd h1.symm
  rw [show A * P - P = (A - 1) * P by rw [Nat.sub_mul, Nat.one_mul]] at hd
  rcases euclid hp hd with h | h
  · rw [dvd_mod (by omega) h, Nat.mod_eq_of_lt (by omega)]
  · exact absurd h hP

/-! ### the field -/
def pN : Nat := 2147483647
theorem prime_pN : IsPr pN := prime_of 2147483647 23170 (by decide) (by decide) (by decide) (by decide +kernel)
def M : Int := 2147483647
/-- the same in the field -/
def cg (a b : Int) : Prop := M ∣ a - b
theorem cg.refl (a : Int) : cg a a := ⟨0, by rw [Int.sub_self, Int.mul_zero]⟩
theorem cg.of {a b : Int} (h : a = b) : cg a b := h ▸ cg.refl a
theorem cg.symm {a b : Int} (h : cg a b) : cg b a := by
  obtain ⟨k, h⟩ := h
  exact ⟨-k, by rw [Int.mul_neg]; omega⟩
theorem cg.trans {a b c : Int} (h : cg a b) (k : cg b c) : cg a c := by
  obtain ⟨i, h⟩ := h
  obtain ⟨j, k⟩ := k
  exact ⟨i + j, by rw [Int.mul_add]; omega⟩
theorem cg.add {a b c d : Int} (h : cg a b) (k : cg c d) : cg (a + c) (b + d) := by
  obtain ⟨i, h⟩ := h
  obtain ⟨j, k⟩ := k
  exact ⟨i + j, by rw [Int.mul_add]; omega⟩
theorem cg.sub {a b c d : Int} (h : cg a b) (k : cg c d) : cg (a - c) (b - d) := by
  obtain ⟨i, h⟩ := h
  obtain ⟨j, k⟩ := k
  exact ⟨i - j, by rw [Int.mul_sub]; omega⟩
theorem cg.mul {a b c d : Int} (h : cg a b) (k : cg c d) : cg (a * c) (b * d) := by
  obtain ⟨i, h⟩ := h
  obtain ⟨j, k⟩ := k
  refine ⟨i * c + b * j, ?_⟩
  have e1 : a = b + M * i := by omega
  have e2 : c = d + M * j := by omega
  rw [e1, e2]
  generalize M = m
  grind
theorem cg.mod (a : Int) : cg (a % M) a := ⟨-(a / M), by have := Int.emod_add_mul_ediv a M; rw [Int.mul_neg]; omega⟩
theorem cg.tmod {a : Int} (h : 0 ≤ a) : cg (a.tmod 2147483647) a := by
  rw [Int.tmod_eq_emod_of_nonneg h]
  exact cg.mod a
theorem tmod_can {a : Int} (h : 0 ≤ a) : 0 ≤ a.tmod 2147483647 ∧ a.tmod 2147483647 < 2147483647 := by
  rw [Int.tmod_eq_emod_of_nonneg h]
  omega
theorem cg.eq {a b : Int} (h : cg a b) (a0 : 0 ≤ a) (a1 : a < 2147483647) (b0 : 0 ≤ b) (b1 : b < 2147483647) : a = b := by
  obtain ⟨k, h⟩ := h
  unfold M at h
  omega
theorem cg0 {a : Int} : cg a 0 ↔ M ∣ a := by
  unfold cg
  rw [Int.sub_zero]
theorem cg.zero_mul {a b : Int} (h : cg (a * b) 0) : cg a 0 ∨ cg b 0 := by
  rw [cg0] at h ⊢
  rw [cg0]
  have hM : M = ((pN : Nat) : Int) := rfl
  rw [hM, Int.ofNat_dvd_left] at h ⊢
  rw [Int.ofNat_dvd_left]
  rw [Int.natAbs_mul] at h
  exact euclid prime_pN h
theorem cg.sub0 {a b : Int} : cg a b ↔ cg (a - b) 0 := by
  rw [cg0]
  exact Iff.rfl
theorem cg.cancel {a b c : Int} (h : cg (c * a) (c * b)) (hc : ¬ cg c 0) : cg a b := by
  rw [cg.sub0, ← Int.mul_sub] at h
  exact cg.sub0.2 ((h.zero_mul).resolve_left hc)
theorem cg.pow {a b : Int} (h : cg a b) : ∀ n : Nat, cg (a ^ n) (b ^ n)
  | 0 => by rw [Int.pow_zero, Int.pow_zero]; exact cg.refl 1
  | n + 1 => by
    rw [Int.pow_succ, Int.pow_succ]
    exact (h.pow n).mul h
/-- what the inverse is -/
def invE : Nat := 2147483645
def invp (a : Int) : Int := a ^ invE
theorem invE_eq : invE + 1 = pN - 1 := rfl
theorem cg.invp {a b : Int} (h : cg a b) : cg (Go.Dec.invp a) (Go.Dec.invp b) := h.pow invE
theorem invp_mul {a : Int} (h : ¬ cg a 0) : cg (a * invp a) 1 := by
  have e1 : cg (a * invp a) (a ^ (invE + 1)) := cg.of (by rw [Int.pow_succ, Int.mul_comm]; rfl)
  refine e1.trans ?_
  have e2 : cg a ((a % M).toNat : Int) := by
    rw [Int.toNat_of_nonneg (Int.emod_nonneg _ (by decide))]
    exact (cg.mod a).symm
  refine (e2.pow _).trans ?_
  have h' : ¬ pN ∣ (a % M).toNat := fun hd => h (e2.trans (cg0.2 (by
    have hM : M = ((pN : Nat) : Int) := rfl
    rw [hM]
    exact Int.ofNat_dvd.2 hd)))
  have hf := fermat prime_pN h'
  rw [← invE_eq] at hf
  generalize (a % M).toNat = b at hf
  have hcast : ((b : Int)) ^ (invE + 1) = ((b ^ (invE + 1) : Nat) : Int) := by rw [Int.natCast_pow]
  rw [hcast]
  generalize b ^ (invE + 1) = B at hf
  refine ⟨((B / pN : Nat) : Int), ?_⟩
  have h1 := Nat.mod_add_div B pN
  rw [hf] at h1
  have hM : M = ((pN : Nat) : Int) := rfl
  rw [hM, ← Int.natCast_mul]
  omega
theorem invp_uniq {a r : Int} (h : cg (r * a) 1) : cg r (invp a) := by
  have ha : ¬ cg a 0 := fun e => by
    have h1 : cg (r * a) (r * 0) := (cg.refl r).mul e
    rw [Int.mul_zero] at h1
    have := h.symm.trans h1
    obtain ⟨k, hk⟩ := this
    unfold M at hk
    omega
  have h2 := invp_mul ha
  have h3 : cg (a * r) (a * invp a) := by
    rw [Int.mul_comm a r]
    exact h.trans h2.symm
  exact h3.cancel ha
end Go.Dec
