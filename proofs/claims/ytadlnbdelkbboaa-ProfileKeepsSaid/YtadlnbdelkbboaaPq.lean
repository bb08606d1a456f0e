import Derived.Test.YtadlnbdelkbboaaPe
namespace Go.Proofs.Ytadlnbdelkbboaa
open Go.Dec Go.RowKit
set_option maxHeartbeats 400000
set_option maxRecDepth 10000

def b2i (b : Bool) : Int := if b = true then 1 else 0
def numsA (a : Ap) : List Int := [a.edit, a.delete, b2i a.react, a.thread, b2i a.quote, b2i a.mention, a.size, a.parts, a.files, a.bytes, a.level]
theorem numsA_len (a : Ap) : (numsA a).length = 11 := rfl
theorem b2i_c (w : World) (b : Bool) : callC Try.prog 42 #[.bool b] (fun (r : Int) => .int .i64 r) w fun r w' => r = b2i b ∧ w = w' := by
  refine D42 _ w _ ?_
  unfold F42 b2i
  refine ⟨fun g => ⟨?_, rfl⟩, fun g => ⟨?_, rfl⟩⟩
  · rw [if_pos g]
  · rw [if_neg (by rw [g]; decide)]
theorem numbers_c (w : World) (a : Ap) (s : Sl) : callC Try.prog 31 #[pfv (pfOf a s)] Sl.v w fun r w' => ∃ F, OwnF w' F 3 1 r ((numsA a).flatMap ci) ∧ Fresh w w' F := by
  refine D31 _ _ _ _ _ _ _ _ _ _ _ _ _ _ _ _ _ _ _ _ _ _ w _ ?_
  unfold F31
  refine nwL fun b1 w1 hb1 q1 _ _ _ => ?_
  have hb : IsPf w1 b1 (pfOf a s) := hb1
  refine jn.mk (fun r w' => ∃ F, OwnF w' F 3 1 r ((numsA a).flatMap ci) ∧ Fresh w w' F) ?_ fun r w' h => h
  show tk w1 _
  unfold tk
  have qd : Quiet w1 w1.drew := Only.drew _ _
  have A := (hb.keepQ qd).at
  generalize w1.drew = w2 at *
  refine A.ld (j := 1) rfl (A.ld (j := 3) rfl (A.ld (j := 4) rfl (A.ld (j := 5) rfl (A.ld (j := 6) rfl (A.ld (j := 7) rfl (A.ld (j := 8) rfl (A.ld (j := 9) rfl (A.ld (j := 10) rfl (A.ld (j := 11) rfl (A.ld (j := 16) rfl ?_))))))))))
  refine use_same (b2i_c w2 _) ?_
  repeat (refine ⟨A.cj rfl, ?_⟩)
  refine use_same (b2i_c w2 _) ?_
  repeat (refine ⟨A.cj rfl, ?_⟩)
  refine use_same (b2i_c w2 _) ?_
  repeat (refine ⟨A.cj rfl, ?_⟩)
  refine nwL fun b18 w6 hb18 q6 g6 _ l6 => ⟨fun x => x = b18, own_row (n := 11) (sz := 1) hb18 rfl (by unfold maxLen; omega), ⟨(q1.tr qd).tr q6, fun x hx => ?_⟩⟩
  subst hx
  have := (q1.tr qd).size
  exact ⟨by omega, l6⟩
theorem rhas_c (w : World) (s : Sl) (l : List ByteArray) (n : ByteArray) (h : Rd w cb 1 s l) (hl : l.length ≤ 1000000) : callC Try.prog 32 #[s.v, .string n] (fun (r : Bool) => .bool r) w fun r w' => r = decide (n ∈ l) ∧ w = w' := by
  have hsl := h.len
  refine D32 _ _ w _ ?_
  unfold F32
  refine ⟨fun i w' => 0 ≤ i ∧ i ≤ l.length ∧ n ∉ l.take i.toNat ∧ w = w', fun i _ => (l.length - i).toNat, ⟨by omega, by omega, by simp, rfl⟩, ?_⟩
  rintro i w' ⟨i0, i1, hn, rfl⟩
  refine ⟨fun hi => ?_, fun hi => ?_⟩
  · have hlt : i < l.length := by rw [hsl] at hi; exact of_decide_eq_true hi
    obtain ⟨x, hx⟩ := getq i0 hlt
    refine h.ixx i0 hx fun p hat _ => hat.ld0 rfl ⟨fun hc => ⟨?_, rfl⟩, fun hc => ?_⟩
    · rw [beqS_eq] at hc
      have : x = n := of_decide_eq_true hc
      subst this
      exact (decide_eq_true (List.mem_of_getElem? hx)).symm
    · rw [beqS_eq] at hc
      have hne : x ≠ n := of_decide_eq_false hc
      rw [w64 (by omega) (by omega)]
      refine ⟨⟨by omega, by omega, ?_, rfl⟩, by (try dsimp only); omega⟩
      rw [toNat_succ i0, take_next hx]
      simp only [List.mem_append, List.mem_singleton, not_or]
      exact ⟨hn, fun e => hne e.symm⟩
  · have hge : l.length ≤ i.toNat := by have := of_decide_eq_false hi; omega
    rw [List.take_of_length_le hge] at hn
    exact ⟨(decide_eq_false hn).symm, rfl⟩
theorem b2i_le (x y : Bool) : b2i x ≤ b2i y ↔ (x = true → y = true) := by cases x <;> cases y <;> decide
theorem b2i_inj {x y : Bool} (h : b2i x = b2i y) : x = y := by revert h; cases x <;> cases y <;> decide
/-- all numbers of two lists in an order -/
def allR (R : Int → Int → Bool) (A B : List Int) : Prop := ∀ (i : Nat) (x y : Int), A[i]? = some x → B[i]? = some y → R x y = true
theorem allR_nums (R : Int → Int → Bool) (a b : Ap) : allR R (numsA a) (numsA b) ↔ R a.edit b.edit = true ∧ R a.delete b.delete = true ∧ R (b2i a.react) (b2i b.react) = true ∧ R a.thread b.thread = true ∧ R (b2i a.quote) (b2i b.quote) = true ∧ R (b2i a.mention) (b2i b.mention) = true ∧ R a.size b.size = true ∧ R a.parts b.parts = true ∧ R a.files b.files = true ∧ R a.bytes b.bytes = true ∧ R a.level b.level = true := by
  constructor
  · intro h
    exact ⟨h 0 _ _ rfl rfl, h 1 _ _ rfl rfl, h 2 _ _ rfl rfl, h 3 _ _ rfl rfl, h 4 _ _ rfl rfl, h 5 _ _ rfl rfl, h 6 _ _ rfl rfl, h 7 _ _ rfl rfl, h 8 _ _ rfl rfl, h 9 _ _ rfl rfl, h 10 _ _ rfl rfl⟩
  · rintro ⟨h0, h1, h2, h3, h4, h5, h6, h7, h8, h9, h10⟩ i x y hx hy
    match i, hx, hy with
    | 0, hx, hy => cases hx; cases hy; exact h0
    | 1, hx, hy => cases hx; cases hy; exact h1
    | 2, hx, hy => cases hx; cases hy; exact h2
    | 3, hx, hy => cases hx; cases hy; exact h3
    | 4, hx, hy => cases hx; cases hy; exact h4
    | 5, hx, hy => cases hx; cases hy; exact h5
    | 6, hx, hy => cases hx; cases hy; exact h6
    | 7, hx, hy => cases hx; cases hy; exact h7
    | 8, hx, hy => cases hx; cases hy; exact h8
    | 9, hx, hy => cases hx; cases hy; exact h9
    | 10, hx, hy => cases hx; cases hy; exact h10
    | i + 11, hx, hy => simp [numsA] at hx
theorem cmp_next {R : Int → Int → Bool} {A B : List Int} {i : Nat} {x y : Int} (hx : A[i]? = some x) (hy : B[i]? = some y) (h : ∀ k x y, k < i → A[k]? = some x → B[k]? = some y → R x y = true) (hr : R x y = true) : ∀ k x y, k < i + 1 → A[k]? = some x → B[k]? = some y → R x y = true := fun k u v hk hu hv => by
  by_cases e : k = i
  · subst e
    rw [hx] at hu
    rw [hy] at hv
    cases hu
    cases hv
    exact hr
  · exact h k u v (by omega) hu hv

theorem few_c (w : World) (a : Ap) (s : Sl) (h : Rd w cb 1 s a.types) : callC Try.prog 23 #[pfv (pfOf a s)] (fun (r : Bool) => .bool r) w fun r w' => (r = true → a.types.length ≤ 12) ∧ Quiet w w' := by
  have hsl := h.len
  refine D23 _ _ _ _ _ _ _ _ _ _ _ _ _ _ _ _ _ _ _ _ _ _ w _ ?_
  unfold F23
  refine nwL fun b1 w1 hb1 q1 _ _ _ => ?_
  have A : AtC w1 (Addr.mk b1 0 none) (pf (pfOf a s)) := IsPf.at hb1
  refine ⟨fun i w' => 0 ≤ i ∧ i ≤ 13 ∧ w1 = w', fun i _ => (13 - i).toNat, ⟨by omega, by omega, rfl⟩, ?_⟩
  rintro i w2 ⟨i0, i1, rfl⟩
  refine A.ld (j := 12) rfl ⟨fun hi => A.ld (j := 12) rfl ?_, fun hi => A.ld (j := 12) rfl (jp_and (fun _ J hJ => A.ld (j := 0) rfl hJ) ⟨fun g => ?_, q1⟩)⟩
  · rw [Bool.and_eq_true] at hi
    have h1 : i < (s.len : Int) := of_decide_eq_true hi.1
    have h2 := of_decide_eq_true hi.2
    obtain ⟨x, hx⟩ := getq (l := a.types) i0 (by omega)
    refine (h.keepQ q1).ixx i0 hx fun p hat _ => hat.ld0 rfl ⟨fun _ => ⟨fun g => (by cases g), q1⟩, fun _ => ?_⟩
    rw [w64 (by omega) (by omega)]
    exact ⟨⟨by omega, by omega, rfl⟩, by (try dsimp only); omega⟩
  · rw [Bool.and_eq_true] at g
    have g : (s.len : Int) ≤ 12 := of_decide_eq_true g.1
    omega
end Go.Proofs.Ytadlnbdelkbboaa
