import Derived.Test.YtkacfhhpmpmhkaaCi
import Derived.Test.YtkacfhhpmpmhkaaPr
namespace Go.Proofs.Ytkacfhhpmpmhkaa
open Go.Dec Go.RowKit
set_option maxHeartbeats 1600000
set_option maxRecDepth 10000

theorem NearR.uniq {L : List Ch} {n : Int} {u : ByteArray} {T : List ByteArray} {r : Int} {a : List Nat} (h : NearR L n u T r) (k : Best L n u T a) : r = a.length := by
  rcases h with ⟨b, hb, e⟩ | ⟨hn, _⟩
  · rw [hb.uniq k] at e
    exact e
  · exact absurd hn k.not
theorem rpath_c (w : World) (s t : Sl) (L : List Ch) (u : ByteArray) (T : List ByteArray) (n : Int) (h : Rd w ch 3 s L) (h' : Rd w cb 1 t T) (hT : T.length ≤ 1000000) :
    callC Try.prog 15 #[s.v, .string u, t.v, .int .i64 n] (fun (r : Sl × Bool) => .tuple #[Sl.v r.1, .bool r.2]) w fun r w' => ∃ a, Rd w' ci 1 r.1 (nz a) ∧ PathR L u T n a r.2 ∧ Quiet w w' := by
  have hsl := h.len
  refine D15 _ _ _ _ w _ ?_
  unfold F15
  refine ⟨fun g => ⟨[], Rd.nil _ _ _, .inl ⟨?_, rfl, rfl⟩, Only.refl _ _⟩, fun g => ?_⟩
  · rw [Bool.or_eq_true, decide_eq_true_eq, decide_eq_true_eq] at g
    omega
  have hg : ¬ (200 < L.length ∨ n < 0) := by
    rw [Bool.or_eq_false_iff, decide_eq_false_iff_not, decide_eq_false_iff_not] at g
    omega
  rw [hsl]
  refine (near_c w s t L u T n h h' (by omega) hT).use ?_
  rintro r4 w1 ⟨hr, q1⟩
  refine ⟨fun g => ⟨[], Rd.nil _ _ _, .inr ⟨hg, .inr ⟨rfl, rfl, ?_⟩⟩, q1⟩, fun g => ?_⟩
  · have g := of_decide_eq_true g
    rcases hr with ⟨a, _, e⟩ | ⟨hn, _⟩
    · omega
    · exact hn
  have g := of_decide_eq_false g
  obtain ⟨a0, ha0, e0⟩ : ∃ a, Best L n u T a ∧ r4 = (a.length : Int) := by
    rcases hr with h | ⟨_, e⟩
    · exact h
    · omega
  refine ⟨fun (l : ByteArray × Int × Sl) w' => ∃ F out a, OwnF w' F 3 1 l.2.2 ((nz out).flatMap ci) ∧ Fresh w w' F ∧ Best L n u T (out ++ a) ∧ Best L n l.1 T a ∧ l.2.1 = a.length, fun l _ => l.2.1.toNat, ⟨_, [], a0, OwnF.nil _ _ _ _, (Fresh.none w).keep q1, ha0, ha0, e0⟩, ?_⟩
  clear hr ha0 e0 g a0
  rintro ⟨cur, left, os⟩ w2 ⟨F, out, a, ho, fF, hb, ha, hl⟩
  dsimp only at ho ha hl ⊢
  refine ⟨fun hc => ?_, fun hc => ?_⟩
  rotate_left
  · have hc := of_decide_eq_false hc
    have : a = [] := List.length_eq_zero_iff.1 (by omega)
    subst this
    rw [List.append_nil] at hb
    exact ⟨out, ho.rd ci1 (by decide), .inr ⟨hg, .inl ⟨rfl, hb⟩⟩, fF.q⟩
  have hc := of_decide_eq_true hc
  cases a with
  | nil => simp at hl; omega
  | cons k a =>
    simp only [List.length_cons] at hl
    obtain ⟨⟨v, hv, c0, k1, k2, k3, k4⟩, hmin⟩ := id ha
    have hrest : Best L n c0.dst T a := Best.rest (a := [k]) (b := a) ha ⟨c0, k1, k2, k3, rfl⟩
    have hkl := (List.getElem?_eq_some_iff.1 k1).1
    have hbl := hb.len_le
    simp only [List.length_append, List.length_cons] at hbl
    refine ⟨fun (l : ByteArray × Int × Sl × Int) w' => l.1 = cur ∧ l.2.1 = left ∧ l.2.2.1 = os ∧ 0 ≤ l.2.2.2 ∧ l.2.2.2 ≤ k ∧ Quiet w2 w', fun l _ => (L.length - l.2.2.2).toNat, ⟨rfl, rfl, rfl, by simp, by simp, Only.refl _ _⟩, ?_⟩
    rintro ⟨cur', left', os', i⟩ w3 ⟨e1, e2, e3, i0, i1, q3⟩
    dsimp only at e1 e2 e3 i0 i1 ⊢
    subst e1 e2 e3
    refine ⟨fun hi => ?_, fun hi => ?_⟩
    rotate_left
    · have hi : ¬ i < (L.length : Int) := of_decide_eq_false hi
      omega
    have qw := fF.q.tr q3
    obtain ⟨c, hci⟩ := getq (l := L) i0 (by omega)
    have pass : c.src = cur' → n ≤ c.most → ∀ b, Best L n c.dst T b → b.length = a.length → i = k := fun g1 g2 b hb e => by
      obtain ⟨⟨x, hx, hlx⟩, _⟩ := hb
      have := hmin (i.toNat :: b) x ⟨c, hci, g1, g2, hlx⟩ hx
      rcases this with e' | e' | ⟨_, e' | ⟨e', _⟩⟩
      · injection e' with e' _
        omega
      · simp at e'
        omega
      · omega
      · omega
    refine (h.keepQ qw).ixx i0 hci fun p hat _ => ch_ld hat (ch_box fun b14 w5 hb14 q14 g14 _ => ?_)
    have A14 := hb14.at
    refine A14.ld (j := 0) rfl (jp_and (v := decide (n ≤ c.most)) (fun _ J hJ => A14.ld (j := 2) rfl hJ) ?_)
    refine jn.mk (fun r w' => (r = true ↔ c.src = cur' ∧ n ≤ c.most ∧ ∃ b, Best L n c.dst T b ∧ b.length = a.length) ∧ Quiet w5 w') ⟨fun g => ?_, fun g => ?_⟩ ?_
    · rw [Bool.and_eq_true, decide_eq_true_eq, beqS_eq, decide_eq_true_eq] at g
      refine A14.ld (j := 1) rfl ((near_c w5 s t L c.dst T n (h.keepQ (qw.tr q14)) (h'.keepQ (qw.tr q14)) (by omega) hT).use ?_)
      rintro r24 w6 ⟨hr, q6⟩
      refine ⟨?_, q6⟩
      rw [decide_eq_true_eq, w64 (by omega) (by omega)]
      constructor
      · intro e
        rcases hr with ⟨b, hb, e'⟩ | ⟨_, e'⟩
        · exact ⟨g.1, g.2, b, hb, by omega⟩
        · omega
      · rintro ⟨_, _, b, hb, e⟩
        rw [hr.uniq hb]
        omega
    · refine ⟨⟨fun e => (by cases e), fun ⟨g1, g2, _⟩ => ?_⟩, Only.refl _ _⟩
      rw [Bool.and_eq_false_iff, decide_eq_false_iff_not, beqS_eq, decide_eq_false_iff_not] at g
      rcases g with g | g
      · exact absurd g1 g
      · exact absurd g2 g
    rintro r25 w7 ⟨hr, q7⟩
    have q57 := (q3.tr q14).tr q7
    refine ⟨fun g => ?_, fun g => ?_⟩
    · obtain ⟨g1, g2, b, hbb, e⟩ := hr.1 g
      have hik := pass g1 g2 b hbb e
      have ec : c = c0 := by
        have : i.toNat = k := by omega
        rw [this, k1] at hci
        injection hci with hci
        exact hci.symm
      subst ec
      have hoL := (ho.rd ci1 (by decide)).len
      rw [nz_len] at hoL
      refine (ho.keepQ q57).push (news := ci i) ap24 rfl rfl (by unfold maxLen; omega) (by omega) fun r28 w9 F' ho' _ st' => ?_
      have f' := (fF.keep q57).stp st'
      have B9 : IsCh w9 b14 c := Blk.keep (hb14.keepQ q7) st'.only fun e => by
        have := (fF.b b14 e).2
        have := q3.size
        omega
      refine B9.at.ld (j := 1) rfl ?_
      rw [w64 (by omega) (by omega)]
      refine ⟨⟨F', out ++ [k], a, ?_, f', ?_, hrest, by (try dsimp only); omega⟩, by (try dsimp only); omega⟩
      · rw [nz_app, List.flatMap_append]
        simpa [nz, hik] using ho'
      · simpa using hb
    · rw [w64 (by omega) (by omega)]
      refine ⟨⟨rfl, rfl, rfl, by (try dsimp only); omega, ?_, q57⟩, by (try dsimp only); omega⟩
      have : i ≠ k := fun e => by
        have hik : i.toNat = k := by omega
        rw [hik, k1] at hci
        injection hci with hci
        subst hci
        have := hr.2 ⟨k2, k3, a, hrest, rfl⟩
        rw [g] at this
        cases this
      omega

/-- what a network shows -/
def FitsA (a : Ap) (k : ByteArray) (n : Int) : Prop := 0 < a.files ∧ k ∈ a.types ∧ 0 ≤ n ∧ n ≤ a.bytes
instance (a : Ap) (k : ByteArray) (n : Int) : Decidable (FitsA a k n) := by unfold FitsA; infer_instance
theorem fits_val (a : Ap) (k : ByteArray) (n : Int) : (((decide (0 < a.files) && decide (k ∈ a.types)) && decide (0 ≤ n)) && decide (n ≤ a.bytes)) = decide (FitsA a k n) := by
  rw [Bool.eq_iff_iff, decide_eq_true_eq]
  unfold FitsA
  simp only [Bool.and_eq_true, decide_eq_true_eq, and_assoc]
theorem fits_c (w : World) (a : Ap) (s : Sl) (k : ByteArray) (n : Int) (h : Rd w cb 1 s a.types) (hl : a.types.length ≤ 1000000) :
    callC Try.prog 16 #[pfv (pfOf a s), .string k, .int .i64 n] (fun (r : Bool) => .bool r) w fun r w' => r = decide (FitsA a k n) ∧ Quiet w w' := by
  refine D16 _ _ _ _ _ _ _ _ _ _ _ _ _ _ _ _ _ _ _ _ _ _ _ _ w _ ?_
  unfold F16
  refine nwL fun b1 w1 hb1 q1 _ _ _ => ?_
  have A : AtC w1 (Addr.mk b1 0 none) (pf (pfOf a s)) := IsPf.at hb1
  refine A.ld (j := 10) rfl (jn.mk (fun r w' => r = (decide (0 < a.files) && decide (k ∈ a.types)) ∧ w1 = w') ⟨fun g => A.ld (j := 12) rfl (use_same (contains_c w1 s a.types k (h.keepQ q1) hl) ⟨?_, rfl⟩), fun g => ⟨?_, rfl⟩⟩ ?_)
  · rw [show decide (0 < a.files) = true from g]
    rfl
  · rw [show decide (0 < a.files) = false from g]
    rfl
  rintro _ w3 ⟨rfl, rfl⟩
  refine jp_and (v := decide (n ≤ a.bytes)) (fun _ J hJ => A.ld (j := 11) rfl hJ) ⟨fits_val a k n, q1⟩
theorem rfits_c (w : World) (a : Ap) (s : Sl) (k : ByteArray) (n : Int) (h : Rd w cb 1 s a.types) (hl : a.types.length ≤ 1000000) :
    callC Try.prog 17 #[pfv (pfOf a s), .string k, .int .i64 n] (fun (r : Bool) => .bool r) w fun r w' => r = decide (FitsA a k n) ∧ Quiet w w' := by
  refine D17 _ _ _ _ _ _ _ _ _ _ _ _ _ _ _ _ _ _ _ _ _ _ _ _ w _ ?_
  unfold F17
  refine nwL fun b1 w1 hb1 q1 _ _ _ => ?_
  have A : AtC w1 (Addr.mk b1 0 none) (pf (pfOf a s)) := IsPf.at hb1
  refine A.ld (j := 10) rfl (jn.mk (fun r w' => r = (decide (0 < a.files) && decide (k ∈ a.types)) ∧ w1 = w') ⟨fun g => A.ld (j := 12) rfl (use_same (has_c w1 s a.types k (h.keepQ q1) hl) ⟨?_, rfl⟩), fun g => ⟨?_, rfl⟩⟩ ?_)
  · have g : 1 ≤ a.files := of_decide_eq_true g
    rw [decide_eq_true (show 0 < a.files by omega)]
    rfl
  · have g : ¬ 1 ≤ a.files := of_decide_eq_false g
    rw [decide_eq_false (show ¬ 0 < a.files by omega)]
    rfl
  rintro _ w3 ⟨rfl, rfl⟩
  refine jp_and (v := decide (n ≤ a.bytes)) (fun _ J hJ => A.ld (j := 11) rfl hJ) ⟨fits_val a k n, q1⟩
end Go.Proofs.Ytkacfhhpmpmhkaa
