import Derived.Test.YtnoahloppffndaaXe
import Derived.Test.YtnoahloppffndaaPr
namespace Go.Proofs.Ytnoahloppffndaa
open Go.Dec Go.RowKit
set_option maxHeartbeats 1600000
set_option maxRecDepth 10000

theorem chk_zero {a : Ap} (hC : CheckA a = 0) (l : List Wy) (m : List Lo) : chkP a l m = 0 ↔ l = bestL a ∧ certP (bestL a) = m := by
  unfold chkP
  constructor
  · intro h
    split at h
    · rename_i h1
      exact absurd h h1
    · split at h
      · cases h
      · split at h
        · rename_i h3
          exact ⟨h3.1, by rw [← h3.1]; exact h3.2⟩
        · cases h
  · rintro ⟨rfl, rfl⟩
    rw [cert_best hC, if_neg (fun c => c rfl), if_neg (fun c => c (bestL_in a)), if_pos ⟨rfl, rfl⟩]
theorem ways_c (w : World) (s t : Sl) (l m : List Wy) (h : Rd w wy 2 s l) (h' : Rd w wy 2 t m) (hk : l.length ≤ 1000000) : callC Try.prog 19 #[s.v, t.v] (fun (r : Bool) => .bool r) w fun r w' => r = decide (l = m) ∧ Quiet w w' := by
  have hsl := h.len
  have htl := h'.len
  refine D19 _ _ w _ ?_
  unfold F19
  refine ⟨fun g => ⟨(decide_eq_false fun e => nd g (by rw [hsl, htl, e])).symm, Only.refl _ _⟩, fun g => ?_⟩
  have hlen := nt g
  refine ⟨fun i w' => 0 ≤ i ∧ i ≤ l.length ∧ l.take i.toNat = m.take i.toNat ∧ Quiet w w', fun i _ => (l.length - i).toNat, ⟨by omega, by omega, by simp, Only.refl _ _⟩, ?_⟩
  rintro i w1 ⟨i0, i1, hn, q⟩
  refine ⟨fun hi => ?_, fun hi => ?_⟩
  · have hi : i < (s.len : Int) := of_decide_eq_true hi
    obtain ⟨x, hx⟩ := getq (l := l) i0 (by omega)
    obtain ⟨y, hy⟩ := getq (l := m) i0 (by omega)
    refine jn_any' (W := w) (!decide (x = y)) ?_ fun w2 q2 => ?_
    · show tk _ _
      unfold tk
      replace q := q.tr (Only.drew (fun _ => False) _)
      exact (h.keepQ q).ixx i0 hx fun p hat _ => wy_ld hat ((h'.keepQ q).ixx i0 hy fun p hat _ => wy_ld hat ⟨by rw [wy_eqb], q⟩)
    refine ⟨fun g => ⟨(decide_eq_false fun e => nd g ?_).symm, q2⟩, fun g => ?_⟩
    · rw [e, hy] at hx
      injection hx with hx
      exact hx.symm
    · rw [w64 (by omega) (by omega)]
      refine ⟨⟨by omega, by omega, ?_, q2⟩, by (try dsimp only); omega⟩
      rw [toNat_succ i0, take_next hx, take_next hy, hn, nt g]
  · have hi : ¬ i < (s.len : Int) := of_decide_eq_false hi
    rw [List.take_of_length_le (by omega), List.take_of_length_le (by omega)] at hn
    exact ⟨(decide_eq_true hn).symm, q⟩
theorem cert_len (a : Ap) (l : List Wy) : (CertA a l).1.length ≤ l.length := by
  unfold CertA
  split
  · exact Nat.zero_le _
  · split
    · exact Nat.zero_le _
    · exact certF_len l 0
theorem one_c (w : World) (a : Ap) (s t u : Sl) (l : List Wy) (m : List Lo) (h : Rd w cb 1 s a.types) (hs : s.len ≤ s.cap) (h' : Rd w wy 2 t l) (hu : Rd w lo 3 u m) :
    callC Try.prog 4 #[pfv (pfOf a s), t.v, u.v] (fun (r : Bool) => .bool r) w fun r w' => r = true ∧ Quiet w w' := by
  have htl := h'.len
  have hul := hu.len
  refine D4 _ _ _ _ _ _ _ _ _ _ _ _ _ _ _ _ _ _ _ _ _ _ _ _ w _ ?_
  unfold F4
  refine nwL fun b9 W hb9 q0 _ _ _ => ?_
  have hb9 : IsPf W b9 (pfOf a s) := hb9
  have hA : ∀ w', Quiet W w' → AtC w' (Addr.mk b9 0 none) (pf (pfOf a s)) := fun w' q => (hb9.keepQ q).at
  replace h := h.keepQ q0
  replace h' := h'.keepQ q0
  replace hu := hu.keepQ q0
  refine (small_c W).use ?_
  rintro _ w2 ⟨rfl, q⟩
  refine pf_ld (hA _ q) ((fewp_c w2 a s (h.keepQ q)).use ?_)
  rintro r33 w3 ⟨_, q3⟩
  replace q := q.tr q3
  refine jn_orW (W := W) (v := !decide (CheckA a = 0)) q (fun _ => pf_ld (hA _ q) ((check_c w3 a s (h.keepQ q) hs).use ?_)) fun w5 q => ⟨fun _ => ⟨rfl, q0.tr q⟩, fun g => ?_⟩
  · rintro _ w4 ⟨rfl, q4⟩
    exact ⟨rfl, q.tr q4⟩
  simp only [Bool.or_eq_false_iff, Bool.not_eq_false', decide_eq_true_eq, decide_eq_false_iff_not] at g
  obtain ⟨⟨⟨_, g1⟩, g2⟩, hC⟩ := g
  refine pf_ld (hA _ q) ((compile_c w5 a s (h.keepQ q) hs).use ?_)
  rintro ⟨r87, e87⟩ w6 ⟨he, _, ho, q6⟩
  dsimp only at he ho ⊢
  rw [hC] at he
  subst he
  obtain ⟨F, ob, _⟩ := ho hC
  have rb := ob.rd wy_len (by decide)
  clear ho ob
  replace q := q.tr q6
  refine pf_ld (hA _ q) ((certify_c w6 a s r87 (bestL a) (h.keepQ q) hs rb).use ?_)
  rintro ⟨r110, e110⟩ w7 ⟨h110, _, he110, q7⟩
  dsimp only at h110 he110 ⊢
  rw [cert_best hC] at h110 he110
  subst he110
  replace q := q.tr q7
  replace rb := rb.keepQ q7
  have hcl : (certP (bestL a)).length ≤ 9 := by
    have := certF_len (bestL a) 0
    rw [bestL_len] at this
    exact this
  have R7 := Only.refl (fun _ => False) w7
  refine jn_orW (W := w7) (v := false) R7 (fun _ => pf_ld (hA _ q) ((losscheck_c w7 a s r87 r110 (bestL a) _ (h.keepQ q) hs rb h110).use ?_)) fun w9 R7 => ⟨fun g => (by cases g), fun _ => ?_⟩
  · rintro _ w8 ⟨hr, q8⟩
    obtain rfl := chk_eq hr
    refine ⟨?_, q8⟩
    rw [(chk_zero hC _ _).2 ⟨rfl, rfl⟩]
    rfl
  have Q9 := q.tr R7
  refine pf_ld (hA _ Q9) ((losscheck_c w9 a s r87 u (bestL a) m (h.keepQ Q9) hs (rb.keepQ R7) (hu.keepQ Q9)).use ?_)
  rintro _ w10 ⟨hr, q10⟩
  obtain rfl := chk_eq hr
  replace Q9 := Q9.tr q10
  replace R7 := R7.tr q10
  refine (same_c w10 u r110 m _ (hu.keepQ Q9) (h110.keepQ R7) (by omega)).use ?_
  rintro _ w11 ⟨rfl, q11⟩
  replace Q9 := Q9.tr q11
  replace R7 := R7.tr q11
  have e1 : decide (chkP a (bestL a) m = 0) = decide (m = certP (bestL a)) := decide_eq_decide.2 (by
    rw [chk_zero hC]
    exact ⟨fun e => e.2.symm, fun e => ⟨rfl, e.symm⟩⟩)
  rw [e1]
  refine ⟨fun g => by simp at g, fun _ => ?_⟩
  refine pf_ld (hA _ Q9) ((certify_c w11 a s t l (h.keepQ Q9) hs (h'.keepQ Q9)).use ?_)
  rintro ⟨r187, e187⟩ w12 ⟨h187, _, _, q12⟩
  dsimp only at h187 ⊢
  replace Q9 := Q9.tr q12
  replace R7 := R7.tr q12
  refine pf_ld (hA _ Q9) ((losscheck_c w12 a s t u l m (h.keepQ Q9) hs (h'.keepQ Q9) (hu.keepQ Q9)).use ?_)
  rintro _ w13 ⟨hr, q13⟩
  obtain rfl := chk_eq hr
  replace Q9 := Q9.tr q13
  replace R7 := R7.tr q13
  refine pf_ld (hA _ Q9) ((losscheck_c w13 a s t r187 l _ (h.keepQ Q9) hs (h'.keepQ Q9) (h187.keepQ q13)).use ?_)
  rintro _ w14 ⟨hr, q14⟩
  obtain rfl := chk_eq hr
  replace Q9 := Q9.tr q14
  replace R7 := R7.tr q14
  refine (ways_c w14 t r87 l _ (h'.keepQ Q9) (rb.keepQ R7) (by omega)).use ?_
  rintro _ w15 ⟨rfl, q15⟩
  refine ⟨?_, q0.tr (Q9.tr q15)⟩
  have e2 : decide (chkP a l (CertA a l).1 = 0) = decide (l = bestL a) := decide_eq_decide.2 (by
    rw [chk_zero hC]
    exact ⟨fun e => e.1, fun e => ⟨e, by rw [e, cert_best hC]⟩⟩)
  rw [e2]
  by_cases e : l = bestL a
  · simp [e]
  · have : ¬ chkP a l m = 0 := fun c => e ((chk_zero hC _ _).1 c).1
    simp [e, this]
theorem one (W : World) (x : Pf) (ty : List ByteArray) (h : Rd W cb 1 x.types ty) (hs : x.types.len ≤ x.types.cap) (t : Sl) (l : List Wy) (h' : Rd W wy 2 t l) (_ : ∀ ad, t.a = some ad → 0 < l.length → ad.block < W.heap.size) (_ : l.length ≤ maxLen) (u : Sl) (m : List Lo) (hu : Rd W lo 3 u m) (_ : ∀ ad, u.a = some ad → 0 < m.length → ad.block < W.heap.size) (_ : m.length ≤ maxLen) :
    callC Try.prog 4 #[pfv x, t.v, u.v] (fun (r : Bool) => .bool r) W fun r w' => r = true ∧ Below W.heap.size W w' :=
  (one_c W (apOf x ty) x.types t u l m h hs h' hu).use fun _ _ h => ⟨h.1, bq h.2⟩
end Go.Proofs.Ytnoahloppffndaa
