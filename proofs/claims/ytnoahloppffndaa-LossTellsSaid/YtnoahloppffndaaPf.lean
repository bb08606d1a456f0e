import Derived.Test.YtnoahloppffndaaPd
namespace Go.Proofs.Ytnoahloppffndaa
open Go.Dec Go.RowKit
set_option maxHeartbeats 400000
set_option maxRecDepth 10000

theorem rletter_c (w : World) (c : Int) : callC Try.prog 64 #[.int .u8 c] (fun (r : Bool) => .bool r) w fun r w' => r = lett c ∧ w = w' := by
  refine D64 _ w _ ?_
  unfold F64
  exact ⟨rfl, rfl⟩
theorem rdigit_c (w : World) (c : Int) : callC Try.prog 65 #[.int .u8 c] (fun (r : Bool) => .bool r) w fun r w' => r = digi c ∧ w = w' := by
  refine D65 _ w _ ?_
  unfold F65
  exact ⟨rfl, rfl⟩
theorem rword_c (w : World) (s : ByteArray) : callC Try.prog 59 #[.string s] (fun (r : Bool) => .bool r) w fun r w' => r = wordP s ∧ w = w' := by
  have hl := bytesOf_len s
  refine D59 _ w _ ?_
  unfold F59
  refine jn.mk (fun r w' => r = !(decide (1 ≤ s.size ∧ s.size ≤ 20) && lett ((bytesOf s).headD 0)) ∧ w = w') ⟨fun g => ⟨?_, rfl⟩, fun g => ?_⟩ ?_
  · have : ¬ (1 ≤ s.size ∧ s.size ≤ 20) := by
      rw [Bool.or_eq_true] at g
      rcases g with g | g <;> (have := of_decide_eq_true g; omega)
    rw [decide_eq_false this]
    rfl
  · rw [Bool.or_eq_false_iff] at g
    have g1 := of_decide_eq_false g.1
    have g2 := of_decide_eq_false g.2
    refine rn_sidx (by decide) (headD_at (by omega)) (use_same (rletter_c w _) ⟨?_, rfl⟩)
    rw [decide_eq_true (show 1 ≤ s.size ∧ s.size ≤ 20 by omega), Bool.true_and]
  rintro c w' ⟨rfl, rfl⟩
  refine ⟨fun g => ⟨?_, rfl⟩, fun g => ?_⟩
  · unfold wordP
    rw [← Bool.and_assoc, (by simpa only [Bool.not_eq_true'] using g : (decide (1 ≤ s.size ∧ s.size ≤ 20) && lett ((bytesOf s).headD 0)) = false)]
    rfl
  have g' : (decide (1 ≤ s.size ∧ s.size ≤ 20) && lett ((bytesOf s).headD 0)) = true := by simpa only [Bool.not_eq_false'] using g
  have g2 := g'
  rw [Bool.and_eq_true] at g2
  have hsz := of_decide_eq_true g2.1
  refine ⟨fun i w' => 1 ≤ i ∧ i ≤ (bytesOf s).length ∧ ((bytesOf s).take i.toNat).all (fun c => lett c || digi c) = true ∧ w = w', fun i _ => ((bytesOf s).length - i).toNat, ⟨by omega, by omega, ?_, rfl⟩, ?_⟩
  · cases hb : bytesOf s with
    | nil => rfl
    | cons x l =>
      rw [hb] at g2
      simp [show lett x = true from g2.2]
  rintro i w' ⟨i0, i1, hall, rfl⟩
  refine ⟨fun hi => ?_, fun hi => ⟨?_, rfl⟩⟩
  · have hi := of_decide_eq_true hi
    obtain ⟨x, hx⟩ := getq (l := bytesOf s) (i := i) (by omega) (by omega)
    refine rn_sidx (by omega) hx (use_same (rletter_c w x) (jn.mk (fun r w' => r = !(lett x || digi x) ∧ w = w') ⟨fun g => rn_sidx (by omega) hx (use_same (rdigit_c w x) ⟨?_, rfl⟩), fun g => ⟨?_, rfl⟩⟩ ?_))
    · have g : lett x = false := by simpa using g
      rw [g]
      rfl
    · have g : lett x = true := by simpa using g
      rw [g]
      rfl
    rintro c w' ⟨rfl, rfl⟩
    refine ⟨fun g => ⟨?_, rfl⟩, fun g => ?_⟩
    · unfold wordP
      rw [← Bool.and_assoc, g', Bool.true_and]
      refine (List.all_eq_false.2 ⟨x, List.mem_of_getElem? hx, ?_⟩).symm
      simpa only [Bool.not_eq_true', Bool.not_eq_true] using g
    · rw [w64 (by omega) (by omega)]
      refine ⟨⟨by omega, by omega, ?_, rfl⟩, by (try dsimp only); omega⟩
      rw [toNat_succ (by omega), take_next hx, List.all_append, hall]
      have g : (lett x || digi x) = true := by simpa only [Bool.not_eq_false'] using g
      simp only [List.all_cons, List.all_nil, Bool.and_true, Bool.true_and]
      exact g
  · rw [List.take_of_length_le (by have := of_decide_eq_false hi; omega)] at hall
    unfold wordP
    rw [← Bool.and_assoc, g', hall]
    rfl
theorem rwithin_c (w : World) (n a b : Int) : callC Try.prog 58 #[.int .i64 n, .int .i64 a, .int .i64 b] (fun (r : Bool) => .bool r) w fun r w' => r = decide (a ≤ n ∧ n ≤ b) ∧ w = w' := by
  refine D58 _ _ _ w _ ?_
  unfold F58
  exact ⟨by rw [Bool.decide_and], rfl⟩
def KindsA (a : Ap) : Prop := ((((((a.edit = 0 ∨ a.edit = 2) ∧ (0 ≤ a.delete ∧ a.delete ≤ 2)) ∧ (0 ≤ a.thread ∧ a.thread ≤ 2)) ∧ (0 ≤ a.join ∧ a.join ≤ 2)) ∧ (0 ≤ a.history ∧ a.history ≤ 1)) ∧ (0 ≤ a.remove ∧ a.remove ≤ 1)) ∧ (0 ≤ a.level ∧ a.level ≤ 4)
def NumbersA (a : Ap) : Prop := (((((((numOK a.within ∧ numOK a.size) ∧ numOK a.parts) ∧ numOK a.files) ∧ numOK a.bytes) ∧ numOK a.rate) ∧ numOK a.down) ∧ numOK a.window) ∧ numOK a.keep
instance (a : Ap) : Decidable (KindsA a) := by unfold KindsA; infer_instance
instance (a : Ap) : Decidable (NumbersA a) := by unfold NumbersA; infer_instance
theorem right_iff (a : Ap) : RightA a ↔ (KindsA a ∧ NumbersA a ∧ wordP a.name = true ∧ ¬ (a.edit = 0 ∧ ¬ a.within = 0)) ∧ typesOK a := by
  unfold RightA KindsA NumbersA nums9 pairs6
  simp only [List.mem_cons, List.not_mem_nil, or_false, forall_eq_or_imp, forall_eq]
  unfold numOK
  generalize typesOK a = t
  generalize (wordP a.name = true) = n
  constructor
  · rintro ⟨h1, h2, ⟨h3, h4, h5⟩, h6⟩
    refine ⟨⟨?_, ?_, h3, ?_⟩, h6⟩ <;> omega
  · rintro ⟨⟨h1, h2, h3, h4⟩, h6⟩
    refine ⟨?_, ?_, ⟨h3, ?_, ?_⟩, h6⟩ <;> omega
theorem rright_c (w : World) (a : Ap) (s : Sl) (h : Rd w cb 1 s a.types) : callC Try.prog 50 #[pfv (pfOf a s)] (fun (r : Bool) => .bool r) w fun r w' => r = decide (RightA a) ∧ Quiet w w' := by
  have hsl := h.len
  refine D50 _ _ _ _ _ _ _ _ _ _ _ _ _ _ _ _ _ _ _ _ _ _ w _ ?_
  unfold F50
  refine nwL fun b1 w1 hb1 q1 _ _ _ => ?_
  have hb : IsPf w1 b1 (pfOf a s) := hb1
  have hA : ∀ w', Quiet w1 w' → AtC w' (Addr.mk b1 0 none) (pf (pfOf a s)) := fun w' q => (hb.keepQ q).at
  have q := Only.refl (fun _ => False) w1
  refine (hA _ q).ld (j := 1) rfl (jp_or (fun _ J hJ => (hA _ q).ld (j := 1) rfl hJ) ?_)
  refine jn_and (fun _ J hJ => (hA _ q).ld (j := 3) rfl (use_same (rwithin_c _ _ _ _) (hJ _ (Only.refl _ _)))) fun w103 q103 => ?_
  replace q := q.tr q103
  refine jn_and (fun _ J hJ => (hA _ q).ld (j := 5) rfl (use_same (rwithin_c _ _ _ _) (hJ _ (Only.refl _ _)))) fun w105 q105 => ?_
  replace q := q.tr q105
  refine jn_and (fun _ J hJ => (hA _ q).ld (j := 13) rfl (use_same (rwithin_c _ _ _ _) (hJ _ (Only.refl _ _)))) fun w113 q113 => ?_
  replace q := q.tr q113
  refine jn_and (fun _ J hJ => (hA _ q).ld (j := 14) rfl (use_same (rwithin_c _ _ _ _) (hJ _ (Only.refl _ _)))) fun w114 q114 => ?_
  replace q := q.tr q114
  refine jn_and (fun _ J hJ => (hA _ q).ld (j := 15) rfl (use_same (rwithin_c _ _ _ _) (hJ _ (Only.refl _ _)))) fun w115 q115 => ?_
  replace q := q.tr q115
  refine jn_and (fun _ J hJ => (hA _ q).ld (j := 16) rfl (use_same (rwithin_c _ _ _ _) (hJ _ (Only.refl _ _)))) fun w116 q116 => ?_
  replace q := q.tr q116
  refine (hA _ q).ld (j := 2) rfl (use_same (rwithin_c _ _ _ _) ?_)
  refine jn_and (fun _ J hJ => (hA _ q).ld (j := 8) rfl (use_same (rwithin_c _ _ _ _) (hJ _ (Only.refl _ _)))) fun w108 q208 => ?_
  replace q := q.tr q208
  refine jn_and (fun _ J hJ => (hA _ q).ld (j := 9) rfl (use_same (rwithin_c _ _ _ _) (hJ _ (Only.refl _ _)))) fun w109 q209 => ?_
  replace q := q.tr q209
  refine jn_and (fun _ J hJ => (hA _ q).ld (j := 10) rfl (use_same (rwithin_c _ _ _ _) (hJ _ (Only.refl _ _)))) fun w110 q210 => ?_
  replace q := q.tr q210
  refine jn_and (fun _ J hJ => (hA _ q).ld (j := 11) rfl (use_same (rwithin_c _ _ _ _) (hJ _ (Only.refl _ _)))) fun w111 q211 => ?_
  replace q := q.tr q211
  refine jn_and (fun _ J hJ => (hA _ q).ld (j := 18) rfl (use_same (rwithin_c _ _ _ _) (hJ _ (Only.refl _ _)))) fun w118 q218 => ?_
  replace q := q.tr q218
  refine jn_and (fun _ J hJ => (hA _ q).ld (j := 19) rfl (use_same (rwithin_c _ _ _ _) (hJ _ (Only.refl _ _)))) fun w119 q219 => ?_
  replace q := q.tr q219
  refine jn_and (fun _ J hJ => (hA _ q).ld (j := 20) rfl (use_same (rwithin_c _ _ _ _) (hJ _ (Only.refl _ _)))) fun w120 q220 => ?_
  replace q := q.tr q220
  refine jn_and (fun _ J hJ => (hA _ q).ld (j := 21) rfl (use_same (rwithin_c _ _ _ _) (hJ _ (Only.refl _ _)))) fun w121 q221 => ?_
  replace q := q.tr q221
  refine jn_or (fun _ J hJ => (hA _ q).ld (j := 0) rfl (use_same (rword_c _ _) (hJ _ (Only.refl _ _)))) fun w300 q300 => ?_
  replace q := q.tr q300
  refine jp_or (fun _ J hJ => (hA _ q).ld (j := 1) rfl (jp_and (fun _ J hJ => (hA _ q).ld (j := 2) rfl hJ) hJ)) (cnd_c (d := !(decide (KindsA a ∧ NumbersA a ∧ wordP a.name = true ∧ ¬ (a.edit = 0 ∧ ¬ a.within = 0)))) ?_ ⟨fun g => ⟨?_, q1.tr q⟩, fun g => ?_⟩)
  · rw [Bool.eq_iff_iff, Bool.not_eq_true', decide_eq_false_iff_not]
    simp only [Bool.or_eq_true, Bool.and_eq_true, Bool.not_eq_true', decide_eq_true_eq, Bool.not_eq_eq_eq_not, Bool.not_true, Bool.or_eq_false_iff, Bool.and_eq_false_iff, decide_eq_false_iff_not]
    unfold KindsA NumbersA numOK
    by_cases hw : wordP a.name = true
    · have hw' : wordP (pfOf a s).name = true := hw
      simp only [hw, hw', true_and, reduceCtorEq, or_false]
      simp only [pfOf]
      omega
    · exact ⟨fun _ c => hw c.2.2.1, fun _ => .inl (.inr (Bool.eq_false_iff.2 hw))⟩
  · have g := nd g
    exact (decide_eq_false fun c => g ((right_iff a).1 c).1).symm
  have g := nt g
  have hfin : decide (RightA a) = decide (typesOK a) := by
    rw [decide_eq_decide, right_iff]
    exact ⟨fun c => c.2, fun c => ⟨g, c⟩⟩
  rw [hfin]
  refine (hA _ q).ld (j := 10) rfl ⟨fun k => (hA _ q).ld (j := 11) rfl (jp.val (decide (typesOK a)) ⟨fun k2 => (hA _ q).ld (j := 12) rfl ?_, fun k2 => ?_⟩ ⟨rfl, q1.tr q⟩), fun k => (hA _ q).ld (j := 12) rfl (jp_or (fun _ J hJ => (hA _ q).ld (j := 12) rfl hJ) ⟨fun k2 => ⟨?_, q1.tr q⟩, fun k2 => ?_⟩)⟩
  · have k : a.files = 0 := of_decide_eq_true k
    have k2 : a.bytes = 0 := of_decide_eq_true k2
    show decide ((s.len : Int) = 0) = decide _
    rw [decide_eq_decide, hsl]
    unfold typesOK
    rw [if_pos k]
    omega
  · have k : a.files = 0 := of_decide_eq_true k
    have k2 : ¬ a.bytes = 0 := of_decide_eq_false k2
    refine (decide_eq_false fun c => ?_).symm
    unfold typesOK at c
    rw [if_pos k] at c
    exact k2 c.1
  · have k : ¬ a.files = 0 := of_decide_eq_false k
    refine (decide_eq_false fun c => ?_).symm
    unfold typesOK at c
    rw [if_neg k] at c
    rw [Bool.or_eq_true] at k2
    rcases k2 with k2 | k2
    · have k2 : (s.len : Int) < 1 := of_decide_eq_true k2
      omega
    · have k2 : 20 < (s.len : Int) := of_decide_eq_true k2
      omega
  have k : ¬ a.files = 0 := of_decide_eq_false k
  have k2 : 1 ≤ a.types.length ∧ a.types.length ≤ 20 := by
    rw [Bool.or_eq_false_iff] at k2
    have k3 : ¬ (s.len : Int) < 1 := of_decide_eq_false k2.1
    have k4 : ¬ 20 < (s.len : Int) := of_decide_eq_false k2.2
    omega
  refine ⟨fun i w' => 0 ≤ i ∧ i ≤ a.types.length ∧ (∀ t ∈ a.types.take i.toNat, wordP t = true) ∧ Quiet w1 w', fun i _ => (a.types.length - i).toNat, ⟨by omega, by omega, by simp, q⟩, ?_⟩
  clear q
  rintro i w33 ⟨i0, i1, hno, q⟩
  refine (hA _ q).ld (j := 12) rfl ⟨fun hi => (hA _ q).ld (j := 12) rfl ?_, fun hi => ⟨?_, q1.tr q⟩⟩
  · have hi : i < (s.len : Int) := of_decide_eq_true hi
    obtain ⟨x, hx⟩ := getq (l := a.types) i0 (by omega)
    refine (h.keepQ (q1.tr q)).ixx i0 hx fun p hat _ => hat.ld0 rfl (use_same (rword_c _ x) ⟨fun g2 => ⟨?_, q1.tr q⟩, fun g2 => ?_⟩)
    · refine (decide_eq_false fun c => ?_).symm
      unfold typesOK at c
      rw [if_neg k] at c
      rw [c.2.2 x (List.mem_of_getElem? hx)] at g2
      cases g2
    · rw [w64 (by omega) (by omega)]
      refine ⟨⟨by omega, by omega, ?_, q⟩, by (try dsimp only); omega⟩
      rw [toNat_succ i0, take_next hx]
      intro t ht
      rcases List.mem_append.1 ht with e | e
      · exact hno t e
      · rw [List.mem_singleton.1 e]
        simpa using g2
  · rw [List.take_of_length_le (by
      have hi : ¬ i < (s.len : Int) := of_decide_eq_false hi
      omega)] at hno
    refine (decide_eq_true ?_).symm
    unfold typesOK
    rw [if_neg k]
    exact ⟨k2.1, k2.2, hno⟩

theorem rcheck_c (w : World) (a : Ap) (s : Sl) (h : Rd w cb 1 s a.types) : callC Try.prog 27 #[pfv (pfOf a s)] (fun (r : Int) => .int .i64 r) w fun r w' => r = CheckA a ∧ Quiet w w' := by
  have hsl := h.len
  refine D27 _ _ _ _ _ _ _ _ _ _ _ _ _ _ _ _ _ _ _ _ _ _ w _ ?_
  unfold F27
  refine nwL fun b1 w1 hb1 q1 _ _ _ => ?_
  have hb : IsPf w1 b1 (pfOf a s) := hb1
  refine pf_ld hb.at ((rright_c w1 a s (h.keepQ q1)).use ?_)
  rintro r24 w2 ⟨rfl, q2⟩
  have q02 := q1.tr q2
  unfold CheckA
  refine ⟨fun g => ⟨?_, q02⟩, fun g => ?_⟩
  · rw [if_pos (nd g)]
  have hR := nt g
  have hlen := right_len hR
  rw [if_neg (fun c => c hR)]
  have hb2 := hb.keepQ q2
  have A := hb2.at
  have hz : ((s.len : Int) = 0) ↔ a.types.length = 0 := by omega
  refine A.ld (j := 8) rfl (jp_or (fun _ J hJ => A.ld (j := 8) rfl hJ) (jp_or (fun _ J hJ => A.ld (j := 9) rfl hJ) (jp_or (fun _ J hJ => A.ld (j := 9) rfl hJ) (jp_or (fun _ J hJ => A.ld (j := 10) rfl hJ) (jp_or (fun _ J hJ => A.ld (j := 11) rfl hJ)
    (cnd_c (d := !decide ((40 ≤ a.size ∧ a.size ≤ 4000) ∧ (1 ≤ a.parts ∧ a.parts ≤ 20) ∧ a.files ≤ 4 ∧ a.bytes ≤ 65536)) ?_ ⟨fun g => ⟨?_, q02⟩, fun g => ?_⟩))))))
  · rw [Bool.eq_iff_iff, Bool.not_eq_true', decide_eq_false_iff_not]
    simp only [Bool.or_eq_true, decide_eq_true_eq]
    simp only [pfOf]
    omega
  · have g := nd g
    rw [if_pos (fun c : RangeA a => g ⟨c.1, c.2.1, c.2.2.1, c.2.2.2.1⟩)]
  have g1 := nt g
  refine A.ld (j := 18) rfl (jp_or (fun _ J hJ => A.ld (j := 19) rfl (jp_and (fun _ J hJ => A.ld (j := 19) rfl (A.ld (j := 20) rfl hJ)) hJ)) (cnd_c (d := !decide (1 ≤ a.rate ∧ ¬ (a.down ≠ 0 ∧ a.window ≤ a.down))) ?_ ⟨fun g => ⟨?_, q02⟩, fun g => ?_⟩))
  · rw [Bool.eq_iff_iff, Bool.not_eq_true', decide_eq_false_iff_not]
    simp only [Bool.or_eq_true, Bool.and_eq_true, Bool.not_eq_true', decide_eq_true_eq, decide_eq_false_iff_not]
    simp only [pfOf]
    omega
  · have g := nd g
    rw [if_pos (fun c : RangeA a => g ⟨c.2.2.2.2.1, c.2.2.2.2.2.1⟩)]
  have g2 := nt g
  refine A.ld (j := 10) rfl (jp_and (fun _ J hJ => A.ld (j := 11) rfl hJ) (jp_and (fun _ J hJ => A.ld (j := 12) rfl hJ) (jp_and (fun _ J hJ => A.ld (j := 10) rfl (jp_or (fun _ J hJ => A.ld (j := 11) rfl hJ) (jp_or (fun _ J hJ => A.ld (j := 12) rfl hJ) hJ))) (cnd_c (d := !decide (TogA a)) ?_ ⟨fun g => ⟨?_, q02⟩, fun g => ?_⟩))))
  · rw [Bool.eq_iff_iff, Bool.not_eq_true', decide_eq_false_iff_not]
    simp only [Bool.or_eq_true, Bool.and_eq_true, Bool.not_eq_true', decide_eq_true_eq, decide_eq_false_iff_not, Bool.and_eq_false_iff]
    unfold TogA
    simp only [pfOf]
    omega
  · have g := nd g
    rw [if_pos (fun c : RangeA a => g c.2.2.2.2.2.2)]
  have hRA : RangeA a := ⟨g1.1, g1.2.1, g1.2.2.1, g1.2.2.2, g2.1, g2.2, nt g⟩
  rw [if_neg (fun c => c hRA)]
  have h2 := h.keepQ q02
  refine ⟨fun i w' => 0 ≤ i ∧ i ≤ a.types.length ∧ (a.types.take i.toNat).Nodup ∧ Quiet w2 w', fun i _ => (a.types.length - i).toNat, ⟨by omega, by omega, by simp, Only.refl _ _⟩, ?_⟩
  rintro i w3 ⟨i0, i1, hno, q3⟩
  refine (hb2.keepQ q3).at.ld (j := 12) rfl ⟨fun hi => ?_, fun hi => ⟨?_, q02.tr q3⟩⟩
  · have hlt : i < a.types.length := by
      have hi : i < (s.len : Int) := of_decide_eq_true hi
      omega
    obtain ⟨x, hx⟩ := getq i0 hlt
    have hnn := nodup_next hx
    refine ⟨fun k w' => 0 ≤ k ∧ k ≤ i ∧ x ∉ a.types.take k.toNat ∧ Quiet w2 w', fun k _ => (i - k).toNat, ⟨by omega, by omega, by simp, q3⟩, ?_⟩
    rintro k w4 ⟨k0, k1, hk, q4⟩
    refine ⟨fun hki => ?_, fun hki => ?_⟩
    · have hki := of_decide_eq_true hki
      obtain ⟨y, hy⟩ := getq (l := a.types) k0 (by omega)
      refine jn.mk (fun c w' => c = decide (x = y) ∧ Quiet w2 w') ?_ ?_
      · show tk w4 _
        unfold tk
        have qd := q4.tr (Only.drew (fun _ => False) w4)
        have A := (hb2.keepQ qd).at
        exact A.ld (j := 12) rfl ((h2.keepQ qd).ixx i0 hx fun p hat _ => hat.ld0 rfl (A.ld (j := 12) rfl ((h2.keepQ qd).ixx k0 hy fun p hat _ => hat.ld0 rfl ⟨beqS_eq x y, qd⟩)))
      rintro c w6 ⟨rfl, q6⟩
      refine ⟨fun g => ⟨?_, q02.tr q6⟩, fun g => ?_⟩
      · have g := of_decide_eq_true g
        rw [if_pos]
        intro hd
        refine (hnn.1 (List.Sublist.nodup (List.take_sublist _ _) hd)).2 ?_
        rw [g]
        refine List.mem_of_getElem? (i := k.toNat) ?_
        rw [List.getElem?_take_of_lt (by omega)]
        exact hy
      · have g := of_decide_eq_false g
        rw [w64 (by omega) (by omega)]
        refine ⟨⟨by omega, by omega, ?_, q6⟩, by (try dsimp only); omega⟩
        rw [toNat_succ k0, take_next hy]
        simp only [List.mem_append, List.mem_singleton, not_or]
        exact ⟨hk, g⟩
    · have hki := of_decide_eq_false hki
      have : k = i := by omega
      subst this
      rw [w64 (by omega) (by omega)]
      refine ⟨⟨by omega, by omega, ?_, q4⟩, by (try dsimp only); omega⟩
      rw [toNat_succ i0]
      exact hnn.2 ⟨hno, hk⟩
  · rw [List.take_of_length_le (by
      have hi : ¬ i < (s.len : Int) := of_decide_eq_false hi
      omega)] at hno
    rw [if_neg (fun c => c hno)]

end Go.Proofs.Ytnoahloppffndaa
