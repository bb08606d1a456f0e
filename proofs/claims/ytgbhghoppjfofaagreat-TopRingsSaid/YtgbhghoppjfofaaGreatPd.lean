import Derived.Test.YtgbhghoppjfofaaGreatPc
namespace Go.Proofs.YtgbhghoppjfofaaGreat
open Go.Dec Go.RowKit
set_option maxHeartbeats 400000
set_option maxRecDepth 10000

theorem within_c (w : World) (n a b : Int) : callC Tryz.prog 71 #[.int .i64 n, .int .i64 a, .int .i64 b] (fun (r : Bool) => .bool r) w fun r w' => r = decide (a ≤ n ∧ n ≤ b) ∧ w = w' := by
  refine D71 _ _ _ w _ ?_
  unfold F71
  exact ⟨by rw [Bool.decide_and], rfl⟩
def TogA (a : Ap) : Prop := (a.files = 0 ↔ a.bytes = 0) ∧ (a.files = 0 ↔ a.types.length = 0)
instance (a : Ap) : Decidable (TogA a) := by unfold TogA; infer_instance
theorem together_c (w : World) (a : Ap) (s : Sl) (h : s.len = a.types.length) : callC Tryz.prog 72 #[pfv (pfOf a s)] (fun (r : Bool) => .bool r) w fun r w' => r = decide (TogA a) ∧ Quiet w w' := by
  refine D72 _ _ _ _ _ _ _ _ _ _ _ _ _ _ _ _ _ _ _ _ _ _ w _ ?_
  unfold F72
  refine nwL fun b1 w1 hb1 q1 _ _ _ => ?_
  have A : AtC w1 (Addr.mk b1 0 none) (pf (pfOf a s)) := IsPf.at hb1
  refine A.ld (j := 10) rfl (A.ld (j := 11) rfl (jp_and (fun _ J hJ => A.ld (j := 10) rfl (A.ld (j := 12) rfl hJ)) ⟨?_, q1⟩))
  have h' : ((s.len : Int) = 0) ↔ a.types.length = 0 := by omega
  unfold TogA
  show ((decide (a.files = 0) == decide (a.bytes = 0)) && (decide (a.files = 0) == decide ((s.len : Int) = 0))) = _
  rw [(decide_eq_decide.2 h' : decide ((s.len : Int) = 0) = decide (a.types.length = 0)), Bool.eq_iff_iff]
  simp
def RangeA (a : Ap) : Prop := (40 ≤ a.size ∧ a.size ≤ 4000) ∧ (1 ≤ a.parts ∧ a.parts ≤ 20) ∧ a.files ≤ 4 ∧ a.bytes ≤ 65536 ∧ 1 ≤ a.rate ∧ ¬ (a.down ≠ 0 ∧ a.window ≤ a.down) ∧ TogA a
instance (a : Ap) : Decidable (RangeA a) := by unfold RangeA; infer_instance
instance nodupBA (l : List ByteArray) : Decidable l.Nodup := @List.nodupDecidable _ inferInstance l
def CheckA (a : Ap) : Int := if ¬ RightA a then 1 else if ¬ RangeA a then 3 else if ¬ a.types.Nodup then 5 else 0
theorem right_len {a : Ap} (h : RightA a) : a.types.length ≤ 20 := by
  have h := h.2.2.2
  unfold typesOK at h
  split at h
  · omega
  · exact h.2.1
theorem nodup_next {l : List ByteArray} {i : Nat} {x : ByteArray} (h : l[i]? = some x) : (l.take (i + 1)).Nodup ↔ (l.take i).Nodup ∧ x ∉ l.take i := by
  rw [take_next h, List.nodup_append]
  simp
  intro h1
  exact ⟨fun h2 hx => h2 x hx rfl, fun h2 a ha e => h2 (e ▸ ha)⟩
theorem ap22S : appOK Tryz.prog 63 9 1 16 = true := by kernel_rfl
theorem check_c (w : World) (a : Ap) (s : Sl) (h : Rd w cb 1 s a.types) (hc : s.len ≤ s.cap) : callC Tryz.prog 47 #[pfv (pfOf a s)] (fun (r : Int) => .int .i64 r) w fun r w' => r = CheckA a ∧ Quiet w w' := by
  have hsl := h.len
  refine D47 _ _ _ _ _ _ _ _ _ _ _ _ _ _ _ _ _ _ _ _ _ _ w _ ?_
  unfold F47
  refine nwL fun b1 w1 hb1 q1 _ _ _ => ?_
  have hb : IsPf w1 b1 (pfOf a s) := hb1
  refine pf_ld hb.at ((right_c w1 a s (h.keepQ q1)).use ?_)
  rintro r24 w2 ⟨rfl, q2⟩
  have q02 := q1.tr q2
  unfold CheckA
  refine ⟨fun g => ⟨?_, q02⟩, fun g => ?_⟩
  · rw [if_pos (nd g)]
  have hR := nt g
  have hlen := right_len hR
  rw [if_neg (fun c => c hR)]
  have A := (hb.keepQ q2).at
  refine A.ld (j := 8) rfl (use_same (within_c _ _ _ _) (jn_or (fun _ J hJ => A.ld (j := 9) rfl (use_same (within_c _ _ _ _) (hJ _ (Only.refl _ _)))) fun w5 q5 => ?_))
  have A := (hb.keepQ (q2.tr q5)).at
  refine jp_or (fun _ J hJ => A.ld (j := 10) rfl hJ) (jp_or (fun _ J hJ => A.ld (j := 11) rfl hJ) (jp_or (fun _ J hJ => A.ld (j := 18) rfl hJ) (jp_or (fun _ J hJ => A.ld (j := 19) rfl (jp_and (fun _ J hJ => A.ld (j := 19) rfl (A.ld (j := 20) rfl hJ)) hJ)) (jn_or (fun _ J hJ => pf_ld A ((together_c w5 a s hsl).use fun r w6 ⟨e, q⟩ => e ▸ hJ w6 q)) fun w7 q7 => ?_))))
  have q07 := (q02.tr q5).tr q7
  refine cnd_c (d := !decide (RangeA a)) ?_ ⟨fun g => ⟨?_, q07⟩, fun g => ?_⟩
  · rw [Bool.eq_iff_iff, Bool.not_eq_true', decide_eq_false_iff_not]
    simp only [Bool.or_eq_true, Bool.and_eq_true, Bool.not_eq_true', decide_eq_true_eq, decide_eq_false_iff_not]
    unfold RangeA
    show ((((((¬ (40 ≤ a.size ∧ a.size ≤ 4000) ∨ ¬ (1 ≤ a.parts ∧ a.parts ≤ 20)) ∨ 4 < a.files) ∨ 65536 < a.bytes) ∨ a.rate < 1) ∨ (¬ a.down = 0 ∧ a.window ≤ a.down)) ∨ ¬ TogA a) ↔ _
    generalize TogA a = t
    constructor
    · rintro hx ⟨y1, y2, y3, y4, y5, y6, y7⟩
      rcases hx with ((((((hx | hx) | hx) | hx) | hx) | hx) | hx)
      · exact hx y1
      · exact hx y2
      · omega
      · omega
      · omega
      · exact y6 hx
      · exact hx y7
    · intro hx
      by_cases ht : t
      · refine .inl ?_
        refine Decidable.byContradiction fun hn => hx ⟨?_, ?_, ?_, ?_, ?_, ?_, ht⟩ <;> omega
      · exact .inr ht
  · rw [if_pos (nd g)]
  rw [if_neg (fun c => c (nt g))]
  have A := (hb.keepQ ((q2.tr q5).tr q7)).at
  have h7 := h.keepQ q07
  refine A.ld (j := 12) rfl ?_
  refine ⟨fun i w' => 0 ≤ i ∧ i ≤ a.types.length ∧ (a.types.take i.toNat).Nodup ∧ w7 = w', fun i _ => (a.types.length - i).toNat, ⟨by omega, by omega, by simp, rfl⟩, ?_⟩
  rintro i w8 ⟨i0, i1, hno, rfl⟩
  refine ⟨fun hi => ?_, fun hi => ⟨?_, q07⟩⟩
  · have hlt : i < a.types.length := by
      have hi : i < (s.len : Int) := of_decide_eq_true hi
      omega
    obtain ⟨x, hx⟩ := getq i0 hlt
    have hnn := nodup_next hx
    refine h7.ixx i0 hx fun p hat _ => hat.ld0 rfl (A.ld (j := 12) rfl (rn_upto ap22S h7 hc i0 (by omega) fun r87 h87 _ _ => use_same (contains_c w7 r87 _ x h87 (by rw [List.length_take]; omega)) ⟨fun g2 => ⟨?_, q07⟩, fun g2 => ?_⟩))
    · have g2 := of_decide_eq_true g2
      rw [if_pos]
      intro hd
      exact (hnn.1 (List.Sublist.nodup (List.take_sublist _ _) hd)).2 g2
    · have g2 := of_decide_eq_false g2
      rw [w64 (by omega) (by omega)]
      refine ⟨⟨by omega, by omega, ?_, rfl⟩, by (try dsimp only); omega⟩
      rw [toNat_succ i0]
      exact hnn.2 ⟨hno, g2⟩
  · rw [List.take_of_length_le (by
      have hi : ¬ i < (s.len : Int) := of_decide_eq_false hi
      omega)] at hno
    rw [if_neg (fun c => c hno)]

end Go.Proofs.YtgbhghoppjfofaaGreat
