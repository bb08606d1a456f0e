import Derived.Test.YtgbhghoppjfofaaGreatPa
namespace Go.Proofs.YtgbhghoppjfofaaGreat
open Go.Dec Go.RowKit
set_option maxHeartbeats 400000

/-! ### words -/
def bytesOf (s : ByteArray) : List Int := s.data.toList.map fun b : UInt8 => (b.toNat : Int)
theorem bytesOf_len (s : ByteArray) : (bytesOf s).length = s.size := by
  unfold bytesOf
  rw [List.length_map, Array.length_toList]
  rfl
theorem rn_sidx {w : World} {s : ByteArray} {i x : Int} {K : Int → World → Prop} (h0 : 0 ≤ i) (hx : (bytesOf s)[i.toNat]? = some x) (k : K x w) : rn Tryz.prog (Instr.index 9 (.string s) (.int .i64 i)) (fun r : Int => Value.int .u8 r) w K := by
  have hu : Tryz.prog.underlying 9 = some .string := by kernel_rfl
  unfold bytesOf at hx
  rw [List.getElem?_map, Option.map_eq_some_iff] at hx
  obtain ⟨b, hb, rfl⟩ := hx
  have hb' : s[i.toNat]? = some b := by
    obtain ⟨hl, he⟩ := List.getElem?_eq_some_iff.1 hb
    have hl' : i.toNat < s.size := by simpa using hl
    rw [getElem?_pos s i.toNat hl']
    congr 1
  refine ⟨(b.toNat : Int), w, ?_, k⟩
  simp [Instr.index, asIntOf, run_underlying hu, h0, hb']
def lett (c : Int) : Bool := decide (97 ≤ c) && decide (c ≤ 122)
def digi (c : Int) : Bool := decide (48 ≤ c) && decide (c ≤ 57)
def wordP (s : ByteArray) : Bool := decide (1 ≤ s.size ∧ s.size ≤ 20) && (lett ((bytesOf s).headD 0) && (bytesOf s).all fun c => lett c || digi c)
theorem letter_c (w : World) (c : Int) : callC Tryz.prog 115 #[.int .u8 c] (fun (r : Bool) => .bool r) w fun r w' => r = lett c ∧ w = w' := by
  refine D115 _ w _ ?_
  unfold F115
  exact ⟨rfl, rfl⟩
theorem digit_c (w : World) (c : Int) : callC Tryz.prog 118 #[.int .u8 c] (fun (r : Bool) => .bool r) w fun r w' => r = digi c ∧ w = w' := by
  refine D118 _ w _ ?_
  unfold F118
  exact ⟨rfl, rfl⟩
theorem ld_c (w : World) (c : Int) : callC Tryz.prog 117 #[.int .u8 c] (fun (r : Bool) => .bool r) w fun r w' => r = (lett c || digi c) ∧ w = w' := by
  refine D117 _ w _ ?_
  unfold F117
  refine (letter_c w c).use ?_
  rintro r w' ⟨rfl, rfl⟩
  refine jn.mk (fun r w' => r = (lett c || digi c) ∧ w = w') ⟨fun g => ⟨by rw [g]; rfl, rfl⟩, fun g => (digit_c w c).use ?_⟩ fun r w' h => h
  rintro r w' ⟨rfl, rfl⟩
  exact ⟨by rw [g]; rfl, rfl⟩
theorem headD_at {l : List Int} (h : 0 < l.length) : l[(0 : Int).toNat]? = some (l.headD 0) := by
  cases l with
  | nil => simp at h
  | cons x l => rfl
theorem span_c (w : World) (s : ByteArray) (hs : s.size ≤ 1000000) : callC Tryz.prog 116 #[.string s, .func (.func 117) #[] #[]] (fun (r : Int) => .int .i64 r) w fun r w' => decide (r = (s.size : Int)) = (bytesOf s).all (fun c => lett c || digi c) ∧ w = w' := by
  have hl := bytesOf_len s
  refine D116 _ _ w _ ?_
  unfold F116
  refine ⟨fun i w' => 0 ≤ i ∧ i ≤ (bytesOf s).length ∧ ((bytesOf s).take i.toNat).all (fun c => lett c || digi c) = true ∧ w = w', fun i _ => ((bytesOf s).length - i).toNat, ⟨by omega, by omega, by simp, rfl⟩, ?_⟩
  rintro i w' ⟨i0, i1, hall, rfl⟩
  refine jn.mk (fun r w' => (r = true ↔ ∃ x, (bytesOf s)[i.toNat]? = some x ∧ (lett x || digi x) = true) ∧ w = w') ⟨fun g => ?_, fun g => ⟨⟨fun e => (by cases e), fun ⟨x, hx, _⟩ => ?_⟩, rfl⟩⟩ ?_
  · have g := of_decide_eq_true g
    obtain ⟨x, hx⟩ := getq (l := bytesOf s) i0 (by omega)
    refine rn_sidx i0 hx (cv_mk (ca := []) Tryz.func117 NN_117 NB_117 rfl ((ld_c w x).use ?_))
    rintro r w' ⟨rfl, rfl⟩
    refine ⟨⟨fun e => ⟨x, hx, e⟩, fun ⟨y, hy, e⟩ => ?_⟩, rfl⟩
    rw [hx] at hy
    injection hy with hy
    rw [hy]
    exact e
  · have := (List.getElem?_eq_some_iff.1 hx).1
    have g := of_decide_eq_false g
    omega
  rintro c w' ⟨hc, rfl⟩
  refine ⟨fun g => ?_, fun g => ?_⟩
  · obtain ⟨x, hx, hx2⟩ := hc.1 g
    have := (List.getElem?_eq_some_iff.1 hx).1
    rw [w64 (by omega) (by omega)]
    refine ⟨⟨by omega, by omega, ?_, rfl⟩, by (try dsimp only); omega⟩
    rw [toNat_succ i0, take_next hx, List.all_append, hall]
    simp [hx2]
  · refine ⟨?_, rfl⟩
    by_cases hi : i = (s.size : Int)
    · rw [decide_eq_true hi]
      rw [List.take_of_length_le (by omega)] at hall
      exact hall.symm
    · rw [decide_eq_false hi]
      obtain ⟨x, hx⟩ := getq (l := bytesOf s) i0 (by omega)
      have : ¬ (lett x || digi x) = true := fun e => by
        have := hc.2 ⟨x, hx, e⟩
        rw [g] at this
        cases this
      exact (List.all_eq_false.2 ⟨x, List.mem_of_getElem? hx, this⟩).symm
theorem word_c (w : World) (s : ByteArray) : callC Tryz.prog 89 #[.string s] (fun (r : Bool) => .bool r) w fun r w' => r = wordP s ∧ w = w' := by
  have hl := bytesOf_len s
  refine D89 _ w _ ?_
  unfold F89
  refine jn.mk (fun r w' => r = !(decide (1 ≤ s.size) && lett ((bytesOf s).headD 0)) ∧ w = w') ⟨fun g => ⟨?_, rfl⟩, fun g => ?_⟩ ?_
  · rw [beqS_eq] at g
    have g := of_decide_eq_true g
    rw [g]
    rfl
  · rw [beqS_eq] at g
    have g := of_decide_eq_false g
    have h1 : 1 ≤ s.size := by
      refine Nat.pos_of_ne_zero fun e => g ?_
      obtain ⟨⟨l⟩⟩ := s
      have : l = [] := List.length_eq_zero_iff.1 e
      rw [this]
    refine rn_sidx (by decide) (headD_at (by omega)) ((letter_c w _).use ?_)
    rintro r w' ⟨rfl, rfl⟩
    exact ⟨by rw [decide_eq_true h1, Bool.true_and], rfl⟩
  rintro c w' ⟨rfl, rfl⟩
  refine ⟨fun g => ⟨?_, rfl⟩, fun g => ?_⟩
  · unfold wordP
    by_cases h1 : 1 ≤ s.size
    · by_cases h2 : s.size ≤ 20
      · have h3 : ¬ (20 < (s.size : Int)) := by omega
        rw [decide_eq_true h1, decide_eq_false h3, Bool.true_and, Bool.or_false, Bool.not_eq_true'] at g
        rw [g]
        simp
      · rw [decide_eq_false fun c => h2 c.2]
        rfl
    · rw [decide_eq_false fun c => h1 c.1]
      rfl
  · rw [Bool.or_eq_false_iff, Bool.not_eq_false', Bool.and_eq_true] at g
    have h1 := of_decide_eq_true g.1.1
    have h2 := of_decide_eq_false g.2
    refine (span_c w s (by omega)).use ?_
    rintro r w' ⟨hr, rfl⟩
    refine ⟨?_, rfl⟩
    rw [hr]
    unfold wordP
    rw [decide_eq_true (show 1 ≤ s.size ∧ s.size ≤ 20 from ⟨h1, by omega⟩), g.1.2]
    simp
end Go.Proofs.YtgbhghoppjfofaaGreat
