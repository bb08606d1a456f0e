import Derived.Test.YtgbhghoppjfofaaGreatPb
namespace Go.Proofs.YtgbhghoppjfofaaGreat
open Go.Dec Go.RowKit
set_option maxHeartbeats 400000
set_option maxRecDepth 10000

theorem anyS_c (w : World) (s : Sl) (l : List ByteArray) (f : Value) (g : ByteArray → Bool) (h : Rd w cb 1 s l) (hl : l.length ≤ 1000000)
    (hf : ∀ (w' : World) (x : ByteArray) (K : Bool → World → Prop), Quiet w w' → x ∈ l → (∀ w'', Quiet w' w'' → K (g x) w'') → cv Tryz.prog f [.string x] (fun (r : Bool) => .bool r) w' K) :
    callC Tryz.prog 90 #[s.v, f] (fun (r : Bool) => .bool r) w fun r w' => r = l.any g ∧ Quiet w w' := by
  have hsl := h.len
  refine D90 _ _ w _ ?_
  unfold F90
  refine callC.use (R := fun r w' => decide (0 ≤ r) = l.any g ∧ Quiet w w') (D119 _ _ w _ ?_) fun r w' h => h
  unfold F119
  refine ⟨fun i w' => 0 ≤ i ∧ i ≤ l.length ∧ (l.take i.toNat).any g = false ∧ Quiet w w', fun i _ => (l.length - i).toNat, ⟨by omega, by omega, by simp, Only.refl _ _⟩, ?_⟩
  rintro i w1 ⟨i0, i1, hn, q1⟩
  refine ⟨fun hi => ?_, fun hi => ?_⟩
  · have hlt : i < l.length := by rw [hsl] at hi; exact of_decide_eq_true hi
    obtain ⟨x, hx⟩ := getq i0 hlt
    refine (h.keepQ q1).ixx i0 hx fun p hat _ => hat.ld0 rfl (hf w1 x _ q1 (List.mem_of_getElem? hx) fun w2 q2 => ⟨fun hc => ⟨?_, q1.tr q2⟩, fun hc => ?_⟩)
    · rw [List.any_eq_true.2 ⟨x, List.mem_of_getElem? hx, hc⟩]
      exact decide_eq_true i0
    · rw [w64 (by omega) (by omega)]
      refine ⟨⟨by omega, by omega, ?_, q1.tr q2⟩, by (try dsimp only); omega⟩
      rw [toNat_succ i0, take_next hx, List.any_append, hn]
      simp [hc]
  · have hge : l.length ≤ i.toNat := by have := of_decide_eq_false hi; omega
    rw [List.take_of_length_le hge] at hn
    exact ⟨by rw [hn]; rfl, q1⟩
theorem contains_c (w : World) (s : Sl) (l : List ByteArray) (n : ByteArray) (h : Rd w cb 1 s l) (hl : l.length ≤ 1000000) :
    callC Tryz.prog 73 #[s.v, .string n] (fun (r : Bool) => .bool r) w fun r w' => r = decide (n ∈ l) ∧ w = w' := by
  have hsl := h.len
  refine D73 _ _ w _ ?_
  unfold F73
  refine callC.use (R := fun r w' => decide (0 ≤ r) = decide (n ∈ l) ∧ w = w') (D92 _ _ w _ ?_) fun r w' h => h
  unfold F92
  refine ⟨fun i w' => 0 ≤ i ∧ i ≤ l.length ∧ n ∉ l.take i.toNat ∧ w = w', fun i _ => (l.length - i).toNat, ⟨by omega, by omega, by simp, rfl⟩, ?_⟩
  rintro i w' ⟨i0, i1, hn, rfl⟩
  refine ⟨fun hi => ?_, fun hi => ?_⟩
  · have hlt : i < l.length := by rw [hsl] at hi; exact of_decide_eq_true hi
    obtain ⟨x, hx⟩ := getq i0 hlt
    refine h.ixx i0 hx fun p hat _ => hat.ld0 rfl ⟨fun hc => ?_, fun hc => ?_⟩
    · rw [beqS_eq] at hc
      have : n = x := of_decide_eq_true hc
      subst this
      have := List.mem_of_getElem? hx
      simp [this, i0]
    · rw [beqS_eq] at hc
      have hne : n ≠ x := of_decide_eq_false hc
      rw [w64 (by omega) (by omega)]
      refine ⟨⟨by omega, by omega, ?_, rfl⟩, by (try dsimp only); omega⟩
      rw [toNat_succ i0, take_next hx]
      simp only [List.mem_append, List.mem_singleton, not_or]
      exact ⟨hn, hne⟩
  · have hge : l.length ≤ i.toNat := by have := of_decide_eq_false hi; omega
    rw [List.take_of_length_le hge] at hn
    simp [hn]

/-! ### what can be written -/
def numOK (n : Int) : Prop := 0 ≤ n ∧ n ≤ 1073741824
instance (n : Int) : Decidable (numOK n) := by unfold numOK; infer_instance
def nums9 (a : Ap) : List Int := [a.within, a.size, a.parts, a.files, a.bytes, a.rate, a.down, a.window, a.keep]
def pairs6 (a : Ap) : List (Int × Int) := [(a.delete, 3), (a.thread, 3), (a.join, 3), (a.history, 2), (a.remove, 2), (a.level, 5)]
def typesOK (a : Ap) : Prop := if a.files = 0 then a.bytes = 0 ∧ a.types.length = 0 else 1 ≤ a.types.length ∧ a.types.length ≤ 20 ∧ ∀ t ∈ a.types, wordP t = true
instance (a : Ap) : Decidable (typesOK a) := by unfold typesOK; infer_instance
def RightA (a : Ap) : Prop := (∀ n ∈ nums9 a, numOK n) ∧ (∀ p ∈ pairs6 a, 0 ≤ p.1 ∧ p.1 < p.2) ∧ (wordP a.name = true ∧ (a.edit = 0 ∨ a.edit = 2) ∧ ¬ (a.edit = 0 ∧ 0 < a.within)) ∧ typesOK a
instance (a : Ap) : Decidable (RightA a) := by unfold RightA; infer_instance
def cpr (p : Int × Int) : List Value := [.int .i64 p.1, .int .i64 p.2]
theorem cpr2 (p : Int × Int) : (cpr p).length = 2 := rfl
theorem rw37 (w : World) (t : ByteArray) : callC Tryz.prog 91 #[.string t] (fun (r : Bool) => .bool r) w fun r w' => r = !wordP t ∧ w = w' := by
  refine D91 _ w _ ?_
  unfold F91
  refine (word_c w t).use ?_
  rintro r w' ⟨rfl, rfl⟩
  exact ⟨rfl, rfl⟩
theorem u43 : Tryz.prog.underlying 83 = some (.array 2 3) := by kernel_rfl
theorem i3 : ∃ inf, Tryz.prog.info? 3 = some inf ∧ inf.size = 1 := ⟨_, rfl, by kernel_rfl⟩
theorem right_c (w : World) (a : Ap) (s : Sl) (h : Rd w cb 1 s a.types) : callC Tryz.prog 70 #[pfv (pfOf a s)] (fun (r : Bool) => .bool r) w fun r w' => r = decide (RightA a) ∧ Quiet w w' := by
  have hsl := h.len
  refine D70 _ _ _ _ _ _ _ _ _ _ _ _ _ _ _ _ _ _ _ _ _ _ w _ ?_
  unfold F70
  refine nwL fun b1 w1 hb1 q1 _ _ _ => ?_
  have hb : IsPf w1 b1 (pfOf a s) := hb1
  have A := hb.at
  refine A.ld (j := 2) rfl (A.ld (j := 8) rfl (A.ld (j := 9) rfl (A.ld (j := 10) rfl (A.ld (j := 11) rfl (A.ld (j := 18) rfl (A.ld (j := 19) rfl (A.ld (j := 20) rfl (A.ld (j := 21) rfl ?_))))))))
  refine nwL fun b11 w2 hb11 q2 _ _ _ => ?_
  have hr : Rd w2 ci 1 (⟨some ⟨b11, 0, none⟩, 9, 9⟩ : Sl) (nums9 a) := ints_row hb11 rfl rfl
  have n9 : (nums9 a).length = 9 := rfl
  have q02 := q1.tr q2
  refine ⟨fun i w' => 0 ≤ i ∧ i ≤ 9 ∧ (∀ n ∈ (nums9 a).take i.toNat, numOK n) ∧ w2 = w', fun i _ => (9 - i).toNat, ⟨by omega, by omega, by simp, rfl⟩, ?_⟩
  rintro i w3 ⟨i0, i1, hno, rfl⟩
  refine ⟨fun hi => ?_, fun hi => ?_⟩
  · have hi : i < 9 := of_decide_eq_true hi
    obtain ⟨x, hx⟩ := getq (l := nums9 a) i0 (by omega)
    refine hr.ixx i0 hx fun p hat _ => hat.ld0 rfl ⟨fun g => ⟨(decide_eq_false fun c => ?_).symm, q02⟩, fun g => ?_⟩
    · have := c.1 x (List.mem_of_getElem? hx)
      unfold numOK at this
      simp at g
      omega
    · rw [w64 (by omega) (by omega)]
      refine ⟨⟨by omega, by omega, ?_, rfl⟩, by (try dsimp only); omega⟩
      rw [toNat_succ i0, take_next hx]
      intro n hn
      rcases List.mem_append.1 hn with e | e
      · exact hno n e
      · rw [List.mem_singleton.1 e]
        unfold numOK
        simp at g
        omega
  have hA1 : ∀ n ∈ nums9 a, numOK n := by
    rw [List.take_of_length_le (by have hi : ¬ i < 9 := of_decide_eq_false hi; omega)] at hno
    exact hno
  clear hno hi i0 i1
  have A := (hb.keepQ q2).at
  refine A.ld (j := 3) rfl (A.ld (j := 5) rfl (A.ld (j := 13) rfl (A.ld (j := 14) rfl (A.ld (j := 15) rfl (A.ld (j := 16) rfl ?_)))))
  refine nwL fun b25 w4 hb25 q4 _ _ _ => ?_
  have hp : Rd w4 cpr 2 (⟨some ⟨b25, 0, none⟩, 6, 6⟩ : Sl) (pairs6 a) := by
    refine ⟨rfl, fun i u hu => ⟨_, rfl, fun j v hv => ?_⟩⟩
    rw [mk_add, mk_add, hb25.cell]
    have e : (#[Value.int .i64 a.delete, Value.int .i64 3, Value.int .i64 a.thread, Value.int .i64 3, Value.int .i64 a.join, Value.int .i64 3, Value.int .i64 a.history, Value.int .i64 2, Value.int .i64 a.remove, Value.int .i64 2, Value.int .i64 a.level, Value.int .i64 5] : Array Value) = ((pairs6 a).flatMap cpr).toArray := rfl
    have := flat_at cpr2 hu hv
    show (#[Value.int .i64 a.delete, Value.int .i64 3, Value.int .i64 a.thread, Value.int .i64 3, Value.int .i64 a.join, Value.int .i64 3, Value.int .i64 a.history, Value.int .i64 2, Value.int .i64 a.remove, Value.int .i64 2, Value.int .i64 a.level, Value.int .i64 5] : Array Value)[0 + i * 2 + j]? = some v
    rw [e, Nat.zero_add, List.getElem?_toArray]
    exact this
  have n6 : (pairs6 a).length = 6 := rfl
  refine ⟨fun i w' => 0 ≤ i ∧ i ≤ 6 ∧ (∀ p ∈ (pairs6 a).take i.toNat, 0 ≤ p.1 ∧ p.1 < p.2) ∧ Quiet w4 w', fun i _ => (6 - i).toNat, ⟨by omega, by omega, by simp, Only.refl _ _⟩, ?_⟩
  rintro i w5 ⟨i0, i1, hno, q5⟩
  have q05 := (q02.tr q4).tr q5
  refine ⟨fun hi => ?_, fun hi => ?_⟩
  · have hi : i < 6 := of_decide_eq_true hi
    obtain ⟨x, hx⟩ := getq (l := pairs6 a) i0 (by omega)
    refine (hp.keepQ q5).ixx i0 hx fun p hat _ => hat.ld (j := 0) rfl (hat.ld (j := 1) rfl (box_all rfl fun b31 w7 hb31 q7 _ _ => ?_))
    have hb31 : Blk w7 b31 83 #[.int .i64 x.1, .int .i64 x.2] := hb31
    refine rn_arr u43 i3 (by decide) (by decide) (hb31.ld (o := 0) (i := 0) rfl (jn.mk (fun c w' => c = decide (¬ (0 ≤ x.1 ∧ x.1 < x.2)) ∧ w7 = w') ⟨fun g => ⟨?_, rfl⟩, fun g => rn_arr u43 i3 (by decide) (by decide) (hb31.ld (o := 0) (i := 0) rfl (rn_arr u43 i3 (by decide) (by decide) (hb31.ld (o := 0) (i := 1) rfl ⟨?_, rfl⟩)))⟩ ?_))
    · have := of_decide_eq_true g
      exact (decide_eq_true (by omega)).symm
    · have := of_decide_eq_false g
      rw [decide_eq_decide]
      omega
    rintro c w11 ⟨rfl, rfl⟩
    refine ⟨fun g => ⟨(decide_eq_false fun c => ?_).symm, q05.tr q7⟩, fun g => ?_⟩
    · exact of_decide_eq_true g (c.2.1 x (List.mem_of_getElem? hx))
    · have g := of_decide_eq_false g
      rw [w64 (by omega) (by omega)]
      refine ⟨⟨by omega, by omega, ?_, q5.tr q7⟩, by (try dsimp only); omega⟩
      rw [toNat_succ i0, take_next hx]
      intro n hn
      rcases List.mem_append.1 hn with e | e
      · exact hno n e
      · rw [List.mem_singleton.1 e]
        exact Decidable.byContradiction g
  have hA2 : ∀ p ∈ pairs6 a, 0 ≤ p.1 ∧ p.1 < p.2 := by
    rw [List.take_of_length_le (by have hi : ¬ i < 6 := of_decide_eq_false hi; omega)] at hno
    exact hno
  clear hno hi i0 i1
  have A := (hb.keepQ ((q2.tr q4).tr q5)).at
  refine jn.mk (fun r w' => r = !decide (wordP a.name = true ∧ (a.edit = 0 ∨ a.edit = 2) ∧ ¬ (a.edit = 0 ∧ 0 < a.within)) ∧ w5 = w') (A.ld (j := 0) rfl ((word_c w5 a.name).use ?_)) ?_
  · rintro r w12 ⟨rfl, rfl⟩
    refine ⟨fun g => ⟨?_, rfl⟩, fun g => ?_⟩
    · have g' : ¬ wordP a.name = true := by simpa using g
      rw [g, decide_eq_false fun c => g' c.1]
      rfl
    have g : wordP a.name = true := by simpa using g
    refine A.ld (j := 1) rfl (jp.val (!decide (a.edit = 0 ∨ a.edit = 2)) ⟨fun g2 => A.ld (j := 1) rfl ?_, fun g2 => ?_⟩ ⟨fun g2 => ⟨?_, rfl⟩, fun g2 => A.ld (j := 1) rfl (jp.val (decide (a.edit = 0 ∧ 0 < a.within)) ⟨fun g3 => A.ld (j := 2) rfl ?_, fun g3 => ?_⟩ ⟨?_, rfl⟩)⟩)
    · have g2 : ¬ a.edit = 0 := nd g2
      show (!decide (a.edit = 2)) = !decide _
      congr 1
      rw [decide_eq_decide]
      omega
    · have g2 : a.edit = 0 := nt g2
      rw [decide_eq_true (.inl g2)]
      rfl
    · have g2' : ¬ (a.edit = 0 ∨ a.edit = 2) := by simpa only [Bool.not_eq_true', decide_eq_false_iff_not] using g2
      rw [g2, decide_eq_false fun c => g2' c.2.1]
      rfl
    · have g3 : a.edit = 0 := of_decide_eq_true g3
      show decide (0 < a.within) = decide _
      rw [decide_eq_decide]
      exact ⟨fun c => ⟨g3, c⟩, fun c => c.2⟩
    · have g3 : ¬ a.edit = 0 := of_decide_eq_false g3
      exact (decide_eq_false fun c => g3 c.1).symm
    · have g2 : a.edit = 0 ∨ a.edit = 2 := by simpa only [Bool.not_eq_false', decide_eq_true_eq] using g2
      rw [Bool.eq_iff_iff, decide_eq_true_iff, Bool.not_eq_true', decide_eq_false_iff_not]
      exact ⟨fun c d => d.2.2 c, fun c => Decidable.byContradiction fun d => c ⟨g, g2, d⟩⟩
  rintro c w11 ⟨rfl, rfl⟩
  refine ⟨fun g => ⟨?_, q05⟩, fun g => ?_⟩
  · have g : ¬ (wordP a.name = true ∧ (a.edit = 0 ∨ a.edit = 2) ∧ ¬ (a.edit = 0 ∧ 0 < a.within)) := by simpa only [Bool.not_eq_true', decide_eq_false_iff_not] using g
    exact (decide_eq_false fun c => g c.2.2.1).symm
  have g : wordP a.name = true ∧ (a.edit = 0 ∨ a.edit = 2) ∧ ¬ (a.edit = 0 ∧ 0 < a.within) := by simpa only [Bool.not_eq_false', decide_eq_true_eq] using g
  have hfin : decide (RightA a) = decide (typesOK a) := by
    rw [decide_eq_decide]
    exact ⟨fun c => c.2.2.2, fun c => ⟨hA1, hA2, g, c⟩⟩
  rw [hfin]
  refine A.ld (j := 10) rfl ⟨fun k => A.ld (j := 11) rfl (jp.val (decide (typesOK a)) ⟨fun k2 => A.ld (j := 12) rfl ?_, fun k2 => ?_⟩ ⟨rfl, q05⟩), fun k => A.ld (j := 12) rfl (jp.val (decide (1 ≤ a.types.length ∧ a.types.length ≤ 20)) ⟨fun k2 => A.ld (j := 12) rfl ?_, fun k2 => ?_⟩ (jn.mk (fun r w' => r = decide (typesOK a) ∧ Quiet w5 w') ⟨fun k2 => A.ld (j := 12) rfl ?_, fun k2 => ⟨?_, Only.refl _ _⟩⟩ ?_))⟩
  · have k : a.files = 0 := of_decide_eq_true k
    have k2 : a.bytes = 0 := of_decide_eq_true k2
    show decide ((s.len : Int) = 0) = decide _
    rw [decide_eq_decide, hsl]
    unfold typesOK
    rw [if_pos k]
    omega
  · have k : a.files = 0 := of_decide_eq_true k
    have k2 : ¬ a.bytes = 0 := of_decide_eq_false k2
    refine (decide_eq_false fun c => ?_).symm
    unfold typesOK at c
    rw [if_pos k] at c
    exact k2 c.1
  · have k2 : 1 ≤ (s.len : Int) := of_decide_eq_true k2
    show decide ((s.len : Int) ≤ 20) = decide _
    rw [decide_eq_decide]
    omega
  · have k2 : ¬ 1 ≤ (s.len : Int) := of_decide_eq_false k2
    exact (decide_eq_false fun c => by omega).symm
  · have k : ¬ a.files = 0 := of_decide_eq_false k
    have k2 := of_decide_eq_true k2
    refine (anyS_c w5 s a.types _ (fun t => !wordP t) (h.keepQ q05) (by omega) fun w' x K q' _ hK => ?_).use ?_
    · exact cv_mk (ca := []) Tryz.func91 NN_91 NB_91 rfl ((rw37 w' x).use fun r w'' ⟨e, e2⟩ => e ▸ e2 ▸ hK w' (Only.refl _ _))
    · rintro r w13 ⟨rfl, q13⟩
      refine ⟨?_, q13⟩
      rw [Bool.eq_iff_iff, decide_eq_true_iff]
      unfold typesOK
      rw [if_neg k]
      simp
      exact ⟨fun c => ⟨k2.1, k2.2, c⟩, fun c => c.2.2⟩
  · have k : ¬ a.files = 0 := of_decide_eq_false k
    have k2 := of_decide_eq_false k2
    refine (decide_eq_false fun c => ?_).symm
    unfold typesOK at c
    rw [if_neg k] at c
    exact k2 ⟨c.1, c.2.1⟩
  · rintro c w14 ⟨rfl, q14⟩
    exact ⟨rfl, q05.tr q14⟩
end Go.Proofs.YtgbhghoppjfofaaGreat
