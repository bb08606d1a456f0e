import Derived.Test.YtnoahloppffndaaXe
namespace Go.Proofs.Ytnoahloppffndaa
open Go.Dec Go.RowKit
set_option maxHeartbeats 1600000
set_option maxRecDepth 10000

theorem worselaw_c (w : World) (s t u : Sl) (a b c : List Lo) (h1 : Rd w lo 3 s a) (h2 : Rd w lo 3 t b) (h3 : Rd w lo 3 u c) :
    callC Try.prog 5 #[s.v, t.v, u.v] (fun (r : Bool) => .bool r) w fun r w' => r = true ∧ Quiet w w' := by
  have l1 := h1.len
  have l2 := h2.len
  have l3 := h3.len
  refine D5 _ _ _ w _ ?_
  unfold F5
  refine (small_c w).use ?_
  rintro _ w1 ⟨rfl, q⟩
  refine ⟨fun _ => ⟨rfl, q⟩, fun g => ?_⟩
  simp only [Bool.or_eq_false_iff, decide_eq_false_iff_not] at g
  have la : a.length ≤ 1000 := by omega
  have lb : b.length ≤ 1000 := by omega
  have lc : c.length ≤ 1000 := by omega
  have W : ∀ (w' : World), Quiet w w' → callC Try.prog 15 #[s.v, s.v] (fun (r : Bool) => .bool r) w' fun r w'' => r = decide (WorseP a a) ∧ Quiet w' w'' := fun w' q => worse_c w' s s a a (h1.keepQ q) (h1.keepQ q) la la
  have Wab : ∀ (w' : World), Quiet w w' → callC Try.prog 15 #[s.v, t.v] (fun (r : Bool) => .bool r) w' fun r w'' => r = decide (WorseP a b) ∧ Quiet w' w'' := fun w' q => worse_c w' s t a b (h1.keepQ q) (h2.keepQ q) la lb
  refine (W w1 q).use ?_
  rintro _ w2 ⟨rfl, q2⟩
  replace q := q.tr q2
  refine jn_orW (W := w) (v := decide (WorseP a b) && decide (WorseP b a)) q (fun _ => (Wab w2 q).use ?_) fun w6 q => ?_
  · rintro _ w3 ⟨rfl, q3⟩
    replace q := q.tr q3
    refine jn_andW (W := w) (v := decide (WorseP b a)) q (fun _ => (worse_c w3 t s b a (h2.keepQ q) (h1.keepQ q) lb la).use ?_) fun w' q => ⟨rfl, q⟩
    rintro _ w4 ⟨rfl, q4⟩
    exact ⟨rfl, q.tr q4⟩
  refine jn_orW (W := w) (v := (decide (WorseP a b) && decide (WorseP b c)) && !decide (WorseP a c)) q (fun _ => (Wab w6 q).use ?_) fun w12 q => ?_
  · rintro _ w7 ⟨rfl, q7⟩
    replace q := q.tr q7
    refine jn_andW (W := w) (v := decide (WorseP b c)) q (fun _ => (worse_c w7 t u b c (h2.keepQ q) (h3.keepQ q) lb lc).use ?_) fun w9 q => ?_
    · rintro _ w4 ⟨rfl, q4⟩
      exact ⟨rfl, q.tr q4⟩
    refine jn_andW (W := w) (v := !decide (WorseP a c)) q (fun _ => (worse_c w9 s u a c (h1.keepQ q) (h3.keepQ q) la lc).use ?_) fun w' q => ⟨rfl, q⟩
    rintro _ w4 ⟨rfl, q4⟩
    exact ⟨rfl, q.tr q4⟩
  refine ⟨fun g => ?_, fun _ => ?_⟩
  · simp only [Bool.or_eq_true, Bool.and_eq_true, decide_eq_true_eq, Bool.not_eq_true', decide_eq_false_iff_not] at g
    rcases g with (g | g) | g
    · exact absurd g (WorseP.irrefl a)
    · exact absurd g.2 g.1.asymm
    · exact absurd (g.1.1.trans g.1.2) g.2
  refine (Wab w12 q).use ?_
  rintro _ w13 ⟨rfl, q13⟩
  replace q := q.tr q13
  refine jn_andW (W := w) (v := decide ((s.len : Int) = 0) || !decide (WorseP a [])) q (fun _ => ?_) fun w16 q => ?_
  · refine jn_orW (W := w) (v := !decide (WorseP a [])) q (fun _ => (worse_c w13 s Sl.nil a [] (h1.keepQ q) (Rd.nil _ _ _) la (by decide)).use ?_) fun w' q => ⟨rfl, q⟩
    rintro _ w4 ⟨rfl, q4⟩
    exact ⟨rfl, q.tr q4⟩
  refine jn_orW (W := w) (v := decide (WorseP [] a)) q (fun _ => (worse_c w16 Sl.nil s [] a (Rd.nil _ _ _) (h1.keepQ q) (by decide) la).use ?_) fun w18 q => ⟨fun g => ?_, fun _ => ⟨rfl, q⟩⟩
  · rintro _ w4 ⟨rfl, q4⟩
    exact ⟨rfl, q.tr q4⟩
  · simp only [Bool.or_eq_true, Bool.and_eq_true, decide_eq_true_eq, Bool.not_eq_true', decide_eq_false_iff_not] at g
    rcases g with ⟨g1, g2⟩ | g
    · obtain ⟨k1, k2⟩ := g1.of_nil
      rcases g2 with g2 | g2
      · exact absurd (List.length_eq_zero_iff.1 (by omega)) k1
      · exact absurd k2 g2
    · exact absurd g WorseP.nil
theorem worselaw (W : World) (s : Sl) (a : List Lo) (h1 : Rd W lo 3 s a) (_ : ∀ ad, s.a = some ad → 0 < a.length → ad.block < W.heap.size) (_ : a.length ≤ maxLen) (t : Sl) (b : List Lo) (h2 : Rd W lo 3 t b) (_ : ∀ ad, t.a = some ad → 0 < b.length → ad.block < W.heap.size) (_ : b.length ≤ maxLen) (u : Sl) (c : List Lo) (h3 : Rd W lo 3 u c) (_ : ∀ ad, u.a = some ad → 0 < c.length → ad.block < W.heap.size) (_ : c.length ≤ maxLen) :
    callC Try.prog 5 #[s.v, t.v, u.v] (fun (r : Bool) => .bool r) W fun r w' => r = true ∧ Below W.heap.size W w' :=
  (worselaw_c W s t u a b c h1 h2 h3).use fun _ _ h => ⟨h.1, bq h.2⟩
end Go.Proofs.Ytnoahloppffndaa
