import Derived.Test.YtdcbmadmcmjopaaHf
namespace Go.Proofs.Ytdcbmadmcmjopaa
open Go.Dec Go.RowKit
set_option maxHeartbeats 1600000
set_option maxRecDepth 10000

def c8 (x : Int) : List Value := [.int .u8 x]
theorem c81 (x : Int) : (c8 x).length = 1 := rfl
theorem chosen_c (w : World) (s t : Sl) (l : List Pt) (u : List Int) (h : Rd w pt 2 s l) (h' : Rd w c8 1 t u) (hl : l.length ≤ 1000) (hu : u.length ≤ 800) (hb : ∀ x ∈ u, 0 ≤ x ∧ x ≤ 255) :
    callC Try.prog 17 #[s.v, t.v] (fun (r : Sl) => Sl.v r) w fun r w' => ∃ (m : List Pt) (F : Nat → Prop), OwnF w' F 39 2 r (m.flatMap pt) ∧ (∀ p ∈ m, p ∈ l) ∧ m.Nodup ∧ m.length ≤ 800 ∧ Fresh w w' F := by
  have hsl := h.len
  have htl := h'.len
  refine D17 _ _ w _ ?_
  unfold F17
  refine ⟨fun (c : Sl × Int) w' => 0 ≤ c.2 ∧ c.2 ≤ u.length ∧ ∃ (m : List Pt) (F : Nat → Prop), OwnF w' F 39 2 c.1 (m.flatMap pt) ∧ (∀ p ∈ m, p ∈ l) ∧ m.Nodup ∧ (m.length : Int) ≤ c.2 ∧ Fresh w w' F, fun c _ => (u.length - c.2).toNat, ⟨by simp, by (try dsimp only); omega, [], _, OwnF.nil _ _ _ _, by simp, by simp, by simp, Fresh.none _⟩, ?_⟩
  rintro ⟨out, i⟩ w1 ⟨i0, i1, m, F, o1, hm, hn, hml, f1⟩
  dsimp only at i0 i1 o1 hml ⊢
  refine ⟨fun g => ?_, fun g => ⟨m, F, o1, hm, hn, by omega, f1⟩⟩
  rw [Bool.and_eq_true, decide_eq_true_eq, decide_eq_true_eq] at g
  obtain ⟨g1, g2⟩ := g
  obtain ⟨x, hx⟩ := getq (l := u) i0 (by omega)
  have hxb := hb x (List.mem_of_getElem? hx)
  have h1 := h.keepQ f1.q
  refine jn.mk (fun (r : Sl) w' => ∃ (m : List Pt) (F : Nat → Prop), OwnF w' F 39 2 r (m.flatMap pt) ∧ (∀ p ∈ m, p ∈ l) ∧ m.Nodup ∧ (m.length : Int) ≤ i + 1 ∧ Fresh w w' F) ?_ ?_
  rotate_left
  · rintro r w2 hr
    rw [w64 (by omega) (by omega)]
    exact ⟨⟨by (try dsimp only); omega, by (try dsimp only); omega, hr⟩, by (try dsimp only); omega⟩
  refine (h'.keepQ f1.q).ixx i0 hx fun p hat _ => hat.ld0 rfl ⟨by omega, ?_⟩
  have hj1 := Int.emod_lt_of_pos x (show 0 < (s.len : Int) by omega)
  have hj0 := Int.emod_nonneg x (show (s.len : Int) ≠ 0 by omega)
  rw [w64 (x := x) (by omega) (by omega), Int.tmod_eq_emod_of_nonneg hxb.1]
  obtain ⟨q, hq⟩ := getq (l := l) hj0 (by omega)
  refine h1.ixx hj0 hq fun p hat _ => pt_ld hat ?_
  refine pt_box (x := q) fun b21 w4 hb21 q4 g21 l21 => ?_
  have o4 := o1.keepQ q4
  have f4 := f1.keep q4
  have hr4 := o4.rd pt_len (by decide)
  have hrl := hr4.len
  refine ⟨fun (c : Bool × Int) w' => 0 ≤ c.2 ∧ c.2 ≤ m.length ∧ (c.1 = true ↔ q ∈ m.take c.2.toNat) ∧ Quiet w4 w', fun c _ => (m.length - c.2).toNat, ⟨by simp, by (try dsimp only); omega, by simp, Only.refl _ _⟩, ?_⟩
  rintro ⟨seen, j⟩ w5 ⟨j0, j1, hse, q5⟩
  dsimp only at j0 j1 hse ⊢
  refine ⟨fun hj => ?_, fun hj => ?_⟩
  · have hj : j < (out.len : Int) := of_decide_eq_true hj
    obtain ⟨y, hy⟩ := getq (l := m) j0 (by omega)
    refine jn_any' (W := w4) (seen || decide (y = q)) ?_ fun w7 q7 => ?_
    · show tk _ _
      unfold tk
      replace q5 := q5.tr (Only.drew (fun _ => False) _)
      refine ⟨fun g => ⟨by rw [g]; rfl, q5⟩, fun g => ?_⟩
      refine (hr4.keepQ q5).ixx j0 hy fun p hat _ => pt_ld hat (pt_ld (hb21.keepQ q5).at ⟨?_, q5⟩)
      rw [g, Bool.false_or, Bool.eq_iff_iff, decide_eq_true_eq]
      cases y
      cases q
      simp
    · rw [w64 (by omega) (by omega)]
      refine ⟨⟨by (try dsimp only); omega, by (try dsimp only); omega, ?_, q7⟩, by (try dsimp only); omega⟩
      (try dsimp only)
      rw [toNat_succ j0, take_next hy, List.mem_append, ← hse, List.mem_singleton, Bool.or_eq_true, decide_eq_true_eq]
      exact ⟨fun e => e.imp id Eq.symm, fun e => e.imp id Eq.symm⟩
  have hj : ¬ j < (out.len : Int) := of_decide_eq_false hj
  rw [List.take_of_length_le (by omega)] at hse
  have o5 := o4.keepQ q5
  have f5 := f4.keep q5
  refine ⟨fun g => ?_, fun g => ⟨m, F, o5, hm, hn, by omega, f5⟩⟩
  have hnq : q ∉ m := fun e => by
    rw [hse.2 e] at g
    cases g
  refine pt_ld (hb21.keepQ q5).at (o5.push (news := pt q) apS rfl rfl (by unfold maxLen; omega) (by omega) fun r38 w9 F' o9 _ st9 => ?_)
  refine ⟨m ++ [q], F', by simpa using o9, fun p hp => ?_, ?_, by rw [List.length_append, List.length_singleton]; omega, f5.stp st9⟩
  · rcases List.mem_append.1 hp with e | e
    · exact hm p e
    · rw [List.mem_singleton.1 e]
      exact List.mem_of_getElem? hq
  · rw [List.nodup_append]
    exact ⟨hn, by simp, fun a ha b hb e => hnq (by rw [List.mem_singleton] at hb; rw [← hb, ← e]; exact ha)⟩
end Go.Proofs.Ytdcbmadmcmjopaa
