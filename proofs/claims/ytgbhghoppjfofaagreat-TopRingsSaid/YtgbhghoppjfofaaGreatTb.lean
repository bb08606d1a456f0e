import Derived.Test.YtgbhghoppjfofaaGreatPd
import Derived.Test.YtgbhghoppjfofaaGreatTq
namespace Go.Proofs.YtgbhghoppjfofaaGreat
open Go.Dec Go.RowKit Go.Top
set_option maxHeartbeats 400000
set_option maxRecDepth 10000

def cbo (b : Bool) : List Value := [.bool b]
theorem cbo1 (b : Bool) : (cbo b).length = 1 := rfl
structure OkA (a : Ap) : Prop where
  rate : 1 ≤ a.rate ∧ a.rate ≤ 1073741824
  down : 0 ≤ a.down ∧ a.down ≤ 1073741824
  win : 0 ≤ a.window ∧ a.window ≤ 1073741824
  lt : 0 < a.down → a.down < a.window
theorem check_ok {a : Ap} (h : CheckA a = 0) : OkA a := by
  unfold CheckA at h
  split at h
  · cases h
  · rename_i h1
    have h1 := Decidable.not_not.1 h1
    split at h
    · cases h
    · rename_i h2
      have h2 := Decidable.not_not.1 h2
      have hn := h1.1
      have e1 := hn a.rate (by simp [nums9])
      have e2 := hn a.down (by simp [nums9])
      have e3 := hn a.window (by simp [nums9])
      obtain ⟨_, _, _, _, h7, h8, _⟩ := h2
      unfold numOK at e1 e2 e3
      exact ⟨⟨h7, e1.2⟩, e2, e3, by omega⟩
theorem places_c (w : World) (a : Ap) (s : Sl) (n : Int) (ok : OkA a) (h0 : 0 ≤ n) (h1 : n ≤ 1073741824) :
    callC Tryz.prog 136 #[pfv (pfOf a s), .int .i64 n] (fun (r : Int × Int) => .tuple #[.int .i64 r.1, .int .i64 r.2]) w fun r w' => r = (if 0 < n ∧ MP / n < a.rate then (0, 3) else (a.rate * n, 0)) ∧ Quiet w w' := by
  obtain ⟨o1, o2, o3, o4⟩ := ok
  refine D136 _ _ _ _ _ _ _ _ _ _ _ _ _ _ _ _ _ _ _ _ _ _ _ w _ ?_
  unfold F136
  refine nwL fun b1 w1 hb1 q1 _ _ _ => ?_
  have hb : IsPf w1 b1 (pfOf a s) := hb1
  refine jn.mk (fun c w' => c = decide (0 < n ∧ MP / n < a.rate) ∧ Quiet w1 w') ?_ ?_
  · show tk _ _
    unfold tk
    have qd : Quiet w1 w1.drew := Only.drew _ _
    refine ⟨fun hc => (hb.keepQ qd).at.ld (j := 18) rfl ⟨?_, ?_, qd⟩, fun hc => ⟨?_, qd⟩⟩
    · have := of_decide_eq_true hc
      omega
    · have hn := of_decide_eq_true hc
      have e : (4503599627370496 : Int).tdiv n = MP / n := Int.tdiv_eq_ediv_of_nonneg (by decide)
      have hle : MP / n ≤ MP := Int.ediv_le_self n (by decide)
      have hge : 0 ≤ MP / n := Int.ediv_nonneg (by decide) h0
      unfold MP at e hle hge
      rw [e, w64 (by omega) (by omega), decide_eq_decide]
      exact ⟨fun h => ⟨hn, h⟩, fun h => h.2⟩
    · have hn := of_decide_eq_false hc
      symm
      rw [decide_eq_false_iff_not]
      exact fun h => hn h.1
  rintro c w2 ⟨rfl, q2⟩
  refine ⟨fun hc => ⟨?_, q1.tr q2⟩, fun hc => (hb.keepQ q2).at.ld (j := 18) rfl ⟨?_, q1.tr q2⟩⟩
  · rw [if_pos (of_decide_eq_true hc)]
  · have hc := of_decide_eq_false hc
    rw [if_neg hc]
    have hle : a.rate * n ≤ 4503599627370496 ∧ 0 ≤ a.rate * n := by
      refine ⟨?_, Int.mul_nonneg (by omega) h0⟩
      by_cases hn : 0 < n
      · have h2 : a.rate ≤ MP / n := Int.not_lt.1 fun h => hc ⟨hn, h⟩
        have h3 := (Int.le_ediv_iff_mul_le hn).1 h2
        exact h3
      · have : n = 0 := by omega
        subst this
        simp
    show (IntKind.i64.wrap (a.rate * n), (0 : Int)) = _
    rw [w64 (by omega) (by omega)]
theorem least_c (w : World) (a : Ap) (s : Sl) (t : Int) (h : Rd w cb 1 s a.types) (hc : s.len ≤ s.cap) (ok : CheckA a = 0) (h0 : 0 ≤ t) (h1 : t ≤ 1073741824) :
    callC Tryz.prog 114 #[pfv (pfOf a s), .int .i64 t] (fun (r : Int × Int) => .tuple #[.int .i64 r.1, .int .i64 r.2]) w fun r w' =>
      r = (if 0 < t - dn a.window a.down t ∧ MP / (t - dn a.window a.down t) < a.rate then (0, 3) else (a.rate * (t - dn a.window a.down t), 0)) ∧ Quiet w w' := by
  have okA := check_ok ok
  obtain ⟨o1, o2, o3, o4⟩ := check_ok ok
  have hdn := dn_le (win := a.window) (down := a.down) o4 h0
  refine D114 _ _ _ _ _ _ _ _ _ _ _ _ _ _ _ _ _ _ _ _ _ _ _ w _ ?_
  unfold F114
  refine nwL fun b1 w1 hb1 q1 _ _ _ => ?_
  have hb : IsPf w1 b1 (pfOf a s) := hb1
  refine pf_ld hb.at ((check_c w1 a s (h.keepQ q1) hc).use ?_)
  rintro r w2 ⟨rfl, q2⟩
  refine ⟨fun hg => ?_, fun _ => ?_⟩
  · rw [ok, decide_eq_false (show ¬ t < 0 by omega), decide_eq_false (show ¬ 1073741824 < t by omega)] at hg
    simp at hg
  refine jn.mk (fun c w' => c = dn a.window a.down t ∧ Quiet w1 w') ?_ ?_
  · refine (hb.keepQ q2).at.ld (j := 19) rfl ⟨fun hp => ?_, fun hp => ⟨?_, q2⟩⟩
    · have hp : 0 < a.down := of_decide_eq_true hp
      have hW := o4 hp
      refine jn.mk (fun c w' => c = dn a.window a.down t ∧ Quiet w1 w') ?_ fun c w' hh => hh
      show tk _ _
      unfold tk
      have qd : Quiet w1 w2.drew := q2.tr (Only.drew _ _)
      have hA := (hb.keepQ qd).at
      refine hA.ld (j := 20) rfl ⟨?_, hA.ld (j := 19) rfl (hA.ld (j := 20) rfl ⟨?_, hA.ld (j := 19) rfl ⟨?_, qd⟩⟩)⟩
      · show a.window ≠ 0
        omega
      · show a.window ≠ 0
        omega
      · show IntKind.i64.wrap (IntKind.i64.wrap (IntKind.i64.wrap (t.tdiv a.window) * a.down) + min (t.tmod a.window) a.down) = _
        have e1 : t.tdiv a.window = t / a.window := Int.tdiv_eq_ediv_of_nonneg h0
        have e2 : t.tmod a.window = t % a.window := Int.tmod_eq_emod_of_nonneg h0
        unfold dn at hdn ⊢
        rw [if_pos hp] at hdn ⊢
        have h3 : 0 ≤ t / a.window := Int.ediv_nonneg h0 (by omega)
        have h4 : t / a.window ≤ t := Int.ediv_le_self _ h0
        have h5 := Int.emod_nonneg t (show a.window ≠ 0 by omega)
        have h6 := Int.mul_nonneg h3 (show 0 ≤ a.down by omega)
        rw [e1, e2, w64 (x := t / a.window) (by omega) (by omega), w64 (x := t / a.window * a.down) (by omega) (by omega), w64 (by omega) (by omega)]
    · have hp : ¬ 0 < a.down := of_decide_eq_false hp
      unfold dn
      rw [if_neg hp]
  rintro c w3 ⟨rfl, q3⟩
  refine pf_ld (hb.keepQ q3).at ?_
  rw [w64 (by omega) (by omega)]
  refine (places_c w3 a s (t - dn a.window a.down t) okA (by omega) (by omega)).use ?_
  rintro r w4 ⟨rfl, q4⟩
  exact ⟨rfl, (q1.tr q3).tr q4⟩
theorem gives_c (w : World) (a : Ap) (s : Sl) (now due : Int) (h : Rd w cb 1 s a.types) (hc : s.len ≤ s.cap) (ok : CheckA a = 0) (h0 : 0 ≤ now) (h1 : now ≤ 1073741824) (g0 : 0 ≤ due) (g1 : due ≤ 1073741824) :
    callC Tryz.prog 88 #[pfv (pfOf a s), .int .i64 now, .int .i64 due] (fun (r : Int) => .int .i64 r) w fun r w' => r = gv a.rate a.window a.down now due ∧ Quiet w w' := by
  obtain ⟨o1, o2, o3, o4⟩ := check_ok ok
  refine D88 _ _ _ _ _ _ _ _ _ _ _ _ _ _ _ _ _ _ _ _ _ _ _ _ w _ ?_
  unfold F88
  refine nwL fun b1 w1 hb1 q1 _ _ _ => ?_
  have hb : IsPf w1 b1 (pfOf a s) := hb1
  refine ⟨fun hlt => ⟨?_, q1⟩, fun hlt => ?_⟩
  · unfold gv
    rw [if_pos (of_decide_eq_true hlt)]
  have hlt := of_decide_eq_false hlt
  refine pf_ld hb.at ?_
  rw [w64 (by omega) (by omega)]
  refine (least_c w1 a s (due - now) (h.keepQ q1) hc ok (by omega) (by omega)).use ?_
  rintro r w2 ⟨rfl, q2⟩
  unfold gv
  rw [if_neg hlt]
  dsimp only
  split
  · exact ⟨fun _ => ⟨rfl, q1.tr q2⟩, fun e => (by simp at e)⟩
  · exact ⟨fun e => (by simp at e), fun _ => ⟨rfl, q1.tr q2⟩⟩
end Go.Proofs.YtgbhghoppjfofaaGreat
