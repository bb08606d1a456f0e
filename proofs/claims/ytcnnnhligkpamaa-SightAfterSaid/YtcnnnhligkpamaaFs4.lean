import Derived.Test.YtcnnnhligkpamaaRows
import Derived.Test.YtcnnnhligkpamaaFs1
import Derived.Test.YtcnnnhligkpamaaDecRaw
namespace Go.Proofs.Ytcnnnhligkpamaa
open Go.Dec
set_option maxHeartbeats 400000

/-- linguaref18.Lets -/
def F25 (p0_0 : ByteArray) (p0_1 : Int) (p0_2 : Int) (p0_3 : Int) (p0_4 : Bool) (p0_5 : Int) (p0_6 : Bool) (p0_7 : Bool) (p0_8 : Int) (p0_9 : Int) (p0_10 : Int) (p0_11 : Int) (p0_12 : Sl) (p0_13 : Int) (p0_14 : Int) (p0_15 : Int) (p0_16 : Int) (p0_17 : Bool) (p0_18 : Int) (p0_19 : Int) (p0_20 : Int) (p0_21 : Int) (p1_0 : Int) (p1_1 : Int) (p1_2 : Int) (p1_3 : Int) (p2 : Sl) (p3 : Int) (w0 : World) (K : Bool → World → Prop) : Prop :=
  nw 33 #[(Value.string p0_0), (Value.int .i64 p0_1), (Value.int .i64 p0_2), (Value.int .i64 p0_3), (Value.bool p0_4), (Value.int .i64 p0_5), (Value.bool p0_6), (Value.bool p0_7), (Value.int .i64 p0_8), (Value.int .i64 p0_9), (Value.int .i64 p0_10), (Value.int .i64 p0_11), (Sl.v p0_12), (Value.int .i64 p0_13), (Value.int .i64 p0_14), (Value.int .i64 p0_15), (Value.int .i64 p0_16), (Value.bool p0_17), (Value.int .i64 p0_18), (Value.int .i64 p0_19), (Value.int .i64 p0_20), (Value.int .i64 p0_21)] w0 fun b1 w1 =>
  nw 43 #[(Value.int .i64 p1_0), (Value.int .i64 p1_1), (Value.int .i64 p1_2), (Value.int .i64 p1_3)] w1 fun b2 w2 =>
  ld (Value.int .i64) ((Addr.mk b1 0 none).add 14) w2 fun x3 =>
  jp (fun J4 => cnd (!decide (x3 = 1))
    (
    ld (Value.int .i64) ((Addr.mk b2 0 none).add 2) w2 fun x6 =>
    J4 (decide (p3 ≤ x6))
    )
    (
    J4 false
    ))
  fun c7 =>
  cnd (c7)
    (
    K false w2
    )
    (
    ld (Value.int .i64) ((Addr.mk b2 0 none).add 3) w2 fun x9 =>
    jp (fun J10 => cnd (decide (x9 = (-1)))
      (
      J10 true
      )
      (
      ld (Value.int .i64) ((Addr.mk b2 0 none).add 3) w2 fun x12 =>
      J10 (decide (p3 < x12))
      ))
    fun c13 =>
    cnd (c13)
      (
      K true w2
      )
      (
      ld (Value.int .i64) ((Addr.mk b1 0 none).add 15) w2 fun x15 =>
      cnd (!decide (x15 = 1))
        (
        K false w2
        )
        (
        ld (Value.int .i64) ((Addr.mk b2 0 none).add 3) w2 fun x17 =>
        lp (fun (next18 : Int → World → Prop) l18 w3 =>
          cnd (decide (l18 ≤ p3))
            (
            jn (fun (J21 : Bool → World → Prop) => tk w3 fun w4 =>
              ix p2 l18 12 fun p22 =>
              ld (Value.int .i64) (p22.add 3) w4 fun x23 =>
              cnd (decide (x23 = 8))
                (
                ix p2 l18 12 fun p25 =>
                ld (Value.int .i64) (p25.add 4) w4 fun x26 =>
                ld (Value.int .i64) ((Addr.mk b2 0 none).add 1) w4 fun x27 =>
                J21 (decide (x26 = x27)) w4
                )
                (
                J21 false w4
                )
            )
            fun l28 w5 =>
            cnd (l28)
              (
              K false w5
              )
              (
              next18 (IntKind.i64.wrap (l18 + 1)) w5
              )
            )
            (
            K true w3
            )
        ) (IntKind.i64.wrap (x17 + 1)) w2
        )
      )
    )
set_option maxRecDepth 100000 in
theorem D25 (p0_0 : ByteArray) (p0_1 : Int) (p0_2 : Int) (p0_3 : Int) (p0_4 : Bool) (p0_5 : Int) (p0_6 : Bool) (p0_7 : Bool) (p0_8 : Int) (p0_9 : Int) (p0_10 : Int) (p0_11 : Int) (p0_12 : Sl) (p0_13 : Int) (p0_14 : Int) (p0_15 : Int) (p0_16 : Int) (p0_17 : Bool) (p0_18 : Int) (p0_19 : Int) (p0_20 : Int) (p0_21 : Int) (p1_0 : Int) (p1_1 : Int) (p1_2 : Int) (p1_3 : Int) (p2 : Sl) (p3 : Int) (w0 : World) (K : Bool → World → Prop) (h : F25 p0_0 p0_1 p0_2 p0_3 p0_4 p0_5 p0_6 p0_7 p0_8 p0_9 p0_10 p0_11 p0_12 p0_13 p0_14 p0_15 p0_16 p0_17 p0_18 p0_19 p0_20 p0_21 p1_0 p1_1 p1_2 p1_3 p2 p3 w0 K) : callC Try.prog 25 #[(Value.agg #[(Value.string p0_0), (Value.int .i64 p0_1), (Value.int .i64 p0_2), (Value.int .i64 p0_3), (Value.bool p0_4), (Value.int .i64 p0_5), (Value.bool p0_6), (Value.bool p0_7), (Value.int .i64 p0_8), (Value.int .i64 p0_9), (Value.int .i64 p0_10), (Value.int .i64 p0_11), (Sl.v p0_12), (Value.int .i64 p0_13), (Value.int .i64 p0_14), (Value.int .i64 p0_15), (Value.int .i64 p0_16), (Value.bool p0_17), (Value.int .i64 p0_18), (Value.int .i64 p0_19), (Value.int .i64 p0_20), (Value.int .i64 p0_21)]), (Value.agg #[(Value.int .i64 p1_0), (Value.int .i64 p1_1), (Value.int .i64 p1_2), (Value.int .i64 p1_3)]), (Sl.v p2), (Value.int .i64 p3)] (fun (r : Bool) => (Value.bool r)) w0 K := by
  unfold F25 at h
  refine calls_of_wpC Try.func25 rfl 55 rfl (by simp) ?_
  intro ρ hρ
  have e0 : ρ 0 = (Value.agg #[(Value.string p0_0), (Value.int .i64 p0_1), (Value.int .i64 p0_2), (Value.int .i64 p0_3), (Value.bool p0_4), (Value.int .i64 p0_5), (Value.bool p0_6), (Value.bool p0_7), (Value.int .i64 p0_8), (Value.int .i64 p0_9), (Value.int .i64 p0_10), (Value.int .i64 p0_11), (Sl.v p0_12), (Value.int .i64 p0_13), (Value.int .i64 p0_14), (Value.int .i64 p0_15), (Value.int .i64 p0_16), (Value.bool p0_17), (Value.int .i64 p0_18), (Value.int .i64 p0_19), (Value.int .i64 p0_20), (Value.int .i64 p0_21)]) := hρ 0
  have e1 : ρ 1 = (Value.agg #[(Value.int .i64 p1_0), (Value.int .i64 p1_1), (Value.int .i64 p1_2), (Value.int .i64 p1_3)]) := hρ 1
  have e2 : ρ 2 = (Sl.v p2) := hρ 2
  have e3 : ρ 3 = (Value.int .i64 p3) := hρ 3
  clear hρ
  refine wpC_seq ?_
  refine wpC_region ?_
  obtain ⟨b1, hb1⟩ : ∃ u, u = w0.heap.size := ⟨_, rfl⟩
  obtain ⟨w1, hw1⟩ : ∃ u, u = w0.alloc (.cells #[(Value.string p0_0), (Value.int .i64 p0_1), (Value.int .i64 p0_2), (Value.int .i64 p0_3), (Value.bool p0_4), (Value.int .i64 p0_5), (Value.bool p0_6), (Value.bool p0_7), (Value.int .i64 p0_8), (Value.int .i64 p0_9), (Value.int .i64 p0_10), (Value.int .i64 p0_11), (Sl.v p0_12), (Value.int .i64 p0_13), (Value.int .i64 p0_14), (Value.int .i64 p0_15), (Value.int .i64 p0_16), (Value.bool p0_17), (Value.int .i64 p0_18), (Value.int .i64 p0_19), (Value.int .i64 p0_20), (Value.int .i64 p0_21)] 33) := ⟨_, rfl⟩
  replace h := h b1 w1 hb1 hw1
  refine wpR_val (v := (Value.pointer (some (Addr.mk b1 0 none)))) (w' := w1) rfl rfl rfl ((x_box (v := (Value.agg #[(Value.string p0_0), (Value.int .i64 p0_1), (Value.int .i64 p0_2), (Value.int .i64 p0_3), (Value.bool p0_4), (Value.int .i64 p0_5), (Value.bool p0_6), (Value.bool p0_7), (Value.int .i64 p0_8), (Value.int .i64 p0_9), (Value.int .i64 p0_10), (Value.int .i64 p0_11), (Sl.v p0_12), (Value.int .i64 p0_13), (Value.int .i64 p0_14), (Value.int .i64 p0_15), (Value.int .i64 p0_16), (Value.bool p0_17), (Value.int .i64 p0_18), (Value.int .i64 p0_19), (Value.int .i64 p0_20), (Value.int .i64 p0_21)])) rfl e0).trans (by rw [hb1, hw1]; rfl)) ?_
  obtain ⟨b2, hb2⟩ : ∃ u, u = w1.heap.size := ⟨_, rfl⟩
  obtain ⟨w2, hw2⟩ : ∃ u, u = w1.alloc (.cells #[(Value.int .i64 p1_0), (Value.int .i64 p1_1), (Value.int .i64 p1_2), (Value.int .i64 p1_3)] 43) := ⟨_, rfl⟩
  replace h := h b2 w2 hb2 hw2
  refine wpR_val (v := (Value.pointer (some (Addr.mk b2 0 none)))) (w' := w2) rfl rfl rfl ((x_box (v := (Value.agg #[(Value.int .i64 p1_0), (Value.int .i64 p1_1), (Value.int .i64 p1_2), (Value.int .i64 p1_3)])) rfl e1).trans (by rw [hb2, hw2]; rfl)) ?_
  refine wpR_val (v := (Value.bool false)) (w' := w2) rfl rfl rfl (x_assign (v := (Value.bool false)) rfl rfl) ?_
  refine wpR_nil ?_
  refine wpC_seq ?_
  refine wpC_seq ?_
  refine wpC_cut (fun ρ => ρ 2 = (Sl.v p2) ∧ ρ 3 = (Value.int .i64 p3) ∧ ρ 4 = (Value.pointer (some (Addr.mk b1 0 none))) ∧ ρ 5 = (Value.pointer (some (Addr.mk b2 0 none))) ∧ True) ⟨e2, e3, rfl, rfl, trivial⟩ ?_
  rintro ρ ⟨e2, e3, e4, e5, -⟩
  refine wpC_region ?_
  refine wpR_val (v := (Value.pointer (some ((Addr.mk b1 0 none).add 14)))) (w' := w2) rfl rfl rfl (x_fieldAddr rfl e4 FA_33_14) ?_
  obtain ⟨x3, q3, h⟩ := h
  refine wpR_val (v := (Value.int .i64 x3)) (w' := w2) rfl rfl rfl (x_load1 rfl rfl SH_3 q3) ?_
  refine wpR_val (v := (Value.bool (!decide (x3 = 1)))) (w' := w2) rfl rfl rfl (x_neq rfl rfl rfl) ?_
  refine wpR_val (v := (Value.bool (!decide (x3 = 1)))) (w' := w2) rfl rfl rfl (x_move (v := (Value.bool (!decide (x3 = 1)))) rfl rfl) ?_
  obtain ⟨J4, h, hk⟩ := h
  refine wpR_joinJ 5 (fun x ρ => ρ 18 = Value.bool x ∧ ρ 2 = (Sl.v p2) ∧ ρ 3 = (Value.int .i64 p3) ∧ ρ 4 = (Value.pointer (some (Addr.mk b1 0 none))) ∧ ρ 5 = (Value.pointer (some (Addr.mk b2 0 none))) ∧ True) (fun x w => J4 x ∧ w2 = w) ?_ ?_
  · clear hk
    rcases Bool.eq_false_or_eq_true (!decide (x3 = 1)) with hc5 | hc5
    · replace h := h.1 hc5
      refine wpR_val (v := (Value.int .i64 p3)) (w' := w2) (wantG rfl rfl rfl hc5) rfl rfl (x_move (v := (Value.int .i64 p3)) rfl e3) ?_
      refine wpR_val (v := (Value.pointer (some ((Addr.mk b2 0 none).add 2)))) (w' := w2) (wantG rfl rfl rfl hc5) rfl rfl (x_fieldAddr rfl e5 FA_43_2) ?_
      obtain ⟨x6, q6, h⟩ := h
      refine wpR_val (v := (Value.int .i64 x6)) (w' := w2) (wantG rfl rfl rfl hc5) rfl rfl (x_load1 rfl rfl SH_3 q6) ?_
      refine wpR_val (v := (Value.bool (decide (p3 ≤ x6)))) (w' := w2) (wantG rfl rfl rfl hc5) rfl rfl (x_leq rfl rfl rfl) ?_
      refine wpR_val (v := (Value.bool (decide (p3 ≤ x6)))) (w' := w2) rfl rfl rfl (x_pickT (v := (Value.bool (decide (p3 ≤ x6)))) rfl rfl hc5 rfl) ?_
      refine wpR_nil ?_
      exact ⟨decide (p3 ≤ x6), ⟨rfl, e2, e3, e4, e5, trivial⟩, h, rfl⟩
    · replace h := h.2 hc5
      refine wpR_pass (wantN rfl rfl rfl hc5) rfl rfl ?_
      refine wpR_pass (wantN rfl rfl rfl hc5) rfl rfl ?_
      refine wpR_pass (wantN rfl rfl rfl hc5) rfl rfl ?_
      refine wpR_pass (wantN rfl rfl rfl hc5) rfl rfl ?_
      refine wpR_val (v := (Value.bool false)) (w' := w2) rfl rfl rfl (x_pickF (v := (Value.bool false)) rfl rfl hc5 rfl) ?_
      refine wpR_nil ?_
      exact ⟨false, ⟨rfl, e2, e3, e4, e5, trivial⟩, h, rfl⟩
  clear h
  rintro c7 ρ wj ⟨e18, e2, e3, e4, e5, -⟩ ⟨h, rfl⟩
  replace h := hk c7 h
  clear hk
  refine wpR_nil ?_
  refine wpC_cond (b := c7) e18 (fun hc8 => ?_) (fun hc8 => ?_)
  · replace h := h.1 hc8
    refine wpC_seq ?_
    refine wpC_region ?_
    refine wpR_val (v := (Value.bool false)) (w' := w2) rfl rfl rfl (x_assign (v := (Value.bool false)) rfl rfl) ?_
    refine wpR_nil ?_
    refine wpC_ret ?_
    exact ⟨.inl rfl, fun a ha => ⟨_, results_rep1 rfl ha rfl, false, rfl, h⟩⟩
  · replace h := h.2 hc8
    refine wpC_skip ?_
    refine wpC_seq ?_
    refine wpC_seq ?_
    refine wpC_region ?_
    refine wpR_val (v := (Value.pointer (some ((Addr.mk b2 0 none).add 3)))) (w' := w2) rfl rfl rfl (x_fieldAddr rfl e5 FA_43_3) ?_
    obtain ⟨x9, q9, h⟩ := h
    refine wpR_val (v := (Value.int .i64 x9)) (w' := w2) rfl rfl rfl (x_load1 rfl rfl SH_3 q9) ?_
    refine wpR_val (v := (Value.bool (decide (x9 = (-1))))) (w' := w2) rfl rfl rfl (x_eql rfl rfl rfl) ?_
    refine wpR_val (v := (Value.bool (decide (x9 = (-1))))) (w' := w2) rfl rfl rfl (x_move (v := (Value.bool (decide (x9 = (-1))))) rfl rfl) ?_
    obtain ⟨J10, h, hk⟩ := h
    refine wpR_joinJ 5 (fun x ρ => ρ 27 = Value.bool x ∧ ρ 2 = (Sl.v p2) ∧ ρ 3 = (Value.int .i64 p3) ∧ ρ 4 = (Value.pointer (some (Addr.mk b1 0 none))) ∧ ρ 5 = (Value.pointer (some (Addr.mk b2 0 none))) ∧ True) (fun x w => J10 x ∧ w2 = w) ?_ ?_
    · clear hk
      rcases Bool.eq_false_or_eq_true (decide (x9 = (-1))) with hc11 | hc11
      · replace h := h.1 hc11
        refine wpR_pass (wantN rfl rfl rfl hc11) rfl rfl ?_
        refine wpR_pass (wantN rfl rfl rfl hc11) rfl rfl ?_
        refine wpR_pass (wantN rfl rfl rfl hc11) rfl rfl ?_
        refine wpR_pass (wantN rfl rfl rfl hc11) rfl rfl ?_
        refine wpR_val (v := (Value.bool true)) (w' := w2) rfl rfl rfl (x_pickT (v := (Value.bool true)) rfl rfl hc11 rfl) ?_
        refine wpR_nil ?_
        exact ⟨true, ⟨rfl, e2, e3, e4, e5, trivial⟩, h, rfl⟩
      · replace h := h.2 hc11
        refine wpR_val (v := (Value.int .i64 p3)) (w' := w2) (wantG rfl rfl rfl hc11) rfl rfl (x_move (v := (Value.int .i64 p3)) rfl e3) ?_
        refine wpR_val (v := (Value.pointer (some ((Addr.mk b2 0 none).add 3)))) (w' := w2) (wantG rfl rfl rfl hc11) rfl rfl (x_fieldAddr rfl e5 FA_43_3) ?_
        obtain ⟨x12, q12, h⟩ := h
        refine wpR_val (v := (Value.int .i64 x12)) (w' := w2) (wantG rfl rfl rfl hc11) rfl rfl (x_load1 rfl rfl SH_3 q12) ?_
        refine wpR_val (v := (Value.bool (decide (p3 < x12)))) (w' := w2) (wantG rfl rfl rfl hc11) rfl rfl (x_lss rfl rfl rfl) ?_
        refine wpR_val (v := (Value.bool (decide (p3 < x12)))) (w' := w2) rfl rfl rfl (x_pickF (v := (Value.bool (decide (p3 < x12)))) rfl rfl hc11 rfl) ?_
        refine wpR_nil ?_
        exact ⟨decide (p3 < x12), ⟨rfl, e2, e3, e4, e5, trivial⟩, h, rfl⟩
    clear h
    rintro c13 ρ wj ⟨e27, e2, e3, e4, e5, -⟩ ⟨h, rfl⟩
    replace h := hk c13 h
    clear hk
    refine wpR_nil ?_
    refine wpC_cond (b := c13) e27 (fun hc14 => ?_) (fun hc14 => ?_)
    · replace h := h.1 hc14
      refine wpC_seq ?_
      refine wpC_region ?_
      refine wpR_val (v := (Value.bool true)) (w' := w2) rfl rfl rfl (x_assign (v := (Value.bool true)) rfl rfl) ?_
      refine wpR_nil ?_
      refine wpC_ret ?_
      exact ⟨.inl rfl, fun a ha => ⟨_, results_rep1 rfl ha rfl, true, rfl, h⟩⟩
    · replace h := h.2 hc14
      refine wpC_skip ?_
      refine wpC_seq ?_
      refine wpC_seq ?_
      refine wpC_region ?_
      refine wpR_val (v := (Value.pointer (some ((Addr.mk b1 0 none).add 15)))) (w' := w2) rfl rfl rfl (x_fieldAddr rfl e4 FA_33_15) ?_
      obtain ⟨x15, q15, h⟩ := h
      refine wpR_val (v := (Value.int .i64 x15)) (w' := w2) rfl rfl rfl (x_load1 rfl rfl SH_3 q15) ?_
      refine wpR_val (v := (Value.bool (!decide (x15 = 1)))) (w' := w2) rfl rfl rfl (x_neq rfl rfl rfl) ?_
      refine wpR_nil ?_
      refine wpC_cond (b := !decide (x15 = 1)) rfl (fun hc16 => ?_) (fun hc16 => ?_)
      · replace h := h.1 hc16
        refine wpC_seq ?_
        refine wpC_cut (fun ρ => True) trivial ?_
        rintro ρ -
        refine wpC_region ?_
        refine wpR_val (v := (Value.bool false)) (w' := w2) rfl rfl rfl (x_assign (v := (Value.bool false)) rfl rfl) ?_
        refine wpR_nil ?_
        refine wpC_ret ?_
        exact ⟨.inl rfl, fun a ha => ⟨_, results_rep1 rfl ha rfl, false, rfl, h⟩⟩
      · replace h := h.2 hc16
        refine wpC_skip ?_
        refine wpC_seq ?_
        refine wpC_seq ?_
        refine wpC_cut (fun ρ => ρ 2 = (Sl.v p2) ∧ ρ 3 = (Value.int .i64 p3) ∧ ρ 5 = (Value.pointer (some (Addr.mk b2 0 none))) ∧ True) ⟨e2, e3, e5, trivial⟩ ?_
        rintro ρ ⟨e2, e3, e5, -⟩
        refine wpC_region ?_
        refine wpR_val (v := (Value.pointer (some ((Addr.mk b2 0 none).add 3)))) (w' := w2) rfl rfl rfl (x_fieldAddr rfl e5 FA_43_3) ?_
        obtain ⟨x17, q17, h⟩ := h
        refine wpR_val (v := (Value.int .i64 x17)) (w' := w2) rfl rfl rfl (x_load1 rfl rfl SH_3 q17) ?_
        refine wpR_val (v := (Value.int .i64 (IntKind.i64.wrap (x17 + 1)))) (w' := w2) rfl rfl rfl (x_add rfl rfl rfl) ?_
        refine wpR_val (v := (Value.int .i64 (IntKind.i64.wrap (x17 + 1)))) (w' := w2) rfl rfl rfl (x_assign (v := (Value.int .i64 (IntKind.i64.wrap (x17 + 1)))) rfl rfl) ?_
        refine wpR_nil ?_
        refine wpC_block ?_
        obtain ⟨I18, μ18, hI18, hr18⟩ := h
        refine wpC_loop (fun (x : Int) ρ => ρ 9 = (Value.int .i64 x) ∧ ρ 2 = (Sl.v p2) ∧ ρ 3 = (Value.int .i64 p3) ∧ ρ 5 = (Value.pointer (some (Addr.mk b2 0 none))) ∧ True) I18 μ18 (IntKind.i64.wrap (x17 + 1)) ⟨rfl, e2, e3, e5, trivial⟩ hI18 ?_
        rintro l18 ρ w3 ⟨e9, e2, e3, e5, -⟩ h
        replace h := hr18 l18 w3 h
        clear hr18 hI18
        refine wpC_seq ?_
        refine wpC_seq ?_
        refine wpC_region ?_
        refine wpR_val (v := (Value.int .i64 l18)) (w' := w3) rfl rfl rfl (x_move (v := (Value.int .i64 l18)) rfl e9) ?_
        refine wpR_val (v := (Value.int .i64 p3)) (w' := w3) rfl rfl rfl (x_move (v := (Value.int .i64 p3)) rfl e3) ?_
        refine wpR_val (v := (Value.bool (decide (l18 ≤ p3)))) (w' := w3) rfl rfl rfl (x_leq rfl rfl rfl) ?_
        refine wpR_nil ?_
        refine wpC_cond (b := decide (l18 ≤ p3)) rfl (fun hc19 => ?_) (fun hc19 => ?_)
        · replace h := h.1 hc19
          refine wpC_skip ?_
          refine wpC_seq ?_
          refine wpC_block ?_
          refine wpC_seq ?_
          refine wpC_cut (fun ρ => ρ 2 = (Sl.v p2) ∧ ρ 3 = (Value.int .i64 p3) ∧ ρ 5 = (Value.pointer (some (Addr.mk b2 0 none))) ∧ ρ 9 = (Value.int .i64 l18) ∧ True) ⟨e2, e3, e5, e9, trivial⟩ ?_
          rintro ρ ⟨e2, e3, e5, e9, -⟩
          obtain ⟨J21, h, hk⟩ := h
          refine wpC_drawJ (by kernel_rfl) (fun (x : Bool) ρ => ρ 54 = (Value.bool x) ∧ ρ 2 = (Sl.v p2) ∧ ρ 3 = (Value.int .i64 p3) ∧ ρ 5 = (Value.pointer (some (Addr.mk b2 0 none))) ∧ ρ 9 = (Value.int .i64 l18) ∧ True) J21 ?_ ?_
          · clear hk
            unfold tk at h
            generalize w3.drew = w4 at h ⊢
            refine wpD_take (v := (Sl.v p2)) 0 (fun _ => True) rfl (by kernel_rfl) (by kernel_rfl) (by kernel_rfl) rfl rfl rfl trivial (fun w _ => (x_move (v := (Sl.v p2)) rfl e2)) ?_
            refine wpD_take (v := (Value.int .i64 l18)) 1 (fun _ => True) rfl (by kernel_rfl) (by kernel_rfl) (by kernel_rfl) rfl rfl rfl trivial (fun w _ => (x_move (v := (Value.int .i64 l18)) rfl e9)) ?_
            obtain ⟨q22, z22, r22, h⟩ := h
            generalize hp22 : z22.add ((l18 : Int).toNat * 12) = p22 at h
            refine wpD_take (v := (Value.pointer (some p22))) 2 (fun _ => True) rfl (by kernel_rfl) (by kernel_rfl) (by kernel_rfl) rfl rfl rfl trivial (fun w _ => ((x_indexAddr (s := p2) rfl rfl rfl ES_23 q22 r22).trans (by rw [hp22]))) ?_
            refine wpD_take (v := (Value.pointer (some (p22.add 3)))) 3 (fun _ => True) rfl (by kernel_rfl) (by kernel_rfl) (by kernel_rfl) rfl rfl rfl trivial (fun w _ => (x_fieldAddr rfl rfl FA_41_3)) ?_
            obtain ⟨x23, q23, h⟩ := h
            refine wpD_take (v := (Value.int .i64 x23)) 4 (fun w => w.cell? (p22.add 3) = some (Value.int .i64 x23)) rfl (by kernel_rfl) (by kernel_rfl) (by kernel_rfl) rfl rfl rfl q23 (fun w q23 => (x_load1 rfl rfl SH_3 q23)) ?_
            refine wpD_take (v := (Value.bool (decide (x23 = 8)))) 5 (fun _ => True) rfl (by kernel_rfl) (by kernel_rfl) (by kernel_rfl) rfl rfl rfl trivial (fun w _ => (x_eql rfl rfl rfl)) ?_
            refine wpD_take (v := (Value.bool (decide (x23 = 8)))) 6 (fun _ => True) rfl (by kernel_rfl) (by kernel_rfl) (by kernel_rfl) rfl rfl rfl trivial (fun w _ => (x_move (v := (Value.bool (decide (x23 = 8)))) rfl rfl)) ?_
            rcases Bool.eq_false_or_eq_true (decide (x23 = 8)) with hc24 | hc24
            · replace h := h.1 hc24
              refine wpD_take (v := (Sl.v p2)) 7 (fun _ => True) rfl (by kernel_rfl) (by kernel_rfl) (by kernel_rfl) (wantG rfl rfl rfl hc24) rfl rfl trivial (fun w _ => (x_move (v := (Sl.v p2)) rfl e2)) ?_
              refine wpD_take (v := (Value.int .i64 l18)) 8 (fun _ => True) rfl (by kernel_rfl) (by kernel_rfl) (by kernel_rfl) (wantG rfl rfl rfl hc24) rfl rfl trivial (fun w _ => (x_move (v := (Value.int .i64 l18)) rfl e9)) ?_
              obtain ⟨q25, z25, r25, h⟩ := h
              generalize hp25 : z25.add ((l18 : Int).toNat * 12) = p25 at h
              refine wpD_take (v := (Value.pointer (some p25))) 9 (fun _ => True) rfl (by kernel_rfl) (by kernel_rfl) (by kernel_rfl) (wantG rfl rfl rfl hc24) rfl rfl trivial (fun w _ => ((x_indexAddr (s := p2) rfl rfl rfl ES_23 q25 r25).trans (by rw [hp25]))) ?_
              refine wpD_take (v := (Value.pointer (some (p25.add 4)))) 10 (fun _ => True) rfl (by kernel_rfl) (by kernel_rfl) (by kernel_rfl) (wantG rfl rfl rfl hc24) rfl rfl trivial (fun w _ => (x_fieldAddr rfl rfl FA_41_4)) ?_
              obtain ⟨x26, q26, h⟩ := h
              refine wpD_take (v := (Value.int .i64 x26)) 11 (fun w => w.cell? (p25.add 4) = some (Value.int .i64 x26)) rfl (by kernel_rfl) (by kernel_rfl) (by kernel_rfl) (wantG rfl rfl rfl hc24) rfl rfl q26 (fun w q26 => (x_load1 rfl rfl SH_3 q26)) ?_
              refine wpD_take (v := (Value.pointer (some ((Addr.mk b2 0 none).add 1)))) 12 (fun _ => True) rfl (by kernel_rfl) (by kernel_rfl) (by kernel_rfl) (wantG rfl rfl rfl hc24) rfl rfl trivial (fun w _ => (x_fieldAddr rfl e5 FA_43_1)) ?_
              obtain ⟨x27, q27, h⟩ := h
              refine wpD_take (v := (Value.int .i64 x27)) 13 (fun w => w.cell? ((Addr.mk b2 0 none).add 1) = some (Value.int .i64 x27)) rfl (by kernel_rfl) (by kernel_rfl) (by kernel_rfl) (wantG rfl rfl rfl hc24) rfl rfl q27 (fun w q27 => (x_load1 rfl rfl SH_3 q27)) ?_
              refine wpD_take (v := (Value.bool (decide (x26 = x27)))) 14 (fun _ => True) rfl (by kernel_rfl) (by kernel_rfl) (by kernel_rfl) (wantG rfl rfl rfl hc24) rfl rfl trivial (fun w _ => (x_eql rfl rfl rfl)) ?_
              refine wpD_take (v := (Value.bool (decide (x26 = x27)))) 15 (fun _ => True) rfl (by kernel_rfl) (by kernel_rfl) (by kernel_rfl) rfl rfl rfl trivial (fun w _ => (x_pickT (v := (Value.bool (decide (x26 = x27)))) rfl rfl hc24 rfl)) ?_
              exact wpD_done (by kernel_rfl) ⟨decide (x26 = x27), ⟨rfl, e2, e3, e5, e9, trivial⟩, h⟩
            · replace h := h.2 hc24
              refine wpD_pass 7 rfl (by kernel_rfl) (by kernel_rfl) (by kernel_rfl) (wantN rfl rfl rfl hc24) rfl rfl ?_
              refine wpD_pass 8 rfl (by kernel_rfl) (by kernel_rfl) (by kernel_rfl) (wantN rfl rfl rfl hc24) rfl rfl ?_
              refine wpD_pass 9 rfl (by kernel_rfl) (by kernel_rfl) (by kernel_rfl) (wantN rfl rfl rfl hc24) rfl rfl ?_
              refine wpD_pass 10 rfl (by kernel_rfl) (by kernel_rfl) (by kernel_rfl) (wantN rfl rfl rfl hc24) rfl rfl ?_
              refine wpD_pass 11 rfl (by kernel_rfl) (by kernel_rfl) (by kernel_rfl) (wantN rfl rfl rfl hc24) rfl rfl ?_
              refine wpD_pass 12 rfl (by kernel_rfl) (by kernel_rfl) (by kernel_rfl) (wantN rfl rfl rfl hc24) rfl rfl ?_
              refine wpD_pass 13 rfl (by kernel_rfl) (by kernel_rfl) (by kernel_rfl) (wantN rfl rfl rfl hc24) rfl rfl ?_
              refine wpD_pass 14 rfl (by kernel_rfl) (by kernel_rfl) (by kernel_rfl) (wantN rfl rfl rfl hc24) rfl rfl ?_
              refine wpD_take (v := (Value.bool false)) 15 (fun _ => True) rfl (by kernel_rfl) (by kernel_rfl) (by kernel_rfl) rfl rfl rfl trivial (fun w _ => (x_pickF (v := (Value.bool false)) rfl rfl hc24 rfl)) ?_
              exact wpD_done (by kernel_rfl) ⟨false, ⟨rfl, e2, e3, e5, e9, trivial⟩, h⟩
          clear h
          rintro l28 ρ w5 ⟨e54, e2, e3, e5, e9, -⟩ h
          replace h := hk l28 w5 h
          clear hk
          refine wpC_cond (b := l28) e54 (fun hc29 => ?_) (fun hc29 => ?_)
          · replace h := h.1 hc29
            refine wpC_seq ?_
            refine wpC_region ?_
            refine wpR_val (v := (Value.bool false)) (w' := w5) rfl rfl rfl (x_assign (v := (Value.bool false)) rfl rfl) ?_
            refine wpR_nil ?_
            refine wpC_ret ?_
            exact ⟨.inl rfl, fun a ha => ⟨_, results_rep1 rfl ha rfl, false, rfl, h⟩⟩
          · replace h := h.2 hc29
            refine wpC_skip ?_
            refine wpC_region ?_
            refine wpR_val (v := (Value.int .i64 l18)) (w' := w5) rfl rfl rfl (x_move (v := (Value.int .i64 l18)) rfl e9) ?_
            refine wpR_val (v := (Value.int .i64 (IntKind.i64.wrap (l18 + 1)))) (w' := w5) rfl rfl rfl (x_add rfl rfl rfl) ?_
            refine wpR_val (v := (Value.int .i64 (IntKind.i64.wrap (l18 + 1)))) (w' := w5) rfl rfl rfl (x_assign (v := (Value.int .i64 (IntKind.i64.wrap (l18 + 1)))) rfl rfl) ?_
            refine wpR_nil ?_
            exact ⟨IntKind.i64.wrap (l18 + 1), ⟨rfl, e2, e3, e5, trivial⟩, h⟩
        · replace h := h.2 hc19
          refine wpC_exit ?_
          refine wpC_seq ?_
          refine wpC_cut (fun ρ => True) trivial ?_
          rintro ρ -
          refine wpC_region ?_
          refine wpR_val (v := (Value.bool true)) (w' := w3) rfl rfl rfl (x_assign (v := (Value.bool true)) rfl rfl) ?_
          refine wpR_nil ?_
          refine wpC_ret ?_
          exact ⟨.inl rfl, fun a ha => ⟨_, results_rep1 rfl ha rfl, true, rfl, h⟩⟩

/-- slices.ContainsFunc[[]int,int] -/
def F26 (p0 : Sl) (p1 : Value) (w0 : World) (K : Bool → World → Prop) : Prop :=
  callC Try.prog 38 #[(Sl.v p0), p1] (fun (r : Int) => (Value.int .i64 r)) w0 fun r1 w1 =>
  K (decide (0 ≤ r1)) w1
set_option maxRecDepth 100000 in
theorem D26 (p0 : Sl) (p1 : Value) (w0 : World) (K : Bool → World → Prop) (h : F26 p0 p1 w0 K) : callC Try.prog 26 #[(Sl.v p0), p1] (fun (r : Bool) => (Value.bool r)) w0 K := by
  unfold F26 at h
  refine calls_of_wpC Try.func26 rfl 9 rfl (by simp) ?_
  intro ρ hρ
  have e0 : ρ 0 = (Sl.v p0) := hρ 0
  have e1 : ρ 1 = p1 := hρ 1
  clear hρ
  refine wpC_seq ?_
  refine wpC_region ?_
  refine wpR_val (v := (Value.bool false)) (w' := w0) rfl rfl rfl (x_assign (v := (Value.bool false)) rfl rfl) ?_
  refine wpR_nil ?_
  refine wpC_seq ?_
  refine wpC_cut (fun ρ => ρ 0 = (Sl.v p0) ∧ ρ 1 = p1 ∧ True) ⟨e0, e1, trivial⟩ ?_
  rintro ρ ⟨e0, e1, -⟩
  refine wpC_region ?_
  refine wpR_val (v := (Sl.v p0)) (w' := w0) rfl rfl rfl (x_move (v := (Sl.v p0)) rfl e0) ?_
  refine wpR_val (v := p1) (w' := w0) rfl rfl rfl (x_move (v := p1) rfl e1) ?_
  refine wpR_enter rfl rfl rfl (x_call (vs := [(Sl.v p0), p1]) rfl rfl (mapl_cons rfl (mapl_cons rfl mapl_nil)) Try.func38 NN_38 NB_38) (Calls.mono h ?_)
  rintro _ w1 ⟨r1, rfl, h⟩
  refine ⟨_, rfl, ?_⟩
  refine wpR_val (v := (Value.bool (decide (0 ≤ r1)))) (w' := w1) rfl rfl rfl (x_geq rfl rfl rfl) ?_
  refine wpR_val (v := (Value.bool (decide (0 ≤ r1)))) (w' := w1) rfl rfl rfl (x_assign (v := (Value.bool (decide (0 ≤ r1)))) rfl rfl) ?_
  refine wpR_nil ?_
  refine wpC_ret ?_
  exact ⟨.inl rfl, fun a ha => ⟨_, results_rep1 rfl ha rfl, decide (0 ≤ r1), rfl, h⟩⟩

/-- sight.To$1 -/
def F27 (p0 : Int) (c1 : Addr) (c2 : Addr) (c3 : Addr) (c4 : Addr) (c5 : Addr) (w0 : World) (K : Bool → World → Prop) : Prop :=
  jn (fun (J2 : Bool → World → Prop) => tk w0 fun w1 =>
    callC Try.prog 18 #[(Value.int .i64 p0)] (fun (r : Int) => (Value.int .i64 r)) w1 fun r3 w2 =>
    cnd (decide (0 ≤ r3))
      (
      ld (Value.int .i64) c1 w2 fun x5 =>
      callC Try.prog 18 #[(Value.int .i64 p0)] (fun (r : Int) => (Value.int .i64 r)) w2 fun r6 w3 =>
      (w3.cell? c1 = some (Value.int .i64 x5)) ∧
      cnd (decide (r6 = x5))
        (
        ld Sl.v c2 w3 fun x8 =>
        ld Sl.v c3 w3 fun x9 =>
        ld Sl.v c4 w3 fun x10 =>
        ld (Value.int .i64) c5 w3 fun x11 =>
        callC Try.prog 22 #[(Sl.v x8), (Sl.v x9), (Sl.v x10), (Value.int .i64 p0), (Value.int .i64 x11)] (fun (r : Bool) => (Value.bool r)) w3 fun r12 w4 =>
        (w4.cell? c1 = some (Value.int .i64 x5)) ∧
        J2 r12 w4
        )
        (
        J2 false w3
        )
      )
      (
      J2 false w2
      )
  )
  fun l13 w5 =>
  K l13 w5
set_option maxRecDepth 100000 in
theorem D27 (p0 : Int) (c1 : Addr) (c2 : Addr) (c3 : Addr) (c4 : Addr) (c5 : Addr) (w0 : World) (K : Bool → World → Prop) (h : F27 p0 c1 c2 c3 c4 c5 w0 K) : callC Try.prog 27 #[(Value.int .i64 p0), (Value.pointer (some c1)), (Value.pointer (some c2)), (Value.pointer (some c3)), (Value.pointer (some c4)), (Value.pointer (some c5))] (fun (r : Bool) => (Value.bool r)) w0 K := by
  unfold F27 at h
  refine calls_of_wpC Try.func27 rfl 25 rfl (by simp) ?_
  intro ρ hρ
  have e0 : ρ 0 = (Value.int .i64 p0) := hρ 0
  have e1 : ρ 1 = (Value.pointer (some c1)) := hρ 1
  have e2 : ρ 2 = (Value.pointer (some c2)) := hρ 2
  have e3 : ρ 3 = (Value.pointer (some c3)) := hρ 3
  have e4 : ρ 4 = (Value.pointer (some c4)) := hρ 4
  have e5 : ρ 5 = (Value.pointer (some c5)) := hρ 5
  clear hρ
  refine wpC_seq ?_
  refine wpC_region ?_
  refine wpR_val (v := (Value.bool false)) (w' := w0) rfl rfl rfl (x_assign (v := (Value.bool false)) rfl rfl) ?_
  refine wpR_nil ?_
  refine wpC_seq ?_
  refine wpC_cut (fun ρ => ρ 0 = (Value.int .i64 p0) ∧ ρ 1 = (Value.pointer (some c1)) ∧ ρ 2 = (Value.pointer (some c2)) ∧ ρ 3 = (Value.pointer (some c3)) ∧ ρ 4 = (Value.pointer (some c4)) ∧ ρ 5 = (Value.pointer (some c5)) ∧ True) ⟨e0, e1, e2, e3, e4, e5, trivial⟩ ?_
  rintro ρ ⟨e0, e1, e2, e3, e4, e5, -⟩
  obtain ⟨J2, h, hk⟩ := h
  refine wpC_drawJ (by kernel_rfl) (fun (x : Bool) ρ => ρ 7 = (Value.bool x) ∧ True) J2 ?_ ?_
  · clear hk
    unfold tk at h
    generalize w0.drew = w1 at h ⊢
    refine wpD_take (v := (Value.int .i64 p0)) 0 (fun _ => True) rfl (by kernel_rfl) (by kernel_rfl) (by kernel_rfl) rfl rfl rfl trivial (fun w _ => (x_move (v := (Value.int .i64 p0)) rfl e0)) ?_
    refine wpD_all (rs := [1]) (by kernel_rfl) (by simp) (allD_cons ?_ allD_nil)
    refine stepD_enterL (L' := []) rfl rfl rfl rfl (x_call (vs := [(Value.int .i64 p0)]) rfl rfl (mapl_cons rfl mapl_nil) Try.func18 NN_18 NB_18) (by kernel_rfl) (Calls.mono h ?_)
    rintro _ w2 ⟨r3, rfl, h⟩
    refine ⟨_, rfl, held_nil, ?_⟩
    refine wpD_take (v := (Value.bool (decide (0 ≤ r3)))) 2 (fun _ => True) rfl (by kernel_rfl) (by kernel_rfl) (by kernel_rfl) rfl rfl rfl trivial (fun w _ => (x_geq rfl rfl rfl)) ?_
    refine wpD_take (v := (Value.bool (decide (0 ≤ r3)))) 3 (fun _ => True) rfl (by kernel_rfl) (by kernel_rfl) (by kernel_rfl) rfl rfl rfl trivial (fun w _ => (x_move (v := (Value.bool (decide (0 ≤ r3)))) rfl rfl)) ?_
    rcases Bool.eq_false_or_eq_true (decide (0 ≤ r3)) with hc4 | hc4
    · replace h := h.1 hc4
      refine wpD_take (v := (Value.int .i64 p0)) 4 (fun _ => True) rfl (by kernel_rfl) (by kernel_rfl) (by kernel_rfl) (wantG rfl rfl rfl hc4) rfl rfl trivial (fun w _ => (x_move (v := (Value.int .i64 p0)) rfl e0)) ?_
      obtain ⟨x5, q5, h⟩ := h
      refine wpD_take (v := (Value.int .i64 x5)) 6 (fun w => w.cell? c1 = some (Value.int .i64 x5)) rfl (by kernel_rfl) (by kernel_rfl) (by kernel_rfl) (wantG rfl rfl rfl hc4) rfl rfl q5 (fun w q5 => (x_load1 rfl e1 SH_3 q5)) ?_
      refine wpD_all (rs := [5]) (by kernel_rfl) (by simp) (allD_cons ?_ allD_nil)
      refine stepD_enterL (L' := [(6, fun w => w.cell? c1 = some (Value.int .i64 x5)), (2, fun _ => True)]) rfl (wantG rfl rfl rfl hc4) rfl rfl (x_call (vs := [(Value.int .i64 p0)]) rfl rfl (mapl_cons rfl mapl_nil) Try.func18 NN_18 NB_18) (by kernel_rfl) (Calls.mono h ?_)
      rintro _ w3 ⟨r6, rfl, h⟩
      obtain ⟨o6, h⟩ := h
      refine ⟨_, rfl, (held_cons o6 (held_cons trivial held_nil)), ?_⟩
      refine wpD_take (v := (Value.bool (decide (r6 = x5)))) 7 (fun _ => True) rfl (by kernel_rfl) (by kernel_rfl) (by kernel_rfl) (wantG rfl rfl rfl hc4) rfl rfl trivial (fun w _ => (x_eql rfl rfl rfl)) ?_
      refine wpD_take (v := (Value.bool (decide (r6 = x5)))) 8 (fun _ => True) rfl (by kernel_rfl) (by kernel_rfl) (by kernel_rfl) rfl rfl rfl trivial (fun w _ => (x_pickT (v := (Value.bool (decide (r6 = x5)))) rfl rfl hc4 rfl)) ?_
      refine wpD_take (v := (Value.bool (decide (r6 = x5)))) 9 (fun _ => True) rfl (by kernel_rfl) (by kernel_rfl) (by kernel_rfl) rfl rfl rfl trivial (fun w _ => (x_move (v := (Value.bool (decide (r6 = x5)))) rfl rfl)) ?_
      rcases Bool.eq_false_or_eq_true (decide (r6 = x5)) with hc7 | hc7
      · replace h := h.1 hc7
        obtain ⟨x8, q8, h⟩ := h
        refine wpD_take (v := (Sl.v x8)) 10 (fun w => w.cell? c2 = some (Sl.v x8)) rfl (by kernel_rfl) (by kernel_rfl) (by kernel_rfl) (wantG rfl rfl rfl hc7) rfl rfl q8 (fun w q8 => (x_load1 rfl e2 SH_22 q8)) ?_
        obtain ⟨x9, q9, h⟩ := h
        refine wpD_take (v := (Sl.v x9)) 11 (fun w => w.cell? c3 = some (Sl.v x9)) rfl (by kernel_rfl) (by kernel_rfl) (by kernel_rfl) (wantG rfl rfl rfl hc7) rfl rfl q9 (fun w q9 => (x_load1 rfl e3 SH_23 q9)) ?_
        obtain ⟨x10, q10, h⟩ := h
        refine wpD_take (v := (Sl.v x10)) 12 (fun w => w.cell? c4 = some (Sl.v x10)) rfl (by kernel_rfl) (by kernel_rfl) (by kernel_rfl) (wantG rfl rfl rfl hc7) rfl rfl q10 (fun w q10 => (x_load1 rfl e4 SH_37 q10)) ?_
        refine wpD_take (v := (Value.int .i64 p0)) 13 (fun _ => True) rfl (by kernel_rfl) (by kernel_rfl) (by kernel_rfl) (wantG rfl rfl rfl hc7) rfl rfl trivial (fun w _ => (x_move (v := (Value.int .i64 p0)) rfl e0)) ?_
        obtain ⟨x11, q11, h⟩ := h
        refine wpD_take (v := (Value.int .i64 x11)) 14 (fun w => w.cell? c5 = some (Value.int .i64 x11)) rfl (by kernel_rfl) (by kernel_rfl) (by kernel_rfl) (wantG rfl rfl rfl hc7) rfl rfl q11 (fun w q11 => (x_load1 rfl e5 SH_3 q11)) ?_
        refine wpD_all (rs := [15]) (by kernel_rfl) (by simp) (allD_cons ?_ allD_nil)
        refine stepD_enterL (L' := [(8, fun _ => True), (7, fun _ => True), (6, fun w => w.cell? c1 = some (Value.int .i64 x5)), (2, fun _ => True)]) rfl (wantG rfl rfl rfl hc7) rfl rfl (x_call (vs := [(Sl.v x8), (Sl.v x9), (Sl.v x10), (Value.int .i64 p0), (Value.int .i64 x11)]) rfl rfl (mapl_cons rfl (mapl_cons rfl (mapl_cons rfl (mapl_cons rfl (mapl_cons rfl mapl_nil))))) Try.func22 NN_22 NB_22) (by kernel_rfl) (Calls.mono h ?_)
        rintro _ w4 ⟨r12, rfl, h⟩
        obtain ⟨o6, h⟩ := h
        refine ⟨_, rfl, (held_cons trivial (held_cons trivial (held_cons o6 (held_cons trivial held_nil)))), ?_⟩
        refine wpD_take (v := (Value.bool r12)) 16 (fun _ => True) rfl (by kernel_rfl) (by kernel_rfl) (by kernel_rfl) rfl rfl rfl trivial (fun w _ => (x_pickT (v := (Value.bool r12)) rfl rfl hc7 rfl)) ?_
        refine wpD_take (v := (Value.bool r12)) 17 (fun _ => True) rfl (by kernel_rfl) (by kernel_rfl) (by kernel_rfl) rfl rfl rfl trivial (fun w _ => (x_assign (v := (Value.bool r12)) rfl rfl)) ?_
        exact wpD_done (by kernel_rfl) ⟨r12, ⟨rfl, trivial⟩, h⟩
      · replace h := h.2 hc7
        refine wpD_pass 10 rfl (by kernel_rfl) (by kernel_rfl) (by kernel_rfl) (wantN rfl rfl rfl hc7) rfl rfl ?_
        refine wpD_pass 11 rfl (by kernel_rfl) (by kernel_rfl) (by kernel_rfl) (wantN rfl rfl rfl hc7) rfl rfl ?_
        refine wpD_pass 12 rfl (by kernel_rfl) (by kernel_rfl) (by kernel_rfl) (wantN rfl rfl rfl hc7) rfl rfl ?_
        refine wpD_pass 13 rfl (by kernel_rfl) (by kernel_rfl) (by kernel_rfl) (wantN rfl rfl rfl hc7) rfl rfl ?_
        refine wpD_pass 14 rfl (by kernel_rfl) (by kernel_rfl) (by kernel_rfl) (wantN rfl rfl rfl hc7) rfl rfl ?_
        refine wpD_pass 15 rfl (by kernel_rfl) (by kernel_rfl) (by kernel_rfl) (wantN rfl rfl rfl hc7) rfl rfl ?_
        refine wpD_take (v := (Value.bool false)) 16 (fun _ => True) rfl (by kernel_rfl) (by kernel_rfl) (by kernel_rfl) rfl rfl rfl trivial (fun w _ => (x_pickF (v := (Value.bool false)) rfl rfl hc7 rfl)) ?_
        refine wpD_take (v := (Value.bool false)) 17 (fun _ => True) rfl (by kernel_rfl) (by kernel_rfl) (by kernel_rfl) rfl rfl rfl trivial (fun w _ => (x_assign (v := (Value.bool false)) rfl rfl)) ?_
        exact wpD_done (by kernel_rfl) ⟨false, ⟨rfl, trivial⟩, h⟩
    · replace h := h.2 hc4
      refine wpD_pass 4 rfl (by kernel_rfl) (by kernel_rfl) (by kernel_rfl) (wantN rfl rfl rfl hc4) rfl rfl ?_
      refine wpD_pass 5 rfl (by kernel_rfl) (by kernel_rfl) (by kernel_rfl) (wantN rfl rfl rfl hc4) rfl rfl ?_
      refine wpD_pass 6 rfl (by kernel_rfl) (by kernel_rfl) (by kernel_rfl) (wantN rfl rfl rfl hc4) rfl rfl ?_
      refine wpD_pass 7 rfl (by kernel_rfl) (by kernel_rfl) (by kernel_rfl) (wantN rfl rfl rfl hc4) rfl rfl ?_
      refine wpD_take (v := (Value.bool false)) 8 (fun _ => True) rfl (by kernel_rfl) (by kernel_rfl) (by kernel_rfl) rfl rfl rfl trivial (fun w _ => (x_pickF (v := (Value.bool false)) rfl rfl hc4 rfl)) ?_
      refine wpD_take (v := (Value.bool false)) 9 (fun _ => True) rfl (by kernel_rfl) (by kernel_rfl) (by kernel_rfl) rfl rfl rfl trivial (fun w _ => (x_move (v := (Value.bool false)) rfl rfl)) ?_
      refine wpD_pass 10 rfl (by kernel_rfl) (by kernel_rfl) (by kernel_rfl) (wantN rfl rfl rfl rfl) rfl rfl ?_
      refine wpD_pass 11 rfl (by kernel_rfl) (by kernel_rfl) (by kernel_rfl) (wantN rfl rfl rfl rfl) rfl rfl ?_
      refine wpD_pass 12 rfl (by kernel_rfl) (by kernel_rfl) (by kernel_rfl) (wantN rfl rfl rfl rfl) rfl rfl ?_
      refine wpD_pass 13 rfl (by kernel_rfl) (by kernel_rfl) (by kernel_rfl) (wantN rfl rfl rfl rfl) rfl rfl ?_
      refine wpD_pass 14 rfl (by kernel_rfl) (by kernel_rfl) (by kernel_rfl) (wantN rfl rfl rfl rfl) rfl rfl ?_
      refine wpD_pass 15 rfl (by kernel_rfl) (by kernel_rfl) (by kernel_rfl) (wantN rfl rfl rfl rfl) rfl rfl ?_
      refine wpD_take (v := (Value.bool false)) 16 (fun _ => True) rfl (by kernel_rfl) (by kernel_rfl) (by kernel_rfl) rfl rfl rfl trivial (fun w _ => (x_pickF (v := (Value.bool false)) rfl rfl rfl rfl)) ?_
      refine wpD_take (v := (Value.bool false)) 17 (fun _ => True) rfl (by kernel_rfl) (by kernel_rfl) (by kernel_rfl) rfl rfl rfl trivial (fun w _ => (x_assign (v := (Value.bool false)) rfl rfl)) ?_
      exact wpD_done (by kernel_rfl) ⟨false, ⟨rfl, trivial⟩, h⟩
  clear h
  rintro l13 ρ w5 ⟨e7, -⟩ h
  replace h := hk l13 w5 h
  clear hk
  refine wpC_ret ?_
  exact ⟨.inl rfl, fun a ha => ⟨_, results_rep1 rfl ha e7, l13, rfl, h⟩⟩

/-- event.below -/
def F28 (p0 : Int) (p1 : Int) (w0 : World) (K : Bool → World → Prop) : Prop :=
  K ((decide (0 ≤ p0)) && (decide (p0 < p1))) w0
set_option maxRecDepth 100000 in
theorem D28 (p0 : Int) (p1 : Int) (w0 : World) (K : Bool → World → Prop) (h : F28 p0 p1 w0 K) : callC Try.prog 28 #[(Value.int .i64 p0), (Value.int .i64 p1)] (fun (r : Bool) => (Value.bool r)) w0 K := by
  unfold F28 at h
  refine calls_of_wpC Try.func28 rfl 12 rfl (by simp) ?_
  intro ρ hρ
  have e0 : ρ 0 = (Value.int .i64 p0) := hρ 0
  have e1 : ρ 1 = (Value.int .i64 p1) := hρ 1
  clear hρ
  refine wpC_seq ?_
  refine wpC_region ?_
  refine wpR_val (v := (Value.bool false)) (w' := w0) rfl rfl rfl (x_assign (v := (Value.bool false)) rfl rfl) ?_
  refine wpR_nil ?_
  refine wpC_seq ?_
  refine wpC_cut (fun ρ => ρ 0 = (Value.int .i64 p0) ∧ ρ 1 = (Value.int .i64 p1) ∧ True) ⟨e0, e1, trivial⟩ ?_
  rintro ρ ⟨e0, e1, -⟩
  refine wpC_region ?_
  refine wpR_val (v := (Value.int .i64 p0)) (w' := w0) rfl rfl rfl (x_move (v := (Value.int .i64 p0)) rfl e0) ?_
  refine wpR_val (v := (Value.bool (decide (0 ≤ p0)))) (w' := w0) rfl rfl rfl (x_leq rfl rfl rfl) ?_
  refine wpR_val (v := (Value.bool (decide (0 ≤ p0)))) (w' := w0) rfl rfl rfl (x_move (v := (Value.bool (decide (0 ≤ p0)))) rfl rfl) ?_
  refine wpR_joinJ 4 (fun (_ : Unit) ρ => ρ 11 = Value.bool ((decide (0 ≤ p0)) && (decide (p0 < p1))) ∧ True) (fun _ w => w0 = w) ?_ ?_
  · clear h
    rcases Bool.eq_false_or_eq_true (decide (0 ≤ p0)) with hc2 | hc2
    · skip
      refine wpR_val (v := (Value.int .i64 p0)) (w' := w0) (wantG rfl rfl rfl hc2) rfl rfl (x_move (v := (Value.int .i64 p0)) rfl e0) ?_
      refine wpR_val (v := (Value.int .i64 p1)) (w' := w0) (wantG rfl rfl rfl hc2) rfl rfl (x_move (v := (Value.int .i64 p1)) rfl e1) ?_
      refine wpR_val (v := (Value.bool (decide (p0 < p1)))) (w' := w0) (wantG rfl rfl rfl hc2) rfl rfl (x_lss rfl rfl rfl) ?_
      refine wpR_val (v := (Value.bool (decide (p0 < p1)))) (w' := w0) rfl rfl rfl (x_pickT (v := (Value.bool (decide (p0 < p1)))) rfl rfl hc2 rfl) ?_
      refine wpR_nil ?_
      exact ⟨(), ⟨(by rw [hc2]; rfl), trivial⟩, rfl⟩
    · skip
      refine wpR_pass (wantN rfl rfl rfl hc2) rfl rfl ?_
      refine wpR_pass (wantN rfl rfl rfl hc2) rfl rfl ?_
      refine wpR_pass (wantN rfl rfl rfl hc2) rfl rfl ?_
      refine wpR_val (v := (Value.bool false)) (w' := w0) rfl rfl rfl (x_pickF (v := (Value.bool false)) rfl rfl hc2 rfl) ?_
      refine wpR_nil ?_
      exact ⟨(), ⟨(by rw [hc2]; rfl), trivial⟩, rfl⟩
  rintro _ ρ wj ⟨e11, -⟩ rfl
  refine wpR_val (v := (Value.bool ((decide (0 ≤ p0)) && (decide (p0 < p1))))) (w' := w0) rfl rfl rfl (x_assign (v := (Value.bool ((decide (0 ≤ p0)) && (decide (p0 < p1))))) rfl e11) ?_
  refine wpR_nil ?_
  refine wpC_ret ?_
  exact ⟨.inl rfl, fun a ha => ⟨_, results_rep1 rfl ha rfl, (decide (0 ≤ p0)) && (decide (p0 < p1)), rfl, h⟩⟩

/-- lingualaw18.act -/
def F29 (p0 : Int) (p1 : Int) (w0 : World) (K : (Int × Int × Sl × Int × Int × Int × Int × Int × Int × ByteArray × Sl × Int) → World → Prop) : Prop :=
  nw 41 #[(Value.int .i64 0), (Value.int .i64 0), (Sl.v Sl.nil), (Value.int .i64 0), (Value.int .i64 0), (Value.int .i64 0), (Value.int .i64 0), (Value.int .i64 0), (Value.int .i64 0), (Value.string (ByteArray.mk #[])), (Sl.v Sl.nil), (Value.int .i64 0)] w0 fun b1 w1 =>
  st (Addr.mk b1 0 none) [(Value.int .i64 0), (Value.int .i64 0), (Sl.v Sl.nil), (Value.int .i64 p0), (Value.int .i64 0), (Value.int .i64 (-1)), (Value.int .i64 (-1)), (Value.int .i64 p1), (Value.int .i64 0), (Value.string (ByteArray.mk #[])), (Sl.v Sl.nil), (Value.int .i64 0)] w1 fun w2 =>
  ld (Value.int .i64) ((Addr.mk b1 0 none).add 0) w2 fun x3 =>
  ld (Value.int .i64) ((Addr.mk b1 0 none).add 1) w2 fun x4 =>
  ld Sl.v ((Addr.mk b1 0 none).add 2) w2 fun x5 =>
  ld (Value.int .i64) ((Addr.mk b1 0 none).add 3) w2 fun x6 =>
  ld (Value.int .i64) ((Addr.mk b1 0 none).add 4) w2 fun x7 =>
  ld (Value.int .i64) ((Addr.mk b1 0 none).add 5) w2 fun x8 =>
  ld (Value.int .i64) ((Addr.mk b1 0 none).add 6) w2 fun x9 =>
  ld (Value.int .i64) ((Addr.mk b1 0 none).add 7) w2 fun x10 =>
  ld (Value.int .i64) ((Addr.mk b1 0 none).add 8) w2 fun x11 =>
  ld Value.string ((Addr.mk b1 0 none).add 9) w2 fun x12 =>
  ld Sl.v ((Addr.mk b1 0 none).add 10) w2 fun x13 =>
  ld (Value.int .i64) ((Addr.mk b1 0 none).add 11) w2 fun x14 =>
  K (x3, x4, x5, x6, x7, x8, x9, x10, x11, x12, x13, x14) w2
set_option maxRecDepth 100000 in
theorem D29 (p0 : Int) (p1 : Int) (w0 : World) (K : (Int × Int × Sl × Int × Int × Int × Int × Int × Int × ByteArray × Sl × Int) → World → Prop) (h : F29 p0 p1 w0 K) : callC Try.prog 29 #[(Value.int .i64 p0), (Value.int .i64 p1)] (fun (r : Int × Int × Sl × Int × Int × Int × Int × Int × Int × ByteArray × Sl × Int) => (Value.agg #[(Value.int .i64 r.1), (Value.int .i64 r.2.1), (Sl.v r.2.2.1), (Value.int .i64 r.2.2.2.1), (Value.int .i64 r.2.2.2.2.1), (Value.int .i64 r.2.2.2.2.2.1), (Value.int .i64 r.2.2.2.2.2.2.1), (Value.int .i64 r.2.2.2.2.2.2.2.1), (Value.int .i64 r.2.2.2.2.2.2.2.2.1), (Value.string r.2.2.2.2.2.2.2.2.2.1), (Sl.v r.2.2.2.2.2.2.2.2.2.2.1), (Value.int .i64 r.2.2.2.2.2.2.2.2.2.2.2)])) w0 K := by
  unfold F29 at h
  refine calls_of_wpC Try.func29 rfl 8 rfl (by simp) ?_
  intro ρ hρ
  have e0 : ρ 0 = (Value.int .i64 p0) := hρ 0
  have e1 : ρ 1 = (Value.int .i64 p1) := hρ 1
  clear hρ
  refine wpC_seq ?_
  refine wpC_region ?_
  obtain ⟨b1, hb1⟩ : ∃ u, u = w0.heap.size := ⟨_, rfl⟩
  obtain ⟨w1, hw1⟩ : ∃ u, u = w0.alloc (.cells #[(Value.int .i64 0), (Value.int .i64 0), (Sl.v Sl.nil), (Value.int .i64 0), (Value.int .i64 0), (Value.int .i64 0), (Value.int .i64 0), (Value.int .i64 0), (Value.int .i64 0), (Value.string (ByteArray.mk #[])), (Sl.v Sl.nil), (Value.int .i64 0)] 41) := ⟨_, rfl⟩
  replace h := h b1 w1 hb1 hw1
  refine wpR_val (v := (Value.pointer (some (Addr.mk b1 0 none)))) (w' := w1) rfl rfl rfl ((x_alloc rfl ZV_41).trans (by rw [hb1, hw1]; rfl)) ?_
  refine wpR_nil ?_
  refine wpC_seq ?_
  refine wpC_cut (fun ρ => ρ 0 = (Value.int .i64 p0) ∧ ρ 1 = (Value.int .i64 p1) ∧ ρ 4 = (Value.pointer (some (Addr.mk b1 0 none))) ∧ True) ⟨e0, e1, rfl, trivial⟩ ?_
  rintro ρ ⟨e0, e1, e4, -⟩
  refine wpC_region ?_
  refine wpR_val (v := (Value.int .i64 p0)) (w' := w1) rfl rfl rfl (x_move (v := (Value.int .i64 p0)) rfl e0) ?_
  refine wpR_val (v := (Value.int .i64 p1)) (w' := w1) rfl rfl rfl (x_move (v := (Value.int .i64 p1)) rfl e1) ?_
  refine wpR_val (v := (Value.agg #[(Value.int .i64 0), (Value.int .i64 0), (Sl.v Sl.nil), (Value.int .i64 p0), (Value.int .i64 0), (Value.int .i64 (-1)), (Value.int .i64 (-1)), (Value.int .i64 p1), (Value.int .i64 0), (Value.string (ByteArray.mk #[])), (Sl.v Sl.nil), (Value.int .i64 0)])) (w' := w1) rfl rfl rfl (x_build (qs := [(3, (Value.int .i64 p0)), (5, (Value.int .i64 (-1))), (6, (Value.int .i64 (-1))), (7, (Value.int .i64 p1))]) rfl (by rfl) (BD_41_3_5_6_7 p0 (-1) (-1) p1 _)) ?_
  obtain ⟨q2, h⟩ := h
  obtain ⟨w2, hw2⟩ : ∃ u, u = setAll w1 (Addr.mk b1 0 none) [(Value.int .i64 0), (Value.int .i64 0), (Sl.v Sl.nil), (Value.int .i64 p0), (Value.int .i64 0), (Value.int .i64 (-1)), (Value.int .i64 (-1)), (Value.int .i64 p1), (Value.int .i64 0), (Value.string (ByteArray.mk #[])), (Sl.v Sl.nil), (Value.int .i64 0)] 0 := ⟨_, rfl⟩
  replace h := h w2 hw2
  refine wpR_skp (w' := w2) rfl rfl ((x_store (v := (Value.agg #[(Value.int .i64 0), (Value.int .i64 0), (Sl.v Sl.nil), (Value.int .i64 p0), (Value.int .i64 0), (Value.int .i64 (-1)), (Value.int .i64 (-1)), (Value.int .i64 p1), (Value.int .i64 0), (Value.string (ByteArray.mk #[])), (Sl.v Sl.nil), (Value.int .i64 0)])) rfl e4 rfl SZ_41 (ones (by rfl)) q2).trans (by rw [hw2]; rfl)) ?_
  refine wpR_nil ?_
  refine wpC_ret ?_
  obtain ⟨x3, q3, h⟩ := h
  obtain ⟨x4, q4, h⟩ := h
  obtain ⟨x5, q5, h⟩ := h
  obtain ⟨x6, q6, h⟩ := h
  obtain ⟨x7, q7, h⟩ := h
  obtain ⟨x8, q8, h⟩ := h
  obtain ⟨x9, q9, h⟩ := h
  obtain ⟨x10, q10, h⟩ := h
  obtain ⟨x11, q11, h⟩ := h
  obtain ⟨x12, q12, h⟩ := h
  obtain ⟨x13, q13, h⟩ := h
  obtain ⟨x14, q14, h⟩ := h
  exact ⟨.inl rfl, fun a ha => ⟨_, results_repC [(Value.int .i64 x3), (Value.int .i64 x4), (Sl.v x5), (Value.int .i64 x6), (Value.int .i64 x7), (Value.int .i64 x8), (Value.int .i64 x9), (Value.int .i64 x10), (Value.int .i64 x11), (Value.string x12), (Sl.v x13), (Value.int .i64 x14)] rfl ha e4 SH_41 (CellsAt.out (CellsAt.cons q3 (CellsAt.cons q4 (CellsAt.cons q5 (CellsAt.cons q6 (CellsAt.cons q7 (CellsAt.cons q8 (CellsAt.cons q9 (CellsAt.cons q10 (CellsAt.cons q11 (CellsAt.cons q12 (CellsAt.cons q13 (CellsAt.cons q14 CellsAt.nil))))))))))))), (x3, x4, x5, x6, x7, x8, x9, x10, x11, x12, x13, x14), rfl, h⟩⟩

/-- linguaref14.Few -/
def F30 (p0_0 : Int) (p0_1 : Int) (p0_2 : Sl) (p0_3 : Int) (p0_4 : Int) (p0_5 : Int) (p0_6 : Int) (p0_7 : Int) (p0_8 : Int) (p0_9 : ByteArray) (p0_10 : Sl) (p0_11 : Int) (w0 : World) (K : Bool → World → Prop) : Prop :=
  nw 41 #[(Value.int .i64 p0_0), (Value.int .i64 p0_1), (Sl.v p0_2), (Value.int .i64 p0_3), (Value.int .i64 p0_4), (Value.int .i64 p0_5), (Value.int .i64 p0_6), (Value.int .i64 p0_7), (Value.int .i64 p0_8), (Value.string p0_9), (Sl.v p0_10), (Value.int .i64 p0_11)] w0 fun b1 w1 =>
  ld Sl.v ((Addr.mk b1 0 none).add 2) w1 fun x2 =>
  jp (fun J3 => cnd (decide ((x2.len : Int) ≤ 10))
    (
    ld Sl.v ((Addr.mk b1 0 none).add 10) w1 fun x5 =>
    J3 (decide ((x5.len : Int) ≤ 10))
    )
    (
    J3 false
    ))
  fun c6 =>
  jp (fun J7 => cnd (c6)
    (
    ld Value.string ((Addr.mk b1 0 none).add 9) w1 fun x9 =>
    J7 (decide ((x9.size : Int) ≤ 300))
    )
    (
    J7 false
    ))
  fun c10 =>
  K c10 w1
set_option maxRecDepth 100000 in
theorem D30 (p0_0 : Int) (p0_1 : Int) (p0_2 : Sl) (p0_3 : Int) (p0_4 : Int) (p0_5 : Int) (p0_6 : Int) (p0_7 : Int) (p0_8 : Int) (p0_9 : ByteArray) (p0_10 : Sl) (p0_11 : Int) (w0 : World) (K : Bool → World → Prop) (h : F30 p0_0 p0_1 p0_2 p0_3 p0_4 p0_5 p0_6 p0_7 p0_8 p0_9 p0_10 p0_11 w0 K) : callC Try.prog 30 #[(Value.agg #[(Value.int .i64 p0_0), (Value.int .i64 p0_1), (Sl.v p0_2), (Value.int .i64 p0_3), (Value.int .i64 p0_4), (Value.int .i64 p0_5), (Value.int .i64 p0_6), (Value.int .i64 p0_7), (Value.int .i64 p0_8), (Value.string p0_9), (Sl.v p0_10), (Value.int .i64 p0_11)])] (fun (r : Bool) => (Value.bool r)) w0 K := by
  unfold F30 at h
  refine calls_of_wpC Try.func30 rfl 19 rfl (by simp) ?_
  intro ρ hρ
  have e0 : ρ 0 = (Value.agg #[(Value.int .i64 p0_0), (Value.int .i64 p0_1), (Sl.v p0_2), (Value.int .i64 p0_3), (Value.int .i64 p0_4), (Value.int .i64 p0_5), (Value.int .i64 p0_6), (Value.int .i64 p0_7), (Value.int .i64 p0_8), (Value.string p0_9), (Sl.v p0_10), (Value.int .i64 p0_11)]) := hρ 0
  clear hρ
  refine wpC_seq ?_
  refine wpC_region ?_
  obtain ⟨b1, hb1⟩ : ∃ u, u = w0.heap.size := ⟨_, rfl⟩
  obtain ⟨w1, hw1⟩ : ∃ u, u = w0.alloc (.cells #[(Value.int .i64 p0_0), (Value.int .i64 p0_1), (Sl.v p0_2), (Value.int .i64 p0_3), (Value.int .i64 p0_4), (Value.int .i64 p0_5), (Value.int .i64 p0_6), (Value.int .i64 p0_7), (Value.int .i64 p0_8), (Value.string p0_9), (Sl.v p0_10), (Value.int .i64 p0_11)] 41) := ⟨_, rfl⟩
  replace h := h b1 w1 hb1 hw1
  refine wpR_val (v := (Value.pointer (some (Addr.mk b1 0 none)))) (w' := w1) rfl rfl rfl ((x_box (v := (Value.agg #[(Value.int .i64 p0_0), (Value.int .i64 p0_1), (Sl.v p0_2), (Value.int .i64 p0_3), (Value.int .i64 p0_4), (Value.int .i64 p0_5), (Value.int .i64 p0_6), (Value.int .i64 p0_7), (Value.int .i64 p0_8), (Value.string p0_9), (Sl.v p0_10), (Value.int .i64 p0_11)])) rfl e0).trans (by rw [hb1, hw1]; rfl)) ?_
  refine wpR_val (v := (Value.bool false)) (w' := w1) rfl rfl rfl (x_assign (v := (Value.bool false)) rfl rfl) ?_
  refine wpR_nil ?_
  refine wpC_seq ?_
  refine wpC_cut (fun ρ => ρ 1 = (Value.pointer (some (Addr.mk b1 0 none))) ∧ True) ⟨rfl, trivial⟩ ?_
  rintro ρ ⟨e1, -⟩
  refine wpC_region ?_
  refine wpR_val (v := (Value.pointer (some ((Addr.mk b1 0 none).add 2)))) (w' := w1) rfl rfl rfl (x_fieldAddr rfl e1 FA_41_2) ?_
  obtain ⟨x2, q2, h⟩ := h
  refine wpR_val (v := (Sl.v x2)) (w' := w1) rfl rfl rfl (x_load1 rfl rfl SH_28 q2) ?_
  refine wpR_val (v := (Value.int .i64 (x2.len : Int))) (w' := w1) rfl rfl rfl (x_lenS (s := x2) rfl rfl isSliceT_28) ?_
  refine wpR_val (v := (Value.bool (decide ((x2.len : Int) ≤ 10)))) (w' := w1) rfl rfl rfl (x_leq rfl rfl rfl) ?_
  refine wpR_val (v := (Value.bool (decide ((x2.len : Int) ≤ 10)))) (w' := w1) rfl rfl rfl (x_move (v := (Value.bool (decide ((x2.len : Int) ≤ 10)))) rfl rfl) ?_
  obtain ⟨J3, h, hk⟩ := h
  refine wpR_joinJ 5 (fun x ρ => ρ 12 = Value.bool x ∧ ρ 1 = (Value.pointer (some (Addr.mk b1 0 none))) ∧ True) (fun x w => J3 x ∧ w1 = w) ?_ ?_
  · clear hk
    rcases Bool.eq_false_or_eq_true (decide ((x2.len : Int) ≤ 10)) with hc4 | hc4
    · replace h := h.1 hc4
      refine wpR_val (v := (Value.pointer (some ((Addr.mk b1 0 none).add 10)))) (w' := w1) (wantG rfl rfl rfl hc4) rfl rfl (x_fieldAddr rfl e1 FA_41_10) ?_
      obtain ⟨x5, q5, h⟩ := h
      refine wpR_val (v := (Sl.v x5)) (w' := w1) (wantG rfl rfl rfl hc4) rfl rfl (x_load1 rfl rfl SH_28 q5) ?_
      refine wpR_val (v := (Value.int .i64 (x5.len : Int))) (w' := w1) (wantG rfl rfl rfl hc4) rfl rfl (x_lenS (s := x5) rfl rfl isSliceT_28) ?_
      refine wpR_val (v := (Value.bool (decide ((x5.len : Int) ≤ 10)))) (w' := w1) (wantG rfl rfl rfl hc4) rfl rfl (x_leq rfl rfl rfl) ?_
      refine wpR_val (v := (Value.bool (decide ((x5.len : Int) ≤ 10)))) (w' := w1) rfl rfl rfl (x_pickT (v := (Value.bool (decide ((x5.len : Int) ≤ 10)))) rfl rfl hc4 rfl) ?_
      refine wpR_nil ?_
      exact ⟨decide ((x5.len : Int) ≤ 10), ⟨rfl, e1, trivial⟩, h, rfl⟩
    · replace h := h.2 hc4
      refine wpR_pass (wantN rfl rfl rfl hc4) rfl rfl ?_
      refine wpR_pass (wantN rfl rfl rfl hc4) rfl rfl ?_
      refine wpR_pass (wantN rfl rfl rfl hc4) rfl rfl ?_
      refine wpR_pass (wantN rfl rfl rfl hc4) rfl rfl ?_
      refine wpR_val (v := (Value.bool false)) (w' := w1) rfl rfl rfl (x_pickF (v := (Value.bool false)) rfl rfl hc4 rfl) ?_
      refine wpR_nil ?_
      exact ⟨false, ⟨rfl, e1, trivial⟩, h, rfl⟩
  clear h
  rintro c6 ρ wj ⟨e12, e1, -⟩ ⟨h, rfl⟩
  replace h := hk c6 h
  clear hk
  refine wpR_val (v := (Value.bool c6)) (w' := w1) rfl rfl rfl (x_move (v := (Value.bool c6)) rfl e12) ?_
  obtain ⟨J7, h, hk⟩ := h
  refine wpR_joinJ 5 (fun x ρ => ρ 18 = Value.bool x ∧ True) (fun x w => J7 x ∧ w1 = w) ?_ ?_
  · clear hk
    rcases Bool.eq_false_or_eq_true (c6) with hc8 | hc8
    · replace h := h.1 hc8
      refine wpR_val (v := (Value.pointer (some ((Addr.mk b1 0 none).add 9)))) (w' := w1) (wantG rfl rfl rfl hc8) rfl rfl (x_fieldAddr rfl e1 FA_41_9) ?_
      obtain ⟨x9, q9, h⟩ := h
      refine wpR_val (v := (Value.string x9)) (w' := w1) (wantG rfl rfl rfl hc8) rfl rfl (x_load1 rfl rfl SH_9 q9) ?_
      refine wpR_val (v := (Value.int .i64 (x9.size : Int))) (w' := w1) (wantG rfl rfl rfl hc8) rfl rfl (x_lenStr rfl rfl isStrT_9) ?_
      refine wpR_val (v := (Value.bool (decide ((x9.size : Int) ≤ 300)))) (w' := w1) (wantG rfl rfl rfl hc8) rfl rfl (x_leq rfl rfl rfl) ?_
      refine wpR_val (v := (Value.bool (decide ((x9.size : Int) ≤ 300)))) (w' := w1) rfl rfl rfl (x_pickT (v := (Value.bool (decide ((x9.size : Int) ≤ 300)))) rfl rfl hc8 rfl) ?_
      refine wpR_nil ?_
      exact ⟨decide ((x9.size : Int) ≤ 300), ⟨rfl, trivial⟩, h, rfl⟩
    · replace h := h.2 hc8
      refine wpR_pass (wantN rfl rfl rfl hc8) rfl rfl ?_
      refine wpR_pass (wantN rfl rfl rfl hc8) rfl rfl ?_
      refine wpR_pass (wantN rfl rfl rfl hc8) rfl rfl ?_
      refine wpR_pass (wantN rfl rfl rfl hc8) rfl rfl ?_
      refine wpR_val (v := (Value.bool false)) (w' := w1) rfl rfl rfl (x_pickF (v := (Value.bool false)) rfl rfl hc8 rfl) ?_
      refine wpR_nil ?_
      exact ⟨false, ⟨rfl, trivial⟩, h, rfl⟩
  clear h
  rintro c10 ρ wj ⟨e18, -⟩ ⟨h, rfl⟩
  replace h := hk c10 h
  clear hk
  refine wpR_val (v := (Value.bool c10)) (w' := w1) rfl rfl rfl (x_assign (v := (Value.bool c10)) rfl e18) ?_
  refine wpR_nil ?_
  refine wpC_ret ?_
  exact ⟨.inl rfl, fun a ha => ⟨_, results_rep1 rfl ha rfl, c10, rfl, h⟩⟩

/-- slices.ContainsFunc[[]api.Stay,api.Stay] -/
def F31 (p0 : Sl) (p1 : Value) (w0 : World) (K : Bool → World → Prop) : Prop :=
  callC Try.prog 39 #[(Sl.v p0), p1] (fun (r : Int) => (Value.int .i64 r)) w0 fun r1 w1 =>
  K (decide (0 ≤ r1)) w1
set_option maxRecDepth 100000 in
theorem D31 (p0 : Sl) (p1 : Value) (w0 : World) (K : Bool → World → Prop) (h : F31 p0 p1 w0 K) : callC Try.prog 31 #[(Sl.v p0), p1] (fun (r : Bool) => (Value.bool r)) w0 K := by
  unfold F31 at h
  refine calls_of_wpC Try.func31 rfl 9 rfl (by simp) ?_
  intro ρ hρ
  have e0 : ρ 0 = (Sl.v p0) := hρ 0
  have e1 : ρ 1 = p1 := hρ 1
  clear hρ
  refine wpC_seq ?_
  refine wpC_region ?_
  refine wpR_val (v := (Value.bool false)) (w' := w0) rfl rfl rfl (x_assign (v := (Value.bool false)) rfl rfl) ?_
  refine wpR_nil ?_
  refine wpC_seq ?_
  refine wpC_cut (fun ρ => ρ 0 = (Sl.v p0) ∧ ρ 1 = p1 ∧ True) ⟨e0, e1, trivial⟩ ?_
  rintro ρ ⟨e0, e1, -⟩
  refine wpC_region ?_
  refine wpR_val (v := (Sl.v p0)) (w' := w0) rfl rfl rfl (x_move (v := (Sl.v p0)) rfl e0) ?_
  refine wpR_val (v := p1) (w' := w0) rfl rfl rfl (x_move (v := p1) rfl e1) ?_
  refine wpR_enter rfl rfl rfl (x_call (vs := [(Sl.v p0), p1]) rfl rfl (mapl_cons rfl (mapl_cons rfl mapl_nil)) Try.func39 NN_39 NB_39) (Calls.mono h ?_)
  rintro _ w1 ⟨r1, rfl, h⟩
  refine ⟨_, rfl, ?_⟩
  refine wpR_val (v := (Value.bool (decide (0 ≤ r1)))) (w' := w1) rfl rfl rfl (x_geq rfl rfl rfl) ?_
  refine wpR_val (v := (Value.bool (decide (0 ≤ r1)))) (w' := w1) rfl rfl rfl (x_assign (v := (Value.bool (decide (0 ≤ r1)))) rfl rfl) ?_
  refine wpR_nil ?_
  refine wpC_ret ?_
  exact ⟨.inl rfl, fun a ha => ⟨_, results_rep1 rfl ha rfl, decide (0 ≤ r1), rfl, h⟩⟩

/-- sight.sees$1 -/
def F32 (p0_0 : Int) (p0_1 : Int) (p0_2 : Int) (p0_3 : Int) (c1 : Addr) (c2 : Addr) (c3 : Addr) (c4 : Addr) (w0 : World) (K : Bool → World → Prop) : Prop :=
  nw 43 #[(Value.int .i64 p0_0), (Value.int .i64 p0_1), (Value.int .i64 p0_2), (Value.int .i64 p0_3)] w0 fun b1 w1 =>
  jn (fun (J3 : Bool → World → Prop) => tk w1 fun w2 =>
    ld (Value.int .i64) ((Addr.mk b1 0 none).add 0) w2 fun x4 =>
    ld (Value.int .i64) c3 w2 fun x5 =>
    cnd (decide (x4 = x5))
      (
      ld (Value.int .i64) ((Addr.mk b1 0 none).add 1) w2 fun x7 =>
      ld Sl.v c1 w2 fun x8 =>
      ld (Value.int .i64) c2 w2 fun x9 =>
      ix x8 x9 12 fun p10 =>
      ld (Value.int .i64) (p10.add 4) w2 fun x11 =>
      cnd (decide (x7 = x11))
        (
        ld Sl.v c4 w2 fun x13 =>
        callC Try.prog 35 #[(Sl.v x13), (Value.func (.func 33) #[] (List.toArray [(Value.pointer (some (Addr.mk b1 0 none))), (Value.pointer (some c1)), (Value.pointer (some c2))]))] (fun (r : Bool) => (Value.bool r)) w2 fun r14 w3 =>
        (w3.cell? (p10.add 4) = some (Value.int .i64 x11)) ∧
        (w3.cell? c2 = some (Value.int .i64 x9)) ∧
        (w3.cell? c1 = some (Sl.v x8)) ∧
        (w3.cell? ((Addr.mk b1 0 none).add 1) = some (Value.int .i64 x7)) ∧
        (w3.cell? c3 = some (Value.int .i64 x5)) ∧
        (w3.cell? ((Addr.mk b1 0 none).add 0) = some (Value.int .i64 x4)) ∧
        J3 (!r14) w3
        )
        (
        J3 false w2
        )
      )
      (
      J3 false w2
      )
  )
  fun l15 w4 =>
  K l15 w4
set_option maxRecDepth 100000 in
theorem D32 (p0_0 : Int) (p0_1 : Int) (p0_2 : Int) (p0_3 : Int) (c1 : Addr) (c2 : Addr) (c3 : Addr) (c4 : Addr) (w0 : World) (K : Bool → World → Prop) (h : F32 p0_0 p0_1 p0_2 p0_3 c1 c2 c3 c4 w0 K) : callC Try.prog 32 #[(Value.agg #[(Value.int .i64 p0_0), (Value.int .i64 p0_1), (Value.int .i64 p0_2), (Value.int .i64 p0_3)]), (Value.pointer (some c1)), (Value.pointer (some c2)), (Value.pointer (some c3)), (Value.pointer (some c4))] (fun (r : Bool) => (Value.bool r)) w0 K := by
  unfold F32 at h
  refine calls_of_wpC Try.func32 rfl 29 rfl (by simp) ?_
  intro ρ hρ
  have e0 : ρ 0 = (Value.agg #[(Value.int .i64 p0_0), (Value.int .i64 p0_1), (Value.int .i64 p0_2), (Value.int .i64 p0_3)]) := hρ 0
  have e1 : ρ 1 = (Value.pointer (some c1)) := hρ 1
  have e2 : ρ 2 = (Value.pointer (some c2)) := hρ 2
  have e3 : ρ 3 = (Value.pointer (some c3)) := hρ 3
  have e4 : ρ 4 = (Value.pointer (some c4)) := hρ 4
  clear hρ
  refine wpC_seq ?_
  refine wpC_region ?_
  obtain ⟨b1, hb1⟩ : ∃ u, u = w0.heap.size := ⟨_, rfl⟩
  obtain ⟨w1, hw1⟩ : ∃ u, u = w0.alloc (.cells #[(Value.int .i64 p0_0), (Value.int .i64 p0_1), (Value.int .i64 p0_2), (Value.int .i64 p0_3)] 43) := ⟨_, rfl⟩
  replace h := h b1 w1 hb1 hw1
  refine wpR_val (v := (Value.pointer (some (Addr.mk b1 0 none)))) (w' := w1) rfl rfl rfl ((x_box (v := (Value.agg #[(Value.int .i64 p0_0), (Value.int .i64 p0_1), (Value.int .i64 p0_2), (Value.int .i64 p0_3)])) rfl e0).trans (by rw [hb1, hw1]; rfl)) ?_
  refine wpR_val (v := (Value.bool false)) (w' := w1) rfl rfl rfl (x_assign (v := (Value.bool false)) rfl rfl) ?_
  refine wpR_nil ?_
  refine wpC_seq ?_
  refine wpC_cut (fun ρ => ρ 1 = (Value.pointer (some c1)) ∧ ρ 2 = (Value.pointer (some c2)) ∧ ρ 3 = (Value.pointer (some c3)) ∧ ρ 4 = (Value.pointer (some c4)) ∧ ρ 5 = (Value.pointer (some (Addr.mk b1 0 none))) ∧ True) ⟨e1, e2, e3, e4, rfl, trivial⟩ ?_
  rintro ρ ⟨e1, e2, e3, e4, e5, -⟩
  refine wpC_region ?_
  refine wpR_val (v := (Value.func (.func 33) #[] (List.toArray [(Value.pointer (some (Addr.mk b1 0 none))), (Value.pointer (some c1)), (Value.pointer (some c2))]))) (w' := w1) rfl rfl rfl (x_makeFunc (vs := [(Value.pointer (some (Addr.mk b1 0 none))), (Value.pointer (some c1)), (Value.pointer (some c2))]) rfl (mapl_cons e5 (mapl_cons e1 (mapl_cons e2 mapl_nil)))) ?_
  refine wpR_val (v := (Value.func (.func 33) #[] (List.toArray [(Value.pointer (some (Addr.mk b1 0 none))), (Value.pointer (some c1)), (Value.pointer (some c2))]))) (w' := w1) rfl rfl rfl (x_assign (v := (Value.func (.func 33) #[] (List.toArray [(Value.pointer (some (Addr.mk b1 0 none))), (Value.pointer (some c1)), (Value.pointer (some c2))]))) rfl rfl) ?_
  refine wpR_nil ?_
  refine wpC_seq ?_
  refine wpC_cut (fun ρ => ρ 1 = (Value.pointer (some c1)) ∧ ρ 2 = (Value.pointer (some c2)) ∧ ρ 3 = (Value.pointer (some c3)) ∧ ρ 4 = (Value.pointer (some c4)) ∧ ρ 5 = (Value.pointer (some (Addr.mk b1 0 none))) ∧ ρ 7 = (Value.func (.func 33) #[] (List.toArray [(Value.pointer (some (Addr.mk b1 0 none))), (Value.pointer (some c1)), (Value.pointer (some c2))])) ∧ True) ⟨e1, e2, e3, e4, e5, rfl, trivial⟩ ?_
  rintro ρ ⟨e1, e2, e3, e4, e5, e7, -⟩
  obtain ⟨J3, h, hk⟩ := h
  refine wpC_drawJ (by kernel_rfl) (fun (x : Bool) ρ => ρ 6 = (Value.bool x) ∧ True) J3 ?_ ?_
  · clear hk
    unfold tk at h
    generalize w1.drew = w2 at h ⊢
    refine wpD_take (v := (Value.pointer (some ((Addr.mk b1 0 none).add 0)))) 0 (fun _ => True) rfl (by kernel_rfl) (by kernel_rfl) (by kernel_rfl) rfl rfl rfl trivial (fun w _ => (x_fieldAddr rfl e5 FA_43_0)) ?_
    obtain ⟨x4, q4, h⟩ := h
    refine wpD_take (v := (Value.int .i64 x4)) 1 (fun w => w.cell? ((Addr.mk b1 0 none).add 0) = some (Value.int .i64 x4)) rfl (by kernel_rfl) (by kernel_rfl) (by kernel_rfl) rfl rfl rfl q4 (fun w q4 => (x_load1 rfl rfl SH_3 q4)) ?_
    obtain ⟨x5, q5, h⟩ := h
    refine wpD_take (v := (Value.int .i64 x5)) 2 (fun w => w.cell? c3 = some (Value.int .i64 x5)) rfl (by kernel_rfl) (by kernel_rfl) (by kernel_rfl) rfl rfl rfl q5 (fun w q5 => (x_load1 rfl e3 SH_3 q5)) ?_
    refine wpD_take (v := (Value.bool (decide (x4 = x5)))) 3 (fun _ => True) rfl (by kernel_rfl) (by kernel_rfl) (by kernel_rfl) rfl rfl rfl trivial (fun w _ => (x_eql rfl rfl rfl)) ?_
    refine wpD_take (v := (Value.bool (decide (x4 = x5)))) 4 (fun _ => True) rfl (by kernel_rfl) (by kernel_rfl) (by kernel_rfl) rfl rfl rfl trivial (fun w _ => (x_move (v := (Value.bool (decide (x4 = x5)))) rfl rfl)) ?_
    rcases Bool.eq_false_or_eq_true (decide (x4 = x5)) with hc6 | hc6
    · replace h := h.1 hc6
      refine wpD_take (v := (Value.pointer (some ((Addr.mk b1 0 none).add 1)))) 5 (fun _ => True) rfl (by kernel_rfl) (by kernel_rfl) (by kernel_rfl) (wantG rfl rfl rfl hc6) rfl rfl trivial (fun w _ => (x_fieldAddr rfl e5 FA_43_1)) ?_
      obtain ⟨x7, q7, h⟩ := h
      refine wpD_take (v := (Value.int .i64 x7)) 6 (fun w => w.cell? ((Addr.mk b1 0 none).add 1) = some (Value.int .i64 x7)) rfl (by kernel_rfl) (by kernel_rfl) (by kernel_rfl) (wantG rfl rfl rfl hc6) rfl rfl q7 (fun w q7 => (x_load1 rfl rfl SH_3 q7)) ?_
      obtain ⟨x8, q8, h⟩ := h
      refine wpD_take (v := (Sl.v x8)) 7 (fun w => w.cell? c1 = some (Sl.v x8)) rfl (by kernel_rfl) (by kernel_rfl) (by kernel_rfl) (wantG rfl rfl rfl hc6) rfl rfl q8 (fun w q8 => (x_load1 rfl e1 SH_23 q8)) ?_
      obtain ⟨x9, q9, h⟩ := h
      refine wpD_take (v := (Value.int .i64 x9)) 8 (fun w => w.cell? c2 = some (Value.int .i64 x9)) rfl (by kernel_rfl) (by kernel_rfl) (by kernel_rfl) (wantG rfl rfl rfl hc6) rfl rfl q9 (fun w q9 => (x_load1 rfl e2 SH_3 q9)) ?_
      obtain ⟨q10, z10, r10, h⟩ := h
      generalize hp10 : z10.add ((x9 : Int).toNat * 12) = p10 at h
      refine wpD_take (v := (Value.pointer (some p10))) 9 (fun _ => True) rfl (by kernel_rfl) (by kernel_rfl) (by kernel_rfl) (wantG rfl rfl rfl hc6) rfl rfl trivial (fun w _ => ((x_indexAddr (s := x8) rfl rfl rfl ES_23 q10 r10).trans (by rw [hp10]))) ?_
      refine wpD_take (v := (Value.pointer (some (p10.add 4)))) 10 (fun _ => True) rfl (by kernel_rfl) (by kernel_rfl) (by kernel_rfl) (wantG rfl rfl rfl hc6) rfl rfl trivial (fun w _ => (x_fieldAddr rfl rfl FA_41_4)) ?_
      obtain ⟨x11, q11, h⟩ := h
      refine wpD_take (v := (Value.int .i64 x11)) 11 (fun w => w.cell? (p10.add 4) = some (Value.int .i64 x11)) rfl (by kernel_rfl) (by kernel_rfl) (by kernel_rfl) (wantG rfl rfl rfl hc6) rfl rfl q11 (fun w q11 => (x_load1 rfl rfl SH_3 q11)) ?_
      refine wpD_take (v := (Value.bool (decide (x7 = x11)))) 12 (fun _ => True) rfl (by kernel_rfl) (by kernel_rfl) (by kernel_rfl) (wantG rfl rfl rfl hc6) rfl rfl trivial (fun w _ => (x_eql rfl rfl rfl)) ?_
      refine wpD_take (v := (Value.bool (decide (x7 = x11)))) 13 (fun _ => True) rfl (by kernel_rfl) (by kernel_rfl) (by kernel_rfl) rfl rfl rfl trivial (fun w _ => (x_pickT (v := (Value.bool (decide (x7 = x11)))) rfl rfl hc6 rfl)) ?_
      refine wpD_take (v := (Value.bool (decide (x7 = x11)))) 14 (fun _ => True) rfl (by kernel_rfl) (by kernel_rfl) (by kernel_rfl) rfl rfl rfl trivial (fun w _ => (x_move (v := (Value.bool (decide (x7 = x11)))) rfl rfl)) ?_
      rcases Bool.eq_false_or_eq_true (decide (x7 = x11)) with hc12 | hc12
      · replace h := h.1 hc12
        obtain ⟨x13, q13, h⟩ := h
        refine wpD_take (v := (Sl.v x13)) 15 (fun w => w.cell? c4 = some (Sl.v x13)) rfl (by kernel_rfl) (by kernel_rfl) (by kernel_rfl) (wantG rfl rfl rfl hc12) rfl rfl q13 (fun w q13 => (x_load1 rfl e4 SH_22 q13)) ?_
        refine wpD_take (v := (Value.func (.func 33) #[] (List.toArray [(Value.pointer (some (Addr.mk b1 0 none))), (Value.pointer (some c1)), (Value.pointer (some c2))]))) 16 (fun _ => True) rfl (by kernel_rfl) (by kernel_rfl) (by kernel_rfl) (wantG rfl rfl rfl hc12) rfl rfl trivial (fun w _ => (x_move (v := (Value.func (.func 33) #[] (List.toArray [(Value.pointer (some (Addr.mk b1 0 none))), (Value.pointer (some c1)), (Value.pointer (some c2))]))) rfl e7)) ?_
        refine wpD_all (rs := [17]) (by kernel_rfl) (by simp) (allD_cons ?_ allD_nil)
        refine stepD_enterL (L' := [(13, fun _ => True), (12, fun _ => True), (11, fun w => w.cell? (p10.add 4) = some (Value.int .i64 x11)), (10, fun _ => True), (9, fun _ => True), (8, fun w => w.cell? c2 = some (Value.int .i64 x9)), (7, fun w => w.cell? c1 = some (Sl.v x8)), (6, fun w => w.cell? ((Addr.mk b1 0 none).add 1) = some (Value.int .i64 x7)), (5, fun _ => True), (4, fun _ => True), (3, fun _ => True), (2, fun w => w.cell? c3 = some (Value.int .i64 x5)), (1, fun w => w.cell? ((Addr.mk b1 0 none).add 0) = some (Value.int .i64 x4)), (0, fun _ => True)]) rfl (wantG rfl rfl rfl hc12) rfl rfl (x_call (vs := [(Sl.v x13), (Value.func (.func 33) #[] (List.toArray [(Value.pointer (some (Addr.mk b1 0 none))), (Value.pointer (some c1)), (Value.pointer (some c2))]))]) rfl rfl (mapl_cons rfl (mapl_cons rfl mapl_nil)) Try.func35 NN_35 NB_35) (by kernel_rfl) (Calls.mono h ?_)
        rintro _ w3 ⟨r14, rfl, h⟩
        obtain ⟨o11, h⟩ := h
        obtain ⟨o8, h⟩ := h
        obtain ⟨o7, h⟩ := h
        obtain ⟨o6, h⟩ := h
        obtain ⟨o2, h⟩ := h
        obtain ⟨o1, h⟩ := h
        refine ⟨_, rfl, (held_cons trivial (held_cons trivial (held_cons o11 (held_cons trivial (held_cons trivial (held_cons o8 (held_cons o7 (held_cons o6 (held_cons trivial (held_cons trivial (held_cons trivial (held_cons o2 (held_cons o1 (held_cons trivial held_nil)))))))))))))), ?_⟩
        refine wpD_take (v := (Value.bool (!r14))) 18 (fun _ => True) rfl (by kernel_rfl) (by kernel_rfl) (by kernel_rfl) (wantG rfl rfl rfl hc12) rfl rfl trivial (fun w _ => (x_not rfl rfl)) ?_
        refine wpD_take (v := (Value.bool (!r14))) 19 (fun _ => True) rfl (by kernel_rfl) (by kernel_rfl) (by kernel_rfl) rfl rfl rfl trivial (fun w _ => (x_pickT (v := (Value.bool (!r14))) rfl rfl hc12 rfl)) ?_
        refine wpD_take (v := (Value.bool (!r14))) 20 (fun _ => True) rfl (by kernel_rfl) (by kernel_rfl) (by kernel_rfl) rfl rfl rfl trivial (fun w _ => (x_assign (v := (Value.bool (!r14))) rfl rfl)) ?_
        exact wpD_done (by kernel_rfl) ⟨!r14, ⟨rfl, trivial⟩, h⟩
      · replace h := h.2 hc12
        refine wpD_pass 15 rfl (by kernel_rfl) (by kernel_rfl) (by kernel_rfl) (wantN rfl rfl rfl hc12) rfl rfl ?_
        refine wpD_pass 16 rfl (by kernel_rfl) (by kernel_rfl) (by kernel_rfl) (wantN rfl rfl rfl hc12) rfl rfl ?_
        refine wpD_pass 17 rfl (by kernel_rfl) (by kernel_rfl) (by kernel_rfl) (wantN rfl rfl rfl hc12) rfl rfl ?_
        refine wpD_pass 18 rfl (by kernel_rfl) (by kernel_rfl) (by kernel_rfl) (wantN rfl rfl rfl hc12) rfl rfl ?_
        refine wpD_take (v := (Value.bool false)) 19 (fun _ => True) rfl (by kernel_rfl) (by kernel_rfl) (by kernel_rfl) rfl rfl rfl trivial (fun w _ => (x_pickF (v := (Value.bool false)) rfl rfl hc12 rfl)) ?_
        refine wpD_take (v := (Value.bool false)) 20 (fun _ => True) rfl (by kernel_rfl) (by kernel_rfl) (by kernel_rfl) rfl rfl rfl trivial (fun w _ => (x_assign (v := (Value.bool false)) rfl rfl)) ?_
        exact wpD_done (by kernel_rfl) ⟨false, ⟨rfl, trivial⟩, h⟩
    · replace h := h.2 hc6
      refine wpD_pass 5 rfl (by kernel_rfl) (by kernel_rfl) (by kernel_rfl) (wantN rfl rfl rfl hc6) rfl rfl ?_
      refine wpD_pass 6 rfl (by kernel_rfl) (by kernel_rfl) (by kernel_rfl) (wantN rfl rfl rfl hc6) rfl rfl ?_
      refine wpD_pass 7 rfl (by kernel_rfl) (by kernel_rfl) (by kernel_rfl) (wantN rfl rfl rfl hc6) rfl rfl ?_
      refine wpD_pass 8 rfl (by kernel_rfl) (by kernel_rfl) (by kernel_rfl) (wantN rfl rfl rfl hc6) rfl rfl ?_
      refine wpD_pass 9 rfl (by kernel_rfl) (by kernel_rfl) (by kernel_rfl) (wantN rfl rfl rfl hc6) rfl rfl ?_
      refine wpD_pass 10 rfl (by kernel_rfl) (by kernel_rfl) (by kernel_rfl) (wantN rfl rfl rfl hc6) rfl rfl ?_
      refine wpD_pass 11 rfl (by kernel_rfl) (by kernel_rfl) (by kernel_rfl) (wantN rfl rfl rfl hc6) rfl rfl ?_
      refine wpD_pass 12 rfl (by kernel_rfl) (by kernel_rfl) (by kernel_rfl) (wantN rfl rfl rfl hc6) rfl rfl ?_
      refine wpD_take (v := (Value.bool false)) 13 (fun _ => True) rfl (by kernel_rfl) (by kernel_rfl) (by kernel_rfl) rfl rfl rfl trivial (fun w _ => (x_pickF (v := (Value.bool false)) rfl rfl hc6 rfl)) ?_
      refine wpD_take (v := (Value.bool false)) 14 (fun _ => True) rfl (by kernel_rfl) (by kernel_rfl) (by kernel_rfl) rfl rfl rfl trivial (fun w _ => (x_move (v := (Value.bool false)) rfl rfl)) ?_
      refine wpD_pass 15 rfl (by kernel_rfl) (by kernel_rfl) (by kernel_rfl) (wantN rfl rfl rfl rfl) rfl rfl ?_
      refine wpD_pass 16 rfl (by kernel_rfl) (by kernel_rfl) (by kernel_rfl) (wantN rfl rfl rfl rfl) rfl rfl ?_
      refine wpD_pass 17 rfl (by kernel_rfl) (by kernel_rfl) (by kernel_rfl) (wantN rfl rfl rfl rfl) rfl rfl ?_
      refine wpD_pass 18 rfl (by kernel_rfl) (by kernel_rfl) (by kernel_rfl) (wantN rfl rfl rfl rfl) rfl rfl ?_
      refine wpD_take (v := (Value.bool false)) 19 (fun _ => True) rfl (by kernel_rfl) (by kernel_rfl) (by kernel_rfl) rfl rfl rfl trivial (fun w _ => (x_pickF (v := (Value.bool false)) rfl rfl rfl rfl)) ?_
      refine wpD_take (v := (Value.bool false)) 20 (fun _ => True) rfl (by kernel_rfl) (by kernel_rfl) (by kernel_rfl) rfl rfl rfl trivial (fun w _ => (x_assign (v := (Value.bool false)) rfl rfl)) ?_
      exact wpD_done (by kernel_rfl) ⟨false, ⟨rfl, trivial⟩, h⟩
  clear h
  rintro l15 ρ w4 ⟨e6, -⟩ h
  replace h := hk l15 w4 h
  clear hk
  refine wpC_ret ?_
  exact ⟨.inl rfl, fun a ha => ⟨_, results_rep1 rfl ha e6, l15, rfl, h⟩⟩

/-- sight.sees$1$1 -/
def F33 (p0_0 : ByteArray) (p0_1 : Int) (p0_2 : Int) (p0_3 : Int) (p0_4 : Bool) (p0_5 : Int) (p0_6 : Bool) (p0_7 : Bool) (p0_8 : Int) (p0_9 : Int) (p0_10 : Int) (p0_11 : Int) (p0_12 : Sl) (p0_13 : Int) (p0_14 : Int) (p0_15 : Int) (p0_16 : Int) (p0_17 : Bool) (p0_18 : Int) (p0_19 : Int) (p0_20 : Int) (p0_21 : Int) (c1 : Addr) (c2 : Addr) (c3 : Addr) (w0 : World) (K : Bool → World → Prop) : Prop :=
  nw 33 #[(Value.string p0_0), (Value.int .i64 p0_1), (Value.int .i64 p0_2), (Value.int .i64 p0_3), (Value.bool p0_4), (Value.int .i64 p0_5), (Value.bool p0_6), (Value.bool p0_7), (Value.int .i64 p0_8), (Value.int .i64 p0_9), (Value.int .i64 p0_10), (Value.int .i64 p0_11), (Sl.v p0_12), (Value.int .i64 p0_13), (Value.int .i64 p0_14), (Value.int .i64 p0_15), (Value.int .i64 p0_16), (Value.bool p0_17), (Value.int .i64 p0_18), (Value.int .i64 p0_19), (Value.int .i64 p0_20), (Value.int .i64 p0_21)] w0 fun b1 w1 =>
  ld Value.string ((Addr.mk b1 0 none).add 0) w1 fun x2 =>
  ld (Value.int .i64) ((Addr.mk b1 0 none).add 1) w1 fun x3 =>
  ld (Value.int .i64) ((Addr.mk b1 0 none).add 2) w1 fun x4 =>
  ld (Value.int .i64) ((Addr.mk b1 0 none).add 3) w1 fun x5 =>
  ld Value.bool ((Addr.mk b1 0 none).add 4) w1 fun x6 =>
  ld (Value.int .i64) ((Addr.mk b1 0 none).add 5) w1 fun x7 =>
  ld Value.bool ((Addr.mk b1 0 none).add 6) w1 fun x8 =>
  ld Value.bool ((Addr.mk b1 0 none).add 7) w1 fun x9 =>
  ld (Value.int .i64) ((Addr.mk b1 0 none).add 8) w1 fun x10 =>
  ld (Value.int .i64) ((Addr.mk b1 0 none).add 9) w1 fun x11 =>
  ld (Value.int .i64) ((Addr.mk b1 0 none).add 10) w1 fun x12 =>
  ld (Value.int .i64) ((Addr.mk b1 0 none).add 11) w1 fun x13 =>
  ld Sl.v ((Addr.mk b1 0 none).add 12) w1 fun x14 =>
  ld (Value.int .i64) ((Addr.mk b1 0 none).add 13) w1 fun x15 =>
  ld (Value.int .i64) ((Addr.mk b1 0 none).add 14) w1 fun x16 =>
  ld (Value.int .i64) ((Addr.mk b1 0 none).add 15) w1 fun x17 =>
  ld (Value.int .i64) ((Addr.mk b1 0 none).add 16) w1 fun x18 =>
  ld Value.bool ((Addr.mk b1 0 none).add 17) w1 fun x19 =>
  ld (Value.int .i64) ((Addr.mk b1 0 none).add 18) w1 fun x20 =>
  ld (Value.int .i64) ((Addr.mk b1 0 none).add 19) w1 fun x21 =>
  ld (Value.int .i64) ((Addr.mk b1 0 none).add 20) w1 fun x22 =>
  ld (Value.int .i64) ((Addr.mk b1 0 none).add 21) w1 fun x23 =>
  ld (Value.int .i64) (c1.add 0) w1 fun x24 =>
  ld (Value.int .i64) (c1.add 1) w1 fun x25 =>
  ld (Value.int .i64) (c1.add 2) w1 fun x26 =>
  ld (Value.int .i64) (c1.add 3) w1 fun x27 =>
  ld Sl.v c2 w1 fun x28 =>
  ld (Value.int .i64) c3 w1 fun x29 =>
  callC Try.prog 34 #[(Value.agg #[(Value.string x2), (Value.int .i64 x3), (Value.int .i64 x4), (Value.int .i64 x5), (Value.bool x6), (Value.int .i64 x7), (Value.bool x8), (Value.bool x9), (Value.int .i64 x10), (Value.int .i64 x11), (Value.int .i64 x12), (Value.int .i64 x13), (Sl.v x14), (Value.int .i64 x15), (Value.int .i64 x16), (Value.int .i64 x17), (Value.int .i64 x18), (Value.bool x19), (Value.int .i64 x20), (Value.int .i64 x21), (Value.int .i64 x22), (Value.int .i64 x23)]), (Value.agg #[(Value.int .i64 x24), (Value.int .i64 x25), (Value.int .i64 x26), (Value.int .i64 x27)]), (Sl.v x28), (Value.int .i64 x29)] (fun (r : Bool) => (Value.bool r)) w1 fun r30 w2 =>
  K (!r30) w2
set_option maxRecDepth 100000 in
theorem D33 (p0_0 : ByteArray) (p0_1 : Int) (p0_2 : Int) (p0_3 : Int) (p0_4 : Bool) (p0_5 : Int) (p0_6 : Bool) (p0_7 : Bool) (p0_8 : Int) (p0_9 : Int) (p0_10 : Int) (p0_11 : Int) (p0_12 : Sl) (p0_13 : Int) (p0_14 : Int) (p0_15 : Int) (p0_16 : Int) (p0_17 : Bool) (p0_18 : Int) (p0_19 : Int) (p0_20 : Int) (p0_21 : Int) (c1 : Addr) (c2 : Addr) (c3 : Addr) (w0 : World) (K : Bool → World → Prop) (h : F33 p0_0 p0_1 p0_2 p0_3 p0_4 p0_5 p0_6 p0_7 p0_8 p0_9 p0_10 p0_11 p0_12 p0_13 p0_14 p0_15 p0_16 p0_17 p0_18 p0_19 p0_20 p0_21 c1 c2 c3 w0 K) : callC Try.prog 33 #[(Value.agg #[(Value.string p0_0), (Value.int .i64 p0_1), (Value.int .i64 p0_2), (Value.int .i64 p0_3), (Value.bool p0_4), (Value.int .i64 p0_5), (Value.bool p0_6), (Value.bool p0_7), (Value.int .i64 p0_8), (Value.int .i64 p0_9), (Value.int .i64 p0_10), (Value.int .i64 p0_11), (Sl.v p0_12), (Value.int .i64 p0_13), (Value.int .i64 p0_14), (Value.int .i64 p0_15), (Value.int .i64 p0_16), (Value.bool p0_17), (Value.int .i64 p0_18), (Value.int .i64 p0_19), (Value.int .i64 p0_20), (Value.int .i64 p0_21)]), (Value.pointer (some c1)), (Value.pointer (some c2)), (Value.pointer (some c3))] (fun (r : Bool) => (Value.bool r)) w0 K := by
  unfold F33 at h
  refine calls_of_wpC Try.func33 rfl 12 rfl (by simp) ?_
  intro ρ hρ
  have e0 : ρ 0 = (Value.agg #[(Value.string p0_0), (Value.int .i64 p0_1), (Value.int .i64 p0_2), (Value.int .i64 p0_3), (Value.bool p0_4), (Value.int .i64 p0_5), (Value.bool p0_6), (Value.bool p0_7), (Value.int .i64 p0_8), (Value.int .i64 p0_9), (Value.int .i64 p0_10), (Value.int .i64 p0_11), (Sl.v p0_12), (Value.int .i64 p0_13), (Value.int .i64 p0_14), (Value.int .i64 p0_15), (Value.int .i64 p0_16), (Value.bool p0_17), (Value.int .i64 p0_18), (Value.int .i64 p0_19), (Value.int .i64 p0_20), (Value.int .i64 p0_21)]) := hρ 0
  have e1 : ρ 1 = (Value.pointer (some c1)) := hρ 1
  have e2 : ρ 2 = (Value.pointer (some c2)) := hρ 2
  have e3 : ρ 3 = (Value.pointer (some c3)) := hρ 3
  clear hρ
  refine wpC_seq ?_
  refine wpC_region ?_
  obtain ⟨b1, hb1⟩ : ∃ u, u = w0.heap.size := ⟨_, rfl⟩
  obtain ⟨w1, hw1⟩ : ∃ u, u = w0.alloc (.cells #[(Value.string p0_0), (Value.int .i64 p0_1), (Value.int .i64 p0_2), (Value.int .i64 p0_3), (Value.bool p0_4), (Value.int .i64 p0_5), (Value.bool p0_6), (Value.bool p0_7), (Value.int .i64 p0_8), (Value.int .i64 p0_9), (Value.int .i64 p0_10), (Value.int .i64 p0_11), (Sl.v p0_12), (Value.int .i64 p0_13), (Value.int .i64 p0_14), (Value.int .i64 p0_15), (Value.int .i64 p0_16), (Value.bool p0_17), (Value.int .i64 p0_18), (Value.int .i64 p0_19), (Value.int .i64 p0_20), (Value.int .i64 p0_21)] 33) := ⟨_, rfl⟩
  replace h := h b1 w1 hb1 hw1
  refine wpR_val (v := (Value.pointer (some (Addr.mk b1 0 none)))) (w' := w1) rfl rfl rfl ((x_box (v := (Value.agg #[(Value.string p0_0), (Value.int .i64 p0_1), (Value.int .i64 p0_2), (Value.int .i64 p0_3), (Value.bool p0_4), (Value.int .i64 p0_5), (Value.bool p0_6), (Value.bool p0_7), (Value.int .i64 p0_8), (Value.int .i64 p0_9), (Value.int .i64 p0_10), (Value.int .i64 p0_11), (Sl.v p0_12), (Value.int .i64 p0_13), (Value.int .i64 p0_14), (Value.int .i64 p0_15), (Value.int .i64 p0_16), (Value.bool p0_17), (Value.int .i64 p0_18), (Value.int .i64 p0_19), (Value.int .i64 p0_20), (Value.int .i64 p0_21)])) rfl e0).trans (by rw [hb1, hw1]; rfl)) ?_
  refine wpR_val (v := (Value.bool false)) (w' := w1) rfl rfl rfl (x_assign (v := (Value.bool false)) rfl rfl) ?_
  refine wpR_nil ?_
  refine wpC_seq ?_
  refine wpC_cut (fun ρ => ρ 1 = (Value.pointer (some c1)) ∧ ρ 2 = (Value.pointer (some c2)) ∧ ρ 3 = (Value.pointer (some c3)) ∧ ρ 4 = (Value.pointer (some (Addr.mk b1 0 none))) ∧ True) ⟨e1, e2, e3, rfl, trivial⟩ ?_
  rintro ρ ⟨e1, e2, e3, e4, -⟩
  refine wpC_region ?_
  obtain ⟨x2, q2, h⟩ := h
  obtain ⟨x3, q3, h⟩ := h
  obtain ⟨x4, q4, h⟩ := h
  obtain ⟨x5, q5, h⟩ := h
  obtain ⟨x6, q6, h⟩ := h
  obtain ⟨x7, q7, h⟩ := h
  obtain ⟨x8, q8, h⟩ := h
  obtain ⟨x9, q9, h⟩ := h
  obtain ⟨x10, q10, h⟩ := h
  obtain ⟨x11, q11, h⟩ := h
  obtain ⟨x12, q12, h⟩ := h
  obtain ⟨x13, q13, h⟩ := h
  obtain ⟨x14, q14, h⟩ := h
  obtain ⟨x15, q15, h⟩ := h
  obtain ⟨x16, q16, h⟩ := h
  obtain ⟨x17, q17, h⟩ := h
  obtain ⟨x18, q18, h⟩ := h
  obtain ⟨x19, q19, h⟩ := h
  obtain ⟨x20, q20, h⟩ := h
  obtain ⟨x21, q21, h⟩ := h
  obtain ⟨x22, q22, h⟩ := h
  obtain ⟨x23, q23, h⟩ := h
  refine wpR_val (v := (Value.agg #[(Value.string x2), (Value.int .i64 x3), (Value.int .i64 x4), (Value.int .i64 x5), (Value.bool x6), (Value.int .i64 x7), (Value.bool x8), (Value.bool x9), (Value.int .i64 x10), (Value.int .i64 x11), (Value.int .i64 x12), (Value.int .i64 x13), (Sl.v x14), (Value.int .i64 x15), (Value.int .i64 x16), (Value.int .i64 x17), (Value.int .i64 x18), (Value.bool x19), (Value.int .i64 x20), (Value.int .i64 x21), (Value.int .i64 x22), (Value.int .i64 x23)])) (w' := w1) rfl rfl rfl (x_loadN [(Value.string x2), (Value.int .i64 x3), (Value.int .i64 x4), (Value.int .i64 x5), (Value.bool x6), (Value.int .i64 x7), (Value.bool x8), (Value.bool x9), (Value.int .i64 x10), (Value.int .i64 x11), (Value.int .i64 x12), (Value.int .i64 x13), (Sl.v x14), (Value.int .i64 x15), (Value.int .i64 x16), (Value.int .i64 x17), (Value.int .i64 x18), (Value.bool x19), (Value.int .i64 x20), (Value.int .i64 x21), (Value.int .i64 x22), (Value.int .i64 x23)] rfl e4 SH_33 (CellsAt.out (CellsAt.cons q2 (CellsAt.cons q3 (CellsAt.cons q4 (CellsAt.cons q5 (CellsAt.cons q6 (CellsAt.cons q7 (CellsAt.cons q8 (CellsAt.cons q9 (CellsAt.cons q10 (CellsAt.cons q11 (CellsAt.cons q12 (CellsAt.cons q13 (CellsAt.cons q14 (CellsAt.cons q15 (CellsAt.cons q16 (CellsAt.cons q17 (CellsAt.cons q18 (CellsAt.cons q19 (CellsAt.cons q20 (CellsAt.cons q21 (CellsAt.cons q22 (CellsAt.cons q23 CellsAt.nil)))))))))))))))))))))))) ?_
  obtain ⟨x24, q24, h⟩ := h
  obtain ⟨x25, q25, h⟩ := h
  obtain ⟨x26, q26, h⟩ := h
  obtain ⟨x27, q27, h⟩ := h
  refine wpR_val (v := (Value.agg #[(Value.int .i64 x24), (Value.int .i64 x25), (Value.int .i64 x26), (Value.int .i64 x27)])) (w' := w1) rfl rfl rfl (x_loadN [(Value.int .i64 x24), (Value.int .i64 x25), (Value.int .i64 x26), (Value.int .i64 x27)] rfl e1 SH_43 (CellsAt.out (CellsAt.cons q24 (CellsAt.cons q25 (CellsAt.cons q26 (CellsAt.cons q27 CellsAt.nil)))))) ?_
  obtain ⟨x28, q28, h⟩ := h
  refine wpR_val (v := (Sl.v x28)) (w' := w1) rfl rfl rfl (x_load1 rfl e2 SH_23 q28) ?_
  obtain ⟨x29, q29, h⟩ := h
  refine wpR_val (v := (Value.int .i64 x29)) (w' := w1) rfl rfl rfl (x_load1 rfl e3 SH_3 q29) ?_
  refine wpR_enter rfl rfl rfl (x_call (vs := [(Value.agg #[(Value.string x2), (Value.int .i64 x3), (Value.int .i64 x4), (Value.int .i64 x5), (Value.bool x6), (Value.int .i64 x7), (Value.bool x8), (Value.bool x9), (Value.int .i64 x10), (Value.int .i64 x11), (Value.int .i64 x12), (Value.int .i64 x13), (Sl.v x14), (Value.int .i64 x15), (Value.int .i64 x16), (Value.int .i64 x17), (Value.int .i64 x18), (Value.bool x19), (Value.int .i64 x20), (Value.int .i64 x21), (Value.int .i64 x22), (Value.int .i64 x23)]), (Value.agg #[(Value.int .i64 x24), (Value.int .i64 x25), (Value.int .i64 x26), (Value.int .i64 x27)]), (Sl.v x28), (Value.int .i64 x29)]) rfl rfl (mapl_cons rfl (mapl_cons rfl (mapl_cons rfl (mapl_cons rfl mapl_nil)))) Try.func34 NN_34 NB_34) (Calls.mono h ?_)
  rintro _ w2 ⟨r30, rfl, h⟩
  refine ⟨_, rfl, ?_⟩
  refine wpR_val (v := (Value.bool (!r30))) (w' := w2) rfl rfl rfl (x_not rfl rfl) ?_
  refine wpR_val (v := (Value.bool (!r30))) (w' := w2) rfl rfl rfl (x_assign (v := (Value.bool (!r30))) rfl rfl) ?_
  refine wpR_nil ?_
  refine wpC_ret ?_
  exact ⟨.inl rfl, fun a ha => ⟨_, results_rep1 rfl ha rfl, !r30, rfl, h⟩⟩

/-- sight.lets -/
def F34 (p0_0 : ByteArray) (p0_1 : Int) (p0_2 : Int) (p0_3 : Int) (p0_4 : Bool) (p0_5 : Int) (p0_6 : Bool) (p0_7 : Bool) (p0_8 : Int) (p0_9 : Int) (p0_10 : Int) (p0_11 : Int) (p0_12 : Sl) (p0_13 : Int) (p0_14 : Int) (p0_15 : Int) (p0_16 : Int) (p0_17 : Bool) (p0_18 : Int) (p0_19 : Int) (p0_20 : Int) (p0_21 : Int) (p1_0 : Int) (p1_1 : Int) (p1_2 : Int) (p1_3 : Int) (p2 : Sl) (p3 : Int) (w0 : World) (K : Bool → World → Prop) : Prop :=
  nw 33 #[(Value.string p0_0), (Value.int .i64 p0_1), (Value.int .i64 p0_2), (Value.int .i64 p0_3), (Value.bool p0_4), (Value.int .i64 p0_5), (Value.bool p0_6), (Value.bool p0_7), (Value.int .i64 p0_8), (Value.int .i64 p0_9), (Value.int .i64 p0_10), (Value.int .i64 p0_11), (Sl.v p0_12), (Value.int .i64 p0_13), (Value.int .i64 p0_14), (Value.int .i64 p0_15), (Value.int .i64 p0_16), (Value.bool p0_17), (Value.int .i64 p0_18), (Value.int .i64 p0_19), (Value.int .i64 p0_20), (Value.int .i64 p0_21)] w0 fun b1 w1 =>
  nw 43 #[(Value.int .i64 p1_0), (Value.int .i64 p1_1), (Value.int .i64 p1_2), (Value.int .i64 p1_3)] w1 fun b2 w2 =>
  ld (Value.int .i64) ((Addr.mk b1 0 none).add 14) w2 fun x3 =>
  jp (fun J4 => cnd (!decide (x3 = 1))
    (
    ld (Value.int .i64) ((Addr.mk b2 0 none).add 2) w2 fun x6 =>
    J4 (decide (p3 ≤ x6))
    )
    (
    J4 false
    ))
  fun c7 =>
  cnd (c7)
    (
    K false w2
    )
    (
    ld (Value.int .i64) ((Addr.mk b2 0 none).add 3) w2 fun x9 =>
    jp (fun J10 => cnd (decide (x9 = (-1)))
      (
      J10 true
      )
      (
      ld (Value.int .i64) ((Addr.mk b2 0 none).add 3) w2 fun x12 =>
      J10 (decide (p3 < x12))
      ))
    fun c13 =>
    cnd (c13)
      (
      K true w2
      )
      (
      ld (Value.int .i64) ((Addr.mk b1 0 none).add 15) w2 fun x15 =>
      cnd (!decide (x15 = 1))
        (
        K false w2
        )
        (
        ld (Value.int .i64) ((Addr.mk b2 0 none).add 3) w2 fun x17 =>
        rn Try.prog (Instr.sliceAt 23 (Sl.v p2) (some (Value.int .i64 (IntKind.i64.wrap (x17 + 1)))) (some (Value.int .i64 (IntKind.i64.wrap (p3 + 1)))) none) (fun (r : Sl) => (Sl.v r)) w2 fun r18 w3 =>
        callC Try.prog 41 #[(Sl.v r18), (Value.func (.func 40) #[] (List.toArray [(Value.pointer (some (Addr.mk b2 0 none)))]))] (fun (r : Bool) => (Value.bool r)) w3 fun r19 w4 =>
        K (!r19) w4
        )
      )
    )
set_option maxRecDepth 100000 in
theorem D34 (p0_0 : ByteArray) (p0_1 : Int) (p0_2 : Int) (p0_3 : Int) (p0_4 : Bool) (p0_5 : Int) (p0_6 : Bool) (p0_7 : Bool) (p0_8 : Int) (p0_9 : Int) (p0_10 : Int) (p0_11 : Int) (p0_12 : Sl) (p0_13 : Int) (p0_14 : Int) (p0_15 : Int) (p0_16 : Int) (p0_17 : Bool) (p0_18 : Int) (p0_19 : Int) (p0_20 : Int) (p0_21 : Int) (p1_0 : Int) (p1_1 : Int) (p1_2 : Int) (p1_3 : Int) (p2 : Sl) (p3 : Int) (w0 : World) (K : Bool → World → Prop) (h : F34 p0_0 p0_1 p0_2 p0_3 p0_4 p0_5 p0_6 p0_7 p0_8 p0_9 p0_10 p0_11 p0_12 p0_13 p0_14 p0_15 p0_16 p0_17 p0_18 p0_19 p0_20 p0_21 p1_0 p1_1 p1_2 p1_3 p2 p3 w0 K) : callC Try.prog 34 #[(Value.agg #[(Value.string p0_0), (Value.int .i64 p0_1), (Value.int .i64 p0_2), (Value.int .i64 p0_3), (Value.bool p0_4), (Value.int .i64 p0_5), (Value.bool p0_6), (Value.bool p0_7), (Value.int .i64 p0_8), (Value.int .i64 p0_9), (Value.int .i64 p0_10), (Value.int .i64 p0_11), (Sl.v p0_12), (Value.int .i64 p0_13), (Value.int .i64 p0_14), (Value.int .i64 p0_15), (Value.int .i64 p0_16), (Value.bool p0_17), (Value.int .i64 p0_18), (Value.int .i64 p0_19), (Value.int .i64 p0_20), (Value.int .i64 p0_21)]), (Value.agg #[(Value.int .i64 p1_0), (Value.int .i64 p1_1), (Value.int .i64 p1_2), (Value.int .i64 p1_3)]), (Sl.v p2), (Value.int .i64 p3)] (fun (r : Bool) => (Value.bool r)) w0 K := by
  unfold F34 at h
  refine calls_of_wpC Try.func34 rfl 42 rfl (by simp) ?_
  intro ρ hρ
  have e0 : ρ 0 = (Value.agg #[(Value.string p0_0), (Value.int .i64 p0_1), (Value.int .i64 p0_2), (Value.int .i64 p0_3), (Value.bool p0_4), (Value.int .i64 p0_5), (Value.bool p0_6), (Value.bool p0_7), (Value.int .i64 p0_8), (Value.int .i64 p0_9), (Value.int .i64 p0_10), (Value.int .i64 p0_11), (Sl.v p0_12), (Value.int .i64 p0_13), (Value.int .i64 p0_14), (Value.int .i64 p0_15), (Value.int .i64 p0_16), (Value.bool p0_17), (Value.int .i64 p0_18), (Value.int .i64 p0_19), (Value.int .i64 p0_20), (Value.int .i64 p0_21)]) := hρ 0
  have e1 : ρ 1 = (Value.agg #[(Value.int .i64 p1_0), (Value.int .i64 p1_1), (Value.int .i64 p1_2), (Value.int .i64 p1_3)]) := hρ 1
  have e2 : ρ 2 = (Sl.v p2) := hρ 2
  have e3 : ρ 3 = (Value.int .i64 p3) := hρ 3
  clear hρ
  refine wpC_seq ?_
  refine wpC_region ?_
  obtain ⟨b1, hb1⟩ : ∃ u, u = w0.heap.size := ⟨_, rfl⟩
  obtain ⟨w1, hw1⟩ : ∃ u, u = w0.alloc (.cells #[(Value.string p0_0), (Value.int .i64 p0_1), (Value.int .i64 p0_2), (Value.int .i64 p0_3), (Value.bool p0_4), (Value.int .i64 p0_5), (Value.bool p0_6), (Value.bool p0_7), (Value.int .i64 p0_8), (Value.int .i64 p0_9), (Value.int .i64 p0_10), (Value.int .i64 p0_11), (Sl.v p0_12), (Value.int .i64 p0_13), (Value.int .i64 p0_14), (Value.int .i64 p0_15), (Value.int .i64 p0_16), (Value.bool p0_17), (Value.int .i64 p0_18), (Value.int .i64 p0_19), (Value.int .i64 p0_20), (Value.int .i64 p0_21)] 33) := ⟨_, rfl⟩
  replace h := h b1 w1 hb1 hw1
  refine wpR_val (v := (Value.pointer (some (Addr.mk b1 0 none)))) (w' := w1) rfl rfl rfl ((x_box (v := (Value.agg #[(Value.string p0_0), (Value.int .i64 p0_1), (Value.int .i64 p0_2), (Value.int .i64 p0_3), (Value.bool p0_4), (Value.int .i64 p0_5), (Value.bool p0_6), (Value.bool p0_7), (Value.int .i64 p0_8), (Value.int .i64 p0_9), (Value.int .i64 p0_10), (Value.int .i64 p0_11), (Sl.v p0_12), (Value.int .i64 p0_13), (Value.int .i64 p0_14), (Value.int .i64 p0_15), (Value.int .i64 p0_16), (Value.bool p0_17), (Value.int .i64 p0_18), (Value.int .i64 p0_19), (Value.int .i64 p0_20), (Value.int .i64 p0_21)])) rfl e0).trans (by rw [hb1, hw1]; rfl)) ?_
  obtain ⟨b2, hb2⟩ : ∃ u, u = w1.heap.size := ⟨_, rfl⟩
  obtain ⟨w2, hw2⟩ : ∃ u, u = w1.alloc (.cells #[(Value.int .i64 p1_0), (Value.int .i64 p1_1), (Value.int .i64 p1_2), (Value.int .i64 p1_3)] 43) := ⟨_, rfl⟩
  replace h := h b2 w2 hb2 hw2
  refine wpR_val (v := (Value.pointer (some (Addr.mk b2 0 none)))) (w' := w2) rfl rfl rfl ((x_box (v := (Value.agg #[(Value.int .i64 p1_0), (Value.int .i64 p1_1), (Value.int .i64 p1_2), (Value.int .i64 p1_3)])) rfl e1).trans (by rw [hb2, hw2]; rfl)) ?_
  refine wpR_val (v := (Value.bool false)) (w' := w2) rfl rfl rfl (x_assign (v := (Value.bool false)) rfl rfl) ?_
  refine wpR_nil ?_
  refine wpC_seq ?_
  refine wpC_seq ?_
  refine wpC_cut (fun ρ => ρ 2 = (Sl.v p2) ∧ ρ 3 = (Value.int .i64 p3) ∧ ρ 4 = (Value.pointer (some (Addr.mk b1 0 none))) ∧ ρ 5 = (Value.pointer (some (Addr.mk b2 0 none))) ∧ True) ⟨e2, e3, rfl, rfl, trivial⟩ ?_
  rintro ρ ⟨e2, e3, e4, e5, -⟩
  refine wpC_region ?_
  refine wpR_val (v := (Value.pointer (some ((Addr.mk b1 0 none).add 14)))) (w' := w2) rfl rfl rfl (x_fieldAddr rfl e4 FA_33_14) ?_
  obtain ⟨x3, q3, h⟩ := h
  refine wpR_val (v := (Value.int .i64 x3)) (w' := w2) rfl rfl rfl (x_load1 rfl rfl SH_3 q3) ?_
  refine wpR_val (v := (Value.bool (!decide (x3 = 1)))) (w' := w2) rfl rfl rfl (x_neq rfl rfl rfl) ?_
  refine wpR_val (v := (Value.bool (!decide (x3 = 1)))) (w' := w2) rfl rfl rfl (x_move (v := (Value.bool (!decide (x3 = 1)))) rfl rfl) ?_
  obtain ⟨J4, h, hk⟩ := h
  refine wpR_joinJ 5 (fun x ρ => ρ 18 = Value.bool x ∧ ρ 2 = (Sl.v p2) ∧ ρ 3 = (Value.int .i64 p3) ∧ ρ 4 = (Value.pointer (some (Addr.mk b1 0 none))) ∧ ρ 5 = (Value.pointer (some (Addr.mk b2 0 none))) ∧ True) (fun x w => J4 x ∧ w2 = w) ?_ ?_
  · clear hk
    rcases Bool.eq_false_or_eq_true (!decide (x3 = 1)) with hc5 | hc5
    · replace h := h.1 hc5
      refine wpR_val (v := (Value.int .i64 p3)) (w' := w2) (wantG rfl rfl rfl hc5) rfl rfl (x_move (v := (Value.int .i64 p3)) rfl e3) ?_
      refine wpR_val (v := (Value.pointer (some ((Addr.mk b2 0 none).add 2)))) (w' := w2) (wantG rfl rfl rfl hc5) rfl rfl (x_fieldAddr rfl e5 FA_43_2) ?_
      obtain ⟨x6, q6, h⟩ := h
      refine wpR_val (v := (Value.int .i64 x6)) (w' := w2) (wantG rfl rfl rfl hc5) rfl rfl (x_load1 rfl rfl SH_3 q6) ?_
      refine wpR_val (v := (Value.bool (decide (p3 ≤ x6)))) (w' := w2) (wantG rfl rfl rfl hc5) rfl rfl (x_leq rfl rfl rfl) ?_
      refine wpR_val (v := (Value.bool (decide (p3 ≤ x6)))) (w' := w2) rfl rfl rfl (x_pickT (v := (Value.bool (decide (p3 ≤ x6)))) rfl rfl hc5 rfl) ?_
      refine wpR_nil ?_
      exact ⟨decide (p3 ≤ x6), ⟨rfl, e2, e3, e4, e5, trivial⟩, h, rfl⟩
    · replace h := h.2 hc5
      refine wpR_pass (wantN rfl rfl rfl hc5) rfl rfl ?_
      refine wpR_pass (wantN rfl rfl rfl hc5) rfl rfl ?_
      refine wpR_pass (wantN rfl rfl rfl hc5) rfl rfl ?_
      refine wpR_pass (wantN rfl rfl rfl hc5) rfl rfl ?_
      refine wpR_val (v := (Value.bool false)) (w' := w2) rfl rfl rfl (x_pickF (v := (Value.bool false)) rfl rfl hc5 rfl) ?_
      refine wpR_nil ?_
      exact ⟨false, ⟨rfl, e2, e3, e4, e5, trivial⟩, h, rfl⟩
  clear h
  rintro c7 ρ wj ⟨e18, e2, e3, e4, e5, -⟩ ⟨h, rfl⟩
  replace h := hk c7 h
  clear hk
  refine wpR_nil ?_
  refine wpC_cond (b := c7) e18 (fun hc8 => ?_) (fun hc8 => ?_)
  · replace h := h.1 hc8
    refine wpC_seq ?_
    refine wpC_region ?_
    refine wpR_val (v := (Value.bool false)) (w' := w2) rfl rfl rfl (x_assign (v := (Value.bool false)) rfl rfl) ?_
    refine wpR_nil ?_
    refine wpC_ret ?_
    exact ⟨.inl rfl, fun a ha => ⟨_, results_rep1 rfl ha rfl, false, rfl, h⟩⟩
  · replace h := h.2 hc8
    refine wpC_skip ?_
    refine wpC_seq ?_
    refine wpC_seq ?_
    refine wpC_region ?_
    refine wpR_val (v := (Value.pointer (some ((Addr.mk b2 0 none).add 3)))) (w' := w2) rfl rfl rfl (x_fieldAddr rfl e5 FA_43_3) ?_
    obtain ⟨x9, q9, h⟩ := h
    refine wpR_val (v := (Value.int .i64 x9)) (w' := w2) rfl rfl rfl (x_load1 rfl rfl SH_3 q9) ?_
    refine wpR_val (v := (Value.bool (decide (x9 = (-1))))) (w' := w2) rfl rfl rfl (x_eql rfl rfl rfl) ?_
    refine wpR_val (v := (Value.bool (decide (x9 = (-1))))) (w' := w2) rfl rfl rfl (x_move (v := (Value.bool (decide (x9 = (-1))))) rfl rfl) ?_
    obtain ⟨J10, h, hk⟩ := h
    refine wpR_joinJ 5 (fun x ρ => ρ 27 = Value.bool x ∧ ρ 2 = (Sl.v p2) ∧ ρ 3 = (Value.int .i64 p3) ∧ ρ 4 = (Value.pointer (some (Addr.mk b1 0 none))) ∧ ρ 5 = (Value.pointer (some (Addr.mk b2 0 none))) ∧ True) (fun x w => J10 x ∧ w2 = w) ?_ ?_
    · clear hk
      rcases Bool.eq_false_or_eq_true (decide (x9 = (-1))) with hc11 | hc11
      · replace h := h.1 hc11
        refine wpR_pass (wantN rfl rfl rfl hc11) rfl rfl ?_
        refine wpR_pass (wantN rfl rfl rfl hc11) rfl rfl ?_
        refine wpR_pass (wantN rfl rfl rfl hc11) rfl rfl ?_
        refine wpR_pass (wantN rfl rfl rfl hc11) rfl rfl ?_
        refine wpR_val (v := (Value.bool true)) (w' := w2) rfl rfl rfl (x_pickT (v := (Value.bool true)) rfl rfl hc11 rfl) ?_
        refine wpR_nil ?_
        exact ⟨true, ⟨rfl, e2, e3, e4, e5, trivial⟩, h, rfl⟩
      · replace h := h.2 hc11
        refine wpR_val (v := (Value.int .i64 p3)) (w' := w2) (wantG rfl rfl rfl hc11) rfl rfl (x_move (v := (Value.int .i64 p3)) rfl e3) ?_
        refine wpR_val (v := (Value.pointer (some ((Addr.mk b2 0 none).add 3)))) (w' := w2) (wantG rfl rfl rfl hc11) rfl rfl (x_fieldAddr rfl e5 FA_43_3) ?_
        obtain ⟨x12, q12, h⟩ := h
        refine wpR_val (v := (Value.int .i64 x12)) (w' := w2) (wantG rfl rfl rfl hc11) rfl rfl (x_load1 rfl rfl SH_3 q12) ?_
        refine wpR_val (v := (Value.bool (decide (p3 < x12)))) (w' := w2) (wantG rfl rfl rfl hc11) rfl rfl (x_lss rfl rfl rfl) ?_
        refine wpR_val (v := (Value.bool (decide (p3 < x12)))) (w' := w2) rfl rfl rfl (x_pickF (v := (Value.bool (decide (p3 < x12)))) rfl rfl hc11 rfl) ?_
        refine wpR_nil ?_
        exact ⟨decide (p3 < x12), ⟨rfl, e2, e3, e4, e5, trivial⟩, h, rfl⟩
    clear h
    rintro c13 ρ wj ⟨e27, e2, e3, e4, e5, -⟩ ⟨h, rfl⟩
    replace h := hk c13 h
    clear hk
    refine wpR_nil ?_
    refine wpC_cond (b := c13) e27 (fun hc14 => ?_) (fun hc14 => ?_)
    · replace h := h.1 hc14
      refine wpC_seq ?_
      refine wpC_region ?_
      refine wpR_val (v := (Value.bool true)) (w' := w2) rfl rfl rfl (x_assign (v := (Value.bool true)) rfl rfl) ?_
      refine wpR_nil ?_
      refine wpC_ret ?_
      exact ⟨.inl rfl, fun a ha => ⟨_, results_rep1 rfl ha rfl, true, rfl, h⟩⟩
    · replace h := h.2 hc14
      refine wpC_skip ?_
      refine wpC_seq ?_
      refine wpC_seq ?_
      refine wpC_region ?_
      refine wpR_val (v := (Value.pointer (some ((Addr.mk b1 0 none).add 15)))) (w' := w2) rfl rfl rfl (x_fieldAddr rfl e4 FA_33_15) ?_
      obtain ⟨x15, q15, h⟩ := h
      refine wpR_val (v := (Value.int .i64 x15)) (w' := w2) rfl rfl rfl (x_load1 rfl rfl SH_3 q15) ?_
      refine wpR_val (v := (Value.bool (!decide (x15 = 1)))) (w' := w2) rfl rfl rfl (x_neq rfl rfl rfl) ?_
      refine wpR_nil ?_
      refine wpC_cond (b := !decide (x15 = 1)) rfl (fun hc16 => ?_) (fun hc16 => ?_)
      · replace h := h.1 hc16
        refine wpC_seq ?_
        refine wpC_cut (fun ρ => True) trivial ?_
        rintro ρ -
        refine wpC_region ?_
        refine wpR_val (v := (Value.bool false)) (w' := w2) rfl rfl rfl (x_assign (v := (Value.bool false)) rfl rfl) ?_
        refine wpR_nil ?_
        refine wpC_ret ?_
        exact ⟨.inl rfl, fun a ha => ⟨_, results_rep1 rfl ha rfl, false, rfl, h⟩⟩
      · replace h := h.2 hc16
        refine wpC_skip ?_
        refine wpC_seq ?_
        refine wpC_cut (fun ρ => ρ 2 = (Sl.v p2) ∧ ρ 3 = (Value.int .i64 p3) ∧ ρ 5 = (Value.pointer (some (Addr.mk b2 0 none))) ∧ True) ⟨e2, e3, e5, trivial⟩ ?_
        rintro ρ ⟨e2, e3, e5, -⟩
        refine wpC_region ?_
        refine wpR_val (v := (Value.func (.func 40) #[] (List.toArray [(Value.pointer (some (Addr.mk b2 0 none)))]))) (w' := w2) rfl rfl rfl (x_makeFunc (vs := [(Value.pointer (some (Addr.mk b2 0 none)))]) rfl (mapl_cons e5 mapl_nil)) ?_
        refine wpR_val (v := (Value.func (.func 40) #[] (List.toArray [(Value.pointer (some (Addr.mk b2 0 none)))]))) (w' := w2) rfl rfl rfl (x_assign (v := (Value.func (.func 40) #[] (List.toArray [(Value.pointer (some (Addr.mk b2 0 none)))]))) rfl rfl) ?_
        refine wpR_nil ?_
        refine wpC_seq ?_
        refine wpC_cut (fun ρ => ρ 2 = (Sl.v p2) ∧ ρ 3 = (Value.int .i64 p3) ∧ ρ 5 = (Value.pointer (some (Addr.mk b2 0 none))) ∧ ρ 9 = (Value.func (.func 40) #[] (List.toArray [(Value.pointer (some (Addr.mk b2 0 none)))])) ∧ True) ⟨e2, e3, e5, rfl, trivial⟩ ?_
        rintro ρ ⟨e2, e3, e5, e9, -⟩
        refine wpC_region ?_
        refine wpR_val (v := (Sl.v p2)) (w' := w2) rfl rfl rfl (x_move (v := (Sl.v p2)) rfl e2) ?_
        refine wpR_val (v := (Value.pointer (some ((Addr.mk b2 0 none).add 3)))) (w' := w2) rfl rfl rfl (x_fieldAddr rfl e5 FA_43_3) ?_
        obtain ⟨x17, q17, h⟩ := h
        refine wpR_val (v := (Value.int .i64 x17)) (w' := w2) rfl rfl rfl (x_load1 rfl rfl SH_3 q17) ?_
        refine wpR_val (v := (Value.int .i64 (IntKind.i64.wrap (x17 + 1)))) (w' := w2) rfl rfl rfl (x_add rfl rfl rfl) ?_
        refine wpR_val (v := (Value.int .i64 p3)) (w' := w2) rfl rfl rfl (x_move (v := (Value.int .i64 p3)) rfl e3) ?_
        refine wpR_val (v := (Value.int .i64 (IntKind.i64.wrap (p3 + 1)))) (w' := w2) rfl rfl rfl (x_add rfl rfl rfl) ?_
        obtain ⟨r18, w3, q18, h⟩ := h
        refine wpR_val (v := (Sl.v r18)) (w' := w3) rfl rfl rfl (x_sliceAt rfl rfl (congrArg some rfl) (congrArg some rfl) rfl q18) ?_
        refine wpR_val (v := (Value.func (.func 40) #[] (List.toArray [(Value.pointer (some (Addr.mk b2 0 none)))]))) (w' := w3) rfl rfl rfl (x_move (v := (Value.func (.func 40) #[] (List.toArray [(Value.pointer (some (Addr.mk b2 0 none)))]))) rfl e9) ?_
        refine wpR_enter rfl rfl rfl (x_call (vs := [(Sl.v r18), (Value.func (.func 40) #[] (List.toArray [(Value.pointer (some (Addr.mk b2 0 none)))]))]) rfl rfl (mapl_cons rfl (mapl_cons rfl mapl_nil)) Try.func41 NN_41 NB_41) (Calls.mono h ?_)
        rintro _ w4 ⟨r19, rfl, h⟩
        refine ⟨_, rfl, ?_⟩
        refine wpR_val (v := (Value.bool (!r19))) (w' := w4) rfl rfl rfl (x_not rfl rfl) ?_
        refine wpR_val (v := (Value.bool (!r19))) (w' := w4) rfl rfl rfl (x_assign (v := (Value.bool (!r19))) rfl rfl) ?_
        refine wpR_nil ?_
        refine wpC_ret ?_
        exact ⟨.inl rfl, fun a ha => ⟨_, results_rep1 rfl ha rfl, !r19, rfl, h⟩⟩

/-- slices.ContainsFunc[[]api.Profile,api.Profile] -/
def F35 (p0 : Sl) (p1 : Value) (w0 : World) (K : Bool → World → Prop) : Prop :=
  callC Try.prog 42 #[(Sl.v p0), p1] (fun (r : Int) => (Value.int .i64 r)) w0 fun r1 w1 =>
  K (decide (0 ≤ r1)) w1
set_option maxRecDepth 100000 in
theorem D35 (p0 : Sl) (p1 : Value) (w0 : World) (K : Bool → World → Prop) (h : F35 p0 p1 w0 K) : callC Try.prog 35 #[(Sl.v p0), p1] (fun (r : Bool) => (Value.bool r)) w0 K := by
  unfold F35 at h
  refine calls_of_wpC Try.func35 rfl 9 rfl (by simp) ?_
  intro ρ hρ
  have e0 : ρ 0 = (Sl.v p0) := hρ 0
  have e1 : ρ 1 = p1 := hρ 1
  clear hρ
  refine wpC_seq ?_
  refine wpC_region ?_
  refine wpR_val (v := (Value.bool false)) (w' := w0) rfl rfl rfl (x_assign (v := (Value.bool false)) rfl rfl) ?_
  refine wpR_nil ?_
  refine wpC_seq ?_
  refine wpC_cut (fun ρ => ρ 0 = (Sl.v p0) ∧ ρ 1 = p1 ∧ True) ⟨e0, e1, trivial⟩ ?_
  rintro ρ ⟨e0, e1, -⟩
  refine wpC_region ?_
  refine wpR_val (v := (Sl.v p0)) (w' := w0) rfl rfl rfl (x_move (v := (Sl.v p0)) rfl e0) ?_
  refine wpR_val (v := p1) (w' := w0) rfl rfl rfl (x_move (v := p1) rfl e1) ?_
  refine wpR_enter rfl rfl rfl (x_call (vs := [(Sl.v p0), p1]) rfl rfl (mapl_cons rfl (mapl_cons rfl mapl_nil)) Try.func42 NN_42 NB_42) (Calls.mono h ?_)
  rintro _ w1 ⟨r1, rfl, h⟩
  refine ⟨_, rfl, ?_⟩
  refine wpR_val (v := (Value.bool (decide (0 ≤ r1)))) (w' := w1) rfl rfl rfl (x_geq rfl rfl rfl) ?_
  refine wpR_val (v := (Value.bool (decide (0 ≤ r1)))) (w' := w1) rfl rfl rfl (x_assign (v := (Value.bool (decide (0 ≤ r1)))) rfl rfl) ?_
  refine wpR_nil ?_
  refine wpC_ret ?_
  exact ⟨.inl rfl, fun a ha => ⟨_, results_rep1 rfl ha rfl, decide (0 ≤ r1), rfl, h⟩⟩

/-- linguaref17.In -/
def F36 (p0 : Sl) (p1 : Int) (p2 : Int) (w0 : World) (K : Bool → World → Prop) : Prop :=
  lp (fun (next1 : Int → World → Prop) l1 w1 =>
    cnd (decide (0 ≤ l1))
      (
      jn (fun (J3 : Unit → World → Prop) =>
        ix p0 l1 12 fun p5 =>
        ld (Value.int .i64) (p5.add 0) w1 fun x6 =>
        ld (Value.int .i64) (p5.add 1) w1 fun x7 =>
        ld Sl.v (p5.add 2) w1 fun x8 =>
        ld (Value.int .i64) (p5.add 3) w1 fun x9 =>
        ld (Value.int .i64) (p5.add 4) w1 fun x10 =>
        ld (Value.int .i64) (p5.add 5) w1 fun x11 =>
        ld (Value.int .i64) (p5.add 6) w1 fun x12 =>
        ld (Value.int .i64) (p5.add 7) w1 fun x13 =>
        ld (Value.int .i64) (p5.add 8) w1 fun x14 =>
        ld Value.string (p5.add 9) w1 fun x15 =>
        ld Sl.v (p5.add 10) w1 fun x16 =>
        ld (Value.int .i64) (p5.add 11) w1 fun x17 =>
        nw 41 #[(Value.int .i64 0), (Value.int .i64 0), (Sl.v Sl.nil), (Value.int .i64 0), (Value.int .i64 0), (Value.int .i64 0), (Value.int .i64 0), (Value.int .i64 0), (Value.int .i64 0), (Value.string (ByteArray.mk #[])), (Sl.v Sl.nil), (Value.int .i64 0)] w1 fun b18 w3 =>
        st (Addr.mk b18 0 none) [(Value.int .i64 x6), (Value.int .i64 x7), (Sl.v x8), (Value.int .i64 x9), (Value.int .i64 x10), (Value.int .i64 x11), (Value.int .i64 x12), (Value.int .i64 x13), (Value.int .i64 x14), (Value.string x15), (Sl.v x16), (Value.int .i64 x17)] w3 fun w4 =>
        ld (Value.int .i64) ((Addr.mk b18 0 none).add 4) w4 fun x20 =>
        cnd (!decide (x20 = p2))
          (
          J3 () w4
          )
          (
          ld (Value.int .i64) ((Addr.mk b18 0 none).add 3) w4 fun x22 =>
          jp (fun J23 => cnd (decide (x22 = 5))
            (
            ld (Value.int .i64) ((Addr.mk b18 0 none).add 7) w4 fun x25 =>
            J23 (decide (x25 = p1))
            )
            (
            J23 false
            ))
          fun c26 =>
          cnd (c26)
            (
            K true w4
            )
            (
            ld (Value.int .i64) ((Addr.mk b18 0 none).add 0) w4 fun x28 =>
            ld (Value.int .i64) ((Addr.mk b18 0 none).add 1) w4 fun x29 =>
            ld Sl.v ((Addr.mk b18 0 none).add 2) w4 fun x30 =>
            ld (Value.int .i64) ((Addr.mk b18 0 none).add 3) w4 fun x31 =>
            ld (Value.int .i64) ((Addr.mk b18 0 none).add 4) w4 fun x32 =>
            ld (Value.int .i64) ((Addr.mk b18 0 none).add 5) w4 fun x33 =>
            ld (Value.int .i64) ((Addr.mk b18 0 none).add 6) w4 fun x34 =>
            ld (Value.int .i64) ((Addr.mk b18 0 none).add 7) w4 fun x35 =>
            ld (Value.int .i64) ((Addr.mk b18 0 none).add 8) w4 fun x36 =>
            ld Value.string ((Addr.mk b18 0 none).add 9) w4 fun x37 =>
            ld Sl.v ((Addr.mk b18 0 none).add 10) w4 fun x38 =>
            ld (Value.int .i64) ((Addr.mk b18 0 none).add 11) w4 fun x39 =>
            callC Try.prog 37 #[(Value.agg #[(Value.int .i64 x28), (Value.int .i64 x29), (Sl.v x30), (Value.int .i64 x31), (Value.int .i64 x32), (Value.int .i64 x33), (Value.int .i64 x34), (Value.int .i64 x35), (Value.int .i64 x36), (Value.string x37), (Sl.v x38), (Value.int .i64 x39)])] (fun (r : Int × Bool) => (Value.tuple #[(Value.int .i64 r.1), (Value.bool r.2)])) w4 fun r40 w5 =>
            cnd (r40.2 && (decide (r40.1 = p1)))
              (
              K false w5
              )
              (
              J3 () w5
              )
            )
          )
      )
      fun _l4 w2 =>
      next1 (IntKind.i64.wrap (l1 - 1)) w2
      )
      (
      K false w1
      )
  ) (IntKind.i64.wrap ((p0.len : Int) - 1)) w0
set_option maxRecDepth 100000 in
theorem D36 (p0 : Sl) (p1 : Int) (p2 : Int) (w0 : World) (K : Bool → World → Prop) (h : F36 p0 p1 p2 w0 K) : callC Try.prog 36 #[(Sl.v p0), (Value.int .i64 p1), (Value.int .i64 p2)] (fun (r : Bool) => (Value.bool r)) w0 K := by
  unfold F36 at h
  refine calls_of_wpC Try.func36 rfl 46 rfl (by simp) ?_
  intro ρ hρ
  have e0 : ρ 0 = (Sl.v p0) := hρ 0
  have e1 : ρ 1 = (Value.int .i64 p1) := hρ 1
  have e2 : ρ 2 = (Value.int .i64 p2) := hρ 2
  clear hρ
  refine wpC_seq ?_
  refine wpC_region ?_
  refine wpR_val (v := (Value.bool false)) (w' := w0) rfl rfl rfl (x_assign (v := (Value.bool false)) rfl rfl) ?_
  refine wpR_nil ?_
  refine wpC_seq ?_
  refine wpC_seq ?_
  refine wpC_cut (fun ρ => ρ 0 = (Sl.v p0) ∧ ρ 1 = (Value.int .i64 p1) ∧ ρ 2 = (Value.int .i64 p2) ∧ True) ⟨e0, e1, e2, trivial⟩ ?_
  rintro ρ ⟨e0, e1, e2, -⟩
  refine wpC_region ?_
  refine wpR_val (v := (Sl.v p0)) (w' := w0) rfl rfl rfl (x_move (v := (Sl.v p0)) rfl e0) ?_
  refine wpR_val (v := (Value.int .i64 (p0.len : Int))) (w' := w0) rfl rfl rfl (x_lenS (s := p0) rfl rfl isSliceT_23) ?_
  refine wpR_val (v := (Value.int .i64 (IntKind.i64.wrap ((p0.len : Int) - 1)))) (w' := w0) rfl rfl rfl (x_sub rfl rfl rfl) ?_
  refine wpR_val (v := (Value.int .i64 (IntKind.i64.wrap ((p0.len : Int) - 1)))) (w' := w0) rfl rfl rfl (x_assign (v := (Value.int .i64 (IntKind.i64.wrap ((p0.len : Int) - 1)))) rfl rfl) ?_
  refine wpR_nil ?_
  refine wpC_block ?_
  obtain ⟨I1, μ1, hI1, hr1⟩ := h
  refine wpC_loop (fun (x : Int) ρ => ρ 7 = (Value.int .i64 x) ∧ ρ 0 = (Sl.v p0) ∧ ρ 1 = (Value.int .i64 p1) ∧ ρ 2 = (Value.int .i64 p2) ∧ True) I1 μ1 (IntKind.i64.wrap ((p0.len : Int) - 1)) ⟨rfl, e0, e1, e2, trivial⟩ hI1 ?_
  rintro l1 ρ w1 ⟨e7, e0, e1, e2, -⟩ h
  replace h := hr1 l1 w1 h
  clear hr1 hI1
  refine wpC_seq ?_
  refine wpC_seq ?_
  refine wpC_region ?_
  refine wpR_val (v := (Value.int .i64 l1)) (w' := w1) rfl rfl rfl (x_move (v := (Value.int .i64 l1)) rfl e7) ?_
  refine wpR_val (v := (Value.bool (decide (0 ≤ l1)))) (w' := w1) rfl rfl rfl (x_geq rfl rfl rfl) ?_
  refine wpR_nil ?_
  refine wpC_cond (b := decide (0 ≤ l1)) rfl (fun hc2 => ?_) (fun hc2 => ?_)
  · replace h := h.1 hc2
    refine wpC_skip ?_
    obtain ⟨J3, h, hk⟩ := h
    refine wpC_seqJ (fun (x : Unit) ρ => ρ 0 = (Sl.v p0) ∧ ρ 1 = (Value.int .i64 p1) ∧ ρ 2 = (Value.int .i64 p2) ∧ ρ 7 = (Value.int .i64 l1) ∧ True) J3 ?_ ?_
    · clear hk
      refine wpC_block ?_
      refine wpC_seq ?_
      refine wpC_cut (fun ρ => ρ 0 = (Sl.v p0) ∧ ρ 1 = (Value.int .i64 p1) ∧ ρ 2 = (Value.int .i64 p2) ∧ ρ 7 = (Value.int .i64 l1) ∧ True) ⟨e0, e1, e2, e7, trivial⟩ ?_
      rintro ρ ⟨e0, e1, e2, e7, -⟩
      refine wpC_region ?_
      refine wpR_val (v := (Sl.v p0)) (w' := w1) rfl rfl rfl (x_move (v := (Sl.v p0)) rfl e0) ?_
      refine wpR_val (v := (Value.int .i64 l1)) (w' := w1) rfl rfl rfl (x_move (v := (Value.int .i64 l1)) rfl e7) ?_
      obtain ⟨q5, z5, r5, h⟩ := h
      generalize hp5 : z5.add ((l1 : Int).toNat * 12) = p5 at h
      refine wpR_val (v := (Value.pointer (some p5))) (w' := w1) rfl rfl rfl ((x_indexAddr (s := p0) rfl rfl rfl ES_23 q5 r5).trans (by rw [hp5])) ?_
      obtain ⟨x6, q6, h⟩ := h
      obtain ⟨x7, q7, h⟩ := h
      obtain ⟨x8, q8, h⟩ := h
      obtain ⟨x9, q9, h⟩ := h
      obtain ⟨x10, q10, h⟩ := h
      obtain ⟨x11, q11, h⟩ := h
      obtain ⟨x12, q12, h⟩ := h
      obtain ⟨x13, q13, h⟩ := h
      obtain ⟨x14, q14, h⟩ := h
      obtain ⟨x15, q15, h⟩ := h
      obtain ⟨x16, q16, h⟩ := h
      obtain ⟨x17, q17, h⟩ := h
      refine wpR_val (v := (Value.agg #[(Value.int .i64 x6), (Value.int .i64 x7), (Sl.v x8), (Value.int .i64 x9), (Value.int .i64 x10), (Value.int .i64 x11), (Value.int .i64 x12), (Value.int .i64 x13), (Value.int .i64 x14), (Value.string x15), (Sl.v x16), (Value.int .i64 x17)])) (w' := w1) rfl rfl rfl (x_loadN [(Value.int .i64 x6), (Value.int .i64 x7), (Sl.v x8), (Value.int .i64 x9), (Value.int .i64 x10), (Value.int .i64 x11), (Value.int .i64 x12), (Value.int .i64 x13), (Value.int .i64 x14), (Value.string x15), (Sl.v x16), (Value.int .i64 x17)] rfl rfl SH_41 (CellsAt.out (CellsAt.cons q6 (CellsAt.cons q7 (CellsAt.cons q8 (CellsAt.cons q9 (CellsAt.cons q10 (CellsAt.cons q11 (CellsAt.cons q12 (CellsAt.cons q13 (CellsAt.cons q14 (CellsAt.cons q15 (CellsAt.cons q16 (CellsAt.cons q17 CellsAt.nil)))))))))))))) ?_
      obtain ⟨b18, hb18⟩ : ∃ u, u = w1.heap.size := ⟨_, rfl⟩
      obtain ⟨w3, hw18⟩ : ∃ u, u = w1.alloc (.cells #[(Value.int .i64 0), (Value.int .i64 0), (Sl.v Sl.nil), (Value.int .i64 0), (Value.int .i64 0), (Value.int .i64 0), (Value.int .i64 0), (Value.int .i64 0), (Value.int .i64 0), (Value.string (ByteArray.mk #[])), (Sl.v Sl.nil), (Value.int .i64 0)] 41) := ⟨_, rfl⟩
      replace h := h b18 w3 hb18 hw18
      refine wpR_val (v := (Value.pointer (some (Addr.mk b18 0 none)))) (w' := w3) rfl rfl rfl ((x_alloc rfl ZV_41).trans (by rw [hb18, hw18]; rfl)) ?_
      obtain ⟨q19, h⟩ := h
      obtain ⟨w4, hw19⟩ : ∃ u, u = setAll w3 (Addr.mk b18 0 none) [(Value.int .i64 x6), (Value.int .i64 x7), (Sl.v x8), (Value.int .i64 x9), (Value.int .i64 x10), (Value.int .i64 x11), (Value.int .i64 x12), (Value.int .i64 x13), (Value.int .i64 x14), (Value.string x15), (Sl.v x16), (Value.int .i64 x17)] 0 := ⟨_, rfl⟩
      replace h := h w4 hw19
      refine wpR_skp (w' := w4) rfl rfl ((x_store (v := (Value.agg #[(Value.int .i64 x6), (Value.int .i64 x7), (Sl.v x8), (Value.int .i64 x9), (Value.int .i64 x10), (Value.int .i64 x11), (Value.int .i64 x12), (Value.int .i64 x13), (Value.int .i64 x14), (Value.string x15), (Sl.v x16), (Value.int .i64 x17)])) rfl rfl rfl SZ_41 (ones (by rfl)) q19).trans (by rw [hw19]; rfl)) ?_
      refine wpR_nil ?_
      refine wpC_seq ?_
      refine wpC_seq ?_
      refine wpC_cut (fun ρ => ρ 0 = (Sl.v p0) ∧ ρ 1 = (Value.int .i64 p1) ∧ ρ 2 = (Value.int .i64 p2) ∧ ρ 7 = (Value.int .i64 l1) ∧ ρ 8 = (Value.pointer (some (Addr.mk b18 0 none))) ∧ True) ⟨e0, e1, e2, e7, rfl, trivial⟩ ?_
      rintro ρ ⟨e0, e1, e2, e7, e8, -⟩
      refine wpC_region ?_
      refine wpR_val (v := (Value.pointer (some ((Addr.mk b18 0 none).add 4)))) (w' := w4) rfl rfl rfl (x_fieldAddr rfl e8 FA_41_4) ?_
      obtain ⟨x20, q20, h⟩ := h
      refine wpR_val (v := (Value.int .i64 x20)) (w' := w4) rfl rfl rfl (x_load1 rfl rfl SH_3 q20) ?_
      refine wpR_val (v := (Value.int .i64 p2)) (w' := w4) rfl rfl rfl (x_move (v := (Value.int .i64 p2)) rfl e2) ?_
      refine wpR_val (v := (Value.bool (!decide (x20 = p2)))) (w' := w4) rfl rfl rfl (x_neq rfl rfl rfl) ?_
      refine wpR_nil ?_
      refine wpC_cond (b := !decide (x20 = p2)) rfl (fun hc21 => ?_) (fun hc21 => ?_)
      · replace h := h.1 hc21
        refine wpC_exit ?_
        exact ⟨(), ⟨e0, e1, e2, e7, trivial⟩, h⟩
      · replace h := h.2 hc21
        refine wpC_skip ?_
        refine wpC_seq ?_
        refine wpC_seq ?_
        refine wpC_cut (fun ρ => ρ 0 = (Sl.v p0) ∧ ρ 1 = (Value.int .i64 p1) ∧ ρ 2 = (Value.int .i64 p2) ∧ ρ 7 = (Value.int .i64 l1) ∧ ρ 8 = (Value.pointer (some (Addr.mk b18 0 none))) ∧ True) ⟨e0, e1, e2, e7, e8, trivial⟩ ?_
        rintro ρ ⟨e0, e1, e2, e7, e8, -⟩
        refine wpC_region ?_
        refine wpR_val (v := (Value.pointer (some ((Addr.mk b18 0 none).add 3)))) (w' := w4) rfl rfl rfl (x_fieldAddr rfl e8 FA_41_3) ?_
        obtain ⟨x22, q22, h⟩ := h
        refine wpR_val (v := (Value.int .i64 x22)) (w' := w4) rfl rfl rfl (x_load1 rfl rfl SH_3 q22) ?_
        refine wpR_val (v := (Value.bool (decide (x22 = 5)))) (w' := w4) rfl rfl rfl (x_eql rfl rfl rfl) ?_
        refine wpR_val (v := (Value.bool (decide (x22 = 5)))) (w' := w4) rfl rfl rfl (x_move (v := (Value.bool (decide (x22 = 5)))) rfl rfl) ?_
        obtain ⟨J23, h, hk⟩ := h
        refine wpR_joinJ 5 (fun x ρ => ρ 34 = Value.bool x ∧ ρ 0 = (Sl.v p0) ∧ ρ 1 = (Value.int .i64 p1) ∧ ρ 2 = (Value.int .i64 p2) ∧ ρ 7 = (Value.int .i64 l1) ∧ ρ 8 = (Value.pointer (some (Addr.mk b18 0 none))) ∧ True) (fun x w => J23 x ∧ w4 = w) ?_ ?_
        · clear hk
          rcases Bool.eq_false_or_eq_true (decide (x22 = 5)) with hc24 | hc24
          · replace h := h.1 hc24
            refine wpR_val (v := (Value.pointer (some ((Addr.mk b18 0 none).add 7)))) (w' := w4) (wantG rfl rfl rfl hc24) rfl rfl (x_fieldAddr rfl e8 FA_41_7) ?_
            obtain ⟨x25, q25, h⟩ := h
            refine wpR_val (v := (Value.int .i64 x25)) (w' := w4) (wantG rfl rfl rfl hc24) rfl rfl (x_load1 rfl rfl SH_3 q25) ?_
            refine wpR_val (v := (Value.int .i64 p1)) (w' := w4) (wantG rfl rfl rfl hc24) rfl rfl (x_move (v := (Value.int .i64 p1)) rfl e1) ?_
            refine wpR_val (v := (Value.bool (decide (x25 = p1)))) (w' := w4) (wantG rfl rfl rfl hc24) rfl rfl (x_eql rfl rfl rfl) ?_
            refine wpR_val (v := (Value.bool (decide (x25 = p1)))) (w' := w4) rfl rfl rfl (x_pickT (v := (Value.bool (decide (x25 = p1)))) rfl rfl hc24 rfl) ?_
            refine wpR_nil ?_
            exact ⟨decide (x25 = p1), ⟨rfl, e0, e1, e2, e7, e8, trivial⟩, h, rfl⟩
          · replace h := h.2 hc24
            refine wpR_pass (wantN rfl rfl rfl hc24) rfl rfl ?_
            refine wpR_pass (wantN rfl rfl rfl hc24) rfl rfl ?_
            refine wpR_pass (wantN rfl rfl rfl hc24) rfl rfl ?_
            refine wpR_pass (wantN rfl rfl rfl hc24) rfl rfl ?_
            refine wpR_val (v := (Value.bool false)) (w' := w4) rfl rfl rfl (x_pickF (v := (Value.bool false)) rfl rfl hc24 rfl) ?_
            refine wpR_nil ?_
            exact ⟨false, ⟨rfl, e0, e1, e2, e7, e8, trivial⟩, h, rfl⟩
        clear h
        rintro c26 ρ wj ⟨e34, e0, e1, e2, e7, e8, -⟩ ⟨h, rfl⟩
        replace h := hk c26 h
        clear hk
        refine wpR_nil ?_
        refine wpC_cond (b := c26) e34 (fun hc27 => ?_) (fun hc27 => ?_)
        · replace h := h.1 hc27
          refine wpC_seq ?_
          refine wpC_region ?_
          refine wpR_val (v := (Value.bool true)) (w' := w4) rfl rfl rfl (x_assign (v := (Value.bool true)) rfl rfl) ?_
          refine wpR_nil ?_
          refine wpC_ret ?_
          exact ⟨.inl rfl, fun a ha => ⟨_, results_rep1 rfl ha rfl, true, rfl, h⟩⟩
        · replace h := h.2 hc27
          refine wpC_skip ?_
          refine wpC_seq ?_
          refine wpC_region ?_
          obtain ⟨x28, q28, h⟩ := h
          obtain ⟨x29, q29, h⟩ := h
          obtain ⟨x30, q30, h⟩ := h
          obtain ⟨x31, q31, h⟩ := h
          obtain ⟨x32, q32, h⟩ := h
          obtain ⟨x33, q33, h⟩ := h
          obtain ⟨x34, q34, h⟩ := h
          obtain ⟨x35, q35, h⟩ := h
          obtain ⟨x36, q36, h⟩ := h
          obtain ⟨x37, q37, h⟩ := h
          obtain ⟨x38, q38, h⟩ := h
          obtain ⟨x39, q39, h⟩ := h
          refine wpR_val (v := (Value.agg #[(Value.int .i64 x28), (Value.int .i64 x29), (Sl.v x30), (Value.int .i64 x31), (Value.int .i64 x32), (Value.int .i64 x33), (Value.int .i64 x34), (Value.int .i64 x35), (Value.int .i64 x36), (Value.string x37), (Sl.v x38), (Value.int .i64 x39)])) (w' := w4) rfl rfl rfl (x_loadN [(Value.int .i64 x28), (Value.int .i64 x29), (Sl.v x30), (Value.int .i64 x31), (Value.int .i64 x32), (Value.int .i64 x33), (Value.int .i64 x34), (Value.int .i64 x35), (Value.int .i64 x36), (Value.string x37), (Sl.v x38), (Value.int .i64 x39)] rfl e8 SH_41 (CellsAt.out (CellsAt.cons q28 (CellsAt.cons q29 (CellsAt.cons q30 (CellsAt.cons q31 (CellsAt.cons q32 (CellsAt.cons q33 (CellsAt.cons q34 (CellsAt.cons q35 (CellsAt.cons q36 (CellsAt.cons q37 (CellsAt.cons q38 (CellsAt.cons q39 CellsAt.nil)))))))))))))) ?_
          refine wpR_enter rfl rfl rfl (x_call (vs := [(Value.agg #[(Value.int .i64 x28), (Value.int .i64 x29), (Sl.v x30), (Value.int .i64 x31), (Value.int .i64 x32), (Value.int .i64 x33), (Value.int .i64 x34), (Value.int .i64 x35), (Value.int .i64 x36), (Value.string x37), (Sl.v x38), (Value.int .i64 x39)])]) rfl rfl (mapl_cons rfl mapl_nil) Try.func37 NN_37 NB_37) (Calls.mono h ?_)
          rintro _ w5 ⟨r40, rfl, h⟩
          refine ⟨_, rfl, ?_⟩
          refine wpR_val (v := (Value.tuple #[(Value.int .i64 r40.1), (Value.bool r40.2)])) (w' := w5) rfl rfl rfl (x_move (v := (Value.tuple #[(Value.int .i64 r40.1), (Value.bool r40.2)])) rfl rfl) ?_
          refine wpR_val (v := (Value.int .i64 r40.1)) (w' := w5) rfl rfl rfl (x_extract rfl rfl rfl) ?_
          refine wpR_val (v := (Value.bool r40.2)) (w' := w5) rfl rfl rfl (x_extract rfl rfl rfl) ?_
          refine wpR_val (v := (Value.int .i64 r40.1)) (w' := w5) rfl rfl rfl (x_assign (v := (Value.int .i64 r40.1)) rfl rfl) ?_
          refine wpR_val (v := (Value.bool r40.2)) (w' := w5) rfl rfl rfl (x_assign (v := (Value.bool r40.2)) rfl rfl) ?_
          refine wpR_nil ?_
          refine wpC_seq ?_
          refine wpC_cut (fun ρ => ρ 0 = (Sl.v p0) ∧ ρ 1 = (Value.int .i64 p1) ∧ ρ 2 = (Value.int .i64 p2) ∧ ρ 7 = (Value.int .i64 l1) ∧ ρ 9 = (Value.int .i64 r40.1) ∧ ρ 10 = (Value.bool r40.2) ∧ True) ⟨e0, e1, e2, e7, rfl, rfl, trivial⟩ ?_
          rintro ρ ⟨e0, e1, e2, e7, e9, e10, -⟩
          refine wpC_region ?_
          refine wpR_val (v := (Value.bool r40.2)) (w' := w5) rfl rfl rfl (x_move (v := (Value.bool r40.2)) rfl e10) ?_
          refine wpR_val (v := (Value.bool r40.2)) (w' := w5) rfl rfl rfl (x_move (v := (Value.bool r40.2)) rfl rfl) ?_
          refine wpR_joinJ 4 (fun (_ : Unit) ρ => ρ 45 = Value.bool (r40.2 && (decide (r40.1 = p1))) ∧ ρ 0 = (Sl.v p0) ∧ ρ 1 = (Value.int .i64 p1) ∧ ρ 2 = (Value.int .i64 p2) ∧ ρ 7 = (Value.int .i64 l1) ∧ True) (fun _ w => w5 = w) ?_ ?_
          · clear h
            rcases Bool.eq_false_or_eq_true (r40.2) with hc42 | hc42
            · skip
              refine wpR_val (v := (Value.int .i64 r40.1)) (w' := w5) (wantG rfl rfl rfl hc42) rfl rfl (x_move (v := (Value.int .i64 r40.1)) rfl e9) ?_
              refine wpR_val (v := (Value.int .i64 p1)) (w' := w5) (wantG rfl rfl rfl hc42) rfl rfl (x_move (v := (Value.int .i64 p1)) rfl e1) ?_
              refine wpR_val (v := (Value.bool (decide (r40.1 = p1)))) (w' := w5) (wantG rfl rfl rfl hc42) rfl rfl (x_eql rfl rfl rfl) ?_
              refine wpR_val (v := (Value.bool (decide (r40.1 = p1)))) (w' := w5) rfl rfl rfl (x_pickT (v := (Value.bool (decide (r40.1 = p1)))) rfl rfl hc42 rfl) ?_
              refine wpR_nil ?_
              exact ⟨(), ⟨(by rw [hc42]; rfl), e0, e1, e2, e7, trivial⟩, rfl⟩
            · skip
              refine wpR_pass (wantN rfl rfl rfl hc42) rfl rfl ?_
              refine wpR_pass (wantN rfl rfl rfl hc42) rfl rfl ?_
              refine wpR_pass (wantN rfl rfl rfl hc42) rfl rfl ?_
              refine wpR_val (v := (Value.bool false)) (w' := w5) rfl rfl rfl (x_pickF (v := (Value.bool false)) rfl rfl hc42 rfl) ?_
              refine wpR_nil ?_
              exact ⟨(), ⟨(by rw [hc42]; rfl), e0, e1, e2, e7, trivial⟩, rfl⟩
          rintro _ ρ wj ⟨e45, e0, e1, e2, e7, -⟩ rfl
          refine wpR_nil ?_
          refine wpC_cond (b := r40.2 && (decide (r40.1 = p1))) e45 (fun hc43 => ?_) (fun hc43 => ?_)
          · replace h := h.1 hc43
            refine wpC_seq ?_
            refine wpC_region ?_
            refine wpR_val (v := (Value.bool false)) (w' := w5) rfl rfl rfl (x_assign (v := (Value.bool false)) rfl rfl) ?_
            refine wpR_nil ?_
            refine wpC_ret ?_
            exact ⟨.inl rfl, fun a ha => ⟨_, results_rep1 rfl ha rfl, false, rfl, h⟩⟩
          · replace h := h.2 hc43
            refine wpC_skip ?_
            exact ⟨(), ⟨e0, e1, e2, e7, trivial⟩, h⟩
    clear h
    rintro l4 ρ w2 ⟨e0, e1, e2, e7, -⟩ h
    replace h := hk l4 w2 h
    clear hk
    refine wpC_region ?_
    refine wpR_val (v := (Value.int .i64 l1)) (w' := w2) rfl rfl rfl (x_move (v := (Value.int .i64 l1)) rfl e7) ?_
    refine wpR_val (v := (Value.int .i64 (IntKind.i64.wrap (l1 - 1)))) (w' := w2) rfl rfl rfl (x_sub rfl rfl rfl) ?_
    refine wpR_val (v := (Value.int .i64 (IntKind.i64.wrap (l1 - 1)))) (w' := w2) rfl rfl rfl (x_assign (v := (Value.int .i64 (IntKind.i64.wrap (l1 - 1)))) rfl rfl) ?_
    refine wpR_nil ?_
    exact ⟨IntKind.i64.wrap (l1 - 1), ⟨rfl, e0, e1, e2, trivial⟩, h⟩
  · replace h := h.2 hc2
    refine wpC_exit ?_
    refine wpC_seq ?_
    refine wpC_cut (fun ρ => True) trivial ?_
    rintro ρ -
    refine wpC_region ?_
    refine wpR_val (v := (Value.bool false)) (w' := w1) rfl rfl rfl (x_assign (v := (Value.bool false)) rfl rfl) ?_
    refine wpR_nil ?_
    refine wpC_ret ?_
    exact ⟨.inl rfl, fun a ha => ⟨_, results_rep1 rfl ha rfl, false, rfl, h⟩⟩

/-- linguaref17.ends -/
def F37 (p0_0 : Int) (p0_1 : Int) (p0_2 : Sl) (p0_3 : Int) (p0_4 : Int) (p0_5 : Int) (p0_6 : Int) (p0_7 : Int) (p0_8 : Int) (p0_9 : ByteArray) (p0_10 : Sl) (p0_11 : Int) (w0 : World) (K : (Int × Bool) → World → Prop) : Prop :=
  nw 41 #[(Value.int .i64 p0_0), (Value.int .i64 p0_1), (Sl.v p0_2), (Value.int .i64 p0_3), (Value.int .i64 p0_4), (Value.int .i64 p0_5), (Value.int .i64 p0_6), (Value.int .i64 p0_7), (Value.int .i64 p0_8), (Value.string p0_9), (Sl.v p0_10), (Value.int .i64 p0_11)] w0 fun b1 w1 =>
  ld (Value.int .i64) ((Addr.mk b1 0 none).add 3) w1 fun x2 =>
  cnd (decide (x2 = 6))
    (
    ld (Value.int .i64) ((Addr.mk b1 0 none).add 0) w1 fun x4 =>
    K (x4, true) w1
    )
    (
    jn (fun (J6 : (Int × Bool) → World → Prop) => tk w1 fun w2 =>
      ld (Value.int .i64) ((Addr.mk b1 0 none).add 7) w2 fun x7 =>
      ld (Value.int .i64) ((Addr.mk b1 0 none).add 3) w2 fun x8 =>
      J6 (x7, decide (x8 = 7)) w2
    )
    fun l9 w3 =>
    K (l9.1, l9.2) w3
    )
set_option maxRecDepth 100000 in
theorem D37 (p0_0 : Int) (p0_1 : Int) (p0_2 : Sl) (p0_3 : Int) (p0_4 : Int) (p0_5 : Int) (p0_6 : Int) (p0_7 : Int) (p0_8 : Int) (p0_9 : ByteArray) (p0_10 : Sl) (p0_11 : Int) (w0 : World) (K : (Int × Bool) → World → Prop) (h : F37 p0_0 p0_1 p0_2 p0_3 p0_4 p0_5 p0_6 p0_7 p0_8 p0_9 p0_10 p0_11 w0 K) : callC Try.prog 37 #[(Value.agg #[(Value.int .i64 p0_0), (Value.int .i64 p0_1), (Sl.v p0_2), (Value.int .i64 p0_3), (Value.int .i64 p0_4), (Value.int .i64 p0_5), (Value.int .i64 p0_6), (Value.int .i64 p0_7), (Value.int .i64 p0_8), (Value.string p0_9), (Sl.v p0_10), (Value.int .i64 p0_11)])] (fun (r : Int × Bool) => (Value.tuple #[(Value.int .i64 r.1), (Value.bool r.2)])) w0 K := by
  unfold F37 at h
  refine calls_of_wpC Try.func37 rfl 14 rfl (by simp) ?_
  intro ρ hρ
  have e0 : ρ 0 = (Value.agg #[(Value.int .i64 p0_0), (Value.int .i64 p0_1), (Sl.v p0_2), (Value.int .i64 p0_3), (Value.int .i64 p0_4), (Value.int .i64 p0_5), (Value.int .i64 p0_6), (Value.int .i64 p0_7), (Value.int .i64 p0_8), (Value.string p0_9), (Sl.v p0_10), (Value.int .i64 p0_11)]) := hρ 0
  clear hρ
  refine wpC_seq ?_
  refine wpC_region ?_
  obtain ⟨b1, hb1⟩ : ∃ u, u = w0.heap.size := ⟨_, rfl⟩
  obtain ⟨w1, hw1⟩ : ∃ u, u = w0.alloc (.cells #[(Value.int .i64 p0_0), (Value.int .i64 p0_1), (Sl.v p0_2), (Value.int .i64 p0_3), (Value.int .i64 p0_4), (Value.int .i64 p0_5), (Value.int .i64 p0_6), (Value.int .i64 p0_7), (Value.int .i64 p0_8), (Value.string p0_9), (Sl.v p0_10), (Value.int .i64 p0_11)] 41) := ⟨_, rfl⟩
  replace h := h b1 w1 hb1 hw1
  refine wpR_val (v := (Value.pointer (some (Addr.mk b1 0 none)))) (w' := w1) rfl rfl rfl ((x_box (v := (Value.agg #[(Value.int .i64 p0_0), (Value.int .i64 p0_1), (Sl.v p0_2), (Value.int .i64 p0_3), (Value.int .i64 p0_4), (Value.int .i64 p0_5), (Value.int .i64 p0_6), (Value.int .i64 p0_7), (Value.int .i64 p0_8), (Value.string p0_9), (Sl.v p0_10), (Value.int .i64 p0_11)])) rfl e0).trans (by rw [hb1, hw1]; rfl)) ?_
  refine wpR_val (v := (Value.int .i64 0)) (w' := w1) rfl rfl rfl (x_assign (v := (Value.int .i64 0)) rfl rfl) ?_
  refine wpR_val (v := (Value.bool false)) (w' := w1) rfl rfl rfl (x_assign (v := (Value.bool false)) rfl rfl) ?_
  refine wpR_nil ?_
  refine wpC_seq ?_
  refine wpC_seq ?_
  refine wpC_cut (fun ρ => ρ 1 = (Value.pointer (some (Addr.mk b1 0 none))) ∧ True) ⟨rfl, trivial⟩ ?_
  rintro ρ ⟨e1, -⟩
  refine wpC_region ?_
  refine wpR_val (v := (Value.pointer (some ((Addr.mk b1 0 none).add 3)))) (w' := w1) rfl rfl rfl (x_fieldAddr rfl e1 FA_41_3) ?_
  obtain ⟨x2, q2, h⟩ := h
  refine wpR_val (v := (Value.int .i64 x2)) (w' := w1) rfl rfl rfl (x_load1 rfl rfl SH_3 q2) ?_
  refine wpR_val (v := (Value.bool (decide (x2 = 6)))) (w' := w1) rfl rfl rfl (x_eql rfl rfl rfl) ?_
  refine wpR_nil ?_
  refine wpC_cond (b := decide (x2 = 6)) rfl (fun hc3 => ?_) (fun hc3 => ?_)
  · replace h := h.1 hc3
    refine wpC_seq ?_
    refine wpC_cut (fun ρ => ρ 1 = (Value.pointer (some (Addr.mk b1 0 none))) ∧ True) ⟨e1, trivial⟩ ?_
    rintro ρ ⟨e1, -⟩
    refine wpC_region ?_
    refine wpR_val (v := (Value.pointer (some ((Addr.mk b1 0 none).add 0)))) (w' := w1) rfl rfl rfl (x_fieldAddr rfl e1 FA_41_0) ?_
    obtain ⟨x4, q4, h⟩ := h
    refine wpR_val (v := (Value.int .i64 x4)) (w' := w1) rfl rfl rfl (x_load1 rfl rfl SH_3 q4) ?_
    refine wpR_val (v := (Value.int .i64 x4)) (w' := w1) rfl rfl rfl (x_assign (v := (Value.int .i64 x4)) rfl rfl) ?_
    refine wpR_val (v := (Value.bool true)) (w' := w1) rfl rfl rfl (x_assign (v := (Value.bool true)) rfl rfl) ?_
    refine wpR_nil ?_
    refine wpC_ret ?_
    exact ⟨.inl rfl, fun a ha => ⟨_, results_rep2 rfl ha rfl rfl, (x4, true), rfl, h⟩⟩
  · replace h := h.2 hc3
    refine wpC_skip ?_
    refine wpC_seq ?_
    refine wpC_cut (fun ρ => ρ 1 = (Value.pointer (some (Addr.mk b1 0 none))) ∧ True) ⟨e1, trivial⟩ ?_
    rintro ρ ⟨e1, -⟩
    obtain ⟨J6, h, hk⟩ := h
    refine wpC_drawJ (by kernel_rfl) (fun (x : Int × Bool) ρ => ρ 2 = (Value.int .i64 x.1) ∧ ρ 3 = (Value.bool x.2) ∧ True) J6 ?_ ?_
    · clear hk
      unfold tk at h
      generalize w1.drew = w2 at h ⊢
      refine wpD_take (v := (Value.pointer (some ((Addr.mk b1 0 none).add 7)))) 0 (fun _ => True) rfl (by kernel_rfl) (by kernel_rfl) (by kernel_rfl) rfl rfl rfl trivial (fun w _ => (x_fieldAddr rfl e1 FA_41_7)) ?_
      obtain ⟨x7, q7, h⟩ := h
      refine wpD_take (v := (Value.int .i64 x7)) 1 (fun w => w.cell? ((Addr.mk b1 0 none).add 7) = some (Value.int .i64 x7)) rfl (by kernel_rfl) (by kernel_rfl) (by kernel_rfl) rfl rfl rfl q7 (fun w q7 => (x_load1 rfl rfl SH_3 q7)) ?_
      refine wpD_take (v := (Value.pointer (some ((Addr.mk b1 0 none).add 3)))) 2 (fun _ => True) rfl (by kernel_rfl) (by kernel_rfl) (by kernel_rfl) rfl rfl rfl trivial (fun w _ => (x_fieldAddr rfl e1 FA_41_3)) ?_
      obtain ⟨x8, q8, h⟩ := h
      refine wpD_take (v := (Value.int .i64 x8)) 3 (fun w => w.cell? ((Addr.mk b1 0 none).add 3) = some (Value.int .i64 x8)) rfl (by kernel_rfl) (by kernel_rfl) (by kernel_rfl) rfl rfl rfl q8 (fun w q8 => (x_load1 rfl rfl SH_3 q8)) ?_
      refine wpD_take (v := (Value.bool (decide (x8 = 7)))) 4 (fun _ => True) rfl (by kernel_rfl) (by kernel_rfl) (by kernel_rfl) rfl rfl rfl trivial (fun w _ => (x_eql rfl rfl rfl)) ?_
      refine wpD_take (v := (Value.int .i64 x7)) 5 (fun _ => True) rfl (by kernel_rfl) (by kernel_rfl) (by kernel_rfl) rfl rfl rfl trivial (fun w _ => (x_assign (v := (Value.int .i64 x7)) rfl rfl)) ?_
      refine wpD_take (v := (Value.bool (decide (x8 = 7)))) 6 (fun _ => True) rfl (by kernel_rfl) (by kernel_rfl) (by kernel_rfl) rfl rfl rfl trivial (fun w _ => (x_assign (v := (Value.bool (decide (x8 = 7)))) rfl rfl)) ?_
      exact wpD_done (by kernel_rfl) ⟨(x7, decide (x8 = 7)), ⟨rfl, rfl, trivial⟩, h⟩
    clear h
    rintro l9 ρ w3 ⟨e2, e3, -⟩ h
    replace h := hk l9 w3 h
    clear hk
    refine wpC_ret ?_
    exact ⟨.inl rfl, fun a ha => ⟨_, results_rep2 rfl ha e2 e3, (l9.1, l9.2), rfl, h⟩⟩

/-- slices.IndexFunc[[]int,int] -/
def F38 (p0 : Sl) (p1 : Value) (w0 : World) (K : Int → World → Prop) : Prop :=
  lp (fun (next1 : Int → World → Prop) l1 w1 =>
    cnd (decide (l1 < (p0.len : Int)))
      (
      ix p0 l1 1 fun p3 =>
      ld (Value.int .i64) p3 w1 fun x4 =>
      cv Try.prog p1 [(Value.int .i64 x4)] (fun (r : Bool) => (Value.bool r)) w1 fun r5 w2 =>
      cnd (r5)
        (
        K l1 w2
        )
        (
        next1 (IntKind.i64.wrap (l1 + 1)) w2
        )
      )
      (
      K (-1) w1
      )
  ) 0 w0
set_option maxRecDepth 100000 in
theorem D38 (p0 : Sl) (p1 : Value) (w0 : World) (K : Int → World → Prop) (h : F38 p0 p1 w0 K) : callC Try.prog 38 #[(Sl.v p0), p1] (fun (r : Int) => (Value.int .i64 r)) w0 K := by
  unfold F38 at h
  refine calls_of_wpC Try.func38 rfl 19 rfl (by simp) ?_
  intro ρ hρ
  have e0 : ρ 0 = (Sl.v p0) := hρ 0
  have e1 : ρ 1 = p1 := hρ 1
  clear hρ
  refine wpC_seq ?_
  refine wpC_region ?_
  refine wpR_val (v := (Value.int .i64 0)) (w' := w0) rfl rfl rfl (x_assign (v := (Value.int .i64 0)) rfl rfl) ?_
  refine wpR_nil ?_
  refine wpC_seq ?_
  refine wpC_seq ?_
  refine wpC_cut (fun ρ => ρ 0 = (Sl.v p0) ∧ ρ 1 = p1 ∧ True) ⟨e0, e1, trivial⟩ ?_
  rintro ρ ⟨e0, e1, -⟩
  refine wpC_region ?_
  refine wpR_val (v := (Sl.v p0)) (w' := w0) rfl rfl rfl (x_move (v := (Sl.v p0)) rfl e0) ?_
  refine wpR_val (v := (Value.int .i64 (p0.len : Int))) (w' := w0) rfl rfl rfl (x_lenS (s := p0) rfl rfl isSliceT_28) ?_
  refine wpR_val (v := (Value.int .i64 0)) (w' := w0) rfl rfl rfl (x_move (v := (Value.int .i64 0)) rfl rfl) ?_
  refine wpR_nil ?_
  refine wpC_block ?_
  obtain ⟨I1, μ1, hI1, hr1⟩ := h
  refine wpC_loop (fun (x : Int) ρ => ρ 8 = (Value.int .i64 x) ∧ ρ 0 = (Sl.v p0) ∧ ρ 1 = p1 ∧ ρ 7 = (Value.int .i64 (p0.len : Int)) ∧ True) I1 μ1 0 ⟨rfl, e0, e1, rfl, trivial⟩ hI1 ?_
  rintro l1 ρ w1 ⟨e8, e0, e1, e7, -⟩ h
  replace h := hr1 l1 w1 h
  clear hr1 hI1
  refine wpC_seq ?_
  refine wpC_region ?_
  refine wpR_val (v := (Value.bool (decide (l1 < (p0.len : Int))))) (w' := w1) rfl rfl rfl (x_lss rfl e8 e7) ?_
  refine wpR_nil ?_
  refine wpC_seq ?_
  refine wpC_cond (b := decide (l1 < (p0.len : Int))) rfl (fun hc2 => ?_) (fun hc2 => ?_)
  · replace h := h.1 hc2
    refine wpC_skip ?_
    refine wpC_seq ?_
    refine wpC_block ?_
    refine wpC_seq ?_
    refine wpC_cut (fun ρ => ρ 0 = (Sl.v p0) ∧ ρ 1 = p1 ∧ ρ 7 = (Value.int .i64 (p0.len : Int)) ∧ ρ 8 = (Value.int .i64 l1) ∧ True) ⟨e0, e1, e7, e8, trivial⟩ ?_
    rintro ρ ⟨e0, e1, e7, e8, -⟩
    refine wpC_region ?_
    refine wpR_val (v := (Value.int .i64 l1)) (w' := w1) rfl rfl rfl (x_move (v := (Value.int .i64 l1)) rfl e8) ?_
    refine wpR_val (v := (Value.int .i64 l1)) (w' := w1) rfl rfl rfl (x_assign (v := (Value.int .i64 l1)) rfl rfl) ?_
    refine wpR_nil ?_
    refine wpC_seq ?_
    refine wpC_cut (fun ρ => ρ 0 = (Sl.v p0) ∧ ρ 1 = p1 ∧ ρ 5 = (Value.int .i64 l1) ∧ ρ 7 = (Value.int .i64 (p0.len : Int)) ∧ ρ 8 = (Value.int .i64 l1) ∧ True) ⟨e0, e1, rfl, e7, e8, trivial⟩ ?_
    rintro ρ ⟨e0, e1, e5, e7, e8, -⟩
    refine wpC_region ?_
    refine wpR_val (v := p1) (w' := w1) rfl rfl rfl (x_move (v := p1) rfl e1) ?_
    refine wpR_val (v := (Sl.v p0)) (w' := w1) rfl rfl rfl (x_move (v := (Sl.v p0)) rfl e0) ?_
    refine wpR_val (v := (Value.int .i64 l1)) (w' := w1) rfl rfl rfl (x_move (v := (Value.int .i64 l1)) rfl e5) ?_
    obtain ⟨q3, z3, r3, h⟩ := h
    generalize hp3 : z3.add ((l1 : Int).toNat * 1) = p3 at h
    refine wpR_val (v := (Value.pointer (some p3))) (w' := w1) rfl rfl rfl ((x_indexAddr (s := p0) rfl rfl rfl ES_28 q3 r3).trans (by rw [hp3])) ?_
    obtain ⟨x4, q4, h⟩ := h
    refine wpR_val (v := (Value.int .i64 x4)) (w' := w1) rfl rfl rfl (x_load1 rfl rfl SH_3 q4) ?_
    obtain ⟨f5, fi5, ca5, fn5, qv5, qf5, qn5, qb5, h⟩ := h
    refine wpR_enter rfl rfl rfl (x_callv (vs := [(Value.int .i64 x4)]) rfl ((show _ = p1 from rfl).trans qv5) (mapl_cons rfl mapl_nil) qf5 qn5 qb5) (Calls.mono h ?_)
    rintro _ w2 ⟨r5, rfl, h⟩
    refine ⟨_, rfl, ?_⟩
    refine wpR_nil ?_
    refine wpC_cond (b := r5) rfl (fun hc6 => ?_) (fun hc6 => ?_)
    · replace h := h.1 hc6
      refine wpC_seq ?_
      refine wpC_cut (fun ρ => ρ 5 = (Value.int .i64 l1) ∧ True) ⟨e5, trivial⟩ ?_
      rintro ρ ⟨e5, -⟩
      refine wpC_region ?_
      refine wpR_val (v := (Value.int .i64 l1)) (w' := w2) rfl rfl rfl (x_move (v := (Value.int .i64 l1)) rfl e5) ?_
      refine wpR_val (v := (Value.int .i64 l1)) (w' := w2) rfl rfl rfl (x_assign (v := (Value.int .i64 l1)) rfl rfl) ?_
      refine wpR_nil ?_
      refine wpC_ret ?_
      exact ⟨.inl rfl, fun a ha => ⟨_, results_rep1 rfl ha rfl, l1, rfl, h⟩⟩
    · replace h := h.2 hc6
      refine wpC_skip ?_
      refine wpC_cut (fun ρ => ρ 0 = (Sl.v p0) ∧ ρ 1 = p1 ∧ ρ 7 = (Value.int .i64 (p0.len : Int)) ∧ ρ 8 = (Value.int .i64 l1) ∧ True) ⟨e0, e1, e7, e8, trivial⟩ ?_
      rintro ρ ⟨e0, e1, e7, e8, -⟩
      refine wpC_region ?_
      refine wpR_val (v := (Value.int .i64 (IntKind.i64.wrap (l1 + 1)))) (w' := w2) rfl rfl rfl (x_add rfl e8 rfl) ?_
      refine wpR_val (v := (Value.int .i64 (IntKind.i64.wrap (l1 + 1)))) (w' := w2) rfl rfl rfl (x_move (v := (Value.int .i64 (IntKind.i64.wrap (l1 + 1)))) rfl rfl) ?_
      refine wpR_nil ?_
      exact ⟨IntKind.i64.wrap (l1 + 1), ⟨rfl, e0, e1, e7, trivial⟩, h⟩
  · replace h := h.2 hc2
    refine wpC_exit ?_
    refine wpC_seq ?_
    refine wpC_cut (fun ρ => True) trivial ?_
    rintro ρ -
    refine wpC_region ?_
    refine wpR_val (v := (Value.int .i64 (-1))) (w' := w1) rfl rfl rfl (x_assign (v := (Value.int .i64 (-1))) rfl rfl) ?_
    refine wpR_nil ?_
    refine wpC_ret ?_
    exact ⟨.inl rfl, fun a ha => ⟨_, results_rep1 rfl ha rfl, (-1), rfl, h⟩⟩

/-- slices.IndexFunc[[]api.Stay,api.Stay] -/
def F39 (p0 : Sl) (p1 : Value) (w0 : World) (K : Int → World → Prop) : Prop :=
  lp (fun (next1 : Int → World → Prop) l1 w1 =>
    cnd (decide (l1 < (p0.len : Int)))
      (
      ix p0 l1 4 fun p3 =>
      ld (Value.int .i64) (p3.add 0) w1 fun x4 =>
      ld (Value.int .i64) (p3.add 1) w1 fun x5 =>
      ld (Value.int .i64) (p3.add 2) w1 fun x6 =>
      ld (Value.int .i64) (p3.add 3) w1 fun x7 =>
      cv Try.prog p1 [(Value.agg #[(Value.int .i64 x4), (Value.int .i64 x5), (Value.int .i64 x6), (Value.int .i64 x7)])] (fun (r : Bool) => (Value.bool r)) w1 fun r8 w2 =>
      cnd (r8)
        (
        K l1 w2
        )
        (
        next1 (IntKind.i64.wrap (l1 + 1)) w2
        )
      )
      (
      K (-1) w1
      )
  ) 0 w0
set_option maxRecDepth 100000 in
theorem D39 (p0 : Sl) (p1 : Value) (w0 : World) (K : Int → World → Prop) (h : F39 p0 p1 w0 K) : callC Try.prog 39 #[(Sl.v p0), p1] (fun (r : Int) => (Value.int .i64 r)) w0 K := by
  unfold F39 at h
  refine calls_of_wpC Try.func39 rfl 19 rfl (by simp) ?_
  intro ρ hρ
  have e0 : ρ 0 = (Sl.v p0) := hρ 0
  have e1 : ρ 1 = p1 := hρ 1
  clear hρ
  refine wpC_seq ?_
  refine wpC_region ?_
  refine wpR_val (v := (Value.int .i64 0)) (w' := w0) rfl rfl rfl (x_assign (v := (Value.int .i64 0)) rfl rfl) ?_
  refine wpR_nil ?_
  refine wpC_seq ?_
  refine wpC_seq ?_
  refine wpC_cut (fun ρ => ρ 0 = (Sl.v p0) ∧ ρ 1 = p1 ∧ True) ⟨e0, e1, trivial⟩ ?_
  rintro ρ ⟨e0, e1, -⟩
  refine wpC_region ?_
  refine wpR_val (v := (Sl.v p0)) (w' := w0) rfl rfl rfl (x_move (v := (Sl.v p0)) rfl e0) ?_
  refine wpR_val (v := (Value.int .i64 (p0.len : Int))) (w' := w0) rfl rfl rfl (x_lenS (s := p0) rfl rfl isSliceT_37) ?_
  refine wpR_val (v := (Value.int .i64 0)) (w' := w0) rfl rfl rfl (x_move (v := (Value.int .i64 0)) rfl rfl) ?_
  refine wpR_nil ?_
  refine wpC_block ?_
  obtain ⟨I1, μ1, hI1, hr1⟩ := h
  refine wpC_loop (fun (x : Int) ρ => ρ 8 = (Value.int .i64 x) ∧ ρ 0 = (Sl.v p0) ∧ ρ 1 = p1 ∧ ρ 7 = (Value.int .i64 (p0.len : Int)) ∧ True) I1 μ1 0 ⟨rfl, e0, e1, rfl, trivial⟩ hI1 ?_
  rintro l1 ρ w1 ⟨e8, e0, e1, e7, -⟩ h
  replace h := hr1 l1 w1 h
  clear hr1 hI1
  refine wpC_seq ?_
  refine wpC_region ?_
  refine wpR_val (v := (Value.bool (decide (l1 < (p0.len : Int))))) (w' := w1) rfl rfl rfl (x_lss rfl e8 e7) ?_
  refine wpR_nil ?_
  refine wpC_seq ?_
  refine wpC_cond (b := decide (l1 < (p0.len : Int))) rfl (fun hc2 => ?_) (fun hc2 => ?_)
  · replace h := h.1 hc2
    refine wpC_skip ?_
    refine wpC_seq ?_
    refine wpC_block ?_
    refine wpC_seq ?_
    refine wpC_cut (fun ρ => ρ 0 = (Sl.v p0) ∧ ρ 1 = p1 ∧ ρ 7 = (Value.int .i64 (p0.len : Int)) ∧ ρ 8 = (Value.int .i64 l1) ∧ True) ⟨e0, e1, e7, e8, trivial⟩ ?_
    rintro ρ ⟨e0, e1, e7, e8, -⟩
    refine wpC_region ?_
    refine wpR_val (v := (Value.int .i64 l1)) (w' := w1) rfl rfl rfl (x_move (v := (Value.int .i64 l1)) rfl e8) ?_
    refine wpR_val (v := (Value.int .i64 l1)) (w' := w1) rfl rfl rfl (x_assign (v := (Value.int .i64 l1)) rfl rfl) ?_
    refine wpR_nil ?_
    refine wpC_seq ?_
    refine wpC_cut (fun ρ => ρ 0 = (Sl.v p0) ∧ ρ 1 = p1 ∧ ρ 5 = (Value.int .i64 l1) ∧ ρ 7 = (Value.int .i64 (p0.len : Int)) ∧ ρ 8 = (Value.int .i64 l1) ∧ True) ⟨e0, e1, rfl, e7, e8, trivial⟩ ?_
    rintro ρ ⟨e0, e1, e5, e7, e8, -⟩
    refine wpC_region ?_
    refine wpR_val (v := p1) (w' := w1) rfl rfl rfl (x_move (v := p1) rfl e1) ?_
    refine wpR_val (v := (Sl.v p0)) (w' := w1) rfl rfl rfl (x_move (v := (Sl.v p0)) rfl e0) ?_
    refine wpR_val (v := (Value.int .i64 l1)) (w' := w1) rfl rfl rfl (x_move (v := (Value.int .i64 l1)) rfl e5) ?_
    obtain ⟨q3, z3, r3, h⟩ := h
    generalize hp3 : z3.add ((l1 : Int).toNat * 4) = p3 at h
    refine wpR_val (v := (Value.pointer (some p3))) (w' := w1) rfl rfl rfl ((x_indexAddr (s := p0) rfl rfl rfl ES_37 q3 r3).trans (by rw [hp3])) ?_
    obtain ⟨x4, q4, h⟩ := h
    obtain ⟨x5, q5, h⟩ := h
    obtain ⟨x6, q6, h⟩ := h
    obtain ⟨x7, q7, h⟩ := h
    refine wpR_val (v := (Value.agg #[(Value.int .i64 x4), (Value.int .i64 x5), (Value.int .i64 x6), (Value.int .i64 x7)])) (w' := w1) rfl rfl rfl (x_loadN [(Value.int .i64 x4), (Value.int .i64 x5), (Value.int .i64 x6), (Value.int .i64 x7)] rfl rfl SH_43 (CellsAt.out (CellsAt.cons q4 (CellsAt.cons q5 (CellsAt.cons q6 (CellsAt.cons q7 CellsAt.nil)))))) ?_
    obtain ⟨f8, fi8, ca8, fn8, qv8, qf8, qn8, qb8, h⟩ := h
    refine wpR_enter rfl rfl rfl (x_callv (vs := [(Value.agg #[(Value.int .i64 x4), (Value.int .i64 x5), (Value.int .i64 x6), (Value.int .i64 x7)])]) rfl ((show _ = p1 from rfl).trans qv8) (mapl_cons rfl mapl_nil) qf8 qn8 qb8) (Calls.mono h ?_)
    rintro _ w2 ⟨r8, rfl, h⟩
    refine ⟨_, rfl, ?_⟩
    refine wpR_nil ?_
    refine wpC_cond (b := r8) rfl (fun hc9 => ?_) (fun hc9 => ?_)
    · replace h := h.1 hc9
      refine wpC_seq ?_
      refine wpC_cut (fun ρ => ρ 5 = (Value.int .i64 l1) ∧ True) ⟨e5, trivial⟩ ?_
      rintro ρ ⟨e5, -⟩
      refine wpC_region ?_
      refine wpR_val (v := (Value.int .i64 l1)) (w' := w2) rfl rfl rfl (x_move (v := (Value.int .i64 l1)) rfl e5) ?_
      refine wpR_val (v := (Value.int .i64 l1)) (w' := w2) rfl rfl rfl (x_assign (v := (Value.int .i64 l1)) rfl rfl) ?_
      refine wpR_nil ?_
      refine wpC_ret ?_
      exact ⟨.inl rfl, fun a ha => ⟨_, results_rep1 rfl ha rfl, l1, rfl, h⟩⟩
    · replace h := h.2 hc9
      refine wpC_skip ?_
      refine wpC_cut (fun ρ => ρ 0 = (Sl.v p0) ∧ ρ 1 = p1 ∧ ρ 7 = (Value.int .i64 (p0.len : Int)) ∧ ρ 8 = (Value.int .i64 l1) ∧ True) ⟨e0, e1, e7, e8, trivial⟩ ?_
      rintro ρ ⟨e0, e1, e7, e8, -⟩
      refine wpC_region ?_
      refine wpR_val (v := (Value.int .i64 (IntKind.i64.wrap (l1 + 1)))) (w' := w2) rfl rfl rfl (x_add rfl e8 rfl) ?_
      refine wpR_val (v := (Value.int .i64 (IntKind.i64.wrap (l1 + 1)))) (w' := w2) rfl rfl rfl (x_move (v := (Value.int .i64 (IntKind.i64.wrap (l1 + 1)))) rfl rfl) ?_
      refine wpR_nil ?_
      exact ⟨IntKind.i64.wrap (l1 + 1), ⟨rfl, e0, e1, e7, trivial⟩, h⟩
  · replace h := h.2 hc2
    refine wpC_exit ?_
    refine wpC_seq ?_
    refine wpC_cut (fun ρ => True) trivial ?_
    rintro ρ -
    refine wpC_region ?_
    refine wpR_val (v := (Value.int .i64 (-1))) (w' := w1) rfl rfl rfl (x_assign (v := (Value.int .i64 (-1))) rfl rfl) ?_
    refine wpR_nil ?_
    refine wpC_ret ?_
    exact ⟨.inl rfl, fun a ha => ⟨_, results_rep1 rfl ha rfl, (-1), rfl, h⟩⟩

/-- sight.lets$1 -/
def F40 (p0_0 : Int) (p0_1 : Int) (p0_2 : Sl) (p0_3 : Int) (p0_4 : Int) (p0_5 : Int) (p0_6 : Int) (p0_7 : Int) (p0_8 : Int) (p0_9 : ByteArray) (p0_10 : Sl) (p0_11 : Int) (c1 : Addr) (w0 : World) (K : Bool → World → Prop) : Prop :=
  nw 41 #[(Value.int .i64 p0_0), (Value.int .i64 p0_1), (Sl.v p0_2), (Value.int .i64 p0_3), (Value.int .i64 p0_4), (Value.int .i64 p0_5), (Value.int .i64 p0_6), (Value.int .i64 p0_7), (Value.int .i64 p0_8), (Value.string p0_9), (Sl.v p0_10), (Value.int .i64 p0_11)] w0 fun b1 w1 =>
  ld (Value.int .i64) ((Addr.mk b1 0 none).add 3) w1 fun x2 =>
  jp (fun J3 => cnd (decide (x2 = 8))
    (
    ld (Value.int .i64) ((Addr.mk b1 0 none).add 4) w1 fun x5 =>
    ld (Value.int .i64) (c1.add 1) w1 fun x6 =>
    J3 (decide (x5 = x6))
    )
    (
    J3 false
    ))
  fun c7 =>
  K c7 w1
set_option maxRecDepth 100000 in
theorem D40 (p0_0 : Int) (p0_1 : Int) (p0_2 : Sl) (p0_3 : Int) (p0_4 : Int) (p0_5 : Int) (p0_6 : Int) (p0_7 : Int) (p0_8 : Int) (p0_9 : ByteArray) (p0_10 : Sl) (p0_11 : Int) (c1 : Addr) (w0 : World) (K : Bool → World → Prop) (h : F40 p0_0 p0_1 p0_2 p0_3 p0_4 p0_5 p0_6 p0_7 p0_8 p0_9 p0_10 p0_11 c1 w0 K) : callC Try.prog 40 #[(Value.agg #[(Value.int .i64 p0_0), (Value.int .i64 p0_1), (Sl.v p0_2), (Value.int .i64 p0_3), (Value.int .i64 p0_4), (Value.int .i64 p0_5), (Value.int .i64 p0_6), (Value.int .i64 p0_7), (Value.int .i64 p0_8), (Value.string p0_9), (Sl.v p0_10), (Value.int .i64 p0_11)]), (Value.pointer (some c1))] (fun (r : Bool) => (Value.bool r)) w0 K := by
  unfold F40 at h
  refine calls_of_wpC Try.func40 rfl 14 rfl (by simp) ?_
  intro ρ hρ
  have e0 : ρ 0 = (Value.agg #[(Value.int .i64 p0_0), (Value.int .i64 p0_1), (Sl.v p0_2), (Value.int .i64 p0_3), (Value.int .i64 p0_4), (Value.int .i64 p0_5), (Value.int .i64 p0_6), (Value.int .i64 p0_7), (Value.int .i64 p0_8), (Value.string p0_9), (Sl.v p0_10), (Value.int .i64 p0_11)]) := hρ 0
  have e1 : ρ 1 = (Value.pointer (some c1)) := hρ 1
  clear hρ
  refine wpC_seq ?_
  refine wpC_region ?_
  obtain ⟨b1, hb1⟩ : ∃ u, u = w0.heap.size := ⟨_, rfl⟩
  obtain ⟨w1, hw1⟩ : ∃ u, u = w0.alloc (.cells #[(Value.int .i64 p0_0), (Value.int .i64 p0_1), (Sl.v p0_2), (Value.int .i64 p0_3), (Value.int .i64 p0_4), (Value.int .i64 p0_5), (Value.int .i64 p0_6), (Value.int .i64 p0_7), (Value.int .i64 p0_8), (Value.string p0_9), (Sl.v p0_10), (Value.int .i64 p0_11)] 41) := ⟨_, rfl⟩
  replace h := h b1 w1 hb1 hw1
  refine wpR_val (v := (Value.pointer (some (Addr.mk b1 0 none)))) (w' := w1) rfl rfl rfl ((x_box (v := (Value.agg #[(Value.int .i64 p0_0), (Value.int .i64 p0_1), (Sl.v p0_2), (Value.int .i64 p0_3), (Value.int .i64 p0_4), (Value.int .i64 p0_5), (Value.int .i64 p0_6), (Value.int .i64 p0_7), (Value.int .i64 p0_8), (Value.string p0_9), (Sl.v p0_10), (Value.int .i64 p0_11)])) rfl e0).trans (by rw [hb1, hw1]; rfl)) ?_
  refine wpR_val (v := (Value.bool false)) (w' := w1) rfl rfl rfl (x_assign (v := (Value.bool false)) rfl rfl) ?_
  refine wpR_nil ?_
  refine wpC_seq ?_
  refine wpC_cut (fun ρ => ρ 1 = (Value.pointer (some c1)) ∧ ρ 2 = (Value.pointer (some (Addr.mk b1 0 none))) ∧ True) ⟨e1, rfl, trivial⟩ ?_
  rintro ρ ⟨e1, e2, -⟩
  refine wpC_region ?_
  refine wpR_val (v := (Value.pointer (some ((Addr.mk b1 0 none).add 3)))) (w' := w1) rfl rfl rfl (x_fieldAddr rfl e2 FA_41_3) ?_
  obtain ⟨x2, q2, h⟩ := h
  refine wpR_val (v := (Value.int .i64 x2)) (w' := w1) rfl rfl rfl (x_load1 rfl rfl SH_3 q2) ?_
  refine wpR_val (v := (Value.bool (decide (x2 = 8)))) (w' := w1) rfl rfl rfl (x_eql rfl rfl rfl) ?_
  refine wpR_val (v := (Value.bool (decide (x2 = 8)))) (w' := w1) rfl rfl rfl (x_move (v := (Value.bool (decide (x2 = 8)))) rfl rfl) ?_
  obtain ⟨J3, h, hk⟩ := h
  refine wpR_joinJ 6 (fun x ρ => ρ 13 = Value.bool x ∧ True) (fun x w => J3 x ∧ w1 = w) ?_ ?_
  · clear hk
    rcases Bool.eq_false_or_eq_true (decide (x2 = 8)) with hc4 | hc4
    · replace h := h.1 hc4
      refine wpR_val (v := (Value.pointer (some ((Addr.mk b1 0 none).add 4)))) (w' := w1) (wantG rfl rfl rfl hc4) rfl rfl (x_fieldAddr rfl e2 FA_41_4) ?_
      obtain ⟨x5, q5, h⟩ := h
      refine wpR_val (v := (Value.int .i64 x5)) (w' := w1) (wantG rfl rfl rfl hc4) rfl rfl (x_load1 rfl rfl SH_3 q5) ?_
      refine wpR_val (v := (Value.pointer (some (c1.add 1)))) (w' := w1) (wantG rfl rfl rfl hc4) rfl rfl (x_fieldAddr rfl e1 FA_43_1) ?_
      obtain ⟨x6, q6, h⟩ := h
      refine wpR_val (v := (Value.int .i64 x6)) (w' := w1) (wantG rfl rfl rfl hc4) rfl rfl (x_load1 rfl rfl SH_3 q6) ?_
      refine wpR_val (v := (Value.bool (decide (x5 = x6)))) (w' := w1) (wantG rfl rfl rfl hc4) rfl rfl (x_eql rfl rfl rfl) ?_
      refine wpR_val (v := (Value.bool (decide (x5 = x6)))) (w' := w1) rfl rfl rfl (x_pickT (v := (Value.bool (decide (x5 = x6)))) rfl rfl hc4 rfl) ?_
      refine wpR_nil ?_
      exact ⟨decide (x5 = x6), ⟨rfl, trivial⟩, h, rfl⟩
    · replace h := h.2 hc4
      refine wpR_pass (wantN rfl rfl rfl hc4) rfl rfl ?_
      refine wpR_pass (wantN rfl rfl rfl hc4) rfl rfl ?_
      refine wpR_pass (wantN rfl rfl rfl hc4) rfl rfl ?_
      refine wpR_pass (wantN rfl rfl rfl hc4) rfl rfl ?_
      refine wpR_pass (wantN rfl rfl rfl hc4) rfl rfl ?_
      refine wpR_val (v := (Value.bool false)) (w' := w1) rfl rfl rfl (x_pickF (v := (Value.bool false)) rfl rfl hc4 rfl) ?_
      refine wpR_nil ?_
      exact ⟨false, ⟨rfl, trivial⟩, h, rfl⟩
  clear h
  rintro c7 ρ wj ⟨e13, -⟩ ⟨h, rfl⟩
  replace h := hk c7 h
  clear hk
  refine wpR_val (v := (Value.bool c7)) (w' := w1) rfl rfl rfl (x_assign (v := (Value.bool c7)) rfl e13) ?_
  refine wpR_nil ?_
  refine wpC_ret ?_
  exact ⟨.inl rfl, fun a ha => ⟨_, results_rep1 rfl ha rfl, c7, rfl, h⟩⟩

/-- slices.ContainsFunc[[]api.Event,api.Event] -/
def F41 (p0 : Sl) (p1 : Value) (w0 : World) (K : Bool → World → Prop) : Prop :=
  callC Try.prog 43 #[(Sl.v p0), p1] (fun (r : Int) => (Value.int .i64 r)) w0 fun r1 w1 =>
  K (decide (0 ≤ r1)) w1
set_option maxRecDepth 100000 in
theorem D41 (p0 : Sl) (p1 : Value) (w0 : World) (K : Bool → World → Prop) (h : F41 p0 p1 w0 K) : callC Try.prog 41 #[(Sl.v p0), p1] (fun (r : Bool) => (Value.bool r)) w0 K := by
  unfold F41 at h
  refine calls_of_wpC Try.func41 rfl 9 rfl (by simp) ?_
  intro ρ hρ
  have e0 : ρ 0 = (Sl.v p0) := hρ 0
  have e1 : ρ 1 = p1 := hρ 1
  clear hρ
  refine wpC_seq ?_
  refine wpC_region ?_
  refine wpR_val (v := (Value.bool false)) (w' := w0) rfl rfl rfl (x_assign (v := (Value.bool false)) rfl rfl) ?_
  refine wpR_nil ?_
  refine wpC_seq ?_
  refine wpC_cut (fun ρ => ρ 0 = (Sl.v p0) ∧ ρ 1 = p1 ∧ True) ⟨e0, e1, trivial⟩ ?_
  rintro ρ ⟨e0, e1, -⟩
  refine wpC_region ?_
  refine wpR_val (v := (Sl.v p0)) (w' := w0) rfl rfl rfl (x_move (v := (Sl.v p0)) rfl e0) ?_
  refine wpR_val (v := p1) (w' := w0) rfl rfl rfl (x_move (v := p1) rfl e1) ?_
  refine wpR_enter rfl rfl rfl (x_call (vs := [(Sl.v p0), p1]) rfl rfl (mapl_cons rfl (mapl_cons rfl mapl_nil)) Try.func43 NN_43 NB_43) (Calls.mono h ?_)
  rintro _ w1 ⟨r1, rfl, h⟩
  refine ⟨_, rfl, ?_⟩
  refine wpR_val (v := (Value.bool (decide (0 ≤ r1)))) (w' := w1) rfl rfl rfl (x_geq rfl rfl rfl) ?_
  refine wpR_val (v := (Value.bool (decide (0 ≤ r1)))) (w' := w1) rfl rfl rfl (x_assign (v := (Value.bool (decide (0 ≤ r1)))) rfl rfl) ?_
  refine wpR_nil ?_
  refine wpC_ret ?_
  exact ⟨.inl rfl, fun a ha => ⟨_, results_rep1 rfl ha rfl, decide (0 ≤ r1), rfl, h⟩⟩

/-- slices.IndexFunc[[]api.Profile,api.Profile] -/
def F42 (p0 : Sl) (p1 : Value) (w0 : World) (K : Int → World → Prop) : Prop :=
  lp (fun (next1 : Int → World → Prop) l1 w1 =>
    cnd (decide (l1 < (p0.len : Int)))
      (
      ix p0 l1 22 fun p3 =>
      ld Value.string (p3.add 0) w1 fun x4 =>
      ld (Value.int .i64) (p3.add 1) w1 fun x5 =>
      ld (Value.int .i64) (p3.add 2) w1 fun x6 =>
      ld (Value.int .i64) (p3.add 3) w1 fun x7 =>
      ld Value.bool (p3.add 4) w1 fun x8 =>
      ld (Value.int .i64) (p3.add 5) w1 fun x9 =>
      ld Value.bool (p3.add 6) w1 fun x10 =>
      ld Value.bool (p3.add 7) w1 fun x11 =>
      ld (Value.int .i64) (p3.add 8) w1 fun x12 =>
      ld (Value.int .i64) (p3.add 9) w1 fun x13 =>
      ld (Value.int .i64) (p3.add 10) w1 fun x14 =>
      ld (Value.int .i64) (p3.add 11) w1 fun x15 =>
      ld Sl.v (p3.add 12) w1 fun x16 =>
      ld (Value.int .i64) (p3.add 13) w1 fun x17 =>
      ld (Value.int .i64) (p3.add 14) w1 fun x18 =>
      ld (Value.int .i64) (p3.add 15) w1 fun x19 =>
      ld (Value.int .i64) (p3.add 16) w1 fun x20 =>
      ld Value.bool (p3.add 17) w1 fun x21 =>
      ld (Value.int .i64) (p3.add 18) w1 fun x22 =>
      ld (Value.int .i64) (p3.add 19) w1 fun x23 =>
      ld (Value.int .i64) (p3.add 20) w1 fun x24 =>
      ld (Value.int .i64) (p3.add 21) w1 fun x25 =>
      cv Try.prog p1 [(Value.agg #[(Value.string x4), (Value.int .i64 x5), (Value.int .i64 x6), (Value.int .i64 x7), (Value.bool x8), (Value.int .i64 x9), (Value.bool x10), (Value.bool x11), (Value.int .i64 x12), (Value.int .i64 x13), (Value.int .i64 x14), (Value.int .i64 x15), (Sl.v x16), (Value.int .i64 x17), (Value.int .i64 x18), (Value.int .i64 x19), (Value.int .i64 x20), (Value.bool x21), (Value.int .i64 x22), (Value.int .i64 x23), (Value.int .i64 x24), (Value.int .i64 x25)])] (fun (r : Bool) => (Value.bool r)) w1 fun r26 w2 =>
      cnd (r26)
        (
        K l1 w2
        )
        (
        next1 (IntKind.i64.wrap (l1 + 1)) w2
        )
      )
      (
      K (-1) w1
      )
  ) 0 w0
set_option maxRecDepth 100000 in
theorem D42 (p0 : Sl) (p1 : Value) (w0 : World) (K : Int → World → Prop) (h : F42 p0 p1 w0 K) : callC Try.prog 42 #[(Sl.v p0), p1] (fun (r : Int) => (Value.int .i64 r)) w0 K := by
  unfold F42 at h
  refine calls_of_wpC Try.func42 rfl 19 rfl (by simp) ?_
  intro ρ hρ
  have e0 : ρ 0 = (Sl.v p0) := hρ 0
  have e1 : ρ 1 = p1 := hρ 1
  clear hρ
  refine wpC_seq ?_
  refine wpC_region ?_
  refine wpR_val (v := (Value.int .i64 0)) (w' := w0) rfl rfl rfl (x_assign (v := (Value.int .i64 0)) rfl rfl) ?_
  refine wpR_nil ?_
  refine wpC_seq ?_
  refine wpC_seq ?_
  refine wpC_cut (fun ρ => ρ 0 = (Sl.v p0) ∧ ρ 1 = p1 ∧ True) ⟨e0, e1, trivial⟩ ?_
  rintro ρ ⟨e0, e1, -⟩
  refine wpC_region ?_
  refine wpR_val (v := (Sl.v p0)) (w' := w0) rfl rfl rfl (x_move (v := (Sl.v p0)) rfl e0) ?_
  refine wpR_val (v := (Value.int .i64 (p0.len : Int))) (w' := w0) rfl rfl rfl (x_lenS (s := p0) rfl rfl isSliceT_22) ?_
  refine wpR_val (v := (Value.int .i64 0)) (w' := w0) rfl rfl rfl (x_move (v := (Value.int .i64 0)) rfl rfl) ?_
  refine wpR_nil ?_
  refine wpC_block ?_
  obtain ⟨I1, μ1, hI1, hr1⟩ := h
  refine wpC_loop (fun (x : Int) ρ => ρ 8 = (Value.int .i64 x) ∧ ρ 0 = (Sl.v p0) ∧ ρ 1 = p1 ∧ ρ 7 = (Value.int .i64 (p0.len : Int)) ∧ True) I1 μ1 0 ⟨rfl, e0, e1, rfl, trivial⟩ hI1 ?_
  rintro l1 ρ w1 ⟨e8, e0, e1, e7, -⟩ h
  replace h := hr1 l1 w1 h
  clear hr1 hI1
  refine wpC_seq ?_
  refine wpC_region ?_
  refine wpR_val (v := (Value.bool (decide (l1 < (p0.len : Int))))) (w' := w1) rfl rfl rfl (x_lss rfl e8 e7) ?_
  refine wpR_nil ?_
  refine wpC_seq ?_
  refine wpC_cond (b := decide (l1 < (p0.len : Int))) rfl (fun hc2 => ?_) (fun hc2 => ?_)
  · replace h := h.1 hc2
    refine wpC_skip ?_
    refine wpC_seq ?_
    refine wpC_block ?_
    refine wpC_seq ?_
    refine wpC_cut (fun ρ => ρ 0 = (Sl.v p0) ∧ ρ 1 = p1 ∧ ρ 7 = (Value.int .i64 (p0.len : Int)) ∧ ρ 8 = (Value.int .i64 l1) ∧ True) ⟨e0, e1, e7, e8, trivial⟩ ?_
    rintro ρ ⟨e0, e1, e7, e8, -⟩
    refine wpC_region ?_
    refine wpR_val (v := (Value.int .i64 l1)) (w' := w1) rfl rfl rfl (x_move (v := (Value.int .i64 l1)) rfl e8) ?_
    refine wpR_val (v := (Value.int .i64 l1)) (w' := w1) rfl rfl rfl (x_assign (v := (Value.int .i64 l1)) rfl rfl) ?_
    refine wpR_nil ?_
    refine wpC_seq ?_
    refine wpC_cut (fun ρ => ρ 0 = (Sl.v p0) ∧ ρ 1 = p1 ∧ ρ 5 = (Value.int .i64 l1) ∧ ρ 7 = (Value.int .i64 (p0.len : Int)) ∧ ρ 8 = (Value.int .i64 l1) ∧ True) ⟨e0, e1, rfl, e7, e8, trivial⟩ ?_
    rintro ρ ⟨e0, e1, e5, e7, e8, -⟩
    refine wpC_region ?_
    refine wpR_val (v := p1) (w' := w1) rfl rfl rfl (x_move (v := p1) rfl e1) ?_
    refine wpR_val (v := (Sl.v p0)) (w' := w1) rfl rfl rfl (x_move (v := (Sl.v p0)) rfl e0) ?_
    refine wpR_val (v := (Value.int .i64 l1)) (w' := w1) rfl rfl rfl (x_move (v := (Value.int .i64 l1)) rfl e5) ?_
    obtain ⟨q3, z3, r3, h⟩ := h
    generalize hp3 : z3.add ((l1 : Int).toNat * 22) = p3 at h
    refine wpR_val (v := (Value.pointer (some p3))) (w' := w1) rfl rfl rfl ((x_indexAddr (s := p0) rfl rfl rfl ES_22 q3 r3).trans (by rw [hp3])) ?_
    obtain ⟨x4, q4, h⟩ := h
    obtain ⟨x5, q5, h⟩ := h
    obtain ⟨x6, q6, h⟩ := h
    obtain ⟨x7, q7, h⟩ := h
    obtain ⟨x8, q8, h⟩ := h
    obtain ⟨x9, q9, h⟩ := h
    obtain ⟨x10, q10, h⟩ := h
    obtain ⟨x11, q11, h⟩ := h
    obtain ⟨x12, q12, h⟩ := h
    obtain ⟨x13, q13, h⟩ := h
    obtain ⟨x14, q14, h⟩ := h
    obtain ⟨x15, q15, h⟩ := h
    obtain ⟨x16, q16, h⟩ := h
    obtain ⟨x17, q17, h⟩ := h
    obtain ⟨x18, q18, h⟩ := h
    obtain ⟨x19, q19, h⟩ := h
    obtain ⟨x20, q20, h⟩ := h
    obtain ⟨x21, q21, h⟩ := h
    obtain ⟨x22, q22, h⟩ := h
    obtain ⟨x23, q23, h⟩ := h
    obtain ⟨x24, q24, h⟩ := h
    obtain ⟨x25, q25, h⟩ := h
    refine wpR_val (v := (Value.agg #[(Value.string x4), (Value.int .i64 x5), (Value.int .i64 x6), (Value.int .i64 x7), (Value.bool x8), (Value.int .i64 x9), (Value.bool x10), (Value.bool x11), (Value.int .i64 x12), (Value.int .i64 x13), (Value.int .i64 x14), (Value.int .i64 x15), (Sl.v x16), (Value.int .i64 x17), (Value.int .i64 x18), (Value.int .i64 x19), (Value.int .i64 x20), (Value.bool x21), (Value.int .i64 x22), (Value.int .i64 x23), (Value.int .i64 x24), (Value.int .i64 x25)])) (w' := w1) rfl rfl rfl (x_loadN [(Value.string x4), (Value.int .i64 x5), (Value.int .i64 x6), (Value.int .i64 x7), (Value.bool x8), (Value.int .i64 x9), (Value.bool x10), (Value.bool x11), (Value.int .i64 x12), (Value.int .i64 x13), (Value.int .i64 x14), (Value.int .i64 x15), (Sl.v x16), (Value.int .i64 x17), (Value.int .i64 x18), (Value.int .i64 x19), (Value.int .i64 x20), (Value.bool x21), (Value.int .i64 x22), (Value.int .i64 x23), (Value.int .i64 x24), (Value.int .i64 x25)] rfl rfl SH_33 (CellsAt.out (CellsAt.cons q4 (CellsAt.cons q5 (CellsAt.cons q6 (CellsAt.cons q7 (CellsAt.cons q8 (CellsAt.cons q9 (CellsAt.cons q10 (CellsAt.cons q11 (CellsAt.cons q12 (CellsAt.cons q13 (CellsAt.cons q14 (CellsAt.cons q15 (CellsAt.cons q16 (CellsAt.cons q17 (CellsAt.cons q18 (CellsAt.cons q19 (CellsAt.cons q20 (CellsAt.cons q21 (CellsAt.cons q22 (CellsAt.cons q23 (CellsAt.cons q24 (CellsAt.cons q25 CellsAt.nil)))))))))))))))))))))))) ?_
    obtain ⟨f26, fi26, ca26, fn26, qv26, qf26, qn26, qb26, h⟩ := h
    refine wpR_enter rfl rfl rfl (x_callv (vs := [(Value.agg #[(Value.string x4), (Value.int .i64 x5), (Value.int .i64 x6), (Value.int .i64 x7), (Value.bool x8), (Value.int .i64 x9), (Value.bool x10), (Value.bool x11), (Value.int .i64 x12), (Value.int .i64 x13), (Value.int .i64 x14), (Value.int .i64 x15), (Sl.v x16), (Value.int .i64 x17), (Value.int .i64 x18), (Value.int .i64 x19), (Value.int .i64 x20), (Value.bool x21), (Value.int .i64 x22), (Value.int .i64 x23), (Value.int .i64 x24), (Value.int .i64 x25)])]) rfl ((show _ = p1 from rfl).trans qv26) (mapl_cons rfl mapl_nil) qf26 qn26 qb26) (Calls.mono h ?_)
    rintro _ w2 ⟨r26, rfl, h⟩
    refine ⟨_, rfl, ?_⟩
    refine wpR_nil ?_
    refine wpC_cond (b := r26) rfl (fun hc27 => ?_) (fun hc27 => ?_)
    · replace h := h.1 hc27
      refine wpC_seq ?_
      refine wpC_cut (fun ρ => ρ 5 = (Value.int .i64 l1) ∧ True) ⟨e5, trivial⟩ ?_
      rintro ρ ⟨e5, -⟩
      refine wpC_region ?_
      refine wpR_val (v := (Value.int .i64 l1)) (w' := w2) rfl rfl rfl (x_move (v := (Value.int .i64 l1)) rfl e5) ?_
      refine wpR_val (v := (Value.int .i64 l1)) (w' := w2) rfl rfl rfl (x_assign (v := (Value.int .i64 l1)) rfl rfl) ?_
      refine wpR_nil ?_
      refine wpC_ret ?_
      exact ⟨.inl rfl, fun a ha => ⟨_, results_rep1 rfl ha rfl, l1, rfl, h⟩⟩
    · replace h := h.2 hc27
      refine wpC_skip ?_
      refine wpC_cut (fun ρ => ρ 0 = (Sl.v p0) ∧ ρ 1 = p1 ∧ ρ 7 = (Value.int .i64 (p0.len : Int)) ∧ ρ 8 = (Value.int .i64 l1) ∧ True) ⟨e0, e1, e7, e8, trivial⟩ ?_
      rintro ρ ⟨e0, e1, e7, e8, -⟩
      refine wpC_region ?_
      refine wpR_val (v := (Value.int .i64 (IntKind.i64.wrap (l1 + 1)))) (w' := w2) rfl rfl rfl (x_add rfl e8 rfl) ?_
      refine wpR_val (v := (Value.int .i64 (IntKind.i64.wrap (l1 + 1)))) (w' := w2) rfl rfl rfl (x_move (v := (Value.int .i64 (IntKind.i64.wrap (l1 + 1)))) rfl rfl) ?_
      refine wpR_nil ?_
      exact ⟨IntKind.i64.wrap (l1 + 1), ⟨rfl, e0, e1, e7, trivial⟩, h⟩
  · replace h := h.2 hc2
    refine wpC_exit ?_
    refine wpC_seq ?_
    refine wpC_cut (fun ρ => True) trivial ?_
    rintro ρ -
    refine wpC_region ?_
    refine wpR_val (v := (Value.int .i64 (-1))) (w' := w1) rfl rfl rfl (x_assign (v := (Value.int .i64 (-1))) rfl rfl) ?_
    refine wpR_nil ?_
    refine wpC_ret ?_
    exact ⟨.inl rfl, fun a ha => ⟨_, results_rep1 rfl ha rfl, (-1), rfl, h⟩⟩

/-- slices.IndexFunc[[]api.Event,api.Event] -/
def F43 (p0 : Sl) (p1 : Value) (w0 : World) (K : Int → World → Prop) : Prop :=
  lp (fun (next1 : Int → World → Prop) l1 w1 =>
    cnd (decide (l1 < (p0.len : Int)))
      (
      ix p0 l1 12 fun p3 =>
      ld (Value.int .i64) (p3.add 0) w1 fun x4 =>
      ld (Value.int .i64) (p3.add 1) w1 fun x5 =>
      ld Sl.v (p3.add 2) w1 fun x6 =>
      ld (Value.int .i64) (p3.add 3) w1 fun x7 =>
      ld (Value.int .i64) (p3.add 4) w1 fun x8 =>
      ld (Value.int .i64) (p3.add 5) w1 fun x9 =>
      ld (Value.int .i64) (p3.add 6) w1 fun x10 =>
      ld (Value.int .i64) (p3.add 7) w1 fun x11 =>
      ld (Value.int .i64) (p3.add 8) w1 fun x12 =>
      ld Value.string (p3.add 9) w1 fun x13 =>
      ld Sl.v (p3.add 10) w1 fun x14 =>
      ld (Value.int .i64) (p3.add 11) w1 fun x15 =>
      cv Try.prog p1 [(Value.agg #[(Value.int .i64 x4), (Value.int .i64 x5), (Sl.v x6), (Value.int .i64 x7), (Value.int .i64 x8), (Value.int .i64 x9), (Value.int .i64 x10), (Value.int .i64 x11), (Value.int .i64 x12), (Value.string x13), (Sl.v x14), (Value.int .i64 x15)])] (fun (r : Bool) => (Value.bool r)) w1 fun r16 w2 =>
      cnd (r16)
        (
        K l1 w2
        )
        (
        next1 (IntKind.i64.wrap (l1 + 1)) w2
        )
      )
      (
      K (-1) w1
      )
  ) 0 w0
set_option maxRecDepth 100000 in
theorem D43 (p0 : Sl) (p1 : Value) (w0 : World) (K : Int → World → Prop) (h : F43 p0 p1 w0 K) : callC Try.prog 43 #[(Sl.v p0), p1] (fun (r : Int) => (Value.int .i64 r)) w0 K := by
  unfold F43 at h
  refine calls_of_wpC Try.func43 rfl 19 rfl (by simp) ?_
  intro ρ hρ
  have e0 : ρ 0 = (Sl.v p0) := hρ 0
  have e1 : ρ 1 = p1 := hρ 1
  clear hρ
  refine wpC_seq ?_
  refine wpC_region ?_
  refine wpR_val (v := (Value.int .i64 0)) (w' := w0) rfl rfl rfl (x_assign (v := (Value.int .i64 0)) rfl rfl) ?_
  refine wpR_nil ?_
  refine wpC_seq ?_
  refine wpC_seq ?_
  refine wpC_cut (fun ρ => ρ 0 = (Sl.v p0) ∧ ρ 1 = p1 ∧ True) ⟨e0, e1, trivial⟩ ?_
  rintro ρ ⟨e0, e1, -⟩
  refine wpC_region ?_
  refine wpR_val (v := (Sl.v p0)) (w' := w0) rfl rfl rfl (x_move (v := (Sl.v p0)) rfl e0) ?_
  refine wpR_val (v := (Value.int .i64 (p0.len : Int))) (w' := w0) rfl rfl rfl (x_lenS (s := p0) rfl rfl isSliceT_23) ?_
  refine wpR_val (v := (Value.int .i64 0)) (w' := w0) rfl rfl rfl (x_move (v := (Value.int .i64 0)) rfl rfl) ?_
  refine wpR_nil ?_
  refine wpC_block ?_
  obtain ⟨I1, μ1, hI1, hr1⟩ := h
  refine wpC_loop (fun (x : Int) ρ => ρ 8 = (Value.int .i64 x) ∧ ρ 0 = (Sl.v p0) ∧ ρ 1 = p1 ∧ ρ 7 = (Value.int .i64 (p0.len : Int)) ∧ True) I1 μ1 0 ⟨rfl, e0, e1, rfl, trivial⟩ hI1 ?_
  rintro l1 ρ w1 ⟨e8, e0, e1, e7, -⟩ h
  replace h := hr1 l1 w1 h
  clear hr1 hI1
  refine wpC_seq ?_
  refine wpC_region ?_
  refine wpR_val (v := (Value.bool (decide (l1 < (p0.len : Int))))) (w' := w1) rfl rfl rfl (x_lss rfl e8 e7) ?_
  refine wpR_nil ?_
  refine wpC_seq ?_
  refine wpC_cond (b := decide (l1 < (p0.len : Int))) rfl (fun hc2 => ?_) (fun hc2 => ?_)
  · replace h := h.1 hc2
    refine wpC_skip ?_
    refine wpC_seq ?_
    refine wpC_block ?_
    refine wpC_seq ?_
    refine wpC_cut (fun ρ => ρ 0 = (Sl.v p0) ∧ ρ 1 = p1 ∧ ρ 7 = (Value.int .i64 (p0.len : Int)) ∧ ρ 8 = (Value.int .i64 l1) ∧ True) ⟨e0, e1, e7, e8, trivial⟩ ?_
    rintro ρ ⟨e0, e1, e7, e8, -⟩
    refine wpC_region ?_
    refine wpR_val (v := (Value.int .i64 l1)) (w' := w1) rfl rfl rfl (x_move (v := (Value.int .i64 l1)) rfl e8) ?_
    refine wpR_val (v := (Value.int .i64 l1)) (w' := w1) rfl rfl rfl (x_assign (v := (Value.int .i64 l1)) rfl rfl) ?_
    refine wpR_nil ?_
    refine wpC_seq ?_
    refine wpC_cut (fun ρ => ρ 0 = (Sl.v p0) ∧ ρ 1 = p1 ∧ ρ 5 = (Value.int .i64 l1) ∧ ρ 7 = (Value.int .i64 (p0.len : Int)) ∧ ρ 8 = (Value.int .i64 l1) ∧ True) ⟨e0, e1, rfl, e7, e8, trivial⟩ ?_
    rintro ρ ⟨e0, e1, e5, e7, e8, -⟩
    refine wpC_region ?_
    refine wpR_val (v := p1) (w' := w1) rfl rfl rfl (x_move (v := p1) rfl e1) ?_
    refine wpR_val (v := (Sl.v p0)) (w' := w1) rfl rfl rfl (x_move (v := (Sl.v p0)) rfl e0) ?_
    refine wpR_val (v := (Value.int .i64 l1)) (w' := w1) rfl rfl rfl (x_move (v := (Value.int .i64 l1)) rfl e5) ?_
    obtain ⟨q3, z3, r3, h⟩ := h
    generalize hp3 : z3.add ((l1 : Int).toNat * 12) = p3 at h
    refine wpR_val (v := (Value.pointer (some p3))) (w' := w1) rfl rfl rfl ((x_indexAddr (s := p0) rfl rfl rfl ES_23 q3 r3).trans (by rw [hp3])) ?_
    obtain ⟨x4, q4, h⟩ := h
    obtain ⟨x5, q5, h⟩ := h
    obtain ⟨x6, q6, h⟩ := h
    obtain ⟨x7, q7, h⟩ := h
    obtain ⟨x8, q8, h⟩ := h
    obtain ⟨x9, q9, h⟩ := h
    obtain ⟨x10, q10, h⟩ := h
    obtain ⟨x11, q11, h⟩ := h
    obtain ⟨x12, q12, h⟩ := h
    obtain ⟨x13, q13, h⟩ := h
    obtain ⟨x14, q14, h⟩ := h
    obtain ⟨x15, q15, h⟩ := h
    refine wpR_val (v := (Value.agg #[(Value.int .i64 x4), (Value.int .i64 x5), (Sl.v x6), (Value.int .i64 x7), (Value.int .i64 x8), (Value.int .i64 x9), (Value.int .i64 x10), (Value.int .i64 x11), (Value.int .i64 x12), (Value.string x13), (Sl.v x14), (Value.int .i64 x15)])) (w' := w1) rfl rfl rfl (x_loadN [(Value.int .i64 x4), (Value.int .i64 x5), (Sl.v x6), (Value.int .i64 x7), (Value.int .i64 x8), (Value.int .i64 x9), (Value.int .i64 x10), (Value.int .i64 x11), (Value.int .i64 x12), (Value.string x13), (Sl.v x14), (Value.int .i64 x15)] rfl rfl SH_41 (CellsAt.out (CellsAt.cons q4 (CellsAt.cons q5 (CellsAt.cons q6 (CellsAt.cons q7 (CellsAt.cons q8 (CellsAt.cons q9 (CellsAt.cons q10 (CellsAt.cons q11 (CellsAt.cons q12 (CellsAt.cons q13 (CellsAt.cons q14 (CellsAt.cons q15 CellsAt.nil)))))))))))))) ?_
    obtain ⟨f16, fi16, ca16, fn16, qv16, qf16, qn16, qb16, h⟩ := h
    refine wpR_enter rfl rfl rfl (x_callv (vs := [(Value.agg #[(Value.int .i64 x4), (Value.int .i64 x5), (Sl.v x6), (Value.int .i64 x7), (Value.int .i64 x8), (Value.int .i64 x9), (Value.int .i64 x10), (Value.int .i64 x11), (Value.int .i64 x12), (Value.string x13), (Sl.v x14), (Value.int .i64 x15)])]) rfl ((show _ = p1 from rfl).trans qv16) (mapl_cons rfl mapl_nil) qf16 qn16 qb16) (Calls.mono h ?_)
    rintro _ w2 ⟨r16, rfl, h⟩
    refine ⟨_, rfl, ?_⟩
    refine wpR_nil ?_
    refine wpC_cond (b := r16) rfl (fun hc17 => ?_) (fun hc17 => ?_)
    · replace h := h.1 hc17
      refine wpC_seq ?_
      refine wpC_cut (fun ρ => ρ 5 = (Value.int .i64 l1) ∧ True) ⟨e5, trivial⟩ ?_
      rintro ρ ⟨e5, -⟩
      refine wpC_region ?_
      refine wpR_val (v := (Value.int .i64 l1)) (w' := w2) rfl rfl rfl (x_move (v := (Value.int .i64 l1)) rfl e5) ?_
      refine wpR_val (v := (Value.int .i64 l1)) (w' := w2) rfl rfl rfl (x_assign (v := (Value.int .i64 l1)) rfl rfl) ?_
      refine wpR_nil ?_
      refine wpC_ret ?_
      exact ⟨.inl rfl, fun a ha => ⟨_, results_rep1 rfl ha rfl, l1, rfl, h⟩⟩
    · replace h := h.2 hc17
      refine wpC_skip ?_
      refine wpC_cut (fun ρ => ρ 0 = (Sl.v p0) ∧ ρ 1 = p1 ∧ ρ 7 = (Value.int .i64 (p0.len : Int)) ∧ ρ 8 = (Value.int .i64 l1) ∧ True) ⟨e0, e1, e7, e8, trivial⟩ ?_
      rintro ρ ⟨e0, e1, e7, e8, -⟩
      refine wpC_region ?_
      refine wpR_val (v := (Value.int .i64 (IntKind.i64.wrap (l1 + 1)))) (w' := w2) rfl rfl rfl (x_add rfl e8 rfl) ?_
      refine wpR_val (v := (Value.int .i64 (IntKind.i64.wrap (l1 + 1)))) (w' := w2) rfl rfl rfl (x_move (v := (Value.int .i64 (IntKind.i64.wrap (l1 + 1)))) rfl rfl) ?_
      refine wpR_nil ?_
      exact ⟨IntKind.i64.wrap (l1 + 1), ⟨rfl, e0, e1, e7, trivial⟩, h⟩
  · replace h := h.2 hc2
    refine wpC_exit ?_
    refine wpC_seq ?_
    refine wpC_cut (fun ρ => True) trivial ?_
    rintro ρ -
    refine wpC_region ?_
    refine wpR_val (v := (Value.int .i64 (-1))) (w' := w1) rfl rfl rfl (x_assign (v := (Value.int .i64 (-1))) rfl rfl) ?_
    refine wpR_nil ?_
    refine wpC_ret ?_
    exact ⟨.inl rfl, fun a ha => ⟨_, results_rep1 rfl ha rfl, (-1), rfl, h⟩⟩


end Go.Proofs.Ytcnnnhligkpamaa
