import Derived.Test.YtadlnbdelkbboaaRows
import Derived.Test.YtadlnbdelkbboaaFs1
import Derived.Test.YtadlnbdelkbboaaDecRaw
namespace Go.Proofs.Ytadlnbdelkbboaa
open Go.Dec
set_option maxHeartbeats 400000
set_option maxRecDepth 100000

/-- linguaref13.Few -/
def F23 (p0_0 : ByteArray) (p0_1 : Int) (p0_2 : Int) (p0_3 : Int) (p0_4 : Bool) (p0_5 : Int) (p0_6 : Bool) (p0_7 : Bool) (p0_8 : Int) (p0_9 : Int) (p0_10 : Int) (p0_11 : Int) (p0_12 : Sl) (p0_13 : Int) (p0_14 : Int) (p0_15 : Int) (p0_16 : Int) (p0_17 : Bool) (p0_18 : Int) (p0_19 : Int) (p0_20 : Int) (p0_21 : Int) (w0 : World) (K : Bool → World → Prop) : Prop :=
  nw 24 (A23 p0_0 p0_1 p0_2 p0_3 p0_4 p0_5 p0_6 p0_7 p0_8 p0_9 p0_10 p0_11 p0_12 p0_13 p0_14 p0_15 p0_16 p0_17 p0_18 p0_19 p0_20 p0_21) w0 fun b1 w1 =>
  lp (fun (next2 : Int → World → Prop) l2 w2 =>
    ld Sl.v ((Addr.mk b1 0 none).add 12) w2 fun x3 =>
    cnd ((decide (l2 < (x3.len : Int))) && (decide (l2 < 13)))
      (
      ld Sl.v ((Addr.mk b1 0 none).add 12) w2 fun x7 =>
      ix x7 l2 1 fun p8 =>
      ld Value.string p8 w2 fun x9 =>
      cnd (decide (60 < (x9.size : Int)))
        (
        K false w2
        )
        (
        next2 (IntKind.i64.wrap (l2 + 1)) w2
        )
      )
      (
      ld Sl.v ((Addr.mk b1 0 none).add 12) w2 fun x11 =>
      jp (fun J12 => cnd (decide ((x11.len : Int) ≤ 12))
        (
        ld Value.string ((Addr.mk b1 0 none).add 0) w2 fun x14 =>
        J12 (decide ((x14.size : Int) ≤ 60))
        )
        (
        J12 false
        ))
      fun c15 =>
      K c15 w2
      )
  ) 0 w1
set_option maxRecDepth 100000 in
theorem D23 (p0_0 : ByteArray) (p0_1 : Int) (p0_2 : Int) (p0_3 : Int) (p0_4 : Bool) (p0_5 : Int) (p0_6 : Bool) (p0_7 : Bool) (p0_8 : Int) (p0_9 : Int) (p0_10 : Int) (p0_11 : Int) (p0_12 : Sl) (p0_13 : Int) (p0_14 : Int) (p0_15 : Int) (p0_16 : Int) (p0_17 : Bool) (p0_18 : Int) (p0_19 : Int) (p0_20 : Int) (p0_21 : Int) (w0 : World) (K : Bool → World → Prop) (h : F23 p0_0 p0_1 p0_2 p0_3 p0_4 p0_5 p0_6 p0_7 p0_8 p0_9 p0_10 p0_11 p0_12 p0_13 p0_14 p0_15 p0_16 p0_17 p0_18 p0_19 p0_20 p0_21 w0 K) : callC Try.prog 23 #[(V23 p0_0 p0_1 p0_2 p0_3 p0_4 p0_5 p0_6 p0_7 p0_8 p0_9 p0_10 p0_11 p0_12 p0_13 p0_14 p0_15 p0_16 p0_17 p0_18 p0_19 p0_20 p0_21)] (fun (r : Bool) => (Value.bool r)) w0 K := by
  unfold F23 at h
  refine calls_of_wpC Try.func23 rfl 32 rfl (by simp) ?_
  intro ρ hρ
  have e0 : ρ 0 = (V23 p0_0 p0_1 p0_2 p0_3 p0_4 p0_5 p0_6 p0_7 p0_8 p0_9 p0_10 p0_11 p0_12 p0_13 p0_14 p0_15 p0_16 p0_17 p0_18 p0_19 p0_20 p0_21) := hρ 0
  clear hρ
  refine wpC_seq ?_
  refine wpC_region ?_
  obtain ⟨b1, hb1⟩ : ∃ u, u = w0.heap.size := ⟨_, rfl⟩
  obtain ⟨w1, hw1⟩ : ∃ u, u = w0.alloc (.cells (A23 p0_0 p0_1 p0_2 p0_3 p0_4 p0_5 p0_6 p0_7 p0_8 p0_9 p0_10 p0_11 p0_12 p0_13 p0_14 p0_15 p0_16 p0_17 p0_18 p0_19 p0_20 p0_21) 24) := ⟨_, rfl⟩
  replace h := h b1 w1 hb1 hw1
  refine wpR_val (v := (Value.pointer (some (Addr.mk b1 0 none)))) (w' := w1) rfl rfl rfl ((x_box (v := (V23 p0_0 p0_1 p0_2 p0_3 p0_4 p0_5 p0_6 p0_7 p0_8 p0_9 p0_10 p0_11 p0_12 p0_13 p0_14 p0_15 p0_16 p0_17 p0_18 p0_19 p0_20 p0_21)) rfl e0).trans (by rw [hb1, hw1]; rfl)) ?_
  refine wpR_val (v := (Value.bool false)) (w' := w1) rfl rfl rfl (x_assign (v := (Value.bool false)) rfl rfl) ?_
  refine wpR_nil ?_
  refine wpC_seq ?_
  refine wpC_seq ?_
  refine wpC_cut (fun ρ => ρ 1 = (Value.pointer (some (Addr.mk b1 0 none))) ∧ True) ⟨rfl, trivial⟩ ?_
  rintro ρ ⟨e1, -⟩
  refine wpC_region ?_
  refine wpR_val (v := (Value.int .i64 0)) (w' := w1) rfl rfl rfl (x_assign (v := (Value.int .i64 0)) rfl rfl) ?_
  refine wpR_nil ?_
  refine wpC_block ?_
  obtain ⟨I2, μ2, hI2, hr2⟩ := h
  refine wpC_loop (fun (x : Int) ρ => ρ 3 = (Value.int .i64 x) ∧ ρ 1 = (Value.pointer (some (Addr.mk b1 0 none))) ∧ True) I2 μ2 0 ⟨rfl, e1, trivial⟩ hI2 ?_
  rintro l2 ρ w2 ⟨e3, e1, -⟩ h
  replace h := hr2 l2 w2 h
  clear hr2 hI2
  refine wpC_seq ?_
  refine wpC_seq ?_
  refine wpC_region ?_
  refine wpR_val (v := (Value.int .i64 l2)) (w' := w2) rfl rfl rfl (x_move (v := (Value.int .i64 l2)) rfl e3) ?_
  refine wpR_val (v := (Value.pointer (some ((Addr.mk b1 0 none).add 12)))) (w' := w2) rfl rfl rfl (x_fieldAddr rfl e1 FA_24_12) ?_
  obtain ⟨x3, q3, h⟩ := h
  refine wpR_val (v := (Sl.v x3)) (w' := w2) rfl rfl rfl (x_load1 rfl rfl SH_22 q3) ?_
  refine wpR_val (v := (Value.int .i64 (x3.len : Int))) (w' := w2) rfl rfl rfl (x_lenS (s := x3) rfl rfl isSliceT_22) ?_
  refine wpR_val (v := (Value.bool (decide (l2 < (x3.len : Int))))) (w' := w2) rfl rfl rfl (x_lss rfl rfl rfl) ?_
  refine wpR_val (v := (Value.bool (decide (l2 < (x3.len : Int))))) (w' := w2) rfl rfl rfl (x_move (v := (Value.bool (decide (l2 < (x3.len : Int))))) rfl rfl) ?_
  refine wpR_joinJ 3 (fun (_ : Unit) ρ => ρ 12 = Value.bool ((decide (l2 < (x3.len : Int))) && (decide (l2 < 13))) ∧ ρ 1 = (Value.pointer (some (Addr.mk b1 0 none))) ∧ ρ 3 = (Value.int .i64 l2) ∧ True) (fun _ w => w2 = w) ?_ ?_
  · clear h
    rcases Bool.eq_false_or_eq_true (decide (l2 < (x3.len : Int))) with hc5 | hc5
    · skip
      refine wpR_val (v := (Value.int .i64 l2)) (w' := w2) (wantG rfl rfl rfl hc5) rfl rfl (x_move (v := (Value.int .i64 l2)) rfl e3) ?_
      refine wpR_val (v := (Value.bool (decide (l2 < 13)))) (w' := w2) (wantG rfl rfl rfl hc5) rfl rfl (x_lss rfl rfl rfl) ?_
      refine wpR_val (v := (Value.bool (decide (l2 < 13)))) (w' := w2) rfl rfl rfl (x_pickT (v := (Value.bool (decide (l2 < 13)))) rfl rfl hc5 rfl) ?_
      refine wpR_nil ?_
      exact ⟨(), ⟨(by rw [hc5]; rfl), e1, e3, trivial⟩, rfl⟩
    · skip
      refine wpR_pass (wantN rfl rfl rfl hc5) rfl rfl ?_
      refine wpR_pass (wantN rfl rfl rfl hc5) rfl rfl ?_
      refine wpR_val (v := (Value.bool false)) (w' := w2) rfl rfl rfl (x_pickF (v := (Value.bool false)) rfl rfl hc5 rfl) ?_
      refine wpR_nil ?_
      exact ⟨(), ⟨(by rw [hc5]; rfl), e1, e3, trivial⟩, rfl⟩
  rintro _ ρ wj ⟨e12, e1, e3, -⟩ rfl
  refine wpR_nil ?_
  refine wpC_cond (b := (decide (l2 < (x3.len : Int))) && (decide (l2 < 13))) e12 (fun hc6 => ?_) (fun hc6 => ?_)
  · replace h := h.1 hc6
    refine wpC_skip ?_
    refine wpC_seq ?_
    refine wpC_block ?_
    refine wpC_seq ?_
    refine wpC_region ?_
    refine wpR_val (v := (Value.pointer (some ((Addr.mk b1 0 none).add 12)))) (w' := w2) rfl rfl rfl (x_fieldAddr rfl e1 FA_24_12) ?_
    obtain ⟨x7, q7, h⟩ := h
    refine wpR_val (v := (Sl.v x7)) (w' := w2) rfl rfl rfl (x_load1 rfl rfl SH_22 q7) ?_
    refine wpR_val (v := (Value.int .i64 l2)) (w' := w2) rfl rfl rfl (x_move (v := (Value.int .i64 l2)) rfl e3) ?_
    obtain ⟨q8, z8, r8, h⟩ := h
    generalize hp8 : z8.add ((l2 : Int).toNat * 1) = p8 at h
    refine wpR_val (v := (Value.pointer (some p8))) (w' := w2) rfl rfl rfl ((x_indexAddr (s := x7) rfl rfl rfl ES_22 q8 r8).trans (by rw [hp8])) ?_
    obtain ⟨x9, q9, h⟩ := h
    refine wpR_val (v := (Value.string x9)) (w' := w2) rfl rfl rfl (x_load1 rfl rfl SH_9 q9) ?_
    refine wpR_val (v := (Value.int .i64 (x9.size : Int))) (w' := w2) rfl rfl rfl (x_lenStr rfl rfl isStrT_9) ?_
    refine wpR_val (v := (Value.bool (decide (60 < (x9.size : Int))))) (w' := w2) rfl rfl rfl (x_gtr rfl rfl rfl) ?_
    refine wpR_nil ?_
    refine wpC_cond (b := decide (60 < (x9.size : Int))) rfl (fun hc10 => ?_) (fun hc10 => ?_)
    · replace h := h.1 hc10
      refine wpC_seq ?_
      refine wpC_cut (fun ρ => True) trivial ?_
      rintro ρ -
      refine wpC_region ?_
      refine wpR_val (v := (Value.bool false)) (w' := w2) rfl rfl rfl (x_assign (v := (Value.bool false)) rfl rfl) ?_
      refine wpR_nil ?_
      refine wpC_ret ?_
      exact ⟨.inl rfl, fun a ha => ⟨_, results_rep1 rfl ha rfl, false, rfl, h⟩⟩
    · replace h := h.2 hc10
      refine wpC_skip ?_
      refine wpC_cut (fun ρ => ρ 1 = (Value.pointer (some (Addr.mk b1 0 none))) ∧ ρ 3 = (Value.int .i64 l2) ∧ True) ⟨e1, e3, trivial⟩ ?_
      rintro ρ ⟨e1, e3, -⟩
      refine wpC_region ?_
      refine wpR_val (v := (Value.int .i64 l2)) (w' := w2) rfl rfl rfl (x_move (v := (Value.int .i64 l2)) rfl e3) ?_
      refine wpR_val (v := (Value.int .i64 (IntKind.i64.wrap (l2 + 1)))) (w' := w2) rfl rfl rfl (x_add rfl rfl rfl) ?_
      refine wpR_val (v := (Value.int .i64 (IntKind.i64.wrap (l2 + 1)))) (w' := w2) rfl rfl rfl (x_assign (v := (Value.int .i64 (IntKind.i64.wrap (l2 + 1)))) rfl rfl) ?_
      refine wpR_nil ?_
      exact ⟨IntKind.i64.wrap (l2 + 1), ⟨rfl, e1, trivial⟩, h⟩
  · replace h := h.2 hc6
    refine wpC_exit ?_
    refine wpC_seq ?_
    refine wpC_region ?_
    refine wpR_val (v := (Value.pointer (some ((Addr.mk b1 0 none).add 12)))) (w' := w2) rfl rfl rfl (x_fieldAddr rfl e1 FA_24_12) ?_
    obtain ⟨x11, q11, h⟩ := h
    refine wpR_val (v := (Sl.v x11)) (w' := w2) rfl rfl rfl (x_load1 rfl rfl SH_22 q11) ?_
    refine wpR_val (v := (Value.int .i64 (x11.len : Int))) (w' := w2) rfl rfl rfl (x_lenS (s := x11) rfl rfl isSliceT_22) ?_
    refine wpR_val (v := (Value.bool (decide ((x11.len : Int) ≤ 12)))) (w' := w2) rfl rfl rfl (x_leq rfl rfl rfl) ?_
    refine wpR_val (v := (Value.bool (decide ((x11.len : Int) ≤ 12)))) (w' := w2) rfl rfl rfl (x_move (v := (Value.bool (decide ((x11.len : Int) ≤ 12)))) rfl rfl) ?_
    obtain ⟨J12, h, hk⟩ := h
    refine wpR_joinJ 5 (fun x ρ => ρ 31 = Value.bool x ∧ True) (fun x w => J12 x ∧ w2 = w) ?_ ?_
    · clear hk
      rcases Bool.eq_false_or_eq_true (decide ((x11.len : Int) ≤ 12)) with hc13 | hc13
      · replace h := h.1 hc13
        refine wpR_val (v := (Value.pointer (some ((Addr.mk b1 0 none).add 0)))) (w' := w2) (wantG rfl rfl rfl hc13) rfl rfl (x_fieldAddr rfl e1 FA_24_0) ?_
        obtain ⟨x14, q14, h⟩ := h
        refine wpR_val (v := (Value.string x14)) (w' := w2) (wantG rfl rfl rfl hc13) rfl rfl (x_load1 rfl rfl SH_9 q14) ?_
        refine wpR_val (v := (Value.int .i64 (x14.size : Int))) (w' := w2) (wantG rfl rfl rfl hc13) rfl rfl (x_lenStr rfl rfl isStrT_9) ?_
        refine wpR_val (v := (Value.bool (decide ((x14.size : Int) ≤ 60)))) (w' := w2) (wantG rfl rfl rfl hc13) rfl rfl (x_leq rfl rfl rfl) ?_
        refine wpR_val (v := (Value.bool (decide ((x14.size : Int) ≤ 60)))) (w' := w2) rfl rfl rfl (x_pickT (v := (Value.bool (decide ((x14.size : Int) ≤ 60)))) rfl rfl hc13 rfl) ?_
        refine wpR_nil ?_
        exact ⟨decide ((x14.size : Int) ≤ 60), ⟨rfl, trivial⟩, h, rfl⟩
      · replace h := h.2 hc13
        refine wpR_pass (wantN rfl rfl rfl hc13) rfl rfl ?_
        refine wpR_pass (wantN rfl rfl rfl hc13) rfl rfl ?_
        refine wpR_pass (wantN rfl rfl rfl hc13) rfl rfl ?_
        refine wpR_pass (wantN rfl rfl rfl hc13) rfl rfl ?_
        refine wpR_val (v := (Value.bool false)) (w' := w2) rfl rfl rfl (x_pickF (v := (Value.bool false)) rfl rfl hc13 rfl) ?_
        refine wpR_nil ?_
        exact ⟨false, ⟨rfl, trivial⟩, h, rfl⟩
    clear h
    rintro c15 ρ wj ⟨e31, -⟩ ⟨h, rfl⟩
    replace h := hk c15 h
    clear hk
    refine wpR_val (v := (Value.bool c15)) (w' := w2) rfl rfl rfl (x_assign (v := (Value.bool c15)) rfl e31) ?_
    refine wpR_nil ?_
    refine wpC_ret ?_
    exact ⟨.inl rfl, fun a ha => ⟨_, results_rep1 rfl ha rfl, c15, rfl, h⟩⟩

/-- syntax.Right -/
def F24 (p0_0 : ByteArray) (p0_1 : Int) (p0_2 : Int) (p0_3 : Int) (p0_4 : Bool) (p0_5 : Int) (p0_6 : Bool) (p0_7 : Bool) (p0_8 : Int) (p0_9 : Int) (p0_10 : Int) (p0_11 : Int) (p0_12 : Sl) (p0_13 : Int) (p0_14 : Int) (p0_15 : Int) (p0_16 : Int) (p0_17 : Bool) (p0_18 : Int) (p0_19 : Int) (p0_20 : Int) (p0_21 : Int) (w0 : World) (K : Bool → World → Prop) : Prop :=
  nw 24 (A23 p0_0 p0_1 p0_2 p0_3 p0_4 p0_5 p0_6 p0_7 p0_8 p0_9 p0_10 p0_11 p0_12 p0_13 p0_14 p0_15 p0_16 p0_17 p0_18 p0_19 p0_20 p0_21) w0 fun b1 w1 =>
  ld (Value.int .i64) ((Addr.mk b1 0 none).add 2) w1 fun x2 =>
  ld (Value.int .i64) ((Addr.mk b1 0 none).add 8) w1 fun x3 =>
  ld (Value.int .i64) ((Addr.mk b1 0 none).add 9) w1 fun x4 =>
  ld (Value.int .i64) ((Addr.mk b1 0 none).add 10) w1 fun x5 =>
  ld (Value.int .i64) ((Addr.mk b1 0 none).add 11) w1 fun x6 =>
  ld (Value.int .i64) ((Addr.mk b1 0 none).add 18) w1 fun x7 =>
  ld (Value.int .i64) ((Addr.mk b1 0 none).add 19) w1 fun x8 =>
  ld (Value.int .i64) ((Addr.mk b1 0 none).add 20) w1 fun x9 =>
  ld (Value.int .i64) ((Addr.mk b1 0 none).add 21) w1 fun x10 =>
  nw 3 #[(Value.int .i64 x2), (Value.int .i64 x3), (Value.int .i64 x4), (Value.int .i64 x5), (Value.int .i64 x6), (Value.int .i64 x7), (Value.int .i64 x8), (Value.int .i64 x9), (Value.int .i64 x10)] w1 fun b11 w2 =>
  lp (fun (next12 : Int → World → Prop) l12 w3 =>
    cnd (decide (l12 < ((⟨some ⟨b11, 0, none⟩, 9, 9⟩ : Sl).len : Int)))
      (
      ix (⟨some ⟨b11, 0, none⟩, 9, 9⟩ : Sl) l12 1 fun p14 =>
      ld (Value.int .i64) p14 w3 fun x15 =>
      cnd ((decide (x15 < 0)) || (decide (1073741824 < x15)))
        (
        K false w3
        )
        (
        next12 (IntKind.i64.wrap (l12 + 1)) w3
        )
      )
      (
      ld (Value.int .i64) ((Addr.mk b1 0 none).add 3) w3 fun x19 =>
      ld (Value.int .i64) ((Addr.mk b1 0 none).add 5) w3 fun x20 =>
      ld (Value.int .i64) ((Addr.mk b1 0 none).add 13) w3 fun x21 =>
      ld (Value.int .i64) ((Addr.mk b1 0 none).add 14) w3 fun x22 =>
      ld (Value.int .i64) ((Addr.mk b1 0 none).add 15) w3 fun x23 =>
      ld (Value.int .i64) ((Addr.mk b1 0 none).add 16) w3 fun x24 =>
      nw 43 #[(Value.int .i64 x19), (Value.int .i64 3), (Value.int .i64 x20), (Value.int .i64 3), (Value.int .i64 x21), (Value.int .i64 3), (Value.int .i64 x22), (Value.int .i64 2), (Value.int .i64 x23), (Value.int .i64 2), (Value.int .i64 x24), (Value.int .i64 5)] w3 fun b25 w4 =>
      lp (fun (next26 : Int → World → Prop) l26 w5 =>
        cnd (decide (l26 < ((⟨some ⟨b25, 0, none⟩, 6, 6⟩ : Sl).len : Int)))
          (
          ix (⟨some ⟨b25, 0, none⟩, 6, 6⟩ : Sl) l26 2 fun p28 =>
          ld (Value.int .i64) (p28.add 0) w5 fun x29 =>
          ld (Value.int .i64) (p28.add 1) w5 fun x30 =>
          nw 43 #[(Value.int .i64 0), (Value.int .i64 0)] w5 fun b31 w6 =>
          st (Addr.mk b31 0 none) [(Value.int .i64 x29), (Value.int .i64 x30)] w6 fun w7 =>
          rn Try.prog (Instr.indexAt 43 (Value.pointer (some (Addr.mk b31 0 none))) (Value.int .i64 0)) (fun a : Addr => Value.pointer (some a)) w7 fun p33 w8 =>
          ld (Value.int .i64) p33 w8 fun x34 =>
          jn (fun J35 => cnd (decide (x34 < 0))
            (
            J35 true w8
            )
            (
            rn Try.prog (Instr.indexAt 43 (Value.pointer (some (Addr.mk b31 0 none))) (Value.int .i64 0)) (fun a : Addr => Value.pointer (some a)) w8 fun p37 w9 =>
            ld (Value.int .i64) p37 w9 fun x38 =>
            rn Try.prog (Instr.indexAt 43 (Value.pointer (some (Addr.mk b31 0 none))) (Value.int .i64 1)) (fun a : Addr => Value.pointer (some a)) w9 fun p39 w10 =>
            ld (Value.int .i64) p39 w10 fun x40 =>
            J35 (decide (x40 ≤ x38)) w10
            ))
          fun c41 w11 =>
          cnd (c41)
            (
            K false w11
            )
            (
            next26 (IntKind.i64.wrap (l26 + 1)) w11
            )
          )
          (
          jn (fun (J43 : Bool → World → Prop) =>
            ld Value.string ((Addr.mk b1 0 none).add 0) w5 fun x45 =>
            callC Try.prog 36 #[(Value.string x45)] (fun (r : Bool) => (Value.bool r)) w5 fun r46 w13 =>
            cnd (!r46)
              (
              J43 (!r46) w13
              )
              (
              ld (Value.int .i64) ((Addr.mk b1 0 none).add 1) w13 fun x48 =>
              jp (fun J49 => cnd (!decide (x48 = 0))
                (
                ld (Value.int .i64) ((Addr.mk b1 0 none).add 1) w13 fun x51 =>
                J49 (!decide (x51 = 2))
                )
                (
                J49 false
                ))
              fun c52 =>
              cnd (c52)
                (
                J43 c52 w13
                )
                (
                ld (Value.int .i64) ((Addr.mk b1 0 none).add 1) w13 fun x54 =>
                jp (fun J55 => cnd (decide (x54 = 0))
                  (
                  ld (Value.int .i64) ((Addr.mk b1 0 none).add 2) w13 fun x57 =>
                  J55 (decide (0 < x57))
                  )
                  (
                  J55 false
                  ))
                fun c58 =>
                J43 c58 w13
                )
              )
          )
          fun l44 w12 =>
          cnd (l44)
            (
            K false w12
            )
            (
            ld (Value.int .i64) ((Addr.mk b1 0 none).add 10) w12 fun x60 =>
            cnd (decide (x60 = 0))
              (
              ld (Value.int .i64) ((Addr.mk b1 0 none).add 11) w12 fun x62 =>
              jp (fun J63 => cnd (decide (x62 = 0))
                (
                ld Sl.v ((Addr.mk b1 0 none).add 12) w12 fun x65 =>
                J63 (decide ((x65.len : Int) = 0))
                )
                (
                J63 false
                ))
              fun c66 =>
              K c66 w12
              )
              (
              ld Sl.v ((Addr.mk b1 0 none).add 12) w12 fun x67 =>
              jp (fun J68 => cnd (decide (1 ≤ (x67.len : Int)))
                (
                ld Sl.v ((Addr.mk b1 0 none).add 12) w12 fun x70 =>
                J68 (decide ((x70.len : Int) ≤ 20))
                )
                (
                J68 false
                ))
              fun c71 =>
              jn (fun J72 => cnd (c71)
                (
                ld Sl.v ((Addr.mk b1 0 none).add 12) w12 fun x74 =>
                callC Try.prog 30 #[(Sl.v x74), (Value.func (.func 37) #[] #[])] (fun (r : Bool) => (Value.bool r)) w12 fun r75 w14 =>
                J72 (!r75) w14
                )
                (
                J72 false w12
                ))
              fun c76 w15 =>
              K c76 w15
              )
            )
          )
      ) 0 w4
      )
  ) 0 w2
set_option maxRecDepth 100000 in
theorem D24 (p0_0 : ByteArray) (p0_1 : Int) (p0_2 : Int) (p0_3 : Int) (p0_4 : Bool) (p0_5 : Int) (p0_6 : Bool) (p0_7 : Bool) (p0_8 : Int) (p0_9 : Int) (p0_10 : Int) (p0_11 : Int) (p0_12 : Sl) (p0_13 : Int) (p0_14 : Int) (p0_15 : Int) (p0_16 : Int) (p0_17 : Bool) (p0_18 : Int) (p0_19 : Int) (p0_20 : Int) (p0_21 : Int) (w0 : World) (K : Bool → World → Prop) (h : F24 p0_0 p0_1 p0_2 p0_3 p0_4 p0_5 p0_6 p0_7 p0_8 p0_9 p0_10 p0_11 p0_12 p0_13 p0_14 p0_15 p0_16 p0_17 p0_18 p0_19 p0_20 p0_21 w0 K) : callC Try.prog 24 #[(V23 p0_0 p0_1 p0_2 p0_3 p0_4 p0_5 p0_6 p0_7 p0_8 p0_9 p0_10 p0_11 p0_12 p0_13 p0_14 p0_15 p0_16 p0_17 p0_18 p0_19 p0_20 p0_21)] (fun (r : Bool) => (Value.bool r)) w0 K := by
  unfold F24 at h
  refine calls_of_wpC Try.func24 rfl 123 rfl (by simp) ?_
  intro ρ hρ
  have e0 : ρ 0 = (V23 p0_0 p0_1 p0_2 p0_3 p0_4 p0_5 p0_6 p0_7 p0_8 p0_9 p0_10 p0_11 p0_12 p0_13 p0_14 p0_15 p0_16 p0_17 p0_18 p0_19 p0_20 p0_21) := hρ 0
  clear hρ
  refine wpC_seq ?_
  refine wpC_region ?_
  obtain ⟨b1, hb1⟩ : ∃ u, u = w0.heap.size := ⟨_, rfl⟩
  obtain ⟨w1, hw1⟩ : ∃ u, u = w0.alloc (.cells (A23 p0_0 p0_1 p0_2 p0_3 p0_4 p0_5 p0_6 p0_7 p0_8 p0_9 p0_10 p0_11 p0_12 p0_13 p0_14 p0_15 p0_16 p0_17 p0_18 p0_19 p0_20 p0_21) 24) := ⟨_, rfl⟩
  replace h := h b1 w1 hb1 hw1
  refine wpR_val (v := (Value.pointer (some (Addr.mk b1 0 none)))) (w' := w1) rfl rfl rfl ((x_box (v := (V23 p0_0 p0_1 p0_2 p0_3 p0_4 p0_5 p0_6 p0_7 p0_8 p0_9 p0_10 p0_11 p0_12 p0_13 p0_14 p0_15 p0_16 p0_17 p0_18 p0_19 p0_20 p0_21)) rfl e0).trans (by rw [hb1, hw1]; rfl)) ?_
  refine wpR_val (v := (Value.bool false)) (w' := w1) rfl rfl rfl (x_assign (v := (Value.bool false)) rfl rfl) ?_
  refine wpR_nil ?_
  refine wpC_seq ?_
  refine wpC_seq ?_
  refine wpC_cut (fun ρ => ρ 1 = (Value.pointer (some (Addr.mk b1 0 none))) ∧ True) ⟨rfl, trivial⟩ ?_
  rintro ρ ⟨e1, -⟩
  refine wpC_region ?_
  refine wpR_val (v := (Value.pointer (some ((Addr.mk b1 0 none).add 2)))) (w' := w1) rfl rfl rfl (x_fieldAddr rfl e1 FA_24_2) ?_
  obtain ⟨x2, q2, h⟩ := h
  refine wpR_val (v := (Value.int .i64 x2)) (w' := w1) rfl rfl rfl (x_load1 rfl rfl SH_3 q2) ?_
  refine wpR_val (v := (Value.pointer (some ((Addr.mk b1 0 none).add 8)))) (w' := w1) rfl rfl rfl (x_fieldAddr rfl e1 FA_24_8) ?_
  obtain ⟨x3, q3, h⟩ := h
  refine wpR_val (v := (Value.int .i64 x3)) (w' := w1) rfl rfl rfl (x_load1 rfl rfl SH_3 q3) ?_
  refine wpR_val (v := (Value.pointer (some ((Addr.mk b1 0 none).add 9)))) (w' := w1) rfl rfl rfl (x_fieldAddr rfl e1 FA_24_9) ?_
  obtain ⟨x4, q4, h⟩ := h
  refine wpR_val (v := (Value.int .i64 x4)) (w' := w1) rfl rfl rfl (x_load1 rfl rfl SH_3 q4) ?_
  refine wpR_val (v := (Value.pointer (some ((Addr.mk b1 0 none).add 10)))) (w' := w1) rfl rfl rfl (x_fieldAddr rfl e1 FA_24_10) ?_
  obtain ⟨x5, q5, h⟩ := h
  refine wpR_val (v := (Value.int .i64 x5)) (w' := w1) rfl rfl rfl (x_load1 rfl rfl SH_3 q5) ?_
  refine wpR_val (v := (Value.pointer (some ((Addr.mk b1 0 none).add 11)))) (w' := w1) rfl rfl rfl (x_fieldAddr rfl e1 FA_24_11) ?_
  obtain ⟨x6, q6, h⟩ := h
  refine wpR_val (v := (Value.int .i64 x6)) (w' := w1) rfl rfl rfl (x_load1 rfl rfl SH_3 q6) ?_
  refine wpR_val (v := (Value.pointer (some ((Addr.mk b1 0 none).add 18)))) (w' := w1) rfl rfl rfl (x_fieldAddr rfl e1 FA_24_18) ?_
  obtain ⟨x7, q7, h⟩ := h
  refine wpR_val (v := (Value.int .i64 x7)) (w' := w1) rfl rfl rfl (x_load1 rfl rfl SH_3 q7) ?_
  refine wpR_val (v := (Value.pointer (some ((Addr.mk b1 0 none).add 19)))) (w' := w1) rfl rfl rfl (x_fieldAddr rfl e1 FA_24_19) ?_
  obtain ⟨x8, q8, h⟩ := h
  refine wpR_val (v := (Value.int .i64 x8)) (w' := w1) rfl rfl rfl (x_load1 rfl rfl SH_3 q8) ?_
  refine wpR_val (v := (Value.pointer (some ((Addr.mk b1 0 none).add 20)))) (w' := w1) rfl rfl rfl (x_fieldAddr rfl e1 FA_24_20) ?_
  obtain ⟨x9, q9, h⟩ := h
  refine wpR_val (v := (Value.int .i64 x9)) (w' := w1) rfl rfl rfl (x_load1 rfl rfl SH_3 q9) ?_
  refine wpR_val (v := (Value.pointer (some ((Addr.mk b1 0 none).add 21)))) (w' := w1) rfl rfl rfl (x_fieldAddr rfl e1 FA_24_21) ?_
  obtain ⟨x10, q10, h⟩ := h
  refine wpR_val (v := (Value.int .i64 x10)) (w' := w1) rfl rfl rfl (x_load1 rfl rfl SH_3 q10) ?_
  obtain ⟨b11, hb11⟩ : ∃ u, u = w1.heap.size := ⟨_, rfl⟩
  obtain ⟨w2, hw11⟩ : ∃ u, u = w1.alloc (.cells #[(Value.int .i64 x2), (Value.int .i64 x3), (Value.int .i64 x4), (Value.int .i64 x5), (Value.int .i64 x6), (Value.int .i64 x7), (Value.int .i64 x8), (Value.int .i64 x9), (Value.int .i64 x10)] 3) := ⟨_, rfl⟩
  replace h := h b11 w2 hb11 hw11
  refine wpR_val (v := (Sl.v (⟨some ⟨b11, 0, none⟩, 9, 9⟩ : Sl))) (w' := w2) rfl rfl rfl ((x_buildSlice (qs := [(0, (Value.int .i64 x2)), (1, (Value.int .i64 x3)), (2, (Value.int .i64 x4)), (3, (Value.int .i64 x5)), (4, (Value.int .i64 x6)), (5, (Value.int .i64 x7)), (6, (Value.int .i64 x8)), (7, (Value.int .i64 x9)), (8, (Value.int .i64 x10))]) rfl (by rfl) (BS_38_9_0_1_2_3_4_5_6_7_8 x2 x3 x4 x5 x6 x7 x8 x9 x10)).trans (by rw [← hb11, ← hw11])) ?_
  refine wpR_val (v := (Value.int .i64 ((⟨some ⟨b11, 0, none⟩, 9, 9⟩ : Sl).len : Int))) (w' := w2) rfl rfl rfl (x_lenS (s := (⟨some ⟨b11, 0, none⟩, 9, 9⟩ : Sl)) rfl rfl isSliceT_38) ?_
  refine wpR_val (v := (Value.int .i64 0)) (w' := w2) rfl rfl rfl (x_move (v := (Value.int .i64 0)) rfl rfl) ?_
  refine wpR_nil ?_
  refine wpC_block ?_
  obtain ⟨I12, μ12, hI12, hr12⟩ := h
  refine wpC_loop (fun (x : Int) ρ => ρ 27 = (Value.int .i64 x) ∧ ρ 1 = (Value.pointer (some (Addr.mk b1 0 none))) ∧ ρ 25 = (Sl.v (⟨some ⟨b11, 0, none⟩, 9, 9⟩ : Sl)) ∧ ρ 26 = (Value.int .i64 ((⟨some ⟨b11, 0, none⟩, 9, 9⟩ : Sl).len : Int)) ∧ True) I12 μ12 0 ⟨rfl, e1, rfl, rfl, trivial⟩ hI12 ?_
  rintro l12 ρ w3 ⟨e27, e1, e25, e26, -⟩ h
  replace h := hr12 l12 w3 h
  clear hr12 hI12
  refine wpC_seq ?_
  refine wpC_region ?_
  refine wpR_val (v := (Value.bool (decide (l12 < ((⟨some ⟨b11, 0, none⟩, 9, 9⟩ : Sl).len : Int))))) (w' := w3) rfl rfl rfl (x_lss rfl e27 e26) ?_
  refine wpR_nil ?_
  refine wpC_seq ?_
  refine wpC_cond (b := decide (l12 < ((⟨some ⟨b11, 0, none⟩, 9, 9⟩ : Sl).len : Int))) rfl (fun hc13 => ?_) (fun hc13 => ?_)
  · replace h := h.1 hc13
    refine wpC_skip ?_
    refine wpC_seq ?_
    refine wpC_block ?_
    refine wpC_seq ?_
    refine wpC_cut (fun ρ => ρ 1 = (Value.pointer (some (Addr.mk b1 0 none))) ∧ ρ 25 = (Sl.v (⟨some ⟨b11, 0, none⟩, 9, 9⟩ : Sl)) ∧ ρ 26 = (Value.int .i64 ((⟨some ⟨b11, 0, none⟩, 9, 9⟩ : Sl).len : Int)) ∧ ρ 27 = (Value.int .i64 l12) ∧ True) ⟨e1, e25, e26, e27, trivial⟩ ?_
    rintro ρ ⟨e1, e25, e26, e27, -⟩
    refine wpC_region ?_
    obtain ⟨q14, z14, r14, h⟩ := h
    generalize hp14 : z14.add ((l12 : Int).toNat * 1) = p14 at h
    refine wpR_val (v := (Value.pointer (some p14))) (w' := w3) rfl rfl rfl ((x_indexAddr (s := (⟨some ⟨b11, 0, none⟩, 9, 9⟩ : Sl)) rfl e25 e27 ES_38 q14 r14).trans (by rw [hp14])) ?_
    obtain ⟨x15, q15, h⟩ := h
    refine wpR_val (v := (Value.int .i64 x15)) (w' := w3) rfl rfl rfl (x_load1 rfl rfl SH_3 q15) ?_
    refine wpR_val (v := (Value.int .i64 x15)) (w' := w3) rfl rfl rfl (x_assign (v := (Value.int .i64 x15)) rfl rfl) ?_
    refine wpR_nil ?_
    refine wpC_seq ?_
    refine wpC_cut (fun ρ => ρ 1 = (Value.pointer (some (Addr.mk b1 0 none))) ∧ ρ 4 = (Value.int .i64 x15) ∧ ρ 25 = (Sl.v (⟨some ⟨b11, 0, none⟩, 9, 9⟩ : Sl)) ∧ ρ 26 = (Value.int .i64 ((⟨some ⟨b11, 0, none⟩, 9, 9⟩ : Sl).len : Int)) ∧ ρ 27 = (Value.int .i64 l12) ∧ True) ⟨e1, rfl, e25, e26, e27, trivial⟩ ?_
    rintro ρ ⟨e1, e4, e25, e26, e27, -⟩
    refine wpC_region ?_
    refine wpR_val (v := (Value.int .i64 x15)) (w' := w3) rfl rfl rfl (x_move (v := (Value.int .i64 x15)) rfl e4) ?_
    refine wpR_val (v := (Value.bool (decide (x15 < 0)))) (w' := w3) rfl rfl rfl (x_lss rfl rfl rfl) ?_
    refine wpR_val (v := (Value.bool (decide (x15 < 0)))) (w' := w3) rfl rfl rfl (x_move (v := (Value.bool (decide (x15 < 0)))) rfl rfl) ?_
    refine wpR_joinJ 3 (fun (_ : Unit) ρ => ρ 36 = Value.bool ((decide (x15 < 0)) || (decide (1073741824 < x15))) ∧ ρ 1 = (Value.pointer (some (Addr.mk b1 0 none))) ∧ ρ 25 = (Sl.v (⟨some ⟨b11, 0, none⟩, 9, 9⟩ : Sl)) ∧ ρ 26 = (Value.int .i64 ((⟨some ⟨b11, 0, none⟩, 9, 9⟩ : Sl).len : Int)) ∧ ρ 27 = (Value.int .i64 l12) ∧ True) (fun _ w => w3 = w) ?_ ?_
    · clear h
      rcases Bool.eq_false_or_eq_true (decide (x15 < 0)) with hc17 | hc17
      · skip
        refine wpR_pass (wantN rfl rfl rfl hc17) rfl rfl ?_
        refine wpR_pass (wantN rfl rfl rfl hc17) rfl rfl ?_
        refine wpR_val (v := (Value.bool true)) (w' := w3) rfl rfl rfl (x_pickT (v := (Value.bool true)) rfl rfl hc17 rfl) ?_
        refine wpR_nil ?_
        exact ⟨(), ⟨(by rw [hc17]; rfl), e1, e25, e26, e27, trivial⟩, rfl⟩
      · skip
        refine wpR_val (v := (Value.int .i64 x15)) (w' := w3) (wantG rfl rfl rfl hc17) rfl rfl (x_move (v := (Value.int .i64 x15)) rfl e4) ?_
        refine wpR_val (v := (Value.bool (decide (1073741824 < x15)))) (w' := w3) (wantG rfl rfl rfl hc17) rfl rfl (x_gtr rfl rfl rfl) ?_
        refine wpR_val (v := (Value.bool (decide (1073741824 < x15)))) (w' := w3) rfl rfl rfl (x_pickF (v := (Value.bool (decide (1073741824 < x15)))) rfl rfl hc17 rfl) ?_
        refine wpR_nil ?_
        exact ⟨(), ⟨(by rw [hc17]; rfl), e1, e25, e26, e27, trivial⟩, rfl⟩
    rintro _ ρ wj ⟨e36, e1, e25, e26, e27, -⟩ rfl
    refine wpR_nil ?_
    refine wpC_cond (b := (decide (x15 < 0)) || (decide (1073741824 < x15))) e36 (fun hc18 => ?_) (fun hc18 => ?_)
    · replace h := h.1 hc18
      refine wpC_seq ?_
      refine wpC_region ?_
      refine wpR_val (v := (Value.bool false)) (w' := w3) rfl rfl rfl (x_assign (v := (Value.bool false)) rfl rfl) ?_
      refine wpR_nil ?_
      refine wpC_ret ?_
      exact ⟨.inl rfl, fun a ha => ⟨_, results_rep1 rfl ha rfl, false, rfl, h⟩⟩
    · replace h := h.2 hc18
      refine wpC_skip ?_
      refine wpC_region ?_
      refine wpR_val (v := (Value.int .i64 (IntKind.i64.wrap (l12 + 1)))) (w' := w3) rfl rfl rfl (x_add rfl e27 rfl) ?_
      refine wpR_val (v := (Value.int .i64 (IntKind.i64.wrap (l12 + 1)))) (w' := w3) rfl rfl rfl (x_move (v := (Value.int .i64 (IntKind.i64.wrap (l12 + 1)))) rfl rfl) ?_
      refine wpR_nil ?_
      exact ⟨IntKind.i64.wrap (l12 + 1), ⟨rfl, e1, e25, e26, trivial⟩, h⟩
  · replace h := h.2 hc13
    refine wpC_exit ?_
    refine wpC_seq ?_
    refine wpC_seq ?_
    refine wpC_cut (fun ρ => ρ 1 = (Value.pointer (some (Addr.mk b1 0 none))) ∧ True) ⟨e1, trivial⟩ ?_
    rintro ρ ⟨e1, -⟩
    refine wpC_region ?_
    refine wpR_val (v := (Value.pointer (some ((Addr.mk b1 0 none).add 3)))) (w' := w3) rfl rfl rfl (x_fieldAddr rfl e1 FA_24_3) ?_
    obtain ⟨x19, q19, h⟩ := h
    refine wpR_val (v := (Value.int .i64 x19)) (w' := w3) rfl rfl rfl (x_load1 rfl rfl SH_3 q19) ?_
    refine wpR_val (v := (Value.agg #[(Value.int .i64 x19), (Value.int .i64 3)])) (w' := w3) rfl rfl rfl (x_build (qs := [(0, (Value.int .i64 x19)), (1, (Value.int .i64 3))]) rfl (by rfl) (BD_43_0_1 x19 3 _)) ?_
    refine wpR_val (v := (Value.pointer (some ((Addr.mk b1 0 none).add 5)))) (w' := w3) rfl rfl rfl (x_fieldAddr rfl e1 FA_24_5) ?_
    obtain ⟨x20, q20, h⟩ := h
    refine wpR_val (v := (Value.int .i64 x20)) (w' := w3) rfl rfl rfl (x_load1 rfl rfl SH_3 q20) ?_
    refine wpR_val (v := (Value.agg #[(Value.int .i64 x20), (Value.int .i64 3)])) (w' := w3) rfl rfl rfl (x_build (qs := [(0, (Value.int .i64 x20)), (1, (Value.int .i64 3))]) rfl (by rfl) (BD_43_0_1 x20 3 _)) ?_
    refine wpR_val (v := (Value.pointer (some ((Addr.mk b1 0 none).add 13)))) (w' := w3) rfl rfl rfl (x_fieldAddr rfl e1 FA_24_13) ?_
    obtain ⟨x21, q21, h⟩ := h
    refine wpR_val (v := (Value.int .i64 x21)) (w' := w3) rfl rfl rfl (x_load1 rfl rfl SH_3 q21) ?_
    refine wpR_val (v := (Value.agg #[(Value.int .i64 x21), (Value.int .i64 3)])) (w' := w3) rfl rfl rfl (x_build (qs := [(0, (Value.int .i64 x21)), (1, (Value.int .i64 3))]) rfl (by rfl) (BD_43_0_1 x21 3 _)) ?_
    refine wpR_val (v := (Value.pointer (some ((Addr.mk b1 0 none).add 14)))) (w' := w3) rfl rfl rfl (x_fieldAddr rfl e1 FA_24_14) ?_
    obtain ⟨x22, q22, h⟩ := h
    refine wpR_val (v := (Value.int .i64 x22)) (w' := w3) rfl rfl rfl (x_load1 rfl rfl SH_3 q22) ?_
    refine wpR_val (v := (Value.agg #[(Value.int .i64 x22), (Value.int .i64 2)])) (w' := w3) rfl rfl rfl (x_build (qs := [(0, (Value.int .i64 x22)), (1, (Value.int .i64 2))]) rfl (by rfl) (BD_43_0_1 x22 2 _)) ?_
    refine wpR_val (v := (Value.pointer (some ((Addr.mk b1 0 none).add 15)))) (w' := w3) rfl rfl rfl (x_fieldAddr rfl e1 FA_24_15) ?_
    obtain ⟨x23, q23, h⟩ := h
    refine wpR_val (v := (Value.int .i64 x23)) (w' := w3) rfl rfl rfl (x_load1 rfl rfl SH_3 q23) ?_
    refine wpR_val (v := (Value.agg #[(Value.int .i64 x23), (Value.int .i64 2)])) (w' := w3) rfl rfl rfl (x_build (qs := [(0, (Value.int .i64 x23)), (1, (Value.int .i64 2))]) rfl (by rfl) (BD_43_0_1 x23 2 _)) ?_
    refine wpR_val (v := (Value.pointer (some ((Addr.mk b1 0 none).add 16)))) (w' := w3) rfl rfl rfl (x_fieldAddr rfl e1 FA_24_16) ?_
    obtain ⟨x24, q24, h⟩ := h
    refine wpR_val (v := (Value.int .i64 x24)) (w' := w3) rfl rfl rfl (x_load1 rfl rfl SH_3 q24) ?_
    refine wpR_val (v := (Value.agg #[(Value.int .i64 x24), (Value.int .i64 5)])) (w' := w3) rfl rfl rfl (x_build (qs := [(0, (Value.int .i64 x24)), (1, (Value.int .i64 5))]) rfl (by rfl) (BD_43_0_1 x24 5 _)) ?_
    obtain ⟨b25, hb25⟩ : ∃ u, u = w3.heap.size := ⟨_, rfl⟩
    obtain ⟨w4, hw25⟩ : ∃ u, u = w3.alloc (.cells #[(Value.int .i64 x19), (Value.int .i64 3), (Value.int .i64 x20), (Value.int .i64 3), (Value.int .i64 x21), (Value.int .i64 3), (Value.int .i64 x22), (Value.int .i64 2), (Value.int .i64 x23), (Value.int .i64 2), (Value.int .i64 x24), (Value.int .i64 5)] 43) := ⟨_, rfl⟩
    replace h := h b25 w4 hb25 hw25
    refine wpR_val (v := (Sl.v (⟨some ⟨b25, 0, none⟩, 6, 6⟩ : Sl))) (w' := w4) rfl rfl rfl ((x_buildSlice (qs := [(0, (Value.agg #[(Value.int .i64 x19), (Value.int .i64 3)])), (1, (Value.agg #[(Value.int .i64 x20), (Value.int .i64 3)])), (2, (Value.agg #[(Value.int .i64 x21), (Value.int .i64 3)])), (3, (Value.agg #[(Value.int .i64 x22), (Value.int .i64 2)])), (4, (Value.agg #[(Value.int .i64 x23), (Value.int .i64 2)])), (5, (Value.agg #[(Value.int .i64 x24), (Value.int .i64 5)]))]) rfl (by rfl) (BS_44_6_0_1_2_3_4_5 x19 3 x20 3 x21 3 x22 2 x23 2 x24 5)).trans (by rw [← hb25, ← hw25])) ?_
    refine wpR_val (v := (Value.int .i64 ((⟨some ⟨b25, 0, none⟩, 6, 6⟩ : Sl).len : Int))) (w' := w4) rfl rfl rfl (x_lenS (s := (⟨some ⟨b25, 0, none⟩, 6, 6⟩ : Sl)) rfl rfl isSliceT_44) ?_
    refine wpR_val (v := (Value.int .i64 0)) (w' := w4) rfl rfl rfl (x_move (v := (Value.int .i64 0)) rfl rfl) ?_
    refine wpR_nil ?_
    refine wpC_block ?_
    obtain ⟨I26, μ26, hI26, hr26⟩ := h
    refine wpC_loop (fun (x : Int) ρ => ρ 58 = (Value.int .i64 x) ∧ ρ 1 = (Value.pointer (some (Addr.mk b1 0 none))) ∧ ρ 56 = (Sl.v (⟨some ⟨b25, 0, none⟩, 6, 6⟩ : Sl)) ∧ ρ 57 = (Value.int .i64 ((⟨some ⟨b25, 0, none⟩, 6, 6⟩ : Sl).len : Int)) ∧ True) I26 μ26 0 ⟨rfl, e1, rfl, rfl, trivial⟩ hI26 ?_
    rintro l26 ρ w5 ⟨e58, e1, e56, e57, -⟩ h
    replace h := hr26 l26 w5 h
    clear hr26 hI26
    refine wpC_seq ?_
    refine wpC_region ?_
    refine wpR_val (v := (Value.bool (decide (l26 < ((⟨some ⟨b25, 0, none⟩, 6, 6⟩ : Sl).len : Int))))) (w' := w5) rfl rfl rfl (x_lss rfl e58 e57) ?_
    refine wpR_nil ?_
    refine wpC_seq ?_
    refine wpC_cond (b := decide (l26 < ((⟨some ⟨b25, 0, none⟩, 6, 6⟩ : Sl).len : Int))) rfl (fun hc27 => ?_) (fun hc27 => ?_)
    · replace h := h.1 hc27
      refine wpC_skip ?_
      refine wpC_seq ?_
      refine wpC_block ?_
      refine wpC_seq ?_
      refine wpC_cut (fun ρ => ρ 1 = (Value.pointer (some (Addr.mk b1 0 none))) ∧ ρ 56 = (Sl.v (⟨some ⟨b25, 0, none⟩, 6, 6⟩ : Sl)) ∧ ρ 57 = (Value.int .i64 ((⟨some ⟨b25, 0, none⟩, 6, 6⟩ : Sl).len : Int)) ∧ ρ 58 = (Value.int .i64 l26) ∧ True) ⟨e1, e56, e57, e58, trivial⟩ ?_
      rintro ρ ⟨e1, e56, e57, e58, -⟩
      refine wpC_region ?_
      obtain ⟨q28, z28, r28, h⟩ := h
      generalize hp28 : z28.add ((l26 : Int).toNat * 2) = p28 at h
      refine wpR_val (v := (Value.pointer (some p28))) (w' := w5) rfl rfl rfl ((x_indexAddr (s := (⟨some ⟨b25, 0, none⟩, 6, 6⟩ : Sl)) rfl e56 e58 ES_44 q28 r28).trans (by rw [hp28])) ?_
      obtain ⟨x29, q29, x30, q30, h⟩ := h
      refine wpR_val (v := (Value.agg #[(Value.int .i64 x29), (Value.int .i64 x30)])) (w' := w5) rfl rfl rfl (x_loadN [(Value.int .i64 x29), (Value.int .i64 x30)] rfl rfl SH_43 (CellsAt.out (CellsAt.cons q29 (CellsAt.cons q30 CellsAt.nil)))) ?_
      obtain ⟨b31, hb31⟩ : ∃ u, u = w5.heap.size := ⟨_, rfl⟩
      obtain ⟨w6, hw31⟩ : ∃ u, u = w5.alloc (.cells #[(Value.int .i64 0), (Value.int .i64 0)] 43) := ⟨_, rfl⟩
      replace h := h b31 w6 hb31 hw31
      refine wpR_val (v := (Value.pointer (some (Addr.mk b31 0 none)))) (w' := w6) rfl rfl rfl ((x_alloc rfl ZV_43).trans (by rw [hb31, hw31]; rfl)) ?_
      obtain ⟨q32, h⟩ := h
      obtain ⟨w7, hw32⟩ : ∃ u, u = setAll w6 (Addr.mk b31 0 none) [(Value.int .i64 x29), (Value.int .i64 x30)] 0 := ⟨_, rfl⟩
      replace h := h w7 hw32
      refine wpR_skp (w' := w7) rfl rfl ((x_store (v := (Value.agg #[(Value.int .i64 x29), (Value.int .i64 x30)])) rfl rfl rfl SZ_43 (ones (by rfl)) q32).trans (by rw [hw32]; rfl)) ?_
      refine wpR_nil ?_
      refine wpC_seq ?_
      refine wpC_cut (fun ρ => ρ 1 = (Value.pointer (some (Addr.mk b1 0 none))) ∧ ρ 6 = (Value.pointer (some (Addr.mk b31 0 none))) ∧ ρ 56 = (Sl.v (⟨some ⟨b25, 0, none⟩, 6, 6⟩ : Sl)) ∧ ρ 57 = (Value.int .i64 ((⟨some ⟨b25, 0, none⟩, 6, 6⟩ : Sl).len : Int)) ∧ ρ 58 = (Value.int .i64 l26) ∧ True) ⟨e1, rfl, e56, e57, e58, trivial⟩ ?_
      rintro ρ ⟨e1, e6, e56, e57, e58, -⟩
      refine wpC_region ?_
      obtain ⟨p33, w8, q33, h⟩ := h
      refine wpR_val (v := (Value.pointer (some p33))) (w' := w8) rfl rfl rfl (x_indexAt rfl e6 rfl q33) ?_
      obtain ⟨x34, q34, h⟩ := h
      refine wpR_val (v := (Value.int .i64 x34)) (w' := w8) rfl rfl rfl (x_load1 rfl rfl SH_3 q34) ?_
      refine wpR_val (v := (Value.bool (decide (x34 < 0)))) (w' := w8) rfl rfl rfl (x_lss rfl rfl rfl) ?_
      refine wpR_val (v := (Value.bool (decide (x34 < 0)))) (w' := w8) rfl rfl rfl (x_move (v := (Value.bool (decide (x34 < 0)))) rfl rfl) ?_
      obtain ⟨J35, h, hk⟩ := h
      refine wpR_joinJ 6 (fun x ρ => ρ 71 = Value.bool x ∧ ρ 1 = (Value.pointer (some (Addr.mk b1 0 none))) ∧ ρ 56 = (Sl.v (⟨some ⟨b25, 0, none⟩, 6, 6⟩ : Sl)) ∧ ρ 57 = (Value.int .i64 ((⟨some ⟨b25, 0, none⟩, 6, 6⟩ : Sl).len : Int)) ∧ ρ 58 = (Value.int .i64 l26) ∧ True) (J35) ?_ ?_
      · clear hk
        rcases Bool.eq_false_or_eq_true (decide (x34 < 0)) with hc36 | hc36
        · replace h := h.1 hc36
          refine wpR_pass (wantN rfl rfl rfl hc36) rfl rfl ?_
          refine wpR_pass (wantN rfl rfl rfl hc36) rfl rfl ?_
          refine wpR_pass (wantN rfl rfl rfl hc36) rfl rfl ?_
          refine wpR_pass (wantN rfl rfl rfl hc36) rfl rfl ?_
          refine wpR_pass (wantN rfl rfl rfl hc36) rfl rfl ?_
          refine wpR_val (v := (Value.bool true)) (w' := w8) rfl rfl rfl (x_pickT (v := (Value.bool true)) rfl rfl hc36 rfl) ?_
          refine wpR_nil ?_
          exact ⟨true, ⟨rfl, e1, e56, e57, e58, trivial⟩, h⟩
        · replace h := h.2 hc36
          obtain ⟨p37, w9, q37, h⟩ := h
          refine wpR_val (v := (Value.pointer (some p37))) (w' := w9) (wantG rfl rfl rfl hc36) rfl rfl (x_indexAt rfl e6 rfl q37) ?_
          obtain ⟨x38, q38, h⟩ := h
          refine wpR_val (v := (Value.int .i64 x38)) (w' := w9) (wantG rfl rfl rfl hc36) rfl rfl (x_load1 rfl rfl SH_3 q38) ?_
          obtain ⟨p39, w10, q39, h⟩ := h
          refine wpR_val (v := (Value.pointer (some p39))) (w' := w10) (wantG rfl rfl rfl hc36) rfl rfl (x_indexAt rfl e6 rfl q39) ?_
          obtain ⟨x40, q40, h⟩ := h
          refine wpR_val (v := (Value.int .i64 x40)) (w' := w10) (wantG rfl rfl rfl hc36) rfl rfl (x_load1 rfl rfl SH_3 q40) ?_
          refine wpR_val (v := (Value.bool (decide (x40 ≤ x38)))) (w' := w10) (wantG rfl rfl rfl hc36) rfl rfl (x_geq rfl rfl rfl) ?_
          refine wpR_val (v := (Value.bool (decide (x40 ≤ x38)))) (w' := w10) rfl rfl rfl (x_pickF (v := (Value.bool (decide (x40 ≤ x38)))) rfl rfl hc36 rfl) ?_
          refine wpR_nil ?_
          exact ⟨decide (x40 ≤ x38), ⟨rfl, e1, e56, e57, e58, trivial⟩, h⟩
      clear h
      rintro c41 ρ w11 ⟨e71, e1, e56, e57, e58, -⟩ h
      replace h := hk c41 w11 h
      clear hk
      refine wpR_nil ?_
      refine wpC_cond (b := c41) e71 (fun hc42 => ?_) (fun hc42 => ?_)
      · replace h := h.1 hc42
        refine wpC_seq ?_
        refine wpC_region ?_
        refine wpR_val (v := (Value.bool false)) (w' := w11) rfl rfl rfl (x_assign (v := (Value.bool false)) rfl rfl) ?_
        refine wpR_nil ?_
        refine wpC_ret ?_
        exact ⟨.inl rfl, fun a ha => ⟨_, results_rep1 rfl ha rfl, false, rfl, h⟩⟩
      · replace h := h.2 hc42
        refine wpC_skip ?_
        refine wpC_region ?_
        refine wpR_val (v := (Value.int .i64 (IntKind.i64.wrap (l26 + 1)))) (w' := w11) rfl rfl rfl (x_add rfl e58 rfl) ?_
        refine wpR_val (v := (Value.int .i64 (IntKind.i64.wrap (l26 + 1)))) (w' := w11) rfl rfl rfl (x_move (v := (Value.int .i64 (IntKind.i64.wrap (l26 + 1)))) rfl rfl) ?_
        refine wpR_nil ?_
        exact ⟨IntKind.i64.wrap (l26 + 1), ⟨rfl, e1, e56, e57, trivial⟩, h⟩
    · replace h := h.2 hc27
      refine wpC_exit ?_
      refine wpC_seq ?_
      refine wpC_block ?_
      obtain ⟨J43, h, hk⟩ := h
      refine wpC_seqJ (fun (x : Bool) ρ => ρ 73 = (Value.bool x) ∧ ρ 1 = (Value.pointer (some (Addr.mk b1 0 none))) ∧ True) J43 ?_ ?_
      · clear hk
        refine wpC_seq ?_
        refine wpC_cut (fun ρ => ρ 1 = (Value.pointer (some (Addr.mk b1 0 none))) ∧ True) ⟨e1, trivial⟩ ?_
        rintro ρ ⟨e1, -⟩
        refine wpC_region ?_
        refine wpR_val (v := (Value.pointer (some ((Addr.mk b1 0 none).add 0)))) (w' := w5) rfl rfl rfl (x_fieldAddr rfl e1 FA_24_0) ?_
        obtain ⟨x45, q45, h⟩ := h
        refine wpR_val (v := (Value.string x45)) (w' := w5) rfl rfl rfl (x_load1 rfl rfl SH_9 q45) ?_
        refine wpR_enter rfl rfl rfl (x_call (vs := [(Value.string x45)]) rfl rfl (mapl_cons rfl mapl_nil) Try.func36 NN_36 NB_36) (Calls.mono h ?_)
        rintro _ w13 ⟨r46, rfl, h⟩
        refine ⟨_, rfl, ?_⟩
        refine wpR_val (v := (Value.bool (!r46))) (w' := w13) rfl rfl rfl (x_not rfl rfl) ?_
        refine wpR_val (v := (Value.bool (!r46))) (w' := w13) rfl rfl rfl (x_assign (v := (Value.bool (!r46))) rfl rfl) ?_
        refine wpR_nil ?_
        refine wpC_cond (b := !r46) rfl (fun hc47 => ?_) (fun hc47 => ?_)
        · replace h := h.1 hc47
          refine wpC_skip ?_
          exact ⟨!r46, ⟨rfl, e1, trivial⟩, h⟩
        · replace h := h.2 hc47
          refine wpC_seq ?_
          refine wpC_cut (fun ρ => ρ 1 = (Value.pointer (some (Addr.mk b1 0 none))) ∧ True) ⟨e1, trivial⟩ ?_
          rintro ρ ⟨e1, -⟩
          refine wpC_region ?_
          refine wpR_val (v := (Value.pointer (some ((Addr.mk b1 0 none).add 1)))) (w' := w13) rfl rfl rfl (x_fieldAddr rfl e1 FA_24_1) ?_
          obtain ⟨x48, q48, h⟩ := h
          refine wpR_val (v := (Value.int .i64 x48)) (w' := w13) rfl rfl rfl (x_load1 rfl rfl SH_3 q48) ?_
          refine wpR_val (v := (Value.bool (!decide (x48 = 0)))) (w' := w13) rfl rfl rfl (x_neq rfl rfl rfl) ?_
          refine wpR_val (v := (Value.bool (!decide (x48 = 0)))) (w' := w13) rfl rfl rfl (x_move (v := (Value.bool (!decide (x48 = 0)))) rfl rfl) ?_
          obtain ⟨J49, h, hk⟩ := h
          refine wpR_joinJ 4 (fun x ρ => ρ 85 = Value.bool x ∧ ρ 1 = (Value.pointer (some (Addr.mk b1 0 none))) ∧ True) (fun x w => J49 x ∧ w13 = w) ?_ ?_
          · clear hk
            rcases Bool.eq_false_or_eq_true (!decide (x48 = 0)) with hc50 | hc50
            · replace h := h.1 hc50
              refine wpR_val (v := (Value.pointer (some ((Addr.mk b1 0 none).add 1)))) (w' := w13) (wantG rfl rfl rfl hc50) rfl rfl (x_fieldAddr rfl e1 FA_24_1) ?_
              obtain ⟨x51, q51, h⟩ := h
              refine wpR_val (v := (Value.int .i64 x51)) (w' := w13) (wantG rfl rfl rfl hc50) rfl rfl (x_load1 rfl rfl SH_3 q51) ?_
              refine wpR_val (v := (Value.bool (!decide (x51 = 2)))) (w' := w13) (wantG rfl rfl rfl hc50) rfl rfl (x_neq rfl rfl rfl) ?_
              refine wpR_val (v := (Value.bool (!decide (x51 = 2)))) (w' := w13) rfl rfl rfl (x_pickT (v := (Value.bool (!decide (x51 = 2)))) rfl rfl hc50 rfl) ?_
              refine wpR_nil ?_
              exact ⟨!decide (x51 = 2), ⟨rfl, e1, trivial⟩, h, rfl⟩
            · replace h := h.2 hc50
              refine wpR_pass (wantN rfl rfl rfl hc50) rfl rfl ?_
              refine wpR_pass (wantN rfl rfl rfl hc50) rfl rfl ?_
              refine wpR_pass (wantN rfl rfl rfl hc50) rfl rfl ?_
              refine wpR_val (v := (Value.bool false)) (w' := w13) rfl rfl rfl (x_pickF (v := (Value.bool false)) rfl rfl hc50 rfl) ?_
              refine wpR_nil ?_
              exact ⟨false, ⟨rfl, e1, trivial⟩, h, rfl⟩
          clear h
          rintro c52 ρ wj ⟨e85, e1, -⟩ ⟨h, rfl⟩
          replace h := hk c52 h
          clear hk
          refine wpR_val (v := (Value.bool c52)) (w' := w13) rfl rfl rfl (x_assign (v := (Value.bool c52)) rfl e85) ?_
          refine wpR_nil ?_
          refine wpC_cond (b := c52) rfl (fun hc53 => ?_) (fun hc53 => ?_)
          · replace h := h.1 hc53
            refine wpC_skip ?_
            exact ⟨c52, ⟨rfl, e1, trivial⟩, h⟩
          · replace h := h.2 hc53
            refine wpC_cut (fun ρ => ρ 1 = (Value.pointer (some (Addr.mk b1 0 none))) ∧ True) ⟨e1, trivial⟩ ?_
            rintro ρ ⟨e1, -⟩
            refine wpC_region ?_
            refine wpR_val (v := (Value.pointer (some ((Addr.mk b1 0 none).add 1)))) (w' := w13) rfl rfl rfl (x_fieldAddr rfl e1 FA_24_1) ?_
            obtain ⟨x54, q54, h⟩ := h
            refine wpR_val (v := (Value.int .i64 x54)) (w' := w13) rfl rfl rfl (x_load1 rfl rfl SH_3 q54) ?_
            refine wpR_val (v := (Value.bool (decide (x54 = 0)))) (w' := w13) rfl rfl rfl (x_eql rfl rfl rfl) ?_
            refine wpR_val (v := (Value.bool (decide (x54 = 0)))) (w' := w13) rfl rfl rfl (x_move (v := (Value.bool (decide (x54 = 0)))) rfl rfl) ?_
            obtain ⟨J55, h, hk⟩ := h
            refine wpR_joinJ 4 (fun x ρ => ρ 93 = Value.bool x ∧ ρ 1 = (Value.pointer (some (Addr.mk b1 0 none))) ∧ True) (fun x w => J55 x ∧ w13 = w) ?_ ?_
            · clear hk
              rcases Bool.eq_false_or_eq_true (decide (x54 = 0)) with hc56 | hc56
              · replace h := h.1 hc56
                refine wpR_val (v := (Value.pointer (some ((Addr.mk b1 0 none).add 2)))) (w' := w13) (wantG rfl rfl rfl hc56) rfl rfl (x_fieldAddr rfl e1 FA_24_2) ?_
                obtain ⟨x57, q57, h⟩ := h
                refine wpR_val (v := (Value.int .i64 x57)) (w' := w13) (wantG rfl rfl rfl hc56) rfl rfl (x_load1 rfl rfl SH_3 q57) ?_
                refine wpR_val (v := (Value.bool (decide (0 < x57)))) (w' := w13) (wantG rfl rfl rfl hc56) rfl rfl (x_gtr rfl rfl rfl) ?_
                refine wpR_val (v := (Value.bool (decide (0 < x57)))) (w' := w13) rfl rfl rfl (x_pickT (v := (Value.bool (decide (0 < x57)))) rfl rfl hc56 rfl) ?_
                refine wpR_nil ?_
                exact ⟨decide (0 < x57), ⟨rfl, e1, trivial⟩, h, rfl⟩
              · replace h := h.2 hc56
                refine wpR_pass (wantN rfl rfl rfl hc56) rfl rfl ?_
                refine wpR_pass (wantN rfl rfl rfl hc56) rfl rfl ?_
                refine wpR_pass (wantN rfl rfl rfl hc56) rfl rfl ?_
                refine wpR_val (v := (Value.bool false)) (w' := w13) rfl rfl rfl (x_pickF (v := (Value.bool false)) rfl rfl hc56 rfl) ?_
                refine wpR_nil ?_
                exact ⟨false, ⟨rfl, e1, trivial⟩, h, rfl⟩
            clear h
            rintro c58 ρ wj ⟨e93, e1, -⟩ ⟨h, rfl⟩
            replace h := hk c58 h
            clear hk
            refine wpR_val (v := (Value.bool c58)) (w' := w13) rfl rfl rfl (x_assign (v := (Value.bool c58)) rfl e93) ?_
            refine wpR_nil ?_
            exact ⟨c58, ⟨rfl, e1, trivial⟩, h⟩
      clear h
      rintro l44 ρ w12 ⟨e73, e1, -⟩ h
      replace h := hk l44 w12 h
      clear hk
      refine wpC_cond (b := l44) e73 (fun hc59 => ?_) (fun hc59 => ?_)
      · replace h := h.1 hc59
        refine wpC_seq ?_
        refine wpC_region ?_
        refine wpR_val (v := (Value.bool false)) (w' := w12) rfl rfl rfl (x_assign (v := (Value.bool false)) rfl rfl) ?_
        refine wpR_nil ?_
        refine wpC_ret ?_
        exact ⟨.inl rfl, fun a ha => ⟨_, results_rep1 rfl ha rfl, false, rfl, h⟩⟩
      · replace h := h.2 hc59
        refine wpC_seq ?_
        refine wpC_region ?_
        refine wpR_val (v := (Value.pointer (some ((Addr.mk b1 0 none).add 10)))) (w' := w12) rfl rfl rfl (x_fieldAddr rfl e1 FA_24_10) ?_
        obtain ⟨x60, q60, h⟩ := h
        refine wpR_val (v := (Value.int .i64 x60)) (w' := w12) rfl rfl rfl (x_load1 rfl rfl SH_3 q60) ?_
        refine wpR_val (v := (Value.bool (decide (x60 = 0)))) (w' := w12) rfl rfl rfl (x_eql rfl rfl rfl) ?_
        refine wpR_val (v := (Value.bool (decide (x60 = 0)))) (w' := w12) rfl rfl rfl (x_assign (v := (Value.bool (decide (x60 = 0)))) rfl rfl) ?_
        refine wpR_nil ?_
        refine wpC_cond (b := decide (x60 = 0)) rfl (fun hc61 => ?_) (fun hc61 => ?_)
        · replace h := h.1 hc61
          refine wpC_seq ?_
          refine wpC_cut (fun ρ => ρ 1 = (Value.pointer (some (Addr.mk b1 0 none))) ∧ True) ⟨e1, trivial⟩ ?_
          rintro ρ ⟨e1, -⟩
          refine wpC_region ?_
          refine wpR_val (v := (Value.pointer (some ((Addr.mk b1 0 none).add 11)))) (w' := w12) rfl rfl rfl (x_fieldAddr rfl e1 FA_24_11) ?_
          obtain ⟨x62, q62, h⟩ := h
          refine wpR_val (v := (Value.int .i64 x62)) (w' := w12) rfl rfl rfl (x_load1 rfl rfl SH_3 q62) ?_
          refine wpR_val (v := (Value.bool (decide (x62 = 0)))) (w' := w12) rfl rfl rfl (x_eql rfl rfl rfl) ?_
          refine wpR_val (v := (Value.bool (decide (x62 = 0)))) (w' := w12) rfl rfl rfl (x_move (v := (Value.bool (decide (x62 = 0)))) rfl rfl) ?_
          obtain ⟨J63, h, hk⟩ := h
          refine wpR_joinJ 5 (fun x ρ => ρ 106 = Value.bool x ∧ True) (fun x w => J63 x ∧ w12 = w) ?_ ?_
          · clear hk
            rcases Bool.eq_false_or_eq_true (decide (x62 = 0)) with hc64 | hc64
            · replace h := h.1 hc64
              refine wpR_val (v := (Value.pointer (some ((Addr.mk b1 0 none).add 12)))) (w' := w12) (wantG rfl rfl rfl hc64) rfl rfl (x_fieldAddr rfl e1 FA_24_12) ?_
              obtain ⟨x65, q65, h⟩ := h
              refine wpR_val (v := (Sl.v x65)) (w' := w12) (wantG rfl rfl rfl hc64) rfl rfl (x_load1 rfl rfl SH_22 q65) ?_
              refine wpR_val (v := (Value.int .i64 (x65.len : Int))) (w' := w12) (wantG rfl rfl rfl hc64) rfl rfl (x_lenS (s := x65) rfl rfl isSliceT_22) ?_
              refine wpR_val (v := (Value.bool (decide ((x65.len : Int) = 0)))) (w' := w12) (wantG rfl rfl rfl hc64) rfl rfl (x_eql rfl rfl rfl) ?_
              refine wpR_val (v := (Value.bool (decide ((x65.len : Int) = 0)))) (w' := w12) rfl rfl rfl (x_pickT (v := (Value.bool (decide ((x65.len : Int) = 0)))) rfl rfl hc64 rfl) ?_
              refine wpR_nil ?_
              exact ⟨decide ((x65.len : Int) = 0), ⟨rfl, trivial⟩, h, rfl⟩
            · replace h := h.2 hc64
              refine wpR_pass (wantN rfl rfl rfl hc64) rfl rfl ?_
              refine wpR_pass (wantN rfl rfl rfl hc64) rfl rfl ?_
              refine wpR_pass (wantN rfl rfl rfl hc64) rfl rfl ?_
              refine wpR_pass (wantN rfl rfl rfl hc64) rfl rfl ?_
              refine wpR_val (v := (Value.bool false)) (w' := w12) rfl rfl rfl (x_pickF (v := (Value.bool false)) rfl rfl hc64 rfl) ?_
              refine wpR_nil ?_
              exact ⟨false, ⟨rfl, trivial⟩, h, rfl⟩
          clear h
          rintro c66 ρ wj ⟨e106, -⟩ ⟨h, rfl⟩
          replace h := hk c66 h
          clear hk
          refine wpR_val (v := (Value.bool c66)) (w' := w12) rfl rfl rfl (x_assign (v := (Value.bool c66)) rfl e106) ?_
          refine wpR_nil ?_
          refine wpC_ret ?_
          exact ⟨.inl rfl, fun a ha => ⟨_, results_rep1 rfl ha rfl, c66, rfl, h⟩⟩
        · replace h := h.2 hc61
          refine wpC_skip ?_
          refine wpC_seq ?_
          refine wpC_cut (fun ρ => ρ 1 = (Value.pointer (some (Addr.mk b1 0 none))) ∧ True) ⟨e1, trivial⟩ ?_
          rintro ρ ⟨e1, -⟩
          refine wpC_region ?_
          refine wpR_val (v := (Value.pointer (some ((Addr.mk b1 0 none).add 12)))) (w' := w12) rfl rfl rfl (x_fieldAddr rfl e1 FA_24_12) ?_
          obtain ⟨x67, q67, h⟩ := h
          refine wpR_val (v := (Sl.v x67)) (w' := w12) rfl rfl rfl (x_load1 rfl rfl SH_22 q67) ?_
          refine wpR_val (v := (Value.int .i64 (x67.len : Int))) (w' := w12) rfl rfl rfl (x_lenS (s := x67) rfl rfl isSliceT_22) ?_
          refine wpR_val (v := (Value.bool (decide (1 ≤ (x67.len : Int))))) (w' := w12) rfl rfl rfl (x_geq rfl rfl rfl) ?_
          refine wpR_val (v := (Value.bool (decide (1 ≤ (x67.len : Int))))) (w' := w12) rfl rfl rfl (x_move (v := (Value.bool (decide (1 ≤ (x67.len : Int))))) rfl rfl) ?_
          obtain ⟨J68, h, hk⟩ := h
          refine wpR_joinJ 5 (fun x ρ => ρ 116 = Value.bool x ∧ ρ 1 = (Value.pointer (some (Addr.mk b1 0 none))) ∧ True) (fun x w => J68 x ∧ w12 = w) ?_ ?_
          · clear hk
            rcases Bool.eq_false_or_eq_true (decide (1 ≤ (x67.len : Int))) with hc69 | hc69
            · replace h := h.1 hc69
              refine wpR_val (v := (Value.pointer (some ((Addr.mk b1 0 none).add 12)))) (w' := w12) (wantG rfl rfl rfl hc69) rfl rfl (x_fieldAddr rfl e1 FA_24_12) ?_
              obtain ⟨x70, q70, h⟩ := h
              refine wpR_val (v := (Sl.v x70)) (w' := w12) (wantG rfl rfl rfl hc69) rfl rfl (x_load1 rfl rfl SH_22 q70) ?_
              refine wpR_val (v := (Value.int .i64 (x70.len : Int))) (w' := w12) (wantG rfl rfl rfl hc69) rfl rfl (x_lenS (s := x70) rfl rfl isSliceT_22) ?_
              refine wpR_val (v := (Value.bool (decide ((x70.len : Int) ≤ 20)))) (w' := w12) (wantG rfl rfl rfl hc69) rfl rfl (x_leq rfl rfl rfl) ?_
              refine wpR_val (v := (Value.bool (decide ((x70.len : Int) ≤ 20)))) (w' := w12) rfl rfl rfl (x_pickT (v := (Value.bool (decide ((x70.len : Int) ≤ 20)))) rfl rfl hc69 rfl) ?_
              refine wpR_nil ?_
              exact ⟨decide ((x70.len : Int) ≤ 20), ⟨rfl, e1, trivial⟩, h, rfl⟩
            · replace h := h.2 hc69
              refine wpR_pass (wantN rfl rfl rfl hc69) rfl rfl ?_
              refine wpR_pass (wantN rfl rfl rfl hc69) rfl rfl ?_
              refine wpR_pass (wantN rfl rfl rfl hc69) rfl rfl ?_
              refine wpR_pass (wantN rfl rfl rfl hc69) rfl rfl ?_
              refine wpR_val (v := (Value.bool false)) (w' := w12) rfl rfl rfl (x_pickF (v := (Value.bool false)) rfl rfl hc69 rfl) ?_
              refine wpR_nil ?_
              exact ⟨false, ⟨rfl, e1, trivial⟩, h, rfl⟩
          clear h
          rintro c71 ρ wj ⟨e116, e1, -⟩ ⟨h, rfl⟩
          replace h := hk c71 h
          clear hk
          refine wpR_val (v := (Value.bool c71)) (w' := w12) rfl rfl rfl (x_move (v := (Value.bool c71)) rfl e116) ?_
          obtain ⟨J72, h, hk⟩ := h
          refine wpR_joinJ 5 (fun x ρ => ρ 122 = Value.bool x ∧ True) (J72) ?_ ?_
          · clear hk
            rcases Bool.eq_false_or_eq_true (c71) with hc73 | hc73
            · replace h := h.1 hc73
              refine wpR_val (v := (Value.pointer (some ((Addr.mk b1 0 none).add 12)))) (w' := w12) (wantG rfl rfl rfl hc73) rfl rfl (x_fieldAddr rfl e1 FA_24_12) ?_
              obtain ⟨x74, q74, h⟩ := h
              refine wpR_val (v := (Sl.v x74)) (w' := w12) (wantG rfl rfl rfl hc73) rfl rfl (x_load1 rfl rfl SH_22 q74) ?_
              refine wpR_enter (wantG rfl rfl rfl hc73) rfl rfl (x_call (vs := [(Sl.v x74), (Value.func (.func 37) #[] #[])]) rfl rfl (mapl_cons rfl (mapl_cons rfl mapl_nil)) Try.func30 NN_30 NB_30) (Calls.mono h ?_)
              rintro _ w14 ⟨r75, rfl, h⟩
              refine ⟨_, rfl, ?_⟩
              refine wpR_val (v := (Value.bool (!r75))) (w' := w14) (wantG rfl rfl rfl hc73) rfl rfl (x_not rfl rfl) ?_
              refine wpR_val (v := (Value.bool (!r75))) (w' := w14) rfl rfl rfl (x_pickT (v := (Value.bool (!r75))) rfl rfl hc73 rfl) ?_
              refine wpR_nil ?_
              exact ⟨!r75, ⟨rfl, trivial⟩, h⟩
            · replace h := h.2 hc73
              refine wpR_pass (wantN rfl rfl rfl hc73) rfl rfl ?_
              refine wpR_pass (wantN rfl rfl rfl hc73) rfl rfl ?_
              refine wpR_pass (wantN rfl rfl rfl hc73) rfl rfl ?_
              refine wpR_pass (wantN rfl rfl rfl hc73) rfl rfl ?_
              refine wpR_val (v := (Value.bool false)) (w' := w12) rfl rfl rfl (x_pickF (v := (Value.bool false)) rfl rfl hc73 rfl) ?_
              refine wpR_nil ?_
              exact ⟨false, ⟨rfl, trivial⟩, h⟩
          clear h
          rintro c76 ρ w15 ⟨e122, -⟩ h
          replace h := hk c76 w15 h
          clear hk
          refine wpR_val (v := (Value.bool c76)) (w' := w15) rfl rfl rfl (x_assign (v := (Value.bool c76)) rfl e122) ?_
          refine wpR_nil ?_
          refine wpC_ret ?_
          exact ⟨.inl rfl, fun a ha => ⟨_, results_rep1 rfl ha rfl, c76, rfl, h⟩⟩

/-- profile.within -/
def F25 (p0 : Int) (p1 : Int) (p2 : Int) (w0 : World) (K : Bool → World → Prop) : Prop :=
  K ((decide (p1 ≤ p0)) && (decide (p0 ≤ p2))) w0
set_option maxRecDepth 100000 in
theorem D25 (p0 : Int) (p1 : Int) (p2 : Int) (w0 : World) (K : Bool → World → Prop) (h : F25 p0 p1 p2 w0 K) : callC Try.prog 25 #[(Value.int .i64 p0), (Value.int .i64 p1), (Value.int .i64 p2)] (fun (r : Bool) => (Value.bool r)) w0 K := by
  unfold F25 at h
  refine calls_of_wpC Try.func25 rfl 15 rfl (by simp) ?_
  intro ρ hρ
  have e0 : ρ 0 = (Value.int .i64 p0) := hρ 0
  have e1 : ρ 1 = (Value.int .i64 p1) := hρ 1
  have e2 : ρ 2 = (Value.int .i64 p2) := hρ 2
  clear hρ
  refine wpC_seq ?_
  refine wpC_region ?_
  refine wpR_val (v := (Value.bool false)) (w' := w0) rfl rfl rfl (x_assign (v := (Value.bool false)) rfl rfl) ?_
  refine wpR_nil ?_
  refine wpC_seq ?_
  refine wpC_cut (fun ρ => ρ 0 = (Value.int .i64 p0) ∧ ρ 1 = (Value.int .i64 p1) ∧ ρ 2 = (Value.int .i64 p2) ∧ True) ⟨e0, e1, e2, trivial⟩ ?_
  rintro ρ ⟨e0, e1, e2, -⟩
  refine wpC_region ?_
  refine wpR_val (v := (Value.int .i64 p0)) (w' := w0) rfl rfl rfl (x_move (v := (Value.int .i64 p0)) rfl e0) ?_
  refine wpR_val (v := (Value.int .i64 p1)) (w' := w0) rfl rfl rfl (x_move (v := (Value.int .i64 p1)) rfl e1) ?_
  refine wpR_val (v := (Value.bool (decide (p1 ≤ p0)))) (w' := w0) rfl rfl rfl (x_geq rfl rfl rfl) ?_
  refine wpR_val (v := (Value.bool (decide (p1 ≤ p0)))) (w' := w0) rfl rfl rfl (x_move (v := (Value.bool (decide (p1 ≤ p0)))) rfl rfl) ?_
  refine wpR_joinJ 4 (fun (_ : Unit) ρ => ρ 14 = Value.bool ((decide (p1 ≤ p0)) && (decide (p0 ≤ p2))) ∧ True) (fun _ w => w0 = w) ?_ ?_
  · clear h
    rcases Bool.eq_false_or_eq_true (decide (p1 ≤ p0)) with hc2 | hc2
    · skip
      refine wpR_val (v := (Value.int .i64 p0)) (w' := w0) (wantG rfl rfl rfl hc2) rfl rfl (x_move (v := (Value.int .i64 p0)) rfl e0) ?_
      refine wpR_val (v := (Value.int .i64 p2)) (w' := w0) (wantG rfl rfl rfl hc2) rfl rfl (x_move (v := (Value.int .i64 p2)) rfl e2) ?_
      refine wpR_val (v := (Value.bool (decide (p0 ≤ p2)))) (w' := w0) (wantG rfl rfl rfl hc2) rfl rfl (x_leq rfl rfl rfl) ?_
      refine wpR_val (v := (Value.bool (decide (p0 ≤ p2)))) (w' := w0) rfl rfl rfl (x_pickT (v := (Value.bool (decide (p0 ≤ p2)))) rfl rfl hc2 rfl) ?_
      refine wpR_nil ?_
      exact ⟨(), ⟨(by rw [hc2]; rfl), trivial⟩, rfl⟩
    · skip
      refine wpR_pass (wantN rfl rfl rfl hc2) rfl rfl ?_
      refine wpR_pass (wantN rfl rfl rfl hc2) rfl rfl ?_
      refine wpR_pass (wantN rfl rfl rfl hc2) rfl rfl ?_
      refine wpR_val (v := (Value.bool false)) (w' := w0) rfl rfl rfl (x_pickF (v := (Value.bool false)) rfl rfl hc2 rfl) ?_
      refine wpR_nil ?_
      exact ⟨(), ⟨(by rw [hc2]; rfl), trivial⟩, rfl⟩
  rintro _ ρ wj ⟨e14, -⟩ rfl
  refine wpR_val (v := (Value.bool ((decide (p1 ≤ p0)) && (decide (p0 ≤ p2))))) (w' := w0) rfl rfl rfl (x_assign (v := (Value.bool ((decide (p1 ≤ p0)) && (decide (p0 ≤ p2))))) rfl e14) ?_
  refine wpR_nil ?_
  refine wpC_ret ?_
  exact ⟨.inl rfl, fun a ha => ⟨_, results_rep1 rfl ha rfl, (decide (p1 ≤ p0)) && (decide (p0 ≤ p2)), rfl, h⟩⟩

/-- profile.together -/
def F26 (p0_0 : ByteArray) (p0_1 : Int) (p0_2 : Int) (p0_3 : Int) (p0_4 : Bool) (p0_5 : Int) (p0_6 : Bool) (p0_7 : Bool) (p0_8 : Int) (p0_9 : Int) (p0_10 : Int) (p0_11 : Int) (p0_12 : Sl) (p0_13 : Int) (p0_14 : Int) (p0_15 : Int) (p0_16 : Int) (p0_17 : Bool) (p0_18 : Int) (p0_19 : Int) (p0_20 : Int) (p0_21 : Int) (w0 : World) (K : Bool → World → Prop) : Prop :=
  nw 24 (A23 p0_0 p0_1 p0_2 p0_3 p0_4 p0_5 p0_6 p0_7 p0_8 p0_9 p0_10 p0_11 p0_12 p0_13 p0_14 p0_15 p0_16 p0_17 p0_18 p0_19 p0_20 p0_21) w0 fun b1 w1 =>
  ld (Value.int .i64) ((Addr.mk b1 0 none).add 10) w1 fun x2 =>
  ld (Value.int .i64) ((Addr.mk b1 0 none).add 11) w1 fun x3 =>
  jp (fun J4 => cnd ((decide (x2 = 0)) == (decide (x3 = 0)))
    (
    ld (Value.int .i64) ((Addr.mk b1 0 none).add 10) w1 fun x6 =>
    ld Sl.v ((Addr.mk b1 0 none).add 12) w1 fun x7 =>
    J4 ((decide (x6 = 0)) == (decide ((x7.len : Int) = 0)))
    )
    (
    J4 false
    ))
  fun c8 =>
  K c8 w1
set_option maxRecDepth 100000 in
theorem D26 (p0_0 : ByteArray) (p0_1 : Int) (p0_2 : Int) (p0_3 : Int) (p0_4 : Bool) (p0_5 : Int) (p0_6 : Bool) (p0_7 : Bool) (p0_8 : Int) (p0_9 : Int) (p0_10 : Int) (p0_11 : Int) (p0_12 : Sl) (p0_13 : Int) (p0_14 : Int) (p0_15 : Int) (p0_16 : Int) (p0_17 : Bool) (p0_18 : Int) (p0_19 : Int) (p0_20 : Int) (p0_21 : Int) (w0 : World) (K : Bool → World → Prop) (h : F26 p0_0 p0_1 p0_2 p0_3 p0_4 p0_5 p0_6 p0_7 p0_8 p0_9 p0_10 p0_11 p0_12 p0_13 p0_14 p0_15 p0_16 p0_17 p0_18 p0_19 p0_20 p0_21 w0 K) : callC Try.prog 26 #[(V23 p0_0 p0_1 p0_2 p0_3 p0_4 p0_5 p0_6 p0_7 p0_8 p0_9 p0_10 p0_11 p0_12 p0_13 p0_14 p0_15 p0_16 p0_17 p0_18 p0_19 p0_20 p0_21)] (fun (r : Bool) => (Value.bool r)) w0 K := by
  unfold F26 at h
  refine calls_of_wpC Try.func26 rfl 20 rfl (by simp) ?_
  intro ρ hρ
  have e0 : ρ 0 = (V23 p0_0 p0_1 p0_2 p0_3 p0_4 p0_5 p0_6 p0_7 p0_8 p0_9 p0_10 p0_11 p0_12 p0_13 p0_14 p0_15 p0_16 p0_17 p0_18 p0_19 p0_20 p0_21) := hρ 0
  clear hρ
  refine wpC_seq ?_
  refine wpC_region ?_
  obtain ⟨b1, hb1⟩ : ∃ u, u = w0.heap.size := ⟨_, rfl⟩
  obtain ⟨w1, hw1⟩ : ∃ u, u = w0.alloc (.cells (A23 p0_0 p0_1 p0_2 p0_3 p0_4 p0_5 p0_6 p0_7 p0_8 p0_9 p0_10 p0_11 p0_12 p0_13 p0_14 p0_15 p0_16 p0_17 p0_18 p0_19 p0_20 p0_21) 24) := ⟨_, rfl⟩
  replace h := h b1 w1 hb1 hw1
  refine wpR_val (v := (Value.pointer (some (Addr.mk b1 0 none)))) (w' := w1) rfl rfl rfl ((x_box (v := (V23 p0_0 p0_1 p0_2 p0_3 p0_4 p0_5 p0_6 p0_7 p0_8 p0_9 p0_10 p0_11 p0_12 p0_13 p0_14 p0_15 p0_16 p0_17 p0_18 p0_19 p0_20 p0_21)) rfl e0).trans (by rw [hb1, hw1]; rfl)) ?_
  refine wpR_val (v := (Value.bool false)) (w' := w1) rfl rfl rfl (x_assign (v := (Value.bool false)) rfl rfl) ?_
  refine wpR_nil ?_
  refine wpC_seq ?_
  refine wpC_cut (fun ρ => ρ 1 = (Value.pointer (some (Addr.mk b1 0 none))) ∧ True) ⟨rfl, trivial⟩ ?_
  rintro ρ ⟨e1, -⟩
  refine wpC_region ?_
  refine wpR_val (v := (Value.pointer (some ((Addr.mk b1 0 none).add 10)))) (w' := w1) rfl rfl rfl (x_fieldAddr rfl e1 FA_24_10) ?_
  obtain ⟨x2, q2, h⟩ := h
  refine wpR_val (v := (Value.int .i64 x2)) (w' := w1) rfl rfl rfl (x_load1 rfl rfl SH_3 q2) ?_
  refine wpR_val (v := (Value.bool (decide (x2 = 0)))) (w' := w1) rfl rfl rfl (x_eql rfl rfl rfl) ?_
  refine wpR_val (v := (Value.pointer (some ((Addr.mk b1 0 none).add 11)))) (w' := w1) rfl rfl rfl (x_fieldAddr rfl e1 FA_24_11) ?_
  obtain ⟨x3, q3, h⟩ := h
  refine wpR_val (v := (Value.int .i64 x3)) (w' := w1) rfl rfl rfl (x_load1 rfl rfl SH_3 q3) ?_
  refine wpR_val (v := (Value.bool (decide (x3 = 0)))) (w' := w1) rfl rfl rfl (x_eql rfl rfl rfl) ?_
  refine wpR_val (v := (Value.bool ((decide (x2 = 0)) == (decide (x3 = 0))))) (w' := w1) rfl rfl rfl (x_eqlB rfl rfl rfl isBoolT_4) ?_
  refine wpR_val (v := (Value.bool ((decide (x2 = 0)) == (decide (x3 = 0))))) (w' := w1) rfl rfl rfl (x_move (v := (Value.bool ((decide (x2 = 0)) == (decide (x3 = 0))))) rfl rfl) ?_
  obtain ⟨J4, h, hk⟩ := h
  refine wpR_joinJ 9 (fun x ρ => ρ 19 = Value.bool x ∧ True) (fun x w => J4 x ∧ w1 = w) ?_ ?_
  · clear hk
    rcases Bool.eq_false_or_eq_true ((decide (x2 = 0)) == (decide (x3 = 0))) with hc5 | hc5
    · replace h := h.1 hc5
      refine wpR_val (v := (Value.pointer (some ((Addr.mk b1 0 none).add 10)))) (w' := w1) (wantG rfl rfl rfl hc5) rfl rfl (x_fieldAddr rfl e1 FA_24_10) ?_
      obtain ⟨x6, q6, h⟩ := h
      refine wpR_val (v := (Value.int .i64 x6)) (w' := w1) (wantG rfl rfl rfl hc5) rfl rfl (x_load1 rfl rfl SH_3 q6) ?_
      refine wpR_val (v := (Value.bool (decide (x6 = 0)))) (w' := w1) (wantG rfl rfl rfl hc5) rfl rfl (x_eql rfl rfl rfl) ?_
      refine wpR_val (v := (Value.pointer (some ((Addr.mk b1 0 none).add 12)))) (w' := w1) (wantG rfl rfl rfl hc5) rfl rfl (x_fieldAddr rfl e1 FA_24_12) ?_
      obtain ⟨x7, q7, h⟩ := h
      refine wpR_val (v := (Sl.v x7)) (w' := w1) (wantG rfl rfl rfl hc5) rfl rfl (x_load1 rfl rfl SH_22 q7) ?_
      refine wpR_val (v := (Value.int .i64 (x7.len : Int))) (w' := w1) (wantG rfl rfl rfl hc5) rfl rfl (x_lenS (s := x7) rfl rfl isSliceT_22) ?_
      refine wpR_val (v := (Value.bool (decide ((x7.len : Int) = 0)))) (w' := w1) (wantG rfl rfl rfl hc5) rfl rfl (x_eql rfl rfl rfl) ?_
      refine wpR_val (v := (Value.bool ((decide (x6 = 0)) == (decide ((x7.len : Int) = 0))))) (w' := w1) (wantG rfl rfl rfl hc5) rfl rfl (x_eqlB rfl rfl rfl isBoolT_4) ?_
      refine wpR_val (v := (Value.bool ((decide (x6 = 0)) == (decide ((x7.len : Int) = 0))))) (w' := w1) rfl rfl rfl (x_pickT (v := (Value.bool ((decide (x6 = 0)) == (decide ((x7.len : Int) = 0))))) rfl rfl hc5 rfl) ?_
      refine wpR_nil ?_
      exact ⟨(decide (x6 = 0)) == (decide ((x7.len : Int) = 0)), ⟨rfl, trivial⟩, h, rfl⟩
    · replace h := h.2 hc5
      refine wpR_pass (wantN rfl rfl rfl hc5) rfl rfl ?_
      refine wpR_pass (wantN rfl rfl rfl hc5) rfl rfl ?_
      refine wpR_pass (wantN rfl rfl rfl hc5) rfl rfl ?_
      refine wpR_pass (wantN rfl rfl rfl hc5) rfl rfl ?_
      refine wpR_pass (wantN rfl rfl rfl hc5) rfl rfl ?_
      refine wpR_pass (wantN rfl rfl rfl hc5) rfl rfl ?_
      refine wpR_pass (wantN rfl rfl rfl hc5) rfl rfl ?_
      refine wpR_pass (wantN rfl rfl rfl hc5) rfl rfl ?_
      refine wpR_val (v := (Value.bool false)) (w' := w1) rfl rfl rfl (x_pickF (v := (Value.bool false)) rfl rfl hc5 rfl) ?_
      refine wpR_nil ?_
      exact ⟨false, ⟨rfl, trivial⟩, h, rfl⟩
  clear h
  rintro c8 ρ wj ⟨e19, -⟩ ⟨h, rfl⟩
  replace h := hk c8 h
  clear hk
  refine wpR_val (v := (Value.bool c8)) (w' := w1) rfl rfl rfl (x_assign (v := (Value.bool c8)) rfl e19) ?_
  refine wpR_nil ?_
  refine wpC_ret ?_
  exact ⟨.inl rfl, fun a ha => ⟨_, results_rep1 rfl ha rfl, c8, rfl, h⟩⟩

/-- slices.Contains[[]string,string] -/
def F27 (p0 : Sl) (p1 : ByteArray) (w0 : World) (K : Bool → World → Prop) : Prop :=
  callC Try.prog 38 #[(Sl.v p0), (Value.string p1)] (fun (r : Int) => (Value.int .i64 r)) w0 fun r1 w1 =>
  K (decide (0 ≤ r1)) w1
set_option maxRecDepth 100000 in
theorem D27 (p0 : Sl) (p1 : ByteArray) (w0 : World) (K : Bool → World → Prop) (h : F27 p0 p1 w0 K) : callC Try.prog 27 #[(Sl.v p0), (Value.string p1)] (fun (r : Bool) => (Value.bool r)) w0 K := by
  unfold F27 at h
  refine calls_of_wpC Try.func27 rfl 9 rfl (by simp) ?_
  intro ρ hρ
  have e0 : ρ 0 = (Sl.v p0) := hρ 0
  have e1 : ρ 1 = (Value.string p1) := hρ 1
  clear hρ
  refine wpC_seq ?_
  refine wpC_region ?_
  refine wpR_val (v := (Value.bool false)) (w' := w0) rfl rfl rfl (x_assign (v := (Value.bool false)) rfl rfl) ?_
  refine wpR_nil ?_
  refine wpC_seq ?_
  refine wpC_cut (fun ρ => ρ 0 = (Sl.v p0) ∧ ρ 1 = (Value.string p1) ∧ True) ⟨e0, e1, trivial⟩ ?_
  rintro ρ ⟨e0, e1, -⟩
  refine wpC_region ?_
  refine wpR_val (v := (Sl.v p0)) (w' := w0) rfl rfl rfl (x_move (v := (Sl.v p0)) rfl e0) ?_
  refine wpR_val (v := (Value.string p1)) (w' := w0) rfl rfl rfl (x_move (v := (Value.string p1)) rfl e1) ?_
  refine wpR_enter rfl rfl rfl (x_call (vs := [(Sl.v p0), (Value.string p1)]) rfl rfl (mapl_cons rfl (mapl_cons rfl mapl_nil)) Try.func38 NN_38 NB_38) (Calls.mono h ?_)
  rintro _ w1 ⟨r1, rfl, h⟩
  refine ⟨_, rfl, ?_⟩
  refine wpR_val (v := (Value.bool (decide (0 ≤ r1)))) (w' := w1) rfl rfl rfl (x_geq rfl rfl rfl) ?_
  refine wpR_val (v := (Value.bool (decide (0 ≤ r1)))) (w' := w1) rfl rfl rfl (x_assign (v := (Value.bool (decide (0 ≤ r1)))) rfl rfl) ?_
  refine wpR_nil ?_
  refine wpC_ret ?_
  exact ⟨.inl rfl, fun a ha => ⟨_, results_rep1 rfl ha rfl, decide (0 ≤ r1), rfl, h⟩⟩

/-- linguaref12.Right -/
def F28 (p0_0 : ByteArray) (p0_1 : Int) (p0_2 : Int) (p0_3 : Int) (p0_4 : Bool) (p0_5 : Int) (p0_6 : Bool) (p0_7 : Bool) (p0_8 : Int) (p0_9 : Int) (p0_10 : Int) (p0_11 : Int) (p0_12 : Sl) (p0_13 : Int) (p0_14 : Int) (p0_15 : Int) (p0_16 : Int) (p0_17 : Bool) (p0_18 : Int) (p0_19 : Int) (p0_20 : Int) (p0_21 : Int) (w0 : World) (K : Bool → World → Prop) : Prop :=
  nw 24 (A23 p0_0 p0_1 p0_2 p0_3 p0_4 p0_5 p0_6 p0_7 p0_8 p0_9 p0_10 p0_11 p0_12 p0_13 p0_14 p0_15 p0_16 p0_17 p0_18 p0_19 p0_20 p0_21) w0 fun b1 w1 =>
  ld (Value.int .i64) ((Addr.mk b1 0 none).add 1) w1 fun x2 =>
  jp (fun J3 => cnd (decide (x2 = 0))
    (
    J3 true
    )
    (
    ld (Value.int .i64) ((Addr.mk b1 0 none).add 1) w1 fun x5 =>
    J3 (decide (x5 = 2))
    ))
  fun c6 =>
  jn (fun J7 => cnd (c6)
    (
    ld (Value.int .i64) ((Addr.mk b1 0 none).add 3) w1 fun x9 =>
    callC Try.prog 39 #[(Value.int .i64 x9), (Value.int .i64 0), (Value.int .i64 2)] (fun (r : Bool) => (Value.bool r)) w1 fun r10 w2 =>
    J7 r10 w2
    )
    (
    J7 false w1
    ))
  fun c11 w3 =>
  jn (fun J12 => cnd (c11)
    (
    ld (Value.int .i64) ((Addr.mk b1 0 none).add 5) w3 fun x14 =>
    callC Try.prog 39 #[(Value.int .i64 x14), (Value.int .i64 0), (Value.int .i64 2)] (fun (r : Bool) => (Value.bool r)) w3 fun r15 w4 =>
    J12 r15 w4
    )
    (
    J12 false w3
    ))
  fun c16 w5 =>
  jn (fun J17 => cnd (c16)
    (
    ld (Value.int .i64) ((Addr.mk b1 0 none).add 13) w5 fun x19 =>
    callC Try.prog 39 #[(Value.int .i64 x19), (Value.int .i64 0), (Value.int .i64 2)] (fun (r : Bool) => (Value.bool r)) w5 fun r20 w6 =>
    J17 r20 w6
    )
    (
    J17 false w5
    ))
  fun c21 w7 =>
  jn (fun J22 => cnd (c21)
    (
    ld (Value.int .i64) ((Addr.mk b1 0 none).add 14) w7 fun x24 =>
    callC Try.prog 39 #[(Value.int .i64 x24), (Value.int .i64 0), (Value.int .i64 1)] (fun (r : Bool) => (Value.bool r)) w7 fun r25 w8 =>
    J22 r25 w8
    )
    (
    J22 false w7
    ))
  fun c26 w9 =>
  jn (fun J27 => cnd (c26)
    (
    ld (Value.int .i64) ((Addr.mk b1 0 none).add 15) w9 fun x29 =>
    callC Try.prog 39 #[(Value.int .i64 x29), (Value.int .i64 0), (Value.int .i64 1)] (fun (r : Bool) => (Value.bool r)) w9 fun r30 w10 =>
    J27 r30 w10
    )
    (
    J27 false w9
    ))
  fun c31 w11 =>
  jn (fun J32 => cnd (c31)
    (
    ld (Value.int .i64) ((Addr.mk b1 0 none).add 16) w11 fun x34 =>
    callC Try.prog 39 #[(Value.int .i64 x34), (Value.int .i64 0), (Value.int .i64 4)] (fun (r : Bool) => (Value.bool r)) w11 fun r35 w12 =>
    J32 r35 w12
    )
    (
    J32 false w11
    ))
  fun c36 w13 =>
  ld (Value.int .i64) ((Addr.mk b1 0 none).add 2) w13 fun x37 =>
  callC Try.prog 39 #[(Value.int .i64 x37), (Value.int .i64 0), (Value.int .i64 1073741824)] (fun (r : Bool) => (Value.bool r)) w13 fun r38 w14 =>
  jn (fun J39 => cnd (r38)
    (
    ld (Value.int .i64) ((Addr.mk b1 0 none).add 8) w14 fun x41 =>
    callC Try.prog 39 #[(Value.int .i64 x41), (Value.int .i64 0), (Value.int .i64 1073741824)] (fun (r : Bool) => (Value.bool r)) w14 fun r42 w15 =>
    J39 r42 w15
    )
    (
    J39 false w14
    ))
  fun c43 w16 =>
  jn (fun J44 => cnd (c43)
    (
    ld (Value.int .i64) ((Addr.mk b1 0 none).add 9) w16 fun x46 =>
    callC Try.prog 39 #[(Value.int .i64 x46), (Value.int .i64 0), (Value.int .i64 1073741824)] (fun (r : Bool) => (Value.bool r)) w16 fun r47 w17 =>
    J44 r47 w17
    )
    (
    J44 false w16
    ))
  fun c48 w18 =>
  jn (fun J49 => cnd (c48)
    (
    ld (Value.int .i64) ((Addr.mk b1 0 none).add 10) w18 fun x51 =>
    callC Try.prog 39 #[(Value.int .i64 x51), (Value.int .i64 0), (Value.int .i64 1073741824)] (fun (r : Bool) => (Value.bool r)) w18 fun r52 w19 =>
    J49 r52 w19
    )
    (
    J49 false w18
    ))
  fun c53 w20 =>
  jn (fun J54 => cnd (c53)
    (
    ld (Value.int .i64) ((Addr.mk b1 0 none).add 11) w20 fun x56 =>
    callC Try.prog 39 #[(Value.int .i64 x56), (Value.int .i64 0), (Value.int .i64 1073741824)] (fun (r : Bool) => (Value.bool r)) w20 fun r57 w21 =>
    J54 r57 w21
    )
    (
    J54 false w20
    ))
  fun c58 w22 =>
  jn (fun J59 => cnd (c58)
    (
    ld (Value.int .i64) ((Addr.mk b1 0 none).add 18) w22 fun x61 =>
    callC Try.prog 39 #[(Value.int .i64 x61), (Value.int .i64 0), (Value.int .i64 1073741824)] (fun (r : Bool) => (Value.bool r)) w22 fun r62 w23 =>
    J59 r62 w23
    )
    (
    J59 false w22
    ))
  fun c63 w24 =>
  jn (fun J64 => cnd (c63)
    (
    ld (Value.int .i64) ((Addr.mk b1 0 none).add 19) w24 fun x66 =>
    callC Try.prog 39 #[(Value.int .i64 x66), (Value.int .i64 0), (Value.int .i64 1073741824)] (fun (r : Bool) => (Value.bool r)) w24 fun r67 w25 =>
    J64 r67 w25
    )
    (
    J64 false w24
    ))
  fun c68 w26 =>
  jn (fun J69 => cnd (c68)
    (
    ld (Value.int .i64) ((Addr.mk b1 0 none).add 20) w26 fun x71 =>
    callC Try.prog 39 #[(Value.int .i64 x71), (Value.int .i64 0), (Value.int .i64 1073741824)] (fun (r : Bool) => (Value.bool r)) w26 fun r72 w27 =>
    J69 r72 w27
    )
    (
    J69 false w26
    ))
  fun c73 w28 =>
  jn (fun J74 => cnd (c73)
    (
    ld (Value.int .i64) ((Addr.mk b1 0 none).add 21) w28 fun x76 =>
    callC Try.prog 39 #[(Value.int .i64 x76), (Value.int .i64 0), (Value.int .i64 1073741824)] (fun (r : Bool) => (Value.bool r)) w28 fun r77 w29 =>
    J74 r77 w29
    )
    (
    J74 false w28
    ))
  fun c78 w30 =>
  jn (fun J81 => cnd ((!c36) || (!c78))
    (
    J81 true w30
    )
    (
    ld Value.string ((Addr.mk b1 0 none).add 0) w30 fun x83 =>
    callC Try.prog 40 #[(Value.string x83)] (fun (r : Bool) => (Value.bool r)) w30 fun r84 w31 =>
    J81 (!r84) w31
    ))
  fun c85 w32 =>
  jp (fun J86 => cnd (c85)
    (
    J86 true
    )
    (
    ld (Value.int .i64) ((Addr.mk b1 0 none).add 1) w32 fun x88 =>
    jp (fun J89 => cnd (decide (x88 = 0))
      (
      ld (Value.int .i64) ((Addr.mk b1 0 none).add 2) w32 fun x91 =>
      J89 (!decide (x91 = 0))
      )
      (
      J89 false
      ))
    fun c92 =>
    J86 c92
    ))
  fun c93 =>
  cnd (c93)
    (
    K false w32
    )
    (
    ld (Value.int .i64) ((Addr.mk b1 0 none).add 10) w32 fun x95 =>
    cnd (decide (x95 = 0))
      (
      ld (Value.int .i64) ((Addr.mk b1 0 none).add 11) w32 fun x97 =>
      jp (fun J98 => cnd (decide (x97 = 0))
        (
        ld Sl.v ((Addr.mk b1 0 none).add 12) w32 fun x100 =>
        J98 (decide ((x100.len : Int) = 0))
        )
        (
        J98 false
        ))
      fun c101 =>
      K c101 w32
      )
      (
      ld Sl.v ((Addr.mk b1 0 none).add 12) w32 fun x102 =>
      jp (fun J103 => cnd (decide ((x102.len : Int) < 1))
        (
        J103 true
        )
        (
        ld Sl.v ((Addr.mk b1 0 none).add 12) w32 fun x105 =>
        J103 (decide (20 < (x105.len : Int)))
        ))
      fun c106 =>
      cnd (c106)
        (
        K false w32
        )
        (
        lp (fun (next108 : Int → World → Prop) l108 w33 =>
          ld Sl.v ((Addr.mk b1 0 none).add 12) w33 fun x109 =>
          cnd (decide (l108 < (x109.len : Int)))
            (
            ld Sl.v ((Addr.mk b1 0 none).add 12) w33 fun x111 =>
            ix x111 l108 1 fun p112 =>
            ld Value.string p112 w33 fun x113 =>
            callC Try.prog 40 #[(Value.string x113)] (fun (r : Bool) => (Value.bool r)) w33 fun r114 w34 =>
            cnd (!r114)
              (
              K false w34
              )
              (
              next108 (IntKind.i64.wrap (l108 + 1)) w34
              )
            )
            (
            K true w33
            )
        ) 0 w32
        )
      )
    )
set_option maxRecDepth 100000 in
theorem D28 (p0_0 : ByteArray) (p0_1 : Int) (p0_2 : Int) (p0_3 : Int) (p0_4 : Bool) (p0_5 : Int) (p0_6 : Bool) (p0_7 : Bool) (p0_8 : Int) (p0_9 : Int) (p0_10 : Int) (p0_11 : Int) (p0_12 : Sl) (p0_13 : Int) (p0_14 : Int) (p0_15 : Int) (p0_16 : Int) (p0_17 : Bool) (p0_18 : Int) (p0_19 : Int) (p0_20 : Int) (p0_21 : Int) (w0 : World) (K : Bool → World → Prop) (h : F28 p0_0 p0_1 p0_2 p0_3 p0_4 p0_5 p0_6 p0_7 p0_8 p0_9 p0_10 p0_11 p0_12 p0_13 p0_14 p0_15 p0_16 p0_17 p0_18 p0_19 p0_20 p0_21 w0 K) : callC Try.prog 28 #[(V23 p0_0 p0_1 p0_2 p0_3 p0_4 p0_5 p0_6 p0_7 p0_8 p0_9 p0_10 p0_11 p0_12 p0_13 p0_14 p0_15 p0_16 p0_17 p0_18 p0_19 p0_20 p0_21)] (fun (r : Bool) => (Value.bool r)) w0 K := by
  unfold F28 at h
  refine calls_of_wpC Try.func28 rfl 145 rfl (by simp) ?_
  intro ρ hρ
  have e0 : ρ 0 = (V23 p0_0 p0_1 p0_2 p0_3 p0_4 p0_5 p0_6 p0_7 p0_8 p0_9 p0_10 p0_11 p0_12 p0_13 p0_14 p0_15 p0_16 p0_17 p0_18 p0_19 p0_20 p0_21) := hρ 0
  clear hρ
  refine wpC_seq ?_
  refine wpC_region ?_
  obtain ⟨b1, hb1⟩ : ∃ u, u = w0.heap.size := ⟨_, rfl⟩
  obtain ⟨w1, hw1⟩ : ∃ u, u = w0.alloc (.cells (A23 p0_0 p0_1 p0_2 p0_3 p0_4 p0_5 p0_6 p0_7 p0_8 p0_9 p0_10 p0_11 p0_12 p0_13 p0_14 p0_15 p0_16 p0_17 p0_18 p0_19 p0_20 p0_21) 24) := ⟨_, rfl⟩
  replace h := h b1 w1 hb1 hw1
  refine wpR_val (v := (Value.pointer (some (Addr.mk b1 0 none)))) (w' := w1) rfl rfl rfl ((x_box (v := (V23 p0_0 p0_1 p0_2 p0_3 p0_4 p0_5 p0_6 p0_7 p0_8 p0_9 p0_10 p0_11 p0_12 p0_13 p0_14 p0_15 p0_16 p0_17 p0_18 p0_19 p0_20 p0_21)) rfl e0).trans (by rw [hb1, hw1]; rfl)) ?_
  refine wpR_val (v := (Value.bool false)) (w' := w1) rfl rfl rfl (x_assign (v := (Value.bool false)) rfl rfl) ?_
  refine wpR_nil ?_
  refine wpC_seq ?_
  refine wpC_cut (fun ρ => ρ 1 = (Value.pointer (some (Addr.mk b1 0 none))) ∧ True) ⟨rfl, trivial⟩ ?_
  rintro ρ ⟨e1, -⟩
  refine wpC_region ?_
  refine wpR_val (v := (Value.pointer (some ((Addr.mk b1 0 none).add 1)))) (w' := w1) rfl rfl rfl (x_fieldAddr rfl e1 FA_24_1) ?_
  obtain ⟨x2, q2, h⟩ := h
  refine wpR_val (v := (Value.int .i64 x2)) (w' := w1) rfl rfl rfl (x_load1 rfl rfl SH_3 q2) ?_
  refine wpR_val (v := (Value.bool (decide (x2 = 0)))) (w' := w1) rfl rfl rfl (x_eql rfl rfl rfl) ?_
  refine wpR_val (v := (Value.bool (decide (x2 = 0)))) (w' := w1) rfl rfl rfl (x_move (v := (Value.bool (decide (x2 = 0)))) rfl rfl) ?_
  obtain ⟨J3, h, hk⟩ := h
  refine wpR_joinJ 4 (fun x ρ => ρ 13 = Value.bool x ∧ ρ 1 = (Value.pointer (some (Addr.mk b1 0 none))) ∧ True) (fun x w => J3 x ∧ w1 = w) ?_ ?_
  · clear hk
    rcases Bool.eq_false_or_eq_true (decide (x2 = 0)) with hc4 | hc4
    · replace h := h.1 hc4
      refine wpR_pass (wantN rfl rfl rfl hc4) rfl rfl ?_
      refine wpR_pass (wantN rfl rfl rfl hc4) rfl rfl ?_
      refine wpR_pass (wantN rfl rfl rfl hc4) rfl rfl ?_
      refine wpR_val (v := (Value.bool true)) (w' := w1) rfl rfl rfl (x_pickT (v := (Value.bool true)) rfl rfl hc4 rfl) ?_
      refine wpR_nil ?_
      exact ⟨true, ⟨rfl, e1, trivial⟩, h, rfl⟩
    · replace h := h.2 hc4
      refine wpR_val (v := (Value.pointer (some ((Addr.mk b1 0 none).add 1)))) (w' := w1) (wantG rfl rfl rfl hc4) rfl rfl (x_fieldAddr rfl e1 FA_24_1) ?_
      obtain ⟨x5, q5, h⟩ := h
      refine wpR_val (v := (Value.int .i64 x5)) (w' := w1) (wantG rfl rfl rfl hc4) rfl rfl (x_load1 rfl rfl SH_3 q5) ?_
      refine wpR_val (v := (Value.bool (decide (x5 = 2)))) (w' := w1) (wantG rfl rfl rfl hc4) rfl rfl (x_eql rfl rfl rfl) ?_
      refine wpR_val (v := (Value.bool (decide (x5 = 2)))) (w' := w1) rfl rfl rfl (x_pickF (v := (Value.bool (decide (x5 = 2)))) rfl rfl hc4 rfl) ?_
      refine wpR_nil ?_
      exact ⟨decide (x5 = 2), ⟨rfl, e1, trivial⟩, h, rfl⟩
  clear h
  rintro c6 ρ wj ⟨e13, e1, -⟩ ⟨h, rfl⟩
  replace h := hk c6 h
  clear hk
  refine wpR_val (v := (Value.bool c6)) (w' := w1) rfl rfl rfl (x_move (v := (Value.bool c6)) rfl e13) ?_
  obtain ⟨J7, h, hk⟩ := h
  refine wpR_joinJ 4 (fun x ρ => ρ 18 = Value.bool x ∧ ρ 1 = (Value.pointer (some (Addr.mk b1 0 none))) ∧ True) (J7) ?_ ?_
  · clear hk
    rcases Bool.eq_false_or_eq_true (c6) with hc8 | hc8
    · replace h := h.1 hc8
      refine wpR_val (v := (Value.pointer (some ((Addr.mk b1 0 none).add 3)))) (w' := w1) (wantG rfl rfl rfl hc8) rfl rfl (x_fieldAddr rfl e1 FA_24_3) ?_
      obtain ⟨x9, q9, h⟩ := h
      refine wpR_val (v := (Value.int .i64 x9)) (w' := w1) (wantG rfl rfl rfl hc8) rfl rfl (x_load1 rfl rfl SH_3 q9) ?_
      refine wpR_enter (wantG rfl rfl rfl hc8) rfl rfl (x_call (vs := [(Value.int .i64 x9), (Value.int .i64 0), (Value.int .i64 2)]) rfl rfl (mapl_cons rfl (mapl_cons rfl (mapl_cons rfl mapl_nil))) Try.func39 NN_39 NB_39) (Calls.mono h ?_)
      rintro _ w2 ⟨r10, rfl, h⟩
      refine ⟨_, rfl, ?_⟩
      refine wpR_val (v := (Value.bool r10)) (w' := w2) rfl rfl rfl (x_pickT (v := (Value.bool r10)) rfl rfl hc8 rfl) ?_
      refine wpR_nil ?_
      exact ⟨r10, ⟨rfl, e1, trivial⟩, h⟩
    · replace h := h.2 hc8
      refine wpR_pass (wantN rfl rfl rfl hc8) rfl rfl ?_
      refine wpR_pass (wantN rfl rfl rfl hc8) rfl rfl ?_
      refine wpR_pass (wantN rfl rfl rfl hc8) rfl rfl ?_
      refine wpR_val (v := (Value.bool false)) (w' := w1) rfl rfl rfl (x_pickF (v := (Value.bool false)) rfl rfl hc8 rfl) ?_
      refine wpR_nil ?_
      exact ⟨false, ⟨rfl, e1, trivial⟩, h⟩
  clear h
  rintro c11 ρ w3 ⟨e18, e1, -⟩ h
  replace h := hk c11 w3 h
  clear hk
  refine wpR_val (v := (Value.bool c11)) (w' := w3) rfl rfl rfl (x_move (v := (Value.bool c11)) rfl e18) ?_
  obtain ⟨J12, h, hk⟩ := h
  refine wpR_joinJ 4 (fun x ρ => ρ 23 = Value.bool x ∧ ρ 1 = (Value.pointer (some (Addr.mk b1 0 none))) ∧ True) (J12) ?_ ?_
  · clear hk
    rcases Bool.eq_false_or_eq_true (c11) with hc13 | hc13
    · replace h := h.1 hc13
      refine wpR_val (v := (Value.pointer (some ((Addr.mk b1 0 none).add 5)))) (w' := w3) (wantG rfl rfl rfl hc13) rfl rfl (x_fieldAddr rfl e1 FA_24_5) ?_
      obtain ⟨x14, q14, h⟩ := h
      refine wpR_val (v := (Value.int .i64 x14)) (w' := w3) (wantG rfl rfl rfl hc13) rfl rfl (x_load1 rfl rfl SH_3 q14) ?_
      refine wpR_enter (wantG rfl rfl rfl hc13) rfl rfl (x_call (vs := [(Value.int .i64 x14), (Value.int .i64 0), (Value.int .i64 2)]) rfl rfl (mapl_cons rfl (mapl_cons rfl (mapl_cons rfl mapl_nil))) Try.func39 NN_39 NB_39) (Calls.mono h ?_)
      rintro _ w4 ⟨r15, rfl, h⟩
      refine ⟨_, rfl, ?_⟩
      refine wpR_val (v := (Value.bool r15)) (w' := w4) rfl rfl rfl (x_pickT (v := (Value.bool r15)) rfl rfl hc13 rfl) ?_
      refine wpR_nil ?_
      exact ⟨r15, ⟨rfl, e1, trivial⟩, h⟩
    · replace h := h.2 hc13
      refine wpR_pass (wantN rfl rfl rfl hc13) rfl rfl ?_
      refine wpR_pass (wantN rfl rfl rfl hc13) rfl rfl ?_
      refine wpR_pass (wantN rfl rfl rfl hc13) rfl rfl ?_
      refine wpR_val (v := (Value.bool false)) (w' := w3) rfl rfl rfl (x_pickF (v := (Value.bool false)) rfl rfl hc13 rfl) ?_
      refine wpR_nil ?_
      exact ⟨false, ⟨rfl, e1, trivial⟩, h⟩
  clear h
  rintro c16 ρ w5 ⟨e23, e1, -⟩ h
  replace h := hk c16 w5 h
  clear hk
  refine wpR_val (v := (Value.bool c16)) (w' := w5) rfl rfl rfl (x_move (v := (Value.bool c16)) rfl e23) ?_
  obtain ⟨J17, h, hk⟩ := h
  refine wpR_joinJ 4 (fun x ρ => ρ 28 = Value.bool x ∧ ρ 1 = (Value.pointer (some (Addr.mk b1 0 none))) ∧ True) (J17) ?_ ?_
  · clear hk
    rcases Bool.eq_false_or_eq_true (c16) with hc18 | hc18
    · replace h := h.1 hc18
      refine wpR_val (v := (Value.pointer (some ((Addr.mk b1 0 none).add 13)))) (w' := w5) (wantG rfl rfl rfl hc18) rfl rfl (x_fieldAddr rfl e1 FA_24_13) ?_
      obtain ⟨x19, q19, h⟩ := h
      refine wpR_val (v := (Value.int .i64 x19)) (w' := w5) (wantG rfl rfl rfl hc18) rfl rfl (x_load1 rfl rfl SH_3 q19) ?_
      refine wpR_enter (wantG rfl rfl rfl hc18) rfl rfl (x_call (vs := [(Value.int .i64 x19), (Value.int .i64 0), (Value.int .i64 2)]) rfl rfl (mapl_cons rfl (mapl_cons rfl (mapl_cons rfl mapl_nil))) Try.func39 NN_39 NB_39) (Calls.mono h ?_)
      rintro _ w6 ⟨r20, rfl, h⟩
      refine ⟨_, rfl, ?_⟩
      refine wpR_val (v := (Value.bool r20)) (w' := w6) rfl rfl rfl (x_pickT (v := (Value.bool r20)) rfl rfl hc18 rfl) ?_
      refine wpR_nil ?_
      exact ⟨r20, ⟨rfl, e1, trivial⟩, h⟩
    · replace h := h.2 hc18
      refine wpR_pass (wantN rfl rfl rfl hc18) rfl rfl ?_
      refine wpR_pass (wantN rfl rfl rfl hc18) rfl rfl ?_
      refine wpR_pass (wantN rfl rfl rfl hc18) rfl rfl ?_
      refine wpR_val (v := (Value.bool false)) (w' := w5) rfl rfl rfl (x_pickF (v := (Value.bool false)) rfl rfl hc18 rfl) ?_
      refine wpR_nil ?_
      exact ⟨false, ⟨rfl, e1, trivial⟩, h⟩
  clear h
  rintro c21 ρ w7 ⟨e28, e1, -⟩ h
  replace h := hk c21 w7 h
  clear hk
  refine wpR_val (v := (Value.bool c21)) (w' := w7) rfl rfl rfl (x_move (v := (Value.bool c21)) rfl e28) ?_
  obtain ⟨J22, h, hk⟩ := h
  refine wpR_joinJ 4 (fun x ρ => ρ 33 = Value.bool x ∧ ρ 1 = (Value.pointer (some (Addr.mk b1 0 none))) ∧ True) (J22) ?_ ?_
  · clear hk
    rcases Bool.eq_false_or_eq_true (c21) with hc23 | hc23
    · replace h := h.1 hc23
      refine wpR_val (v := (Value.pointer (some ((Addr.mk b1 0 none).add 14)))) (w' := w7) (wantG rfl rfl rfl hc23) rfl rfl (x_fieldAddr rfl e1 FA_24_14) ?_
      obtain ⟨x24, q24, h⟩ := h
      refine wpR_val (v := (Value.int .i64 x24)) (w' := w7) (wantG rfl rfl rfl hc23) rfl rfl (x_load1 rfl rfl SH_3 q24) ?_
      refine wpR_enter (wantG rfl rfl rfl hc23) rfl rfl (x_call (vs := [(Value.int .i64 x24), (Value.int .i64 0), (Value.int .i64 1)]) rfl rfl (mapl_cons rfl (mapl_cons rfl (mapl_cons rfl mapl_nil))) Try.func39 NN_39 NB_39) (Calls.mono h ?_)
      rintro _ w8 ⟨r25, rfl, h⟩
      refine ⟨_, rfl, ?_⟩
      refine wpR_val (v := (Value.bool r25)) (w' := w8) rfl rfl rfl (x_pickT (v := (Value.bool r25)) rfl rfl hc23 rfl) ?_
      refine wpR_nil ?_
      exact ⟨r25, ⟨rfl, e1, trivial⟩, h⟩
    · replace h := h.2 hc23
      refine wpR_pass (wantN rfl rfl rfl hc23) rfl rfl ?_
      refine wpR_pass (wantN rfl rfl rfl hc23) rfl rfl ?_
      refine wpR_pass (wantN rfl rfl rfl hc23) rfl rfl ?_
      refine wpR_val (v := (Value.bool false)) (w' := w7) rfl rfl rfl (x_pickF (v := (Value.bool false)) rfl rfl hc23 rfl) ?_
      refine wpR_nil ?_
      exact ⟨false, ⟨rfl, e1, trivial⟩, h⟩
  clear h
  rintro c26 ρ w9 ⟨e33, e1, -⟩ h
  replace h := hk c26 w9 h
  clear hk
  refine wpR_val (v := (Value.bool c26)) (w' := w9) rfl rfl rfl (x_move (v := (Value.bool c26)) rfl e33) ?_
  obtain ⟨J27, h, hk⟩ := h
  refine wpR_joinJ 4 (fun x ρ => ρ 38 = Value.bool x ∧ ρ 1 = (Value.pointer (some (Addr.mk b1 0 none))) ∧ True) (J27) ?_ ?_
  · clear hk
    rcases Bool.eq_false_or_eq_true (c26) with hc28 | hc28
    · replace h := h.1 hc28
      refine wpR_val (v := (Value.pointer (some ((Addr.mk b1 0 none).add 15)))) (w' := w9) (wantG rfl rfl rfl hc28) rfl rfl (x_fieldAddr rfl e1 FA_24_15) ?_
      obtain ⟨x29, q29, h⟩ := h
      refine wpR_val (v := (Value.int .i64 x29)) (w' := w9) (wantG rfl rfl rfl hc28) rfl rfl (x_load1 rfl rfl SH_3 q29) ?_
      refine wpR_enter (wantG rfl rfl rfl hc28) rfl rfl (x_call (vs := [(Value.int .i64 x29), (Value.int .i64 0), (Value.int .i64 1)]) rfl rfl (mapl_cons rfl (mapl_cons rfl (mapl_cons rfl mapl_nil))) Try.func39 NN_39 NB_39) (Calls.mono h ?_)
      rintro _ w10 ⟨r30, rfl, h⟩
      refine ⟨_, rfl, ?_⟩
      refine wpR_val (v := (Value.bool r30)) (w' := w10) rfl rfl rfl (x_pickT (v := (Value.bool r30)) rfl rfl hc28 rfl) ?_
      refine wpR_nil ?_
      exact ⟨r30, ⟨rfl, e1, trivial⟩, h⟩
    · replace h := h.2 hc28
      refine wpR_pass (wantN rfl rfl rfl hc28) rfl rfl ?_
      refine wpR_pass (wantN rfl rfl rfl hc28) rfl rfl ?_
      refine wpR_pass (wantN rfl rfl rfl hc28) rfl rfl ?_
      refine wpR_val (v := (Value.bool false)) (w' := w9) rfl rfl rfl (x_pickF (v := (Value.bool false)) rfl rfl hc28 rfl) ?_
      refine wpR_nil ?_
      exact ⟨false, ⟨rfl, e1, trivial⟩, h⟩
  clear h
  rintro c31 ρ w11 ⟨e38, e1, -⟩ h
  replace h := hk c31 w11 h
  clear hk
  refine wpR_val (v := (Value.bool c31)) (w' := w11) rfl rfl rfl (x_move (v := (Value.bool c31)) rfl e38) ?_
  obtain ⟨J32, h, hk⟩ := h
  refine wpR_joinJ 4 (fun x ρ => ρ 43 = Value.bool x ∧ ρ 1 = (Value.pointer (some (Addr.mk b1 0 none))) ∧ True) (J32) ?_ ?_
  · clear hk
    rcases Bool.eq_false_or_eq_true (c31) with hc33 | hc33
    · replace h := h.1 hc33
      refine wpR_val (v := (Value.pointer (some ((Addr.mk b1 0 none).add 16)))) (w' := w11) (wantG rfl rfl rfl hc33) rfl rfl (x_fieldAddr rfl e1 FA_24_16) ?_
      obtain ⟨x34, q34, h⟩ := h
      refine wpR_val (v := (Value.int .i64 x34)) (w' := w11) (wantG rfl rfl rfl hc33) rfl rfl (x_load1 rfl rfl SH_3 q34) ?_
      refine wpR_enter (wantG rfl rfl rfl hc33) rfl rfl (x_call (vs := [(Value.int .i64 x34), (Value.int .i64 0), (Value.int .i64 4)]) rfl rfl (mapl_cons rfl (mapl_cons rfl (mapl_cons rfl mapl_nil))) Try.func39 NN_39 NB_39) (Calls.mono h ?_)
      rintro _ w12 ⟨r35, rfl, h⟩
      refine ⟨_, rfl, ?_⟩
      refine wpR_val (v := (Value.bool r35)) (w' := w12) rfl rfl rfl (x_pickT (v := (Value.bool r35)) rfl rfl hc33 rfl) ?_
      refine wpR_nil ?_
      exact ⟨r35, ⟨rfl, e1, trivial⟩, h⟩
    · replace h := h.2 hc33
      refine wpR_pass (wantN rfl rfl rfl hc33) rfl rfl ?_
      refine wpR_pass (wantN rfl rfl rfl hc33) rfl rfl ?_
      refine wpR_pass (wantN rfl rfl rfl hc33) rfl rfl ?_
      refine wpR_val (v := (Value.bool false)) (w' := w11) rfl rfl rfl (x_pickF (v := (Value.bool false)) rfl rfl hc33 rfl) ?_
      refine wpR_nil ?_
      exact ⟨false, ⟨rfl, e1, trivial⟩, h⟩
  clear h
  rintro c36 ρ w13 ⟨e43, e1, -⟩ h
  replace h := hk c36 w13 h
  clear hk
  refine wpR_val (v := (Value.bool c36)) (w' := w13) rfl rfl rfl (x_assign (v := (Value.bool c36)) rfl e43) ?_
  refine wpR_nil ?_
  refine wpC_seq ?_
  refine wpC_cut (fun ρ => ρ 1 = (Value.pointer (some (Addr.mk b1 0 none))) ∧ ρ 3 = (Value.bool c36) ∧ True) ⟨e1, rfl, trivial⟩ ?_
  rintro ρ ⟨e1, e3, -⟩
  refine wpC_region ?_
  refine wpR_val (v := (Value.pointer (some ((Addr.mk b1 0 none).add 2)))) (w' := w13) rfl rfl rfl (x_fieldAddr rfl e1 FA_24_2) ?_
  obtain ⟨x37, q37, h⟩ := h
  refine wpR_val (v := (Value.int .i64 x37)) (w' := w13) rfl rfl rfl (x_load1 rfl rfl SH_3 q37) ?_
  refine wpR_enter rfl rfl rfl (x_call (vs := [(Value.int .i64 x37), (Value.int .i64 0), (Value.int .i64 1073741824)]) rfl rfl (mapl_cons rfl (mapl_cons rfl (mapl_cons rfl mapl_nil))) Try.func39 NN_39 NB_39) (Calls.mono h ?_)
  rintro _ w14 ⟨r38, rfl, h⟩
  refine ⟨_, rfl, ?_⟩
  refine wpR_val (v := (Value.bool r38)) (w' := w14) rfl rfl rfl (x_move (v := (Value.bool r38)) rfl rfl) ?_
  obtain ⟨J39, h, hk⟩ := h
  refine wpR_joinJ 4 (fun x ρ => ρ 51 = Value.bool x ∧ ρ 1 = (Value.pointer (some (Addr.mk b1 0 none))) ∧ ρ 3 = (Value.bool c36) ∧ True) (J39) ?_ ?_
  · clear hk
    rcases Bool.eq_false_or_eq_true (r38) with hc40 | hc40
    · replace h := h.1 hc40
      refine wpR_val (v := (Value.pointer (some ((Addr.mk b1 0 none).add 8)))) (w' := w14) (wantG rfl rfl rfl hc40) rfl rfl (x_fieldAddr rfl e1 FA_24_8) ?_
      obtain ⟨x41, q41, h⟩ := h
      refine wpR_val (v := (Value.int .i64 x41)) (w' := w14) (wantG rfl rfl rfl hc40) rfl rfl (x_load1 rfl rfl SH_3 q41) ?_
      refine wpR_enter (wantG rfl rfl rfl hc40) rfl rfl (x_call (vs := [(Value.int .i64 x41), (Value.int .i64 0), (Value.int .i64 1073741824)]) rfl rfl (mapl_cons rfl (mapl_cons rfl (mapl_cons rfl mapl_nil))) Try.func39 NN_39 NB_39) (Calls.mono h ?_)
      rintro _ w15 ⟨r42, rfl, h⟩
      refine ⟨_, rfl, ?_⟩
      refine wpR_val (v := (Value.bool r42)) (w' := w15) rfl rfl rfl (x_pickT (v := (Value.bool r42)) rfl rfl hc40 rfl) ?_
      refine wpR_nil ?_
      exact ⟨r42, ⟨rfl, e1, e3, trivial⟩, h⟩
    · replace h := h.2 hc40
      refine wpR_pass (wantN rfl rfl rfl hc40) rfl rfl ?_
      refine wpR_pass (wantN rfl rfl rfl hc40) rfl rfl ?_
      refine wpR_pass (wantN rfl rfl rfl hc40) rfl rfl ?_
      refine wpR_val (v := (Value.bool false)) (w' := w14) rfl rfl rfl (x_pickF (v := (Value.bool false)) rfl rfl hc40 rfl) ?_
      refine wpR_nil ?_
      exact ⟨false, ⟨rfl, e1, e3, trivial⟩, h⟩
  clear h
  rintro c43 ρ w16 ⟨e51, e1, e3, -⟩ h
  replace h := hk c43 w16 h
  clear hk
  refine wpR_val (v := (Value.bool c43)) (w' := w16) rfl rfl rfl (x_move (v := (Value.bool c43)) rfl e51) ?_
  obtain ⟨J44, h, hk⟩ := h
  refine wpR_joinJ 4 (fun x ρ => ρ 56 = Value.bool x ∧ ρ 1 = (Value.pointer (some (Addr.mk b1 0 none))) ∧ ρ 3 = (Value.bool c36) ∧ True) (J44) ?_ ?_
  · clear hk
    rcases Bool.eq_false_or_eq_true (c43) with hc45 | hc45
    · replace h := h.1 hc45
      refine wpR_val (v := (Value.pointer (some ((Addr.mk b1 0 none).add 9)))) (w' := w16) (wantG rfl rfl rfl hc45) rfl rfl (x_fieldAddr rfl e1 FA_24_9) ?_
      obtain ⟨x46, q46, h⟩ := h
      refine wpR_val (v := (Value.int .i64 x46)) (w' := w16) (wantG rfl rfl rfl hc45) rfl rfl (x_load1 rfl rfl SH_3 q46) ?_
      refine wpR_enter (wantG rfl rfl rfl hc45) rfl rfl (x_call (vs := [(Value.int .i64 x46), (Value.int .i64 0), (Value.int .i64 1073741824)]) rfl rfl (mapl_cons rfl (mapl_cons rfl (mapl_cons rfl mapl_nil))) Try.func39 NN_39 NB_39) (Calls.mono h ?_)
      rintro _ w17 ⟨r47, rfl, h⟩
      refine ⟨_, rfl, ?_⟩
      refine wpR_val (v := (Value.bool r47)) (w' := w17) rfl rfl rfl (x_pickT (v := (Value.bool r47)) rfl rfl hc45 rfl) ?_
      refine wpR_nil ?_
      exact ⟨r47, ⟨rfl, e1, e3, trivial⟩, h⟩
    · replace h := h.2 hc45
      refine wpR_pass (wantN rfl rfl rfl hc45) rfl rfl ?_
      refine wpR_pass (wantN rfl rfl rfl hc45) rfl rfl ?_
      refine wpR_pass (wantN rfl rfl rfl hc45) rfl rfl ?_
      refine wpR_val (v := (Value.bool false)) (w' := w16) rfl rfl rfl (x_pickF (v := (Value.bool false)) rfl rfl hc45 rfl) ?_
      refine wpR_nil ?_
      exact ⟨false, ⟨rfl, e1, e3, trivial⟩, h⟩
  clear h
  rintro c48 ρ w18 ⟨e56, e1, e3, -⟩ h
  replace h := hk c48 w18 h
  clear hk
  refine wpR_val (v := (Value.bool c48)) (w' := w18) rfl rfl rfl (x_move (v := (Value.bool c48)) rfl e56) ?_
  obtain ⟨J49, h, hk⟩ := h
  refine wpR_joinJ 4 (fun x ρ => ρ 61 = Value.bool x ∧ ρ 1 = (Value.pointer (some (Addr.mk b1 0 none))) ∧ ρ 3 = (Value.bool c36) ∧ True) (J49) ?_ ?_
  · clear hk
    rcases Bool.eq_false_or_eq_true (c48) with hc50 | hc50
    · replace h := h.1 hc50
      refine wpR_val (v := (Value.pointer (some ((Addr.mk b1 0 none).add 10)))) (w' := w18) (wantG rfl rfl rfl hc50) rfl rfl (x_fieldAddr rfl e1 FA_24_10) ?_
      obtain ⟨x51, q51, h⟩ := h
      refine wpR_val (v := (Value.int .i64 x51)) (w' := w18) (wantG rfl rfl rfl hc50) rfl rfl (x_load1 rfl rfl SH_3 q51) ?_
      refine wpR_enter (wantG rfl rfl rfl hc50) rfl rfl (x_call (vs := [(Value.int .i64 x51), (Value.int .i64 0), (Value.int .i64 1073741824)]) rfl rfl (mapl_cons rfl (mapl_cons rfl (mapl_cons rfl mapl_nil))) Try.func39 NN_39 NB_39) (Calls.mono h ?_)
      rintro _ w19 ⟨r52, rfl, h⟩
      refine ⟨_, rfl, ?_⟩
      refine wpR_val (v := (Value.bool r52)) (w' := w19) rfl rfl rfl (x_pickT (v := (Value.bool r52)) rfl rfl hc50 rfl) ?_
      refine wpR_nil ?_
      exact ⟨r52, ⟨rfl, e1, e3, trivial⟩, h⟩
    · replace h := h.2 hc50
      refine wpR_pass (wantN rfl rfl rfl hc50) rfl rfl ?_
      refine wpR_pass (wantN rfl rfl rfl hc50) rfl rfl ?_
      refine wpR_pass (wantN rfl rfl rfl hc50) rfl rfl ?_
      refine wpR_val (v := (Value.bool false)) (w' := w18) rfl rfl rfl (x_pickF (v := (Value.bool false)) rfl rfl hc50 rfl) ?_
      refine wpR_nil ?_
      exact ⟨false, ⟨rfl, e1, e3, trivial⟩, h⟩
  clear h
  rintro c53 ρ w20 ⟨e61, e1, e3, -⟩ h
  replace h := hk c53 w20 h
  clear hk
  refine wpR_val (v := (Value.bool c53)) (w' := w20) rfl rfl rfl (x_move (v := (Value.bool c53)) rfl e61) ?_
  obtain ⟨J54, h, hk⟩ := h
  refine wpR_joinJ 4 (fun x ρ => ρ 66 = Value.bool x ∧ ρ 1 = (Value.pointer (some (Addr.mk b1 0 none))) ∧ ρ 3 = (Value.bool c36) ∧ True) (J54) ?_ ?_
  · clear hk
    rcases Bool.eq_false_or_eq_true (c53) with hc55 | hc55
    · replace h := h.1 hc55
      refine wpR_val (v := (Value.pointer (some ((Addr.mk b1 0 none).add 11)))) (w' := w20) (wantG rfl rfl rfl hc55) rfl rfl (x_fieldAddr rfl e1 FA_24_11) ?_
      obtain ⟨x56, q56, h⟩ := h
      refine wpR_val (v := (Value.int .i64 x56)) (w' := w20) (wantG rfl rfl rfl hc55) rfl rfl (x_load1 rfl rfl SH_3 q56) ?_
      refine wpR_enter (wantG rfl rfl rfl hc55) rfl rfl (x_call (vs := [(Value.int .i64 x56), (Value.int .i64 0), (Value.int .i64 1073741824)]) rfl rfl (mapl_cons rfl (mapl_cons rfl (mapl_cons rfl mapl_nil))) Try.func39 NN_39 NB_39) (Calls.mono h ?_)
      rintro _ w21 ⟨r57, rfl, h⟩
      refine ⟨_, rfl, ?_⟩
      refine wpR_val (v := (Value.bool r57)) (w' := w21) rfl rfl rfl (x_pickT (v := (Value.bool r57)) rfl rfl hc55 rfl) ?_
      refine wpR_nil ?_
      exact ⟨r57, ⟨rfl, e1, e3, trivial⟩, h⟩
    · replace h := h.2 hc55
      refine wpR_pass (wantN rfl rfl rfl hc55) rfl rfl ?_
      refine wpR_pass (wantN rfl rfl rfl hc55) rfl rfl ?_
      refine wpR_pass (wantN rfl rfl rfl hc55) rfl rfl ?_
      refine wpR_val (v := (Value.bool false)) (w' := w20) rfl rfl rfl (x_pickF (v := (Value.bool false)) rfl rfl hc55 rfl) ?_
      refine wpR_nil ?_
      exact ⟨false, ⟨rfl, e1, e3, trivial⟩, h⟩
  clear h
  rintro c58 ρ w22 ⟨e66, e1, e3, -⟩ h
  replace h := hk c58 w22 h
  clear hk
  refine wpR_val (v := (Value.bool c58)) (w' := w22) rfl rfl rfl (x_move (v := (Value.bool c58)) rfl e66) ?_
  obtain ⟨J59, h, hk⟩ := h
  refine wpR_joinJ 4 (fun x ρ => ρ 71 = Value.bool x ∧ ρ 1 = (Value.pointer (some (Addr.mk b1 0 none))) ∧ ρ 3 = (Value.bool c36) ∧ True) (J59) ?_ ?_
  · clear hk
    rcases Bool.eq_false_or_eq_true (c58) with hc60 | hc60
    · replace h := h.1 hc60
      refine wpR_val (v := (Value.pointer (some ((Addr.mk b1 0 none).add 18)))) (w' := w22) (wantG rfl rfl rfl hc60) rfl rfl (x_fieldAddr rfl e1 FA_24_18) ?_
      obtain ⟨x61, q61, h⟩ := h
      refine wpR_val (v := (Value.int .i64 x61)) (w' := w22) (wantG rfl rfl rfl hc60) rfl rfl (x_load1 rfl rfl SH_3 q61) ?_
      refine wpR_enter (wantG rfl rfl rfl hc60) rfl rfl (x_call (vs := [(Value.int .i64 x61), (Value.int .i64 0), (Value.int .i64 1073741824)]) rfl rfl (mapl_cons rfl (mapl_cons rfl (mapl_cons rfl mapl_nil))) Try.func39 NN_39 NB_39) (Calls.mono h ?_)
      rintro _ w23 ⟨r62, rfl, h⟩
      refine ⟨_, rfl, ?_⟩
      refine wpR_val (v := (Value.bool r62)) (w' := w23) rfl rfl rfl (x_pickT (v := (Value.bool r62)) rfl rfl hc60 rfl) ?_
      refine wpR_nil ?_
      exact ⟨r62, ⟨rfl, e1, e3, trivial⟩, h⟩
    · replace h := h.2 hc60
      refine wpR_pass (wantN rfl rfl rfl hc60) rfl rfl ?_
      refine wpR_pass (wantN rfl rfl rfl hc60) rfl rfl ?_
      refine wpR_pass (wantN rfl rfl rfl hc60) rfl rfl ?_
      refine wpR_val (v := (Value.bool false)) (w' := w22) rfl rfl rfl (x_pickF (v := (Value.bool false)) rfl rfl hc60 rfl) ?_
      refine wpR_nil ?_
      exact ⟨false, ⟨rfl, e1, e3, trivial⟩, h⟩
  clear h
  rintro c63 ρ w24 ⟨e71, e1, e3, -⟩ h
  replace h := hk c63 w24 h
  clear hk
  refine wpR_val (v := (Value.bool c63)) (w' := w24) rfl rfl rfl (x_move (v := (Value.bool c63)) rfl e71) ?_
  obtain ⟨J64, h, hk⟩ := h
  refine wpR_joinJ 4 (fun x ρ => ρ 76 = Value.bool x ∧ ρ 1 = (Value.pointer (some (Addr.mk b1 0 none))) ∧ ρ 3 = (Value.bool c36) ∧ True) (J64) ?_ ?_
  · clear hk
    rcases Bool.eq_false_or_eq_true (c63) with hc65 | hc65
    · replace h := h.1 hc65
      refine wpR_val (v := (Value.pointer (some ((Addr.mk b1 0 none).add 19)))) (w' := w24) (wantG rfl rfl rfl hc65) rfl rfl (x_fieldAddr rfl e1 FA_24_19) ?_
      obtain ⟨x66, q66, h⟩ := h
      refine wpR_val (v := (Value.int .i64 x66)) (w' := w24) (wantG rfl rfl rfl hc65) rfl rfl (x_load1 rfl rfl SH_3 q66) ?_
      refine wpR_enter (wantG rfl rfl rfl hc65) rfl rfl (x_call (vs := [(Value.int .i64 x66), (Value.int .i64 0), (Value.int .i64 1073741824)]) rfl rfl (mapl_cons rfl (mapl_cons rfl (mapl_cons rfl mapl_nil))) Try.func39 NN_39 NB_39) (Calls.mono h ?_)
      rintro _ w25 ⟨r67, rfl, h⟩
      refine ⟨_, rfl, ?_⟩
      refine wpR_val (v := (Value.bool r67)) (w' := w25) rfl rfl rfl (x_pickT (v := (Value.bool r67)) rfl rfl hc65 rfl) ?_
      refine wpR_nil ?_
      exact ⟨r67, ⟨rfl, e1, e3, trivial⟩, h⟩
    · replace h := h.2 hc65
      refine wpR_pass (wantN rfl rfl rfl hc65) rfl rfl ?_
      refine wpR_pass (wantN rfl rfl rfl hc65) rfl rfl ?_
      refine wpR_pass (wantN rfl rfl rfl hc65) rfl rfl ?_
      refine wpR_val (v := (Value.bool false)) (w' := w24) rfl rfl rfl (x_pickF (v := (Value.bool false)) rfl rfl hc65 rfl) ?_
      refine wpR_nil ?_
      exact ⟨false, ⟨rfl, e1, e3, trivial⟩, h⟩
  clear h
  rintro c68 ρ w26 ⟨e76, e1, e3, -⟩ h
  replace h := hk c68 w26 h
  clear hk
  refine wpR_val (v := (Value.bool c68)) (w' := w26) rfl rfl rfl (x_move (v := (Value.bool c68)) rfl e76) ?_
  obtain ⟨J69, h, hk⟩ := h
  refine wpR_joinJ 4 (fun x ρ => ρ 81 = Value.bool x ∧ ρ 1 = (Value.pointer (some (Addr.mk b1 0 none))) ∧ ρ 3 = (Value.bool c36) ∧ True) (J69) ?_ ?_
  · clear hk
    rcases Bool.eq_false_or_eq_true (c68) with hc70 | hc70
    · replace h := h.1 hc70
      refine wpR_val (v := (Value.pointer (some ((Addr.mk b1 0 none).add 20)))) (w' := w26) (wantG rfl rfl rfl hc70) rfl rfl (x_fieldAddr rfl e1 FA_24_20) ?_
      obtain ⟨x71, q71, h⟩ := h
      refine wpR_val (v := (Value.int .i64 x71)) (w' := w26) (wantG rfl rfl rfl hc70) rfl rfl (x_load1 rfl rfl SH_3 q71) ?_
      refine wpR_enter (wantG rfl rfl rfl hc70) rfl rfl (x_call (vs := [(Value.int .i64 x71), (Value.int .i64 0), (Value.int .i64 1073741824)]) rfl rfl (mapl_cons rfl (mapl_cons rfl (mapl_cons rfl mapl_nil))) Try.func39 NN_39 NB_39) (Calls.mono h ?_)
      rintro _ w27 ⟨r72, rfl, h⟩
      refine ⟨_, rfl, ?_⟩
      refine wpR_val (v := (Value.bool r72)) (w' := w27) rfl rfl rfl (x_pickT (v := (Value.bool r72)) rfl rfl hc70 rfl) ?_
      refine wpR_nil ?_
      exact ⟨r72, ⟨rfl, e1, e3, trivial⟩, h⟩
    · replace h := h.2 hc70
      refine wpR_pass (wantN rfl rfl rfl hc70) rfl rfl ?_
      refine wpR_pass (wantN rfl rfl rfl hc70) rfl rfl ?_
      refine wpR_pass (wantN rfl rfl rfl hc70) rfl rfl ?_
      refine wpR_val (v := (Value.bool false)) (w' := w26) rfl rfl rfl (x_pickF (v := (Value.bool false)) rfl rfl hc70 rfl) ?_
      refine wpR_nil ?_
      exact ⟨false, ⟨rfl, e1, e3, trivial⟩, h⟩
  clear h
  rintro c73 ρ w28 ⟨e81, e1, e3, -⟩ h
  replace h := hk c73 w28 h
  clear hk
  refine wpR_val (v := (Value.bool c73)) (w' := w28) rfl rfl rfl (x_move (v := (Value.bool c73)) rfl e81) ?_
  obtain ⟨J74, h, hk⟩ := h
  refine wpR_joinJ 4 (fun x ρ => ρ 86 = Value.bool x ∧ ρ 1 = (Value.pointer (some (Addr.mk b1 0 none))) ∧ ρ 3 = (Value.bool c36) ∧ True) (J74) ?_ ?_
  · clear hk
    rcases Bool.eq_false_or_eq_true (c73) with hc75 | hc75
    · replace h := h.1 hc75
      refine wpR_val (v := (Value.pointer (some ((Addr.mk b1 0 none).add 21)))) (w' := w28) (wantG rfl rfl rfl hc75) rfl rfl (x_fieldAddr rfl e1 FA_24_21) ?_
      obtain ⟨x76, q76, h⟩ := h
      refine wpR_val (v := (Value.int .i64 x76)) (w' := w28) (wantG rfl rfl rfl hc75) rfl rfl (x_load1 rfl rfl SH_3 q76) ?_
      refine wpR_enter (wantG rfl rfl rfl hc75) rfl rfl (x_call (vs := [(Value.int .i64 x76), (Value.int .i64 0), (Value.int .i64 1073741824)]) rfl rfl (mapl_cons rfl (mapl_cons rfl (mapl_cons rfl mapl_nil))) Try.func39 NN_39 NB_39) (Calls.mono h ?_)
      rintro _ w29 ⟨r77, rfl, h⟩
      refine ⟨_, rfl, ?_⟩
      refine wpR_val (v := (Value.bool r77)) (w' := w29) rfl rfl rfl (x_pickT (v := (Value.bool r77)) rfl rfl hc75 rfl) ?_
      refine wpR_nil ?_
      exact ⟨r77, ⟨rfl, e1, e3, trivial⟩, h⟩
    · replace h := h.2 hc75
      refine wpR_pass (wantN rfl rfl rfl hc75) rfl rfl ?_
      refine wpR_pass (wantN rfl rfl rfl hc75) rfl rfl ?_
      refine wpR_pass (wantN rfl rfl rfl hc75) rfl rfl ?_
      refine wpR_val (v := (Value.bool false)) (w' := w28) rfl rfl rfl (x_pickF (v := (Value.bool false)) rfl rfl hc75 rfl) ?_
      refine wpR_nil ?_
      exact ⟨false, ⟨rfl, e1, e3, trivial⟩, h⟩
  clear h
  rintro c78 ρ w30 ⟨e86, e1, e3, -⟩ h
  replace h := hk c78 w30 h
  clear hk
  refine wpR_val (v := (Value.bool c78)) (w' := w30) rfl rfl rfl (x_assign (v := (Value.bool c78)) rfl e86) ?_
  refine wpR_nil ?_
  refine wpC_seq ?_
  refine wpC_seq ?_
  refine wpC_cut (fun ρ => ρ 1 = (Value.pointer (some (Addr.mk b1 0 none))) ∧ ρ 3 = (Value.bool c36) ∧ ρ 4 = (Value.bool c78) ∧ True) ⟨e1, e3, rfl, trivial⟩ ?_
  rintro ρ ⟨e1, e3, e4, -⟩
  refine wpC_region ?_
  refine wpR_val (v := (Value.bool c36)) (w' := w30) rfl rfl rfl (x_move (v := (Value.bool c36)) rfl e3) ?_
  refine wpR_val (v := (Value.bool (!c36))) (w' := w30) rfl rfl rfl (x_not rfl rfl) ?_
  refine wpR_val (v := (Value.bool (!c36))) (w' := w30) rfl rfl rfl (x_move (v := (Value.bool (!c36))) rfl rfl) ?_
  refine wpR_joinJ 3 (fun (_ : Unit) ρ => ρ 92 = Value.bool ((!c36) || (!c78)) ∧ ρ 1 = (Value.pointer (some (Addr.mk b1 0 none))) ∧ True) (fun _ w => w30 = w) ?_ ?_
  · clear h
    rcases Bool.eq_false_or_eq_true (!c36) with hc80 | hc80
    · skip
      refine wpR_pass (wantN rfl rfl rfl hc80) rfl rfl ?_
      refine wpR_pass (wantN rfl rfl rfl hc80) rfl rfl ?_
      refine wpR_val (v := (Value.bool true)) (w' := w30) rfl rfl rfl (x_pickT (v := (Value.bool true)) rfl rfl hc80 rfl) ?_
      refine wpR_nil ?_
      exact ⟨(), ⟨(by rw [hc80]; rfl), e1, trivial⟩, rfl⟩
    · skip
      refine wpR_val (v := (Value.bool c78)) (w' := w30) (wantG rfl rfl rfl hc80) rfl rfl (x_move (v := (Value.bool c78)) rfl e4) ?_
      refine wpR_val (v := (Value.bool (!c78))) (w' := w30) (wantG rfl rfl rfl hc80) rfl rfl (x_not rfl rfl) ?_
      refine wpR_val (v := (Value.bool (!c78))) (w' := w30) rfl rfl rfl (x_pickF (v := (Value.bool (!c78))) rfl rfl hc80 rfl) ?_
      refine wpR_nil ?_
      exact ⟨(), ⟨(by rw [hc80]; rfl), e1, trivial⟩, rfl⟩
  rintro _ ρ wj ⟨e92, e1, -⟩ rfl
  refine wpR_val (v := (Value.bool ((!c36) || (!c78)))) (w' := w30) rfl rfl rfl (x_move (v := (Value.bool ((!c36) || (!c78)))) rfl e92) ?_
  obtain ⟨J81, h, hk⟩ := h
  refine wpR_joinJ 5 (fun x ρ => ρ 98 = Value.bool x ∧ ρ 1 = (Value.pointer (some (Addr.mk b1 0 none))) ∧ True) (J81) ?_ ?_
  · clear hk
    rcases Bool.eq_false_or_eq_true ((!c36) || (!c78)) with hc82 | hc82
    · replace h := h.1 hc82
      refine wpR_pass (wantN rfl rfl rfl hc82) rfl rfl ?_
      refine wpR_pass (wantN rfl rfl rfl hc82) rfl rfl ?_
      refine wpR_pass (wantN rfl rfl rfl hc82) rfl rfl ?_
      refine wpR_pass (wantN rfl rfl rfl hc82) rfl rfl ?_
      refine wpR_val (v := (Value.bool true)) (w' := w30) rfl rfl rfl (x_pickT (v := (Value.bool true)) rfl rfl hc82 rfl) ?_
      refine wpR_nil ?_
      exact ⟨true, ⟨rfl, e1, trivial⟩, h⟩
    · replace h := h.2 hc82
      refine wpR_val (v := (Value.pointer (some ((Addr.mk b1 0 none).add 0)))) (w' := w30) (wantG rfl rfl rfl hc82) rfl rfl (x_fieldAddr rfl e1 FA_24_0) ?_
      obtain ⟨x83, q83, h⟩ := h
      refine wpR_val (v := (Value.string x83)) (w' := w30) (wantG rfl rfl rfl hc82) rfl rfl (x_load1 rfl rfl SH_9 q83) ?_
      refine wpR_enter (wantG rfl rfl rfl hc82) rfl rfl (x_call (vs := [(Value.string x83)]) rfl rfl (mapl_cons rfl mapl_nil) Try.func40 NN_40 NB_40) (Calls.mono h ?_)
      rintro _ w31 ⟨r84, rfl, h⟩
      refine ⟨_, rfl, ?_⟩
      refine wpR_val (v := (Value.bool (!r84))) (w' := w31) (wantG rfl rfl rfl hc82) rfl rfl (x_not rfl rfl) ?_
      refine wpR_val (v := (Value.bool (!r84))) (w' := w31) rfl rfl rfl (x_pickF (v := (Value.bool (!r84))) rfl rfl hc82 rfl) ?_
      refine wpR_nil ?_
      exact ⟨!r84, ⟨rfl, e1, trivial⟩, h⟩
  clear h
  rintro c85 ρ w32 ⟨e98, e1, -⟩ h
  replace h := hk c85 w32 h
  clear hk
  refine wpR_val (v := (Value.bool c85)) (w' := w32) rfl rfl rfl (x_move (v := (Value.bool c85)) rfl e98) ?_
  obtain ⟨J86, h, hk⟩ := h
  refine wpR_joinJ 9 (fun x ρ => ρ 108 = Value.bool x ∧ ρ 1 = (Value.pointer (some (Addr.mk b1 0 none))) ∧ True) (fun x w => J86 x ∧ w32 = w) ?_ ?_
  · clear hk
    rcases Bool.eq_false_or_eq_true (c85) with hc87 | hc87
    · replace h := h.1 hc87
      refine wpR_pass (wantN rfl rfl rfl hc87) rfl rfl ?_
      refine wpR_pass (wantN rfl rfl rfl hc87) rfl rfl ?_
      refine wpR_pass (wantN rfl rfl rfl hc87) rfl rfl ?_
      refine wpR_pass (wantN rfl rfl rfl hc87) rfl rfl ?_
      refine wpR_pass (wantU rfl rfl rfl) rfl rfl ?_
      refine wpR_pass (wantU rfl rfl rfl) rfl rfl ?_
      refine wpR_pass (wantU rfl rfl rfl) rfl rfl ?_
      refine wpR_pass (wantN rfl rfl rfl hc87) rfl rfl ?_
      refine wpR_val (v := (Value.bool true)) (w' := w32) rfl rfl rfl (x_pickT (v := (Value.bool true)) rfl rfl hc87 rfl) ?_
      refine wpR_nil ?_
      exact ⟨true, ⟨rfl, e1, trivial⟩, h, rfl⟩
    · replace h := h.2 hc87
      refine wpR_val (v := (Value.pointer (some ((Addr.mk b1 0 none).add 1)))) (w' := w32) (wantG rfl rfl rfl hc87) rfl rfl (x_fieldAddr rfl e1 FA_24_1) ?_
      obtain ⟨x88, q88, h⟩ := h
      refine wpR_val (v := (Value.int .i64 x88)) (w' := w32) (wantG rfl rfl rfl hc87) rfl rfl (x_load1 rfl rfl SH_3 q88) ?_
      refine wpR_val (v := (Value.bool (decide (x88 = 0)))) (w' := w32) (wantG rfl rfl rfl hc87) rfl rfl (x_eql rfl rfl rfl) ?_
      refine wpR_val (v := (Value.bool (decide (x88 = 0)))) (w' := w32) (wantG rfl rfl rfl hc87) rfl rfl (x_move (v := (Value.bool (decide (x88 = 0)))) rfl rfl) ?_
      obtain ⟨J89, h, hk⟩ := h
      refine wpR_joinJ 4 (fun x ρ => ρ 107 = Value.bool x ∧ ρ 1 = (Value.pointer (some (Addr.mk b1 0 none))) ∧ ρ 99 = (Value.bool c85) ∧ True) (fun x w => J89 x ∧ w32 = w) ?_ ?_
      · clear hk
        rcases Bool.eq_false_or_eq_true (decide (x88 = 0)) with hc90 | hc90
        · replace h := h.1 hc90
          refine wpR_val (v := (Value.pointer (some ((Addr.mk b1 0 none).add 2)))) (w' := w32) (wantG rfl rfl rfl hc90) rfl rfl (x_fieldAddr rfl e1 FA_24_2) ?_
          obtain ⟨x91, q91, h⟩ := h
          refine wpR_val (v := (Value.int .i64 x91)) (w' := w32) (wantG rfl rfl rfl hc90) rfl rfl (x_load1 rfl rfl SH_3 q91) ?_
          refine wpR_val (v := (Value.bool (!decide (x91 = 0)))) (w' := w32) (wantG rfl rfl rfl hc90) rfl rfl (x_neq rfl rfl rfl) ?_
          refine wpR_val (v := (Value.bool (!decide (x91 = 0)))) (w' := w32) (wantG rfl rfl rfl hc87) rfl rfl (x_pickT (v := (Value.bool (!decide (x91 = 0)))) rfl rfl hc90 rfl) ?_
          refine wpR_nil ?_
          exact ⟨!decide (x91 = 0), ⟨rfl, e1, rfl, trivial⟩, h, rfl⟩
        · replace h := h.2 hc90
          refine wpR_pass (wantN rfl rfl rfl hc90) rfl rfl ?_
          refine wpR_pass (wantN rfl rfl rfl hc90) rfl rfl ?_
          refine wpR_pass (wantN rfl rfl rfl hc90) rfl rfl ?_
          refine wpR_val (v := (Value.bool false)) (w' := w32) (wantG rfl rfl rfl hc87) rfl rfl (x_pickF (v := (Value.bool false)) rfl rfl hc90 rfl) ?_
          refine wpR_nil ?_
          exact ⟨false, ⟨rfl, e1, rfl, trivial⟩, h, rfl⟩
      clear h
      rintro c92 ρ wj ⟨e107, e1, e99, -⟩ ⟨h, rfl⟩
      replace h := hk c92 h
      clear hk
      refine wpR_val (v := (Value.bool c92)) (w' := w32) rfl rfl rfl (x_pickF (v := (Value.bool c92)) rfl e99 hc87 e107) ?_
      refine wpR_nil ?_
      exact ⟨c92, ⟨rfl, e1, trivial⟩, h, rfl⟩
  clear h
  rintro c93 ρ wj ⟨e108, e1, -⟩ ⟨h, rfl⟩
  replace h := hk c93 h
  clear hk
  refine wpR_nil ?_
  refine wpC_cond (b := c93) e108 (fun hc94 => ?_) (fun hc94 => ?_)
  · replace h := h.1 hc94
    refine wpC_seq ?_
    refine wpC_region ?_
    refine wpR_val (v := (Value.bool false)) (w' := w32) rfl rfl rfl (x_assign (v := (Value.bool false)) rfl rfl) ?_
    refine wpR_nil ?_
    refine wpC_ret ?_
    exact ⟨.inl rfl, fun a ha => ⟨_, results_rep1 rfl ha rfl, false, rfl, h⟩⟩
  · replace h := h.2 hc94
    refine wpC_skip ?_
    refine wpC_seq ?_
    refine wpC_seq ?_
    refine wpC_region ?_
    refine wpR_val (v := (Value.pointer (some ((Addr.mk b1 0 none).add 10)))) (w' := w32) rfl rfl rfl (x_fieldAddr rfl e1 FA_24_10) ?_
    obtain ⟨x95, q95, h⟩ := h
    refine wpR_val (v := (Value.int .i64 x95)) (w' := w32) rfl rfl rfl (x_load1 rfl rfl SH_3 q95) ?_
    refine wpR_val (v := (Value.bool (decide (x95 = 0)))) (w' := w32) rfl rfl rfl (x_eql rfl rfl rfl) ?_
    refine wpR_nil ?_
    refine wpC_cond (b := decide (x95 = 0)) rfl (fun hc96 => ?_) (fun hc96 => ?_)
    · replace h := h.1 hc96
      refine wpC_seq ?_
      refine wpC_cut (fun ρ => ρ 1 = (Value.pointer (some (Addr.mk b1 0 none))) ∧ True) ⟨e1, trivial⟩ ?_
      rintro ρ ⟨e1, -⟩
      refine wpC_region ?_
      refine wpR_val (v := (Value.pointer (some ((Addr.mk b1 0 none).add 11)))) (w' := w32) rfl rfl rfl (x_fieldAddr rfl e1 FA_24_11) ?_
      obtain ⟨x97, q97, h⟩ := h
      refine wpR_val (v := (Value.int .i64 x97)) (w' := w32) rfl rfl rfl (x_load1 rfl rfl SH_3 q97) ?_
      refine wpR_val (v := (Value.bool (decide (x97 = 0)))) (w' := w32) rfl rfl rfl (x_eql rfl rfl rfl) ?_
      refine wpR_val (v := (Value.bool (decide (x97 = 0)))) (w' := w32) rfl rfl rfl (x_move (v := (Value.bool (decide (x97 = 0)))) rfl rfl) ?_
      obtain ⟨J98, h, hk⟩ := h
      refine wpR_joinJ 5 (fun x ρ => ρ 120 = Value.bool x ∧ True) (fun x w => J98 x ∧ w32 = w) ?_ ?_
      · clear hk
        rcases Bool.eq_false_or_eq_true (decide (x97 = 0)) with hc99 | hc99
        · replace h := h.1 hc99
          refine wpR_val (v := (Value.pointer (some ((Addr.mk b1 0 none).add 12)))) (w' := w32) (wantG rfl rfl rfl hc99) rfl rfl (x_fieldAddr rfl e1 FA_24_12) ?_
          obtain ⟨x100, q100, h⟩ := h
          refine wpR_val (v := (Sl.v x100)) (w' := w32) (wantG rfl rfl rfl hc99) rfl rfl (x_load1 rfl rfl SH_22 q100) ?_
          refine wpR_val (v := (Value.int .i64 (x100.len : Int))) (w' := w32) (wantG rfl rfl rfl hc99) rfl rfl (x_lenS (s := x100) rfl rfl isSliceT_22) ?_
          refine wpR_val (v := (Value.bool (decide ((x100.len : Int) = 0)))) (w' := w32) (wantG rfl rfl rfl hc99) rfl rfl (x_eql rfl rfl rfl) ?_
          refine wpR_val (v := (Value.bool (decide ((x100.len : Int) = 0)))) (w' := w32) rfl rfl rfl (x_pickT (v := (Value.bool (decide ((x100.len : Int) = 0)))) rfl rfl hc99 rfl) ?_
          refine wpR_nil ?_
          exact ⟨decide ((x100.len : Int) = 0), ⟨rfl, trivial⟩, h, rfl⟩
        · replace h := h.2 hc99
          refine wpR_pass (wantN rfl rfl rfl hc99) rfl rfl ?_
          refine wpR_pass (wantN rfl rfl rfl hc99) rfl rfl ?_
          refine wpR_pass (wantN rfl rfl rfl hc99) rfl rfl ?_
          refine wpR_pass (wantN rfl rfl rfl hc99) rfl rfl ?_
          refine wpR_val (v := (Value.bool false)) (w' := w32) rfl rfl rfl (x_pickF (v := (Value.bool false)) rfl rfl hc99 rfl) ?_
          refine wpR_nil ?_
          exact ⟨false, ⟨rfl, trivial⟩, h, rfl⟩
      clear h
      rintro c101 ρ wj ⟨e120, -⟩ ⟨h, rfl⟩
      replace h := hk c101 h
      clear hk
      refine wpR_val (v := (Value.bool c101)) (w' := w32) rfl rfl rfl (x_assign (v := (Value.bool c101)) rfl e120) ?_
      refine wpR_nil ?_
      refine wpC_ret ?_
      exact ⟨.inl rfl, fun a ha => ⟨_, results_rep1 rfl ha rfl, c101, rfl, h⟩⟩
    · replace h := h.2 hc96
      refine wpC_skip ?_
      refine wpC_seq ?_
      refine wpC_seq ?_
      refine wpC_cut (fun ρ => ρ 1 = (Value.pointer (some (Addr.mk b1 0 none))) ∧ True) ⟨e1, trivial⟩ ?_
      rintro ρ ⟨e1, -⟩
      refine wpC_region ?_
      refine wpR_val (v := (Value.pointer (some ((Addr.mk b1 0 none).add 12)))) (w' := w32) rfl rfl rfl (x_fieldAddr rfl e1 FA_24_12) ?_
      obtain ⟨x102, q102, h⟩ := h
      refine wpR_val (v := (Sl.v x102)) (w' := w32) rfl rfl rfl (x_load1 rfl rfl SH_22 q102) ?_
      refine wpR_val (v := (Value.int .i64 (x102.len : Int))) (w' := w32) rfl rfl rfl (x_lenS (s := x102) rfl rfl isSliceT_22) ?_
      refine wpR_val (v := (Value.bool (decide ((x102.len : Int) < 1)))) (w' := w32) rfl rfl rfl (x_lss rfl rfl rfl) ?_
      refine wpR_val (v := (Value.bool (decide ((x102.len : Int) < 1)))) (w' := w32) rfl rfl rfl (x_move (v := (Value.bool (decide ((x102.len : Int) < 1)))) rfl rfl) ?_
      obtain ⟨J103, h, hk⟩ := h
      refine wpR_joinJ 5 (fun x ρ => ρ 130 = Value.bool x ∧ ρ 1 = (Value.pointer (some (Addr.mk b1 0 none))) ∧ True) (fun x w => J103 x ∧ w32 = w) ?_ ?_
      · clear hk
        rcases Bool.eq_false_or_eq_true (decide ((x102.len : Int) < 1)) with hc104 | hc104
        · replace h := h.1 hc104
          refine wpR_pass (wantN rfl rfl rfl hc104) rfl rfl ?_
          refine wpR_pass (wantN rfl rfl rfl hc104) rfl rfl ?_
          refine wpR_pass (wantN rfl rfl rfl hc104) rfl rfl ?_
          refine wpR_pass (wantN rfl rfl rfl hc104) rfl rfl ?_
          refine wpR_val (v := (Value.bool true)) (w' := w32) rfl rfl rfl (x_pickT (v := (Value.bool true)) rfl rfl hc104 rfl) ?_
          refine wpR_nil ?_
          exact ⟨true, ⟨rfl, e1, trivial⟩, h, rfl⟩
        · replace h := h.2 hc104
          refine wpR_val (v := (Value.pointer (some ((Addr.mk b1 0 none).add 12)))) (w' := w32) (wantG rfl rfl rfl hc104) rfl rfl (x_fieldAddr rfl e1 FA_24_12) ?_
          obtain ⟨x105, q105, h⟩ := h
          refine wpR_val (v := (Sl.v x105)) (w' := w32) (wantG rfl rfl rfl hc104) rfl rfl (x_load1 rfl rfl SH_22 q105) ?_
          refine wpR_val (v := (Value.int .i64 (x105.len : Int))) (w' := w32) (wantG rfl rfl rfl hc104) rfl rfl (x_lenS (s := x105) rfl rfl isSliceT_22) ?_
          refine wpR_val (v := (Value.bool (decide (20 < (x105.len : Int))))) (w' := w32) (wantG rfl rfl rfl hc104) rfl rfl (x_gtr rfl rfl rfl) ?_
          refine wpR_val (v := (Value.bool (decide (20 < (x105.len : Int))))) (w' := w32) rfl rfl rfl (x_pickF (v := (Value.bool (decide (20 < (x105.len : Int))))) rfl rfl hc104 rfl) ?_
          refine wpR_nil ?_
          exact ⟨decide (20 < (x105.len : Int)), ⟨rfl, e1, trivial⟩, h, rfl⟩
      clear h
      rintro c106 ρ wj ⟨e130, e1, -⟩ ⟨h, rfl⟩
      replace h := hk c106 h
      clear hk
      refine wpR_nil ?_
      refine wpC_cond (b := c106) e130 (fun hc107 => ?_) (fun hc107 => ?_)
      · replace h := h.1 hc107
        refine wpC_seq ?_
        refine wpC_region ?_
        refine wpR_val (v := (Value.bool false)) (w' := w32) rfl rfl rfl (x_assign (v := (Value.bool false)) rfl rfl) ?_
        refine wpR_nil ?_
        refine wpC_ret ?_
        exact ⟨.inl rfl, fun a ha => ⟨_, results_rep1 rfl ha rfl, false, rfl, h⟩⟩
      · replace h := h.2 hc107
        refine wpC_skip ?_
        refine wpC_seq ?_
        refine wpC_seq ?_
        refine wpC_region ?_
        refine wpR_val (v := (Value.int .i64 0)) (w' := w32) rfl rfl rfl (x_assign (v := (Value.int .i64 0)) rfl rfl) ?_
        refine wpR_nil ?_
        refine wpC_block ?_
        obtain ⟨I108, μ108, hI108, hr108⟩ := h
        refine wpC_loop (fun (x : Int) ρ => ρ 5 = (Value.int .i64 x) ∧ ρ 1 = (Value.pointer (some (Addr.mk b1 0 none))) ∧ True) I108 μ108 0 ⟨rfl, e1, trivial⟩ hI108 ?_
        rintro l108 ρ w33 ⟨e5, e1, -⟩ h
        replace h := hr108 l108 w33 h
        clear hr108 hI108
        refine wpC_seq ?_
        refine wpC_seq ?_
        refine wpC_region ?_
        refine wpR_val (v := (Value.int .i64 l108)) (w' := w33) rfl rfl rfl (x_move (v := (Value.int .i64 l108)) rfl e5) ?_
        refine wpR_val (v := (Value.pointer (some ((Addr.mk b1 0 none).add 12)))) (w' := w33) rfl rfl rfl (x_fieldAddr rfl e1 FA_24_12) ?_
        obtain ⟨x109, q109, h⟩ := h
        refine wpR_val (v := (Sl.v x109)) (w' := w33) rfl rfl rfl (x_load1 rfl rfl SH_22 q109) ?_
        refine wpR_val (v := (Value.int .i64 (x109.len : Int))) (w' := w33) rfl rfl rfl (x_lenS (s := x109) rfl rfl isSliceT_22) ?_
        refine wpR_val (v := (Value.bool (decide (l108 < (x109.len : Int))))) (w' := w33) rfl rfl rfl (x_lss rfl rfl rfl) ?_
        refine wpR_nil ?_
        refine wpC_cond (b := decide (l108 < (x109.len : Int))) rfl (fun hc110 => ?_) (fun hc110 => ?_)
        · replace h := h.1 hc110
          refine wpC_skip ?_
          refine wpC_seq ?_
          refine wpC_block ?_
          refine wpC_seq ?_
          refine wpC_cut (fun ρ => ρ 1 = (Value.pointer (some (Addr.mk b1 0 none))) ∧ ρ 5 = (Value.int .i64 l108) ∧ True) ⟨e1, e5, trivial⟩ ?_
          rintro ρ ⟨e1, e5, -⟩
          refine wpC_region ?_
          refine wpR_val (v := (Value.pointer (some ((Addr.mk b1 0 none).add 12)))) (w' := w33) rfl rfl rfl (x_fieldAddr rfl e1 FA_24_12) ?_
          obtain ⟨x111, q111, h⟩ := h
          refine wpR_val (v := (Sl.v x111)) (w' := w33) rfl rfl rfl (x_load1 rfl rfl SH_22 q111) ?_
          refine wpR_val (v := (Value.int .i64 l108)) (w' := w33) rfl rfl rfl (x_move (v := (Value.int .i64 l108)) rfl e5) ?_
          obtain ⟨q112, z112, r112, h⟩ := h
          generalize hp112 : z112.add ((l108 : Int).toNat * 1) = p112 at h
          refine wpR_val (v := (Value.pointer (some p112))) (w' := w33) rfl rfl rfl ((x_indexAddr (s := x111) rfl rfl rfl ES_22 q112 r112).trans (by rw [hp112])) ?_
          obtain ⟨x113, q113, h⟩ := h
          refine wpR_val (v := (Value.string x113)) (w' := w33) rfl rfl rfl (x_load1 rfl rfl SH_9 q113) ?_
          refine wpR_enter rfl rfl rfl (x_call (vs := [(Value.string x113)]) rfl rfl (mapl_cons rfl mapl_nil) Try.func40 NN_40 NB_40) (Calls.mono h ?_)
          rintro _ w34 ⟨r114, rfl, h⟩
          refine ⟨_, rfl, ?_⟩
          refine wpR_val (v := (Value.bool (!r114))) (w' := w34) rfl rfl rfl (x_not rfl rfl) ?_
          refine wpR_nil ?_
          refine wpC_cond (b := !r114) rfl (fun hc115 => ?_) (fun hc115 => ?_)
          · replace h := h.1 hc115
            refine wpC_seq ?_
            refine wpC_cut (fun ρ => True) trivial ?_
            rintro ρ -
            refine wpC_region ?_
            refine wpR_val (v := (Value.bool false)) (w' := w34) rfl rfl rfl (x_assign (v := (Value.bool false)) rfl rfl) ?_
            refine wpR_nil ?_
            refine wpC_ret ?_
            exact ⟨.inl rfl, fun a ha => ⟨_, results_rep1 rfl ha rfl, false, rfl, h⟩⟩
          · replace h := h.2 hc115
            refine wpC_skip ?_
            refine wpC_cut (fun ρ => ρ 1 = (Value.pointer (some (Addr.mk b1 0 none))) ∧ ρ 5 = (Value.int .i64 l108) ∧ True) ⟨e1, e5, trivial⟩ ?_
            rintro ρ ⟨e1, e5, -⟩
            refine wpC_region ?_
            refine wpR_val (v := (Value.int .i64 l108)) (w' := w34) rfl rfl rfl (x_move (v := (Value.int .i64 l108)) rfl e5) ?_
            refine wpR_val (v := (Value.int .i64 (IntKind.i64.wrap (l108 + 1)))) (w' := w34) rfl rfl rfl (x_add rfl rfl rfl) ?_
            refine wpR_val (v := (Value.int .i64 (IntKind.i64.wrap (l108 + 1)))) (w' := w34) rfl rfl rfl (x_assign (v := (Value.int .i64 (IntKind.i64.wrap (l108 + 1)))) rfl rfl) ?_
            refine wpR_nil ?_
            exact ⟨IntKind.i64.wrap (l108 + 1), ⟨rfl, e1, trivial⟩, h⟩
        · replace h := h.2 hc110
          refine wpC_exit ?_
          refine wpC_seq ?_
          refine wpC_cut (fun ρ => True) trivial ?_
          rintro ρ -
          refine wpC_region ?_
          refine wpR_val (v := (Value.bool true)) (w' := w33) rfl rfl rfl (x_assign (v := (Value.bool true)) rfl rfl) ?_
          refine wpR_nil ?_
          refine wpC_ret ?_
          exact ⟨.inl rfl, fun a ha => ⟨_, results_rep1 rfl ha rfl, true, rfl, h⟩⟩

/-- profile.AtMost$1 -/
def F29 (p0 : ByteArray) (c1 : Addr) (w0 : World) (K : Bool → World → Prop) : Prop :=
  ld Sl.v (c1.add 12) w0 fun x1 =>
  callC Try.prog 27 #[(Sl.v x1), (Value.string p0)] (fun (r : Bool) => (Value.bool r)) w0 fun r2 w1 =>
  K (!r2) w1
set_option maxRecDepth 100000 in
theorem D29 (p0 : ByteArray) (c1 : Addr) (w0 : World) (K : Bool → World → Prop) (h : F29 p0 c1 w0 K) : callC Try.prog 29 #[(Value.string p0), (Value.pointer (some c1))] (fun (r : Bool) => (Value.bool r)) w0 K := by
  unfold F29 at h
  refine calls_of_wpC Try.func29 rfl 9 rfl (by simp) ?_
  intro ρ hρ
  have e0 : ρ 0 = (Value.string p0) := hρ 0
  have e1 : ρ 1 = (Value.pointer (some c1)) := hρ 1
  clear hρ
  refine wpC_seq ?_
  refine wpC_region ?_
  refine wpR_val (v := (Value.bool false)) (w' := w0) rfl rfl rfl (x_assign (v := (Value.bool false)) rfl rfl) ?_
  refine wpR_nil ?_
  refine wpC_seq ?_
  refine wpC_cut (fun ρ => ρ 0 = (Value.string p0) ∧ ρ 1 = (Value.pointer (some c1)) ∧ True) ⟨e0, e1, trivial⟩ ?_
  rintro ρ ⟨e0, e1, -⟩
  refine wpC_region ?_
  refine wpR_val (v := (Value.pointer (some (c1.add 12)))) (w' := w0) rfl rfl rfl (x_fieldAddr rfl e1 FA_24_12) ?_
  obtain ⟨x1, q1, h⟩ := h
  refine wpR_val (v := (Sl.v x1)) (w' := w0) rfl rfl rfl (x_load1 rfl rfl SH_22 q1) ?_
  refine wpR_val (v := (Value.string p0)) (w' := w0) rfl rfl rfl (x_move (v := (Value.string p0)) rfl e0) ?_
  refine wpR_enter rfl rfl rfl (x_call (vs := [(Sl.v x1), (Value.string p0)]) rfl rfl (mapl_cons rfl (mapl_cons rfl mapl_nil)) Try.func27 NN_27 NB_27) (Calls.mono h ?_)
  rintro _ w1 ⟨r2, rfl, h⟩
  refine ⟨_, rfl, ?_⟩
  refine wpR_val (v := (Value.bool (!r2))) (w' := w1) rfl rfl rfl (x_not rfl rfl) ?_
  refine wpR_val (v := (Value.bool (!r2))) (w' := w1) rfl rfl rfl (x_assign (v := (Value.bool (!r2))) rfl rfl) ?_
  refine wpR_nil ?_
  refine wpC_ret ?_
  exact ⟨.inl rfl, fun a ha => ⟨_, results_rep1 rfl ha rfl, !r2, rfl, h⟩⟩

/-- slices.ContainsFunc[[]string,string] -/
def F30 (p0 : Sl) (p1 : Value) (w0 : World) (K : Bool → World → Prop) : Prop :=
  callC Try.prog 41 #[(Sl.v p0), p1] (fun (r : Int) => (Value.int .i64 r)) w0 fun r1 w1 =>
  K (decide (0 ≤ r1)) w1
set_option maxRecDepth 100000 in
theorem D30 (p0 : Sl) (p1 : Value) (w0 : World) (K : Bool → World → Prop) (h : F30 p0 p1 w0 K) : callC Try.prog 30 #[(Sl.v p0), p1] (fun (r : Bool) => (Value.bool r)) w0 K := by
  unfold F30 at h
  refine calls_of_wpC Try.func30 rfl 9 rfl (by simp) ?_
  intro ρ hρ
  have e0 : ρ 0 = (Sl.v p0) := hρ 0
  have e1 : ρ 1 = p1 := hρ 1
  clear hρ
  refine wpC_seq ?_
  refine wpC_region ?_
  refine wpR_val (v := (Value.bool false)) (w' := w0) rfl rfl rfl (x_assign (v := (Value.bool false)) rfl rfl) ?_
  refine wpR_nil ?_
  refine wpC_seq ?_
  refine wpC_cut (fun ρ => ρ 0 = (Sl.v p0) ∧ ρ 1 = p1 ∧ True) ⟨e0, e1, trivial⟩ ?_
  rintro ρ ⟨e0, e1, -⟩
  refine wpC_region ?_
  refine wpR_val (v := (Sl.v p0)) (w' := w0) rfl rfl rfl (x_move (v := (Sl.v p0)) rfl e0) ?_
  refine wpR_val (v := p1) (w' := w0) rfl rfl rfl (x_move (v := p1) rfl e1) ?_
  refine wpR_enter rfl rfl rfl (x_call (vs := [(Sl.v p0), p1]) rfl rfl (mapl_cons rfl (mapl_cons rfl mapl_nil)) Try.func41 NN_41 NB_41) (Calls.mono h ?_)
  rintro _ w1 ⟨r1, rfl, h⟩
  refine ⟨_, rfl, ?_⟩
  refine wpR_val (v := (Value.bool (decide (0 ≤ r1)))) (w' := w1) rfl rfl rfl (x_geq rfl rfl rfl) ?_
  refine wpR_val (v := (Value.bool (decide (0 ≤ r1)))) (w' := w1) rfl rfl rfl (x_assign (v := (Value.bool (decide (0 ≤ r1)))) rfl rfl) ?_
  refine wpR_nil ?_
  refine wpC_ret ?_
  exact ⟨.inl rfl, fun a ha => ⟨_, results_rep1 rfl ha rfl, decide (0 ≤ r1), rfl, h⟩⟩

/-- linguaref13.Numbers -/
def F31 (p0_0 : ByteArray) (p0_1 : Int) (p0_2 : Int) (p0_3 : Int) (p0_4 : Bool) (p0_5 : Int) (p0_6 : Bool) (p0_7 : Bool) (p0_8 : Int) (p0_9 : Int) (p0_10 : Int) (p0_11 : Int) (p0_12 : Sl) (p0_13 : Int) (p0_14 : Int) (p0_15 : Int) (p0_16 : Int) (p0_17 : Bool) (p0_18 : Int) (p0_19 : Int) (p0_20 : Int) (p0_21 : Int) (w0 : World) (K : Sl → World → Prop) : Prop :=
  nw 24 (A23 p0_0 p0_1 p0_2 p0_3 p0_4 p0_5 p0_6 p0_7 p0_8 p0_9 p0_10 p0_11 p0_12 p0_13 p0_14 p0_15 p0_16 p0_17 p0_18 p0_19 p0_20 p0_21) w0 fun b1 w1 =>
  jn (fun (J3 : Sl → World → Prop) => tk w1 fun w2 =>
    ld (Value.int .i64) ((Addr.mk b1 0 none).add 1) w2 fun x4 =>
    ld (Value.int .i64) ((Addr.mk b1 0 none).add 3) w2 fun x5 =>
    ld Value.bool ((Addr.mk b1 0 none).add 4) w2 fun x6 =>
    ld (Value.int .i64) ((Addr.mk b1 0 none).add 5) w2 fun x7 =>
    ld Value.bool ((Addr.mk b1 0 none).add 6) w2 fun x8 =>
    ld Value.bool ((Addr.mk b1 0 none).add 7) w2 fun x9 =>
    ld (Value.int .i64) ((Addr.mk b1 0 none).add 8) w2 fun x10 =>
    ld (Value.int .i64) ((Addr.mk b1 0 none).add 9) w2 fun x11 =>
    ld (Value.int .i64) ((Addr.mk b1 0 none).add 10) w2 fun x12 =>
    ld (Value.int .i64) ((Addr.mk b1 0 none).add 11) w2 fun x13 =>
    ld (Value.int .i64) ((Addr.mk b1 0 none).add 16) w2 fun x14 =>
    callC Try.prog 42 #[(Value.bool x6)] (fun (r : Int) => (Value.int .i64 r)) w2 fun r15 w3 =>
    (w3.cell? ((Addr.mk b1 0 none).add 16) = some (Value.int .i64 x14)) ∧
    (w3.cell? ((Addr.mk b1 0 none).add 11) = some (Value.int .i64 x13)) ∧
    (w3.cell? ((Addr.mk b1 0 none).add 10) = some (Value.int .i64 x12)) ∧
    (w3.cell? ((Addr.mk b1 0 none).add 9) = some (Value.int .i64 x11)) ∧
    (w3.cell? ((Addr.mk b1 0 none).add 8) = some (Value.int .i64 x10)) ∧
    (w3.cell? ((Addr.mk b1 0 none).add 7) = some (Value.bool x9)) ∧
    (w3.cell? ((Addr.mk b1 0 none).add 6) = some (Value.bool x8)) ∧
    (w3.cell? ((Addr.mk b1 0 none).add 5) = some (Value.int .i64 x7)) ∧
    (w3.cell? ((Addr.mk b1 0 none).add 3) = some (Value.int .i64 x5)) ∧
    (w3.cell? ((Addr.mk b1 0 none).add 1) = some (Value.int .i64 x4)) ∧
    callC Try.prog 42 #[(Value.bool x8)] (fun (r : Int) => (Value.int .i64 r)) w3 fun r16 w4 =>
    (w4.cell? ((Addr.mk b1 0 none).add 16) = some (Value.int .i64 x14)) ∧
    (w4.cell? ((Addr.mk b1 0 none).add 11) = some (Value.int .i64 x13)) ∧
    (w4.cell? ((Addr.mk b1 0 none).add 10) = some (Value.int .i64 x12)) ∧
    (w4.cell? ((Addr.mk b1 0 none).add 9) = some (Value.int .i64 x11)) ∧
    (w4.cell? ((Addr.mk b1 0 none).add 8) = some (Value.int .i64 x10)) ∧
    (w4.cell? ((Addr.mk b1 0 none).add 7) = some (Value.bool x9)) ∧
    (w4.cell? ((Addr.mk b1 0 none).add 5) = some (Value.int .i64 x7)) ∧
    (w4.cell? ((Addr.mk b1 0 none).add 3) = some (Value.int .i64 x5)) ∧
    (w4.cell? ((Addr.mk b1 0 none).add 1) = some (Value.int .i64 x4)) ∧
    callC Try.prog 42 #[(Value.bool x9)] (fun (r : Int) => (Value.int .i64 r)) w4 fun r17 w5 =>
    (w5.cell? ((Addr.mk b1 0 none).add 16) = some (Value.int .i64 x14)) ∧
    (w5.cell? ((Addr.mk b1 0 none).add 11) = some (Value.int .i64 x13)) ∧
    (w5.cell? ((Addr.mk b1 0 none).add 10) = some (Value.int .i64 x12)) ∧
    (w5.cell? ((Addr.mk b1 0 none).add 9) = some (Value.int .i64 x11)) ∧
    (w5.cell? ((Addr.mk b1 0 none).add 8) = some (Value.int .i64 x10)) ∧
    (w5.cell? ((Addr.mk b1 0 none).add 5) = some (Value.int .i64 x7)) ∧
    (w5.cell? ((Addr.mk b1 0 none).add 3) = some (Value.int .i64 x5)) ∧
    (w5.cell? ((Addr.mk b1 0 none).add 1) = some (Value.int .i64 x4)) ∧
    nw 3 #[(Value.int .i64 x4), (Value.int .i64 x5), (Value.int .i64 r15), (Value.int .i64 x7), (Value.int .i64 r16), (Value.int .i64 r17), (Value.int .i64 x10), (Value.int .i64 x11), (Value.int .i64 x12), (Value.int .i64 x13), (Value.int .i64 x14)] w5 fun b18 w6 =>
    J3 (⟨some ⟨b18, 0, none⟩, 11, 11⟩ : Sl) w6
  )
  fun l19 w7 =>
  K l19 w7
set_option maxRecDepth 100000 in
theorem D31 (p0_0 : ByteArray) (p0_1 : Int) (p0_2 : Int) (p0_3 : Int) (p0_4 : Bool) (p0_5 : Int) (p0_6 : Bool) (p0_7 : Bool) (p0_8 : Int) (p0_9 : Int) (p0_10 : Int) (p0_11 : Int) (p0_12 : Sl) (p0_13 : Int) (p0_14 : Int) (p0_15 : Int) (p0_16 : Int) (p0_17 : Bool) (p0_18 : Int) (p0_19 : Int) (p0_20 : Int) (p0_21 : Int) (w0 : World) (K : Sl → World → Prop) (h : F31 p0_0 p0_1 p0_2 p0_3 p0_4 p0_5 p0_6 p0_7 p0_8 p0_9 p0_10 p0_11 p0_12 p0_13 p0_14 p0_15 p0_16 p0_17 p0_18 p0_19 p0_20 p0_21 w0 K) : callC Try.prog 31 #[(V23 p0_0 p0_1 p0_2 p0_3 p0_4 p0_5 p0_6 p0_7 p0_8 p0_9 p0_10 p0_11 p0_12 p0_13 p0_14 p0_15 p0_16 p0_17 p0_18 p0_19 p0_20 p0_21)] (fun (r : Sl) => (Sl.v r)) w0 K := by
  unfold F31 at h
  refine calls_of_wpC Try.func31 rfl 29 rfl (by simp) ?_
  intro ρ hρ
  have e0 : ρ 0 = (V23 p0_0 p0_1 p0_2 p0_3 p0_4 p0_5 p0_6 p0_7 p0_8 p0_9 p0_10 p0_11 p0_12 p0_13 p0_14 p0_15 p0_16 p0_17 p0_18 p0_19 p0_20 p0_21) := hρ 0
  clear hρ
  refine wpC_seq ?_
  refine wpC_region ?_
  obtain ⟨b1, hb1⟩ : ∃ u, u = w0.heap.size := ⟨_, rfl⟩
  obtain ⟨w1, hw1⟩ : ∃ u, u = w0.alloc (.cells (A23 p0_0 p0_1 p0_2 p0_3 p0_4 p0_5 p0_6 p0_7 p0_8 p0_9 p0_10 p0_11 p0_12 p0_13 p0_14 p0_15 p0_16 p0_17 p0_18 p0_19 p0_20 p0_21) 24) := ⟨_, rfl⟩
  replace h := h b1 w1 hb1 hw1
  refine wpR_val (v := (Value.pointer (some (Addr.mk b1 0 none)))) (w' := w1) rfl rfl rfl ((x_box (v := (V23 p0_0 p0_1 p0_2 p0_3 p0_4 p0_5 p0_6 p0_7 p0_8 p0_9 p0_10 p0_11 p0_12 p0_13 p0_14 p0_15 p0_16 p0_17 p0_18 p0_19 p0_20 p0_21)) rfl e0).trans (by rw [hb1, hw1]; rfl)) ?_
  refine wpR_val (v := (Sl.v Sl.nil)) (w' := w1) rfl rfl rfl (x_assign (v := (Sl.v Sl.nil)) rfl rfl) ?_
  refine wpR_nil ?_
  refine wpC_seq ?_
  refine wpC_cut (fun ρ => ρ 1 = (Value.pointer (some (Addr.mk b1 0 none))) ∧ True) ⟨rfl, trivial⟩ ?_
  rintro ρ ⟨e1, -⟩
  obtain ⟨J3, h, hk⟩ := h
  refine wpC_drawJ (by kernel_rfl) (fun (x : Sl) ρ => ρ 2 = (Sl.v x) ∧ True) J3 ?_ ?_
  · clear hk
    unfold tk at h
    generalize w1.drew = w2 at h ⊢
    refine wpD_take (v := (Value.pointer (some ((Addr.mk b1 0 none).add 1)))) 0 (fun _ => True) rfl (by kernel_rfl) (by kernel_rfl) (by kernel_rfl) rfl rfl rfl trivial (fun w _ => (x_fieldAddr rfl e1 FA_24_1)) ?_
    obtain ⟨x4, q4, h⟩ := h
    refine wpD_take (v := (Value.int .i64 x4)) 1 (fun w => w.cell? ((Addr.mk b1 0 none).add 1) = some (Value.int .i64 x4)) rfl (by kernel_rfl) (by kernel_rfl) (by kernel_rfl) rfl rfl rfl q4 (fun w q4 => (x_load1 rfl rfl SH_3 q4)) ?_
    refine wpD_take (v := (Value.pointer (some ((Addr.mk b1 0 none).add 3)))) 2 (fun _ => True) rfl (by kernel_rfl) (by kernel_rfl) (by kernel_rfl) rfl rfl rfl trivial (fun w _ => (x_fieldAddr rfl e1 FA_24_3)) ?_
    obtain ⟨x5, q5, h⟩ := h
    refine wpD_take (v := (Value.int .i64 x5)) 3 (fun w => w.cell? ((Addr.mk b1 0 none).add 3) = some (Value.int .i64 x5)) rfl (by kernel_rfl) (by kernel_rfl) (by kernel_rfl) rfl rfl rfl q5 (fun w q5 => (x_load1 rfl rfl SH_3 q5)) ?_
    refine wpD_take (v := (Value.pointer (some ((Addr.mk b1 0 none).add 4)))) 4 (fun _ => True) rfl (by kernel_rfl) (by kernel_rfl) (by kernel_rfl) rfl rfl rfl trivial (fun w _ => (x_fieldAddr rfl e1 FA_24_4)) ?_
    obtain ⟨x6, q6, h⟩ := h
    refine wpD_take (v := (Value.bool x6)) 5 (fun w => w.cell? ((Addr.mk b1 0 none).add 4) = some (Value.bool x6)) rfl (by kernel_rfl) (by kernel_rfl) (by kernel_rfl) rfl rfl rfl q6 (fun w q6 => (x_load1 rfl rfl SH_4 q6)) ?_
    refine wpD_take (v := (Value.pointer (some ((Addr.mk b1 0 none).add 5)))) 7 (fun _ => True) rfl (by kernel_rfl) (by kernel_rfl) (by kernel_rfl) rfl rfl rfl trivial (fun w _ => (x_fieldAddr rfl e1 FA_24_5)) ?_
    obtain ⟨x7, q7, h⟩ := h
    refine wpD_take (v := (Value.int .i64 x7)) 8 (fun w => w.cell? ((Addr.mk b1 0 none).add 5) = some (Value.int .i64 x7)) rfl (by kernel_rfl) (by kernel_rfl) (by kernel_rfl) rfl rfl rfl q7 (fun w q7 => (x_load1 rfl rfl SH_3 q7)) ?_
    refine wpD_take (v := (Value.pointer (some ((Addr.mk b1 0 none).add 6)))) 9 (fun _ => True) rfl (by kernel_rfl) (by kernel_rfl) (by kernel_rfl) rfl rfl rfl trivial (fun w _ => (x_fieldAddr rfl e1 FA_24_6)) ?_
    obtain ⟨x8, q8, h⟩ := h
    refine wpD_take (v := (Value.bool x8)) 10 (fun w => w.cell? ((Addr.mk b1 0 none).add 6) = some (Value.bool x8)) rfl (by kernel_rfl) (by kernel_rfl) (by kernel_rfl) rfl rfl rfl q8 (fun w q8 => (x_load1 rfl rfl SH_4 q8)) ?_
    refine wpD_take (v := (Value.pointer (some ((Addr.mk b1 0 none).add 7)))) 12 (fun _ => True) rfl (by kernel_rfl) (by kernel_rfl) (by kernel_rfl) rfl rfl rfl trivial (fun w _ => (x_fieldAddr rfl e1 FA_24_7)) ?_
    obtain ⟨x9, q9, h⟩ := h
    refine wpD_take (v := (Value.bool x9)) 13 (fun w => w.cell? ((Addr.mk b1 0 none).add 7) = some (Value.bool x9)) rfl (by kernel_rfl) (by kernel_rfl) (by kernel_rfl) rfl rfl rfl q9 (fun w q9 => (x_load1 rfl rfl SH_4 q9)) ?_
    refine wpD_take (v := (Value.pointer (some ((Addr.mk b1 0 none).add 8)))) 15 (fun _ => True) rfl (by kernel_rfl) (by kernel_rfl) (by kernel_rfl) rfl rfl rfl trivial (fun w _ => (x_fieldAddr rfl e1 FA_24_8)) ?_
    obtain ⟨x10, q10, h⟩ := h
    refine wpD_take (v := (Value.int .i64 x10)) 16 (fun w => w.cell? ((Addr.mk b1 0 none).add 8) = some (Value.int .i64 x10)) rfl (by kernel_rfl) (by kernel_rfl) (by kernel_rfl) rfl rfl rfl q10 (fun w q10 => (x_load1 rfl rfl SH_3 q10)) ?_
    refine wpD_take (v := (Value.pointer (some ((Addr.mk b1 0 none).add 9)))) 17 (fun _ => True) rfl (by kernel_rfl) (by kernel_rfl) (by kernel_rfl) rfl rfl rfl trivial (fun w _ => (x_fieldAddr rfl e1 FA_24_9)) ?_
    obtain ⟨x11, q11, h⟩ := h
    refine wpD_take (v := (Value.int .i64 x11)) 18 (fun w => w.cell? ((Addr.mk b1 0 none).add 9) = some (Value.int .i64 x11)) rfl (by kernel_rfl) (by kernel_rfl) (by kernel_rfl) rfl rfl rfl q11 (fun w q11 => (x_load1 rfl rfl SH_3 q11)) ?_
    refine wpD_take (v := (Value.pointer (some ((Addr.mk b1 0 none).add 10)))) 19 (fun _ => True) rfl (by kernel_rfl) (by kernel_rfl) (by kernel_rfl) rfl rfl rfl trivial (fun w _ => (x_fieldAddr rfl e1 FA_24_10)) ?_
    obtain ⟨x12, q12, h⟩ := h
    refine wpD_take (v := (Value.int .i64 x12)) 20 (fun w => w.cell? ((Addr.mk b1 0 none).add 10) = some (Value.int .i64 x12)) rfl (by kernel_rfl) (by kernel_rfl) (by kernel_rfl) rfl rfl rfl q12 (fun w q12 => (x_load1 rfl rfl SH_3 q12)) ?_
    refine wpD_take (v := (Value.pointer (some ((Addr.mk b1 0 none).add 11)))) 21 (fun _ => True) rfl (by kernel_rfl) (by kernel_rfl) (by kernel_rfl) rfl rfl rfl trivial (fun w _ => (x_fieldAddr rfl e1 FA_24_11)) ?_
    obtain ⟨x13, q13, h⟩ := h
    refine wpD_take (v := (Value.int .i64 x13)) 22 (fun w => w.cell? ((Addr.mk b1 0 none).add 11) = some (Value.int .i64 x13)) rfl (by kernel_rfl) (by kernel_rfl) (by kernel_rfl) rfl rfl rfl q13 (fun w q13 => (x_load1 rfl rfl SH_3 q13)) ?_
    refine wpD_take (v := (Value.pointer (some ((Addr.mk b1 0 none).add 16)))) 23 (fun _ => True) rfl (by kernel_rfl) (by kernel_rfl) (by kernel_rfl) rfl rfl rfl trivial (fun w _ => (x_fieldAddr rfl e1 FA_24_16)) ?_
    obtain ⟨x14, q14, h⟩ := h
    refine wpD_take (v := (Value.int .i64 x14)) 24 (fun w => w.cell? ((Addr.mk b1 0 none).add 16) = some (Value.int .i64 x14)) rfl (by kernel_rfl) (by kernel_rfl) (by kernel_rfl) rfl rfl rfl q14 (fun w q14 => (x_load1 rfl rfl SH_3 q14)) ?_
    refine wpD_all (rs := [6]) (by kernel_rfl) (by simp) (allD_cons ?_ allD_nil)
    refine stepD_enterL (L' := [(24, fun w => w.cell? ((Addr.mk b1 0 none).add 16) = some (Value.int .i64 x14)), (23, fun _ => True), (22, fun w => w.cell? ((Addr.mk b1 0 none).add 11) = some (Value.int .i64 x13)), (21, fun _ => True), (20, fun w => w.cell? ((Addr.mk b1 0 none).add 10) = some (Value.int .i64 x12)), (19, fun _ => True), (18, fun w => w.cell? ((Addr.mk b1 0 none).add 9) = some (Value.int .i64 x11)), (17, fun _ => True), (16, fun w => w.cell? ((Addr.mk b1 0 none).add 8) = some (Value.int .i64 x10)), (15, fun _ => True), (13, fun w => w.cell? ((Addr.mk b1 0 none).add 7) = some (Value.bool x9)), (12, fun _ => True), (10, fun w => w.cell? ((Addr.mk b1 0 none).add 6) = some (Value.bool x8)), (9, fun _ => True), (8, fun w => w.cell? ((Addr.mk b1 0 none).add 5) = some (Value.int .i64 x7)), (7, fun _ => True), (4, fun _ => True), (3, fun w => w.cell? ((Addr.mk b1 0 none).add 3) = some (Value.int .i64 x5)), (2, fun _ => True), (1, fun w => w.cell? ((Addr.mk b1 0 none).add 1) = some (Value.int .i64 x4)), (0, fun _ => True)]) rfl rfl rfl rfl (x_call (vs := [(Value.bool x6)]) rfl rfl (mapl_cons rfl mapl_nil) Try.func42 NN_42 NB_42) (by kernel_rfl) (Calls.mono h ?_)
    rintro _ w3 ⟨r15, rfl, h⟩
    obtain ⟨o24, h⟩ := h
    obtain ⟨o22, h⟩ := h
    obtain ⟨o20, h⟩ := h
    obtain ⟨o18, h⟩ := h
    obtain ⟨o16, h⟩ := h
    obtain ⟨o13, h⟩ := h
    obtain ⟨o10, h⟩ := h
    obtain ⟨o8, h⟩ := h
    obtain ⟨o3, h⟩ := h
    obtain ⟨o1, h⟩ := h
    refine ⟨_, rfl, (held_cons o24 (held_cons trivial (held_cons o22 (held_cons trivial (held_cons o20 (held_cons trivial (held_cons o18 (held_cons trivial (held_cons o16 (held_cons trivial (held_cons o13 (held_cons trivial (held_cons o10 (held_cons trivial (held_cons o8 (held_cons trivial (held_cons trivial (held_cons o3 (held_cons trivial (held_cons o1 (held_cons trivial held_nil))))))))))))))))))))), ?_⟩
    refine wpD_all (rs := [11]) (by kernel_rfl) (by simp) (allD_cons ?_ allD_nil)
    refine stepD_enterL (L' := [(24, fun w => w.cell? ((Addr.mk b1 0 none).add 16) = some (Value.int .i64 x14)), (23, fun _ => True), (22, fun w => w.cell? ((Addr.mk b1 0 none).add 11) = some (Value.int .i64 x13)), (21, fun _ => True), (20, fun w => w.cell? ((Addr.mk b1 0 none).add 10) = some (Value.int .i64 x12)), (19, fun _ => True), (18, fun w => w.cell? ((Addr.mk b1 0 none).add 9) = some (Value.int .i64 x11)), (17, fun _ => True), (16, fun w => w.cell? ((Addr.mk b1 0 none).add 8) = some (Value.int .i64 x10)), (15, fun _ => True), (13, fun w => w.cell? ((Addr.mk b1 0 none).add 7) = some (Value.bool x9)), (12, fun _ => True), (9, fun _ => True), (8, fun w => w.cell? ((Addr.mk b1 0 none).add 5) = some (Value.int .i64 x7)), (7, fun _ => True), (4, fun _ => True), (3, fun w => w.cell? ((Addr.mk b1 0 none).add 3) = some (Value.int .i64 x5)), (2, fun _ => True), (1, fun w => w.cell? ((Addr.mk b1 0 none).add 1) = some (Value.int .i64 x4)), (0, fun _ => True)]) rfl rfl rfl rfl (x_call (vs := [(Value.bool x8)]) rfl rfl (mapl_cons rfl mapl_nil) Try.func42 NN_42 NB_42) (by kernel_rfl) (Calls.mono h ?_)
    rintro _ w4 ⟨r16, rfl, h⟩
    obtain ⟨o24, h⟩ := h
    obtain ⟨o22, h⟩ := h
    obtain ⟨o20, h⟩ := h
    obtain ⟨o18, h⟩ := h
    obtain ⟨o16, h⟩ := h
    obtain ⟨o13, h⟩ := h
    obtain ⟨o8, h⟩ := h
    obtain ⟨o3, h⟩ := h
    obtain ⟨o1, h⟩ := h
    refine ⟨_, rfl, (held_cons o24 (held_cons trivial (held_cons o22 (held_cons trivial (held_cons o20 (held_cons trivial (held_cons o18 (held_cons trivial (held_cons o16 (held_cons trivial (held_cons o13 (held_cons trivial (held_cons trivial (held_cons o8 (held_cons trivial (held_cons trivial (held_cons o3 (held_cons trivial (held_cons o1 (held_cons trivial held_nil)))))))))))))))))))), ?_⟩
    refine wpD_all (rs := [14]) (by kernel_rfl) (by simp) (allD_cons ?_ allD_nil)
    refine stepD_enterL (L' := [(24, fun w => w.cell? ((Addr.mk b1 0 none).add 16) = some (Value.int .i64 x14)), (23, fun _ => True), (22, fun w => w.cell? ((Addr.mk b1 0 none).add 11) = some (Value.int .i64 x13)), (21, fun _ => True), (20, fun w => w.cell? ((Addr.mk b1 0 none).add 10) = some (Value.int .i64 x12)), (19, fun _ => True), (18, fun w => w.cell? ((Addr.mk b1 0 none).add 9) = some (Value.int .i64 x11)), (17, fun _ => True), (16, fun w => w.cell? ((Addr.mk b1 0 none).add 8) = some (Value.int .i64 x10)), (15, fun _ => True), (12, fun _ => True), (9, fun _ => True), (8, fun w => w.cell? ((Addr.mk b1 0 none).add 5) = some (Value.int .i64 x7)), (7, fun _ => True), (4, fun _ => True), (3, fun w => w.cell? ((Addr.mk b1 0 none).add 3) = some (Value.int .i64 x5)), (2, fun _ => True), (1, fun w => w.cell? ((Addr.mk b1 0 none).add 1) = some (Value.int .i64 x4)), (0, fun _ => True)]) rfl rfl rfl rfl (x_call (vs := [(Value.bool x9)]) rfl rfl (mapl_cons rfl mapl_nil) Try.func42 NN_42 NB_42) (by kernel_rfl) (Calls.mono h ?_)
    rintro _ w5 ⟨r17, rfl, h⟩
    obtain ⟨o24, h⟩ := h
    obtain ⟨o22, h⟩ := h
    obtain ⟨o20, h⟩ := h
    obtain ⟨o18, h⟩ := h
    obtain ⟨o16, h⟩ := h
    obtain ⟨o8, h⟩ := h
    obtain ⟨o3, h⟩ := h
    obtain ⟨o1, h⟩ := h
    refine ⟨_, rfl, (held_cons o24 (held_cons trivial (held_cons o22 (held_cons trivial (held_cons o20 (held_cons trivial (held_cons o18 (held_cons trivial (held_cons o16 (held_cons trivial (held_cons trivial (held_cons trivial (held_cons o8 (held_cons trivial (held_cons trivial (held_cons o3 (held_cons trivial (held_cons o1 (held_cons trivial held_nil))))))))))))))))))), ?_⟩
    refine wpD_all (rs := [25]) (by kernel_rfl) (by simp) (allD_cons ?_ allD_nil)
    obtain ⟨b18, hb18⟩ : ∃ u, u = w5.heap.size := ⟨_, rfl⟩
    obtain ⟨w6, hw18⟩ : ∃ u, u = w5.alloc (.cells #[(Value.int .i64 x4), (Value.int .i64 x5), (Value.int .i64 r15), (Value.int .i64 x7), (Value.int .i64 r16), (Value.int .i64 r17), (Value.int .i64 x10), (Value.int .i64 x11), (Value.int .i64 x12), (Value.int .i64 x13), (Value.int .i64 x14)] 3) := ⟨_, rfl⟩
    replace h := h b18 w6 hb18 hw18
    refine stepD_valL (L' := [(23, fun _ => True), (21, fun _ => True), (19, fun _ => True), (17, fun _ => True), (15, fun _ => True), (12, fun _ => True), (9, fun _ => True), (7, fun _ => True), (4, fun _ => True), (2, fun _ => True), (0, fun _ => True)]) (v := (Sl.v (⟨some ⟨b18, 0, none⟩, 11, 11⟩ : Sl))) (w' := w6) rfl rfl rfl rfl ((x_buildSlice (qs := [(0, (Value.int .i64 x4)), (1, (Value.int .i64 x5)), (2, (Value.int .i64 r15)), (3, (Value.int .i64 x7)), (4, (Value.int .i64 r16)), (5, (Value.int .i64 r17)), (6, (Value.int .i64 x10)), (7, (Value.int .i64 x11)), (8, (Value.int .i64 x12)), (9, (Value.int .i64 x13)), (10, (Value.int .i64 x14))]) rfl (by rfl) (BS_38_11_0_1_2_3_4_5_6_7_8_9_10 x4 x5 r15 x7 r16 r17 x10 x11 x12 x13 x14)).trans (by rw [← hb18, ← hw18])) (by kernel_rfl) (held_cons trivial (held_cons trivial (held_cons trivial (held_cons trivial (held_cons trivial (held_cons trivial (held_cons trivial (held_cons trivial (held_cons trivial (held_cons trivial (held_cons trivial held_nil))))))))))) ?_
    refine wpD_take (v := (Sl.v (⟨some ⟨b18, 0, none⟩, 11, 11⟩ : Sl))) 26 (fun _ => True) rfl (by kernel_rfl) (by kernel_rfl) (by kernel_rfl) rfl rfl rfl trivial (fun w _ => (x_assign (v := (Sl.v (⟨some ⟨b18, 0, none⟩, 11, 11⟩ : Sl))) rfl rfl)) ?_
    exact wpD_done (by kernel_rfl) ⟨(⟨some ⟨b18, 0, none⟩, 11, 11⟩ : Sl), ⟨rfl, trivial⟩, h⟩
  clear h
  rintro l19 ρ w7 ⟨e2, -⟩ h
  replace h := hk l19 w7 h
  clear hk
  refine wpC_ret ?_
  exact ⟨.inl rfl, fun a ha => ⟨_, results_rep1 rfl ha e2, l19, rfl, h⟩⟩

/-- linguaref13.Has -/
def F32 (p0 : Sl) (p1 : ByteArray) (w0 : World) (K : Bool → World → Prop) : Prop :=
  lp (fun (next1 : Int → World → Prop) l1 w1 =>
    cnd (decide (l1 < (p0.len : Int)))
      (
      ix p0 l1 1 fun p3 =>
      ld Value.string p3 w1 fun x4 =>
      cnd (beqS x4 p1)
        (
        K true w1
        )
        (
        next1 (IntKind.i64.wrap (l1 + 1)) w1
        )
      )
      (
      K false w1
      )
  ) 0 w0
set_option maxRecDepth 100000 in
theorem D32 (p0 : Sl) (p1 : ByteArray) (w0 : World) (K : Bool → World → Prop) (h : F32 p0 p1 w0 K) : callC Try.prog 32 #[(Sl.v p0), (Value.string p1)] (fun (r : Bool) => (Value.bool r)) w0 K := by
  unfold F32 at h
  refine calls_of_wpC Try.func32 rfl 18 rfl (by simp) ?_
  intro ρ hρ
  have e0 : ρ 0 = (Sl.v p0) := hρ 0
  have e1 : ρ 1 = (Value.string p1) := hρ 1
  clear hρ
  refine wpC_seq ?_
  refine wpC_region ?_
  refine wpR_val (v := (Value.bool false)) (w' := w0) rfl rfl rfl (x_assign (v := (Value.bool false)) rfl rfl) ?_
  refine wpR_nil ?_
  refine wpC_seq ?_
  refine wpC_seq ?_
  refine wpC_cut (fun ρ => ρ 0 = (Sl.v p0) ∧ ρ 1 = (Value.string p1) ∧ True) ⟨e0, e1, trivial⟩ ?_
  rintro ρ ⟨e0, e1, -⟩
  refine wpC_region ?_
  refine wpR_val (v := (Value.int .i64 0)) (w' := w0) rfl rfl rfl (x_assign (v := (Value.int .i64 0)) rfl rfl) ?_
  refine wpR_nil ?_
  refine wpC_block ?_
  obtain ⟨I1, μ1, hI1, hr1⟩ := h
  refine wpC_loop (fun (x : Int) ρ => ρ 5 = (Value.int .i64 x) ∧ ρ 0 = (Sl.v p0) ∧ ρ 1 = (Value.string p1) ∧ True) I1 μ1 0 ⟨rfl, e0, e1, trivial⟩ hI1 ?_
  rintro l1 ρ w1 ⟨e5, e0, e1, -⟩ h
  replace h := hr1 l1 w1 h
  clear hr1 hI1
  refine wpC_seq ?_
  refine wpC_seq ?_
  refine wpC_region ?_
  refine wpR_val (v := (Value.int .i64 l1)) (w' := w1) rfl rfl rfl (x_move (v := (Value.int .i64 l1)) rfl e5) ?_
  refine wpR_val (v := (Sl.v p0)) (w' := w1) rfl rfl rfl (x_move (v := (Sl.v p0)) rfl e0) ?_
  refine wpR_val (v := (Value.int .i64 (p0.len : Int))) (w' := w1) rfl rfl rfl (x_lenS (s := p0) rfl rfl isSliceT_22) ?_
  refine wpR_val (v := (Value.bool (decide (l1 < (p0.len : Int))))) (w' := w1) rfl rfl rfl (x_lss rfl rfl rfl) ?_
  refine wpR_nil ?_
  refine wpC_cond (b := decide (l1 < (p0.len : Int))) rfl (fun hc2 => ?_) (fun hc2 => ?_)
  · replace h := h.1 hc2
    refine wpC_skip ?_
    refine wpC_seq ?_
    refine wpC_block ?_
    refine wpC_seq ?_
    refine wpC_cut (fun ρ => ρ 0 = (Sl.v p0) ∧ ρ 1 = (Value.string p1) ∧ ρ 5 = (Value.int .i64 l1) ∧ True) ⟨e0, e1, e5, trivial⟩ ?_
    rintro ρ ⟨e0, e1, e5, -⟩
    refine wpC_region ?_
    refine wpR_val (v := (Sl.v p0)) (w' := w1) rfl rfl rfl (x_move (v := (Sl.v p0)) rfl e0) ?_
    refine wpR_val (v := (Value.int .i64 l1)) (w' := w1) rfl rfl rfl (x_move (v := (Value.int .i64 l1)) rfl e5) ?_
    obtain ⟨q3, z3, r3, h⟩ := h
    generalize hp3 : z3.add ((l1 : Int).toNat * 1) = p3 at h
    refine wpR_val (v := (Value.pointer (some p3))) (w' := w1) rfl rfl rfl ((x_indexAddr (s := p0) rfl rfl rfl ES_22 q3 r3).trans (by rw [hp3])) ?_
    obtain ⟨x4, q4, h⟩ := h
    refine wpR_val (v := (Value.string x4)) (w' := w1) rfl rfl rfl (x_load1 rfl rfl SH_9 q4) ?_
    refine wpR_val (v := (Value.string p1)) (w' := w1) rfl rfl rfl (x_move (v := (Value.string p1)) rfl e1) ?_
    refine wpR_val (v := (Value.bool (beqS x4 p1))) (w' := w1) rfl rfl rfl (x_eqlS rfl rfl rfl) ?_
    refine wpR_nil ?_
    refine wpC_cond (b := beqS x4 p1) rfl (fun hc5 => ?_) (fun hc5 => ?_)
    · replace h := h.1 hc5
      refine wpC_seq ?_
      refine wpC_cut (fun ρ => True) trivial ?_
      rintro ρ -
      refine wpC_region ?_
      refine wpR_val (v := (Value.bool true)) (w' := w1) rfl rfl rfl (x_assign (v := (Value.bool true)) rfl rfl) ?_
      refine wpR_nil ?_
      refine wpC_ret ?_
      exact ⟨.inl rfl, fun a ha => ⟨_, results_rep1 rfl ha rfl, true, rfl, h⟩⟩
    · replace h := h.2 hc5
      refine wpC_skip ?_
      refine wpC_cut (fun ρ => ρ 0 = (Sl.v p0) ∧ ρ 1 = (Value.string p1) ∧ ρ 5 = (Value.int .i64 l1) ∧ True) ⟨e0, e1, e5, trivial⟩ ?_
      rintro ρ ⟨e0, e1, e5, -⟩
      refine wpC_region ?_
      refine wpR_val (v := (Value.int .i64 l1)) (w' := w1) rfl rfl rfl (x_move (v := (Value.int .i64 l1)) rfl e5) ?_
      refine wpR_val (v := (Value.int .i64 (IntKind.i64.wrap (l1 + 1)))) (w' := w1) rfl rfl rfl (x_add rfl rfl rfl) ?_
      refine wpR_val (v := (Value.int .i64 (IntKind.i64.wrap (l1 + 1)))) (w' := w1) rfl rfl rfl (x_assign (v := (Value.int .i64 (IntKind.i64.wrap (l1 + 1)))) rfl rfl) ?_
      refine wpR_nil ?_
      exact ⟨IntKind.i64.wrap (l1 + 1), ⟨rfl, e0, e1, trivial⟩, h⟩
  · replace h := h.2 hc2
    refine wpC_exit ?_
    refine wpC_seq ?_
    refine wpC_cut (fun ρ => True) trivial ?_
    rintro ρ -
    refine wpC_region ?_
    refine wpR_val (v := (Value.bool false)) (w' := w1) rfl rfl rfl (x_assign (v := (Value.bool false)) rfl rfl) ?_
    refine wpR_nil ?_
    refine wpC_ret ?_
    exact ⟨.inl rfl, fun a ha => ⟨_, results_rep1 rfl ha rfl, false, rfl, h⟩⟩

/-- linguaref13.with -/
def F33 (p0_0 : ByteArray) (p0_1 : Int) (p0_2 : Int) (p0_3 : Int) (p0_4 : Bool) (p0_5 : Int) (p0_6 : Bool) (p0_7 : Bool) (p0_8 : Int) (p0_9 : Int) (p0_10 : Int) (p0_11 : Int) (p0_12 : Sl) (p0_13 : Int) (p0_14 : Int) (p0_15 : Int) (p0_16 : Int) (p0_17 : Bool) (p0_18 : Int) (p0_19 : Int) (p0_20 : Int) (p0_21 : Int) (p1 : Sl) (w0 : World) (K : T23 → World → Prop) : Prop :=
  nw 24 (A23 p0_0 p0_1 p0_2 p0_3 p0_4 p0_5 p0_6 p0_7 p0_8 p0_9 p0_10 p0_11 p0_12 p0_13 p0_14 p0_15 p0_16 p0_17 p0_18 p0_19 p0_20 p0_21) w0 fun b1 w1 =>
  nw 24 (A23 (ByteArray.mk #[]) 0 0 0 false 0 false false 0 0 0 0 Sl.nil 0 0 0 0 false 0 0 0 0) w1 fun b2 w2 =>
  ix p1 0 1 fun p3 =>
  ld (Value.int .i64) p3 w2 fun x4 =>
  st ((Addr.mk b1 0 none).add 1) [(Value.int .i64 x4)] w2 fun w3 =>
  ix p1 1 1 fun p6 =>
  ld (Value.int .i64) p6 w3 fun x7 =>
  st ((Addr.mk b1 0 none).add 3) [(Value.int .i64 x7)] w3 fun w4 =>
  ix p1 2 1 fun p9 =>
  ld (Value.int .i64) p9 w4 fun x10 =>
  st ((Addr.mk b1 0 none).add 4) [(Value.bool (decide (x10 = 1)))] w4 fun w5 =>
  ix p1 3 1 fun p12 =>
  ld (Value.int .i64) p12 w5 fun x13 =>
  st ((Addr.mk b1 0 none).add 5) [(Value.int .i64 x13)] w5 fun w6 =>
  ix p1 4 1 fun p15 =>
  ld (Value.int .i64) p15 w6 fun x16 =>
  st ((Addr.mk b1 0 none).add 6) [(Value.bool (decide (x16 = 1)))] w6 fun w7 =>
  ix p1 5 1 fun p18 =>
  ld (Value.int .i64) p18 w7 fun x19 =>
  st ((Addr.mk b1 0 none).add 7) [(Value.bool (decide (x19 = 1)))] w7 fun w8 =>
  ix p1 6 1 fun p21 =>
  ld (Value.int .i64) p21 w8 fun x22 =>
  st ((Addr.mk b1 0 none).add 8) [(Value.int .i64 x22)] w8 fun w9 =>
  ix p1 7 1 fun p24 =>
  ld (Value.int .i64) p24 w9 fun x25 =>
  st ((Addr.mk b1 0 none).add 9) [(Value.int .i64 x25)] w9 fun w10 =>
  ix p1 8 1 fun p27 =>
  ld (Value.int .i64) p27 w10 fun x28 =>
  st ((Addr.mk b1 0 none).add 10) [(Value.int .i64 x28)] w10 fun w11 =>
  ix p1 9 1 fun p30 =>
  ld (Value.int .i64) p30 w11 fun x31 =>
  st ((Addr.mk b1 0 none).add 11) [(Value.int .i64 x31)] w11 fun w12 =>
  ix p1 10 1 fun p33 =>
  ld (Value.int .i64) p33 w12 fun x34 =>
  st ((Addr.mk b1 0 none).add 16) [(Value.int .i64 x34)] w12 fun w13 =>
  st ((Addr.mk b1 0 none).add 12) [(Sl.v Sl.nil)] w13 fun w14 =>
  L23 (Addr.mk b1 0 none) w14 fun x37 x38 x39 x40 x41 x42 x43 x44 x45 x46 x47 x48 x49 x50 x51 x52 x53 x54 x55 x56 x57 x58 =>
  st (Addr.mk b2 0 none) (S23 x37 x38 x39 x40 x41 x42 x43 x44 x45 x46 x47 x48 x49 x50 x51 x52 x53 x54 x55 x56 x57 x58) w14 fun w15 =>
  L23 (Addr.mk b2 0 none) w15 fun x60 x61 x62 x63 x64 x65 x66 x67 x68 x69 x70 x71 x72 x73 x74 x75 x76 x77 x78 x79 x80 x81 =>
  K (x60, x61, x62, x63, x64, x65, x66, x67, x68, x69, x70, x71, x72, x73, x74, x75, x76, x77, x78, x79, x80, x81) w15
set_option maxRecDepth 100000 in
theorem D33 (p0_0 : ByteArray) (p0_1 : Int) (p0_2 : Int) (p0_3 : Int) (p0_4 : Bool) (p0_5 : Int) (p0_6 : Bool) (p0_7 : Bool) (p0_8 : Int) (p0_9 : Int) (p0_10 : Int) (p0_11 : Int) (p0_12 : Sl) (p0_13 : Int) (p0_14 : Int) (p0_15 : Int) (p0_16 : Int) (p0_17 : Bool) (p0_18 : Int) (p0_19 : Int) (p0_20 : Int) (p0_21 : Int) (p1 : Sl) (w0 : World) (K : T23 → World → Prop) (h : F33 p0_0 p0_1 p0_2 p0_3 p0_4 p0_5 p0_6 p0_7 p0_8 p0_9 p0_10 p0_11 p0_12 p0_13 p0_14 p0_15 p0_16 p0_17 p0_18 p0_19 p0_20 p0_21 p1 w0 K) : callC Try.prog 33 #[(V23 p0_0 p0_1 p0_2 p0_3 p0_4 p0_5 p0_6 p0_7 p0_8 p0_9 p0_10 p0_11 p0_12 p0_13 p0_14 p0_15 p0_16 p0_17 p0_18 p0_19 p0_20 p0_21), (Sl.v p1)] E23 w0 K := by
  unfold F33 at h
  refine calls_of_wpC Try.func33 rfl 54 rfl (by simp) ?_
  intro ρ hρ
  have e0 : ρ 0 = (V23 p0_0 p0_1 p0_2 p0_3 p0_4 p0_5 p0_6 p0_7 p0_8 p0_9 p0_10 p0_11 p0_12 p0_13 p0_14 p0_15 p0_16 p0_17 p0_18 p0_19 p0_20 p0_21) := hρ 0
  have e1 : ρ 1 = (Sl.v p1) := hρ 1
  clear hρ
  refine wpC_seq ?_
  refine wpC_region ?_
  obtain ⟨b1, hb1⟩ : ∃ u, u = w0.heap.size := ⟨_, rfl⟩
  obtain ⟨w1, hw1⟩ : ∃ u, u = w0.alloc (.cells (A23 p0_0 p0_1 p0_2 p0_3 p0_4 p0_5 p0_6 p0_7 p0_8 p0_9 p0_10 p0_11 p0_12 p0_13 p0_14 p0_15 p0_16 p0_17 p0_18 p0_19 p0_20 p0_21) 24) := ⟨_, rfl⟩
  replace h := h b1 w1 hb1 hw1
  refine wpR_val (v := (Value.pointer (some (Addr.mk b1 0 none)))) (w' := w1) rfl rfl rfl ((x_box (v := (V23 p0_0 p0_1 p0_2 p0_3 p0_4 p0_5 p0_6 p0_7 p0_8 p0_9 p0_10 p0_11 p0_12 p0_13 p0_14 p0_15 p0_16 p0_17 p0_18 p0_19 p0_20 p0_21)) rfl e0).trans (by rw [hb1, hw1]; rfl)) ?_
  obtain ⟨b2, hb2⟩ : ∃ u, u = w1.heap.size := ⟨_, rfl⟩
  obtain ⟨w2, hw2⟩ : ∃ u, u = w1.alloc (.cells (A23 (ByteArray.mk #[]) 0 0 0 false 0 false false 0 0 0 0 Sl.nil 0 0 0 0 false 0 0 0 0) 24) := ⟨_, rfl⟩
  replace h := h b2 w2 hb2 hw2
  refine wpR_val (v := (Value.pointer (some (Addr.mk b2 0 none)))) (w' := w2) rfl rfl rfl ((x_alloc rfl ZV_24).trans (by rw [hb2, hw2]; rfl)) ?_
  refine wpR_nil ?_
  refine wpC_seq ?_
  refine wpC_cut (fun ρ => ρ 1 = (Sl.v p1) ∧ ρ 2 = (Value.pointer (some (Addr.mk b1 0 none))) ∧ ρ 4 = (Value.pointer (some (Addr.mk b2 0 none))) ∧ True) ⟨e1, rfl, rfl, trivial⟩ ?_
  rintro ρ ⟨e1, e2, e4, -⟩
  refine wpC_region ?_
  refine wpR_val (v := (Sl.v p1)) (w' := w2) rfl rfl rfl (x_move (v := (Sl.v p1)) rfl e1) ?_
  obtain ⟨q3, z3, r3, h⟩ := h
  generalize hp3 : z3.add ((0 : Int).toNat * 1) = p3 at h
  refine wpR_val (v := (Value.pointer (some p3))) (w' := w2) rfl rfl rfl ((x_indexAddr (s := p1) rfl rfl rfl ES_38 q3 r3).trans (by rw [hp3])) ?_
  obtain ⟨x4, q4, h⟩ := h
  refine wpR_val (v := (Value.int .i64 x4)) (w' := w2) rfl rfl rfl (x_load1 rfl rfl SH_3 q4) ?_
  refine wpR_val (v := (Value.pointer (some ((Addr.mk b1 0 none).add 1)))) (w' := w2) rfl rfl rfl (x_fieldAddr rfl e2 FA_24_1) ?_
  obtain ⟨q5, h⟩ := h
  obtain ⟨w3, hw5⟩ : ∃ u, u = setAll w2 ((Addr.mk b1 0 none).add 1) [(Value.int .i64 x4)] 0 := ⟨_, rfl⟩
  replace h := h w3 hw5
  refine wpR_skp (w' := w3) rfl rfl ((x_store (v := (Value.int .i64 x4)) rfl rfl rfl SZ_3 (ones (by rfl)) q5).trans (by rw [hw5]; rfl)) ?_
  refine wpR_nil ?_
  refine wpC_seq ?_
  refine wpC_cut (fun ρ => ρ 1 = (Sl.v p1) ∧ ρ 2 = (Value.pointer (some (Addr.mk b1 0 none))) ∧ ρ 4 = (Value.pointer (some (Addr.mk b2 0 none))) ∧ True) ⟨e1, e2, e4, trivial⟩ ?_
  rintro ρ ⟨e1, e2, e4, -⟩
  refine wpC_region ?_
  refine wpR_val (v := (Sl.v p1)) (w' := w3) rfl rfl rfl (x_move (v := (Sl.v p1)) rfl e1) ?_
  obtain ⟨q6, z6, r6, h⟩ := h
  generalize hp6 : z6.add ((1 : Int).toNat * 1) = p6 at h
  refine wpR_val (v := (Value.pointer (some p6))) (w' := w3) rfl rfl rfl ((x_indexAddr (s := p1) rfl rfl rfl ES_38 q6 r6).trans (by rw [hp6])) ?_
  obtain ⟨x7, q7, h⟩ := h
  refine wpR_val (v := (Value.int .i64 x7)) (w' := w3) rfl rfl rfl (x_load1 rfl rfl SH_3 q7) ?_
  refine wpR_val (v := (Value.pointer (some ((Addr.mk b1 0 none).add 3)))) (w' := w3) rfl rfl rfl (x_fieldAddr rfl e2 FA_24_3) ?_
  obtain ⟨q8, h⟩ := h
  obtain ⟨w4, hw8⟩ : ∃ u, u = setAll w3 ((Addr.mk b1 0 none).add 3) [(Value.int .i64 x7)] 0 := ⟨_, rfl⟩
  replace h := h w4 hw8
  refine wpR_skp (w' := w4) rfl rfl ((x_store (v := (Value.int .i64 x7)) rfl rfl rfl SZ_3 (ones (by rfl)) q8).trans (by rw [hw8]; rfl)) ?_
  refine wpR_nil ?_
  refine wpC_seq ?_
  refine wpC_cut (fun ρ => ρ 1 = (Sl.v p1) ∧ ρ 2 = (Value.pointer (some (Addr.mk b1 0 none))) ∧ ρ 4 = (Value.pointer (some (Addr.mk b2 0 none))) ∧ True) ⟨e1, e2, e4, trivial⟩ ?_
  rintro ρ ⟨e1, e2, e4, -⟩
  refine wpC_region ?_
  refine wpR_val (v := (Sl.v p1)) (w' := w4) rfl rfl rfl (x_move (v := (Sl.v p1)) rfl e1) ?_
  obtain ⟨q9, z9, r9, h⟩ := h
  generalize hp9 : z9.add ((2 : Int).toNat * 1) = p9 at h
  refine wpR_val (v := (Value.pointer (some p9))) (w' := w4) rfl rfl rfl ((x_indexAddr (s := p1) rfl rfl rfl ES_38 q9 r9).trans (by rw [hp9])) ?_
  obtain ⟨x10, q10, h⟩ := h
  refine wpR_val (v := (Value.int .i64 x10)) (w' := w4) rfl rfl rfl (x_load1 rfl rfl SH_3 q10) ?_
  refine wpR_val (v := (Value.bool (decide (x10 = 1)))) (w' := w4) rfl rfl rfl (x_eql rfl rfl rfl) ?_
  refine wpR_val (v := (Value.pointer (some ((Addr.mk b1 0 none).add 4)))) (w' := w4) rfl rfl rfl (x_fieldAddr rfl e2 FA_24_4) ?_
  obtain ⟨q11, h⟩ := h
  obtain ⟨w5, hw11⟩ : ∃ u, u = setAll w4 ((Addr.mk b1 0 none).add 4) [(Value.bool (decide (x10 = 1)))] 0 := ⟨_, rfl⟩
  replace h := h w5 hw11
  refine wpR_skp (w' := w5) rfl rfl ((x_store (v := (Value.bool (decide (x10 = 1)))) rfl rfl rfl SZ_4 (ones (by rfl)) q11).trans (by rw [hw11]; rfl)) ?_
  refine wpR_nil ?_
  refine wpC_seq ?_
  refine wpC_cut (fun ρ => ρ 1 = (Sl.v p1) ∧ ρ 2 = (Value.pointer (some (Addr.mk b1 0 none))) ∧ ρ 4 = (Value.pointer (some (Addr.mk b2 0 none))) ∧ True) ⟨e1, e2, e4, trivial⟩ ?_
  rintro ρ ⟨e1, e2, e4, -⟩
  refine wpC_region ?_
  refine wpR_val (v := (Sl.v p1)) (w' := w5) rfl rfl rfl (x_move (v := (Sl.v p1)) rfl e1) ?_
  obtain ⟨q12, z12, r12, h⟩ := h
  generalize hp12 : z12.add ((3 : Int).toNat * 1) = p12 at h
  refine wpR_val (v := (Value.pointer (some p12))) (w' := w5) rfl rfl rfl ((x_indexAddr (s := p1) rfl rfl rfl ES_38 q12 r12).trans (by rw [hp12])) ?_
  obtain ⟨x13, q13, h⟩ := h
  refine wpR_val (v := (Value.int .i64 x13)) (w' := w5) rfl rfl rfl (x_load1 rfl rfl SH_3 q13) ?_
  refine wpR_val (v := (Value.pointer (some ((Addr.mk b1 0 none).add 5)))) (w' := w5) rfl rfl rfl (x_fieldAddr rfl e2 FA_24_5) ?_
  obtain ⟨q14, h⟩ := h
  obtain ⟨w6, hw14⟩ : ∃ u, u = setAll w5 ((Addr.mk b1 0 none).add 5) [(Value.int .i64 x13)] 0 := ⟨_, rfl⟩
  replace h := h w6 hw14
  refine wpR_skp (w' := w6) rfl rfl ((x_store (v := (Value.int .i64 x13)) rfl rfl rfl SZ_3 (ones (by rfl)) q14).trans (by rw [hw14]; rfl)) ?_
  refine wpR_nil ?_
  refine wpC_seq ?_
  refine wpC_cut (fun ρ => ρ 1 = (Sl.v p1) ∧ ρ 2 = (Value.pointer (some (Addr.mk b1 0 none))) ∧ ρ 4 = (Value.pointer (some (Addr.mk b2 0 none))) ∧ True) ⟨e1, e2, e4, trivial⟩ ?_
  rintro ρ ⟨e1, e2, e4, -⟩
  refine wpC_region ?_
  refine wpR_val (v := (Sl.v p1)) (w' := w6) rfl rfl rfl (x_move (v := (Sl.v p1)) rfl e1) ?_
  obtain ⟨q15, z15, r15, h⟩ := h
  generalize hp15 : z15.add ((4 : Int).toNat * 1) = p15 at h
  refine wpR_val (v := (Value.pointer (some p15))) (w' := w6) rfl rfl rfl ((x_indexAddr (s := p1) rfl rfl rfl ES_38 q15 r15).trans (by rw [hp15])) ?_
  obtain ⟨x16, q16, h⟩ := h
  refine wpR_val (v := (Value.int .i64 x16)) (w' := w6) rfl rfl rfl (x_load1 rfl rfl SH_3 q16) ?_
  refine wpR_val (v := (Value.bool (decide (x16 = 1)))) (w' := w6) rfl rfl rfl (x_eql rfl rfl rfl) ?_
  refine wpR_val (v := (Value.pointer (some ((Addr.mk b1 0 none).add 6)))) (w' := w6) rfl rfl rfl (x_fieldAddr rfl e2 FA_24_6) ?_
  obtain ⟨q17, h⟩ := h
  obtain ⟨w7, hw17⟩ : ∃ u, u = setAll w6 ((Addr.mk b1 0 none).add 6) [(Value.bool (decide (x16 = 1)))] 0 := ⟨_, rfl⟩
  replace h := h w7 hw17
  refine wpR_skp (w' := w7) rfl rfl ((x_store (v := (Value.bool (decide (x16 = 1)))) rfl rfl rfl SZ_4 (ones (by rfl)) q17).trans (by rw [hw17]; rfl)) ?_
  refine wpR_nil ?_
  refine wpC_seq ?_
  refine wpC_cut (fun ρ => ρ 1 = (Sl.v p1) ∧ ρ 2 = (Value.pointer (some (Addr.mk b1 0 none))) ∧ ρ 4 = (Value.pointer (some (Addr.mk b2 0 none))) ∧ True) ⟨e1, e2, e4, trivial⟩ ?_
  rintro ρ ⟨e1, e2, e4, -⟩
  refine wpC_region ?_
  refine wpR_val (v := (Sl.v p1)) (w' := w7) rfl rfl rfl (x_move (v := (Sl.v p1)) rfl e1) ?_
  obtain ⟨q18, z18, r18, h⟩ := h
  generalize hp18 : z18.add ((5 : Int).toNat * 1) = p18 at h
  refine wpR_val (v := (Value.pointer (some p18))) (w' := w7) rfl rfl rfl ((x_indexAddr (s := p1) rfl rfl rfl ES_38 q18 r18).trans (by rw [hp18])) ?_
  obtain ⟨x19, q19, h⟩ := h
  refine wpR_val (v := (Value.int .i64 x19)) (w' := w7) rfl rfl rfl (x_load1 rfl rfl SH_3 q19) ?_
  refine wpR_val (v := (Value.bool (decide (x19 = 1)))) (w' := w7) rfl rfl rfl (x_eql rfl rfl rfl) ?_
  refine wpR_val (v := (Value.pointer (some ((Addr.mk b1 0 none).add 7)))) (w' := w7) rfl rfl rfl (x_fieldAddr rfl e2 FA_24_7) ?_
  obtain ⟨q20, h⟩ := h
  obtain ⟨w8, hw20⟩ : ∃ u, u = setAll w7 ((Addr.mk b1 0 none).add 7) [(Value.bool (decide (x19 = 1)))] 0 := ⟨_, rfl⟩
  replace h := h w8 hw20
  refine wpR_skp (w' := w8) rfl rfl ((x_store (v := (Value.bool (decide (x19 = 1)))) rfl rfl rfl SZ_4 (ones (by rfl)) q20).trans (by rw [hw20]; rfl)) ?_
  refine wpR_nil ?_
  refine wpC_seq ?_
  refine wpC_cut (fun ρ => ρ 1 = (Sl.v p1) ∧ ρ 2 = (Value.pointer (some (Addr.mk b1 0 none))) ∧ ρ 4 = (Value.pointer (some (Addr.mk b2 0 none))) ∧ True) ⟨e1, e2, e4, trivial⟩ ?_
  rintro ρ ⟨e1, e2, e4, -⟩
  refine wpC_region ?_
  refine wpR_val (v := (Sl.v p1)) (w' := w8) rfl rfl rfl (x_move (v := (Sl.v p1)) rfl e1) ?_
  obtain ⟨q21, z21, r21, h⟩ := h
  generalize hp21 : z21.add ((6 : Int).toNat * 1) = p21 at h
  refine wpR_val (v := (Value.pointer (some p21))) (w' := w8) rfl rfl rfl ((x_indexAddr (s := p1) rfl rfl rfl ES_38 q21 r21).trans (by rw [hp21])) ?_
  obtain ⟨x22, q22, h⟩ := h
  refine wpR_val (v := (Value.int .i64 x22)) (w' := w8) rfl rfl rfl (x_load1 rfl rfl SH_3 q22) ?_
  refine wpR_val (v := (Value.pointer (some ((Addr.mk b1 0 none).add 8)))) (w' := w8) rfl rfl rfl (x_fieldAddr rfl e2 FA_24_8) ?_
  obtain ⟨q23, h⟩ := h
  obtain ⟨w9, hw23⟩ : ∃ u, u = setAll w8 ((Addr.mk b1 0 none).add 8) [(Value.int .i64 x22)] 0 := ⟨_, rfl⟩
  replace h := h w9 hw23
  refine wpR_skp (w' := w9) rfl rfl ((x_store (v := (Value.int .i64 x22)) rfl rfl rfl SZ_3 (ones (by rfl)) q23).trans (by rw [hw23]; rfl)) ?_
  refine wpR_nil ?_
  refine wpC_seq ?_
  refine wpC_cut (fun ρ => ρ 1 = (Sl.v p1) ∧ ρ 2 = (Value.pointer (some (Addr.mk b1 0 none))) ∧ ρ 4 = (Value.pointer (some (Addr.mk b2 0 none))) ∧ True) ⟨e1, e2, e4, trivial⟩ ?_
  rintro ρ ⟨e1, e2, e4, -⟩
  refine wpC_region ?_
  refine wpR_val (v := (Sl.v p1)) (w' := w9) rfl rfl rfl (x_move (v := (Sl.v p1)) rfl e1) ?_
  obtain ⟨q24, z24, r24, h⟩ := h
  generalize hp24 : z24.add ((7 : Int).toNat * 1) = p24 at h
  refine wpR_val (v := (Value.pointer (some p24))) (w' := w9) rfl rfl rfl ((x_indexAddr (s := p1) rfl rfl rfl ES_38 q24 r24).trans (by rw [hp24])) ?_
  obtain ⟨x25, q25, h⟩ := h
  refine wpR_val (v := (Value.int .i64 x25)) (w' := w9) rfl rfl rfl (x_load1 rfl rfl SH_3 q25) ?_
  refine wpR_val (v := (Value.pointer (some ((Addr.mk b1 0 none).add 9)))) (w' := w9) rfl rfl rfl (x_fieldAddr rfl e2 FA_24_9) ?_
  obtain ⟨q26, h⟩ := h
  obtain ⟨w10, hw26⟩ : ∃ u, u = setAll w9 ((Addr.mk b1 0 none).add 9) [(Value.int .i64 x25)] 0 := ⟨_, rfl⟩
  replace h := h w10 hw26
  refine wpR_skp (w' := w10) rfl rfl ((x_store (v := (Value.int .i64 x25)) rfl rfl rfl SZ_3 (ones (by rfl)) q26).trans (by rw [hw26]; rfl)) ?_
  refine wpR_nil ?_
  refine wpC_seq ?_
  refine wpC_cut (fun ρ => ρ 1 = (Sl.v p1) ∧ ρ 2 = (Value.pointer (some (Addr.mk b1 0 none))) ∧ ρ 4 = (Value.pointer (some (Addr.mk b2 0 none))) ∧ True) ⟨e1, e2, e4, trivial⟩ ?_
  rintro ρ ⟨e1, e2, e4, -⟩
  refine wpC_region ?_
  refine wpR_val (v := (Sl.v p1)) (w' := w10) rfl rfl rfl (x_move (v := (Sl.v p1)) rfl e1) ?_
  obtain ⟨q27, z27, r27, h⟩ := h
  generalize hp27 : z27.add ((8 : Int).toNat * 1) = p27 at h
  refine wpR_val (v := (Value.pointer (some p27))) (w' := w10) rfl rfl rfl ((x_indexAddr (s := p1) rfl rfl rfl ES_38 q27 r27).trans (by rw [hp27])) ?_
  obtain ⟨x28, q28, h⟩ := h
  refine wpR_val (v := (Value.int .i64 x28)) (w' := w10) rfl rfl rfl (x_load1 rfl rfl SH_3 q28) ?_
  refine wpR_val (v := (Value.pointer (some ((Addr.mk b1 0 none).add 10)))) (w' := w10) rfl rfl rfl (x_fieldAddr rfl e2 FA_24_10) ?_
  obtain ⟨q29, h⟩ := h
  obtain ⟨w11, hw29⟩ : ∃ u, u = setAll w10 ((Addr.mk b1 0 none).add 10) [(Value.int .i64 x28)] 0 := ⟨_, rfl⟩
  replace h := h w11 hw29
  refine wpR_skp (w' := w11) rfl rfl ((x_store (v := (Value.int .i64 x28)) rfl rfl rfl SZ_3 (ones (by rfl)) q29).trans (by rw [hw29]; rfl)) ?_
  refine wpR_nil ?_
  refine wpC_seq ?_
  refine wpC_cut (fun ρ => ρ 1 = (Sl.v p1) ∧ ρ 2 = (Value.pointer (some (Addr.mk b1 0 none))) ∧ ρ 4 = (Value.pointer (some (Addr.mk b2 0 none))) ∧ True) ⟨e1, e2, e4, trivial⟩ ?_
  rintro ρ ⟨e1, e2, e4, -⟩
  refine wpC_region ?_
  refine wpR_val (v := (Sl.v p1)) (w' := w11) rfl rfl rfl (x_move (v := (Sl.v p1)) rfl e1) ?_
  obtain ⟨q30, z30, r30, h⟩ := h
  generalize hp30 : z30.add ((9 : Int).toNat * 1) = p30 at h
  refine wpR_val (v := (Value.pointer (some p30))) (w' := w11) rfl rfl rfl ((x_indexAddr (s := p1) rfl rfl rfl ES_38 q30 r30).trans (by rw [hp30])) ?_
  obtain ⟨x31, q31, h⟩ := h
  refine wpR_val (v := (Value.int .i64 x31)) (w' := w11) rfl rfl rfl (x_load1 rfl rfl SH_3 q31) ?_
  refine wpR_val (v := (Value.pointer (some ((Addr.mk b1 0 none).add 11)))) (w' := w11) rfl rfl rfl (x_fieldAddr rfl e2 FA_24_11) ?_
  obtain ⟨q32, h⟩ := h
  obtain ⟨w12, hw32⟩ : ∃ u, u = setAll w11 ((Addr.mk b1 0 none).add 11) [(Value.int .i64 x31)] 0 := ⟨_, rfl⟩
  replace h := h w12 hw32
  refine wpR_skp (w' := w12) rfl rfl ((x_store (v := (Value.int .i64 x31)) rfl rfl rfl SZ_3 (ones (by rfl)) q32).trans (by rw [hw32]; rfl)) ?_
  refine wpR_nil ?_
  refine wpC_seq ?_
  refine wpC_cut (fun ρ => ρ 1 = (Sl.v p1) ∧ ρ 2 = (Value.pointer (some (Addr.mk b1 0 none))) ∧ ρ 4 = (Value.pointer (some (Addr.mk b2 0 none))) ∧ True) ⟨e1, e2, e4, trivial⟩ ?_
  rintro ρ ⟨e1, e2, e4, -⟩
  refine wpC_region ?_
  refine wpR_val (v := (Sl.v p1)) (w' := w12) rfl rfl rfl (x_move (v := (Sl.v p1)) rfl e1) ?_
  obtain ⟨q33, z33, r33, h⟩ := h
  generalize hp33 : z33.add ((10 : Int).toNat * 1) = p33 at h
  refine wpR_val (v := (Value.pointer (some p33))) (w' := w12) rfl rfl rfl ((x_indexAddr (s := p1) rfl rfl rfl ES_38 q33 r33).trans (by rw [hp33])) ?_
  obtain ⟨x34, q34, h⟩ := h
  refine wpR_val (v := (Value.int .i64 x34)) (w' := w12) rfl rfl rfl (x_load1 rfl rfl SH_3 q34) ?_
  refine wpR_val (v := (Value.pointer (some ((Addr.mk b1 0 none).add 16)))) (w' := w12) rfl rfl rfl (x_fieldAddr rfl e2 FA_24_16) ?_
  obtain ⟨q35, h⟩ := h
  obtain ⟨w13, hw35⟩ : ∃ u, u = setAll w12 ((Addr.mk b1 0 none).add 16) [(Value.int .i64 x34)] 0 := ⟨_, rfl⟩
  replace h := h w13 hw35
  refine wpR_skp (w' := w13) rfl rfl ((x_store (v := (Value.int .i64 x34)) rfl rfl rfl SZ_3 (ones (by rfl)) q35).trans (by rw [hw35]; rfl)) ?_
  refine wpR_nil ?_
  refine wpC_seq ?_
  refine wpC_cut (fun ρ => ρ 2 = (Value.pointer (some (Addr.mk b1 0 none))) ∧ ρ 4 = (Value.pointer (some (Addr.mk b2 0 none))) ∧ True) ⟨e2, e4, trivial⟩ ?_
  rintro ρ ⟨e2, e4, -⟩
  refine wpC_region ?_
  refine wpR_val (v := (Value.pointer (some ((Addr.mk b1 0 none).add 12)))) (w' := w13) rfl rfl rfl (x_fieldAddr rfl e2 FA_24_12) ?_
  obtain ⟨q36, h⟩ := h
  obtain ⟨w14, hw36⟩ : ∃ u, u = setAll w13 ((Addr.mk b1 0 none).add 12) [(Sl.v Sl.nil)] 0 := ⟨_, rfl⟩
  replace h := h w14 hw36
  refine wpR_skp (w' := w14) rfl rfl ((x_store (v := (Sl.v Sl.nil)) rfl rfl rfl SZ_22 (ones (by rfl)) q36).trans (by rw [hw36]; rfl)) ?_
  refine wpR_nil ?_
  refine wpC_seq ?_
  refine wpC_cut (fun ρ => ρ 2 = (Value.pointer (some (Addr.mk b1 0 none))) ∧ ρ 4 = (Value.pointer (some (Addr.mk b2 0 none))) ∧ True) ⟨e2, e4, trivial⟩ ?_
  rintro ρ ⟨e2, e4, -⟩
  refine wpC_region ?_
  obtain ⟨x37, q37, x38, q38, x39, q39, x40, q40, x41, q41, x42, q42, x43, q43, x44, q44, x45, q45, x46, q46, x47, q47, x48, q48, x49, q49, x50, q50, x51, q51, x52, q52, x53, q53, x54, q54, x55, q55, x56, q56, x57, q57, x58, q58, h⟩ := h
  refine wpR_val (v := (V23 x37 x38 x39 x40 x41 x42 x43 x44 x45 x46 x47 x48 x49 x50 x51 x52 x53 x54 x55 x56 x57 x58)) (w' := w14) rfl rfl rfl (x_loadN (S23 x37 x38 x39 x40 x41 x42 x43 x44 x45 x46 x47 x48 x49 x50 x51 x52 x53 x54 x55 x56 x57 x58) rfl e2 SH_24 (K23 ⟨q37, q38, q39, q40, q41, q42, q43, q44, q45, q46, q47, q48, q49, q50, q51, q52, q53, q54, q55, q56, q57, q58⟩)) ?_
  obtain ⟨q59, h⟩ := h
  obtain ⟨w15, hw59⟩ : ∃ u, u = setAll w14 (Addr.mk b2 0 none) (S23 x37 x38 x39 x40 x41 x42 x43 x44 x45 x46 x47 x48 x49 x50 x51 x52 x53 x54 x55 x56 x57 x58) 0 := ⟨_, rfl⟩
  replace h := h w15 hw59
  refine wpR_skp (w' := w15) rfl rfl ((x_store (v := (V23 x37 x38 x39 x40 x41 x42 x43 x44 x45 x46 x47 x48 x49 x50 x51 x52 x53 x54 x55 x56 x57 x58)) rfl e4 rfl SZ_24 (ones (by rfl)) q59).trans (by rw [hw59]; rfl)) ?_
  refine wpR_nil ?_
  refine wpC_ret ?_
  obtain ⟨x60, q60, x61, q61, x62, q62, x63, q63, x64, q64, x65, q65, x66, q66, x67, q67, x68, q68, x69, q69, x70, q70, x71, q71, x72, q72, x73, q73, x74, q74, x75, q75, x76, q76, x77, q77, x78, q78, x79, q79, x80, q80, x81, q81, h⟩ := h
  exact ⟨.inl rfl, fun a ha => ⟨_, results_repC (S23 x60 x61 x62 x63 x64 x65 x66 x67 x68 x69 x70 x71 x72 x73 x74 x75 x76 x77 x78 x79 x80 x81) rfl ha e4 SH_24 (K23 ⟨q60, q61, q62, q63, q64, q65, q66, q67, q68, q69, q70, q71, q72, q73, q74, q75, q76, q77, q78, q79, q80, q81⟩), (x60, x61, x62, x63, x64, x65, x66, x67, x68, x69, x70, x71, x72, x73, x74, x75, x76, x77, x78, x79, x80, x81), rfl, h⟩⟩

/-- profile.longer -/
def F34 (p0_0 : ByteArray) (p0_1 : Int) (p0_2 : Int) (p0_3 : Int) (p0_4 : Bool) (p0_5 : Int) (p0_6 : Bool) (p0_7 : Bool) (p0_8 : Int) (p0_9 : Int) (p0_10 : Int) (p0_11 : Int) (p0_12 : Sl) (p0_13 : Int) (p0_14 : Int) (p0_15 : Int) (p0_16 : Int) (p0_17 : Bool) (p0_18 : Int) (p0_19 : Int) (p0_20 : Int) (p0_21 : Int) (p1_0 : ByteArray) (p1_1 : Int) (p1_2 : Int) (p1_3 : Int) (p1_4 : Bool) (p1_5 : Int) (p1_6 : Bool) (p1_7 : Bool) (p1_8 : Int) (p1_9 : Int) (p1_10 : Int) (p1_11 : Int) (p1_12 : Sl) (p1_13 : Int) (p1_14 : Int) (p1_15 : Int) (p1_16 : Int) (p1_17 : Bool) (p1_18 : Int) (p1_19 : Int) (p1_20 : Int) (p1_21 : Int) (w0 : World) (K : Int → World → Prop) : Prop :=
  nw 24 (A23 p0_0 p0_1 p0_2 p0_3 p0_4 p0_5 p0_6 p0_7 p0_8 p0_9 p0_10 p0_11 p0_12 p0_13 p0_14 p0_15 p0_16 p0_17 p0_18 p0_19 p0_20 p0_21) w0 fun b1 w1 =>
  nw 24 (A23 p1_0 p1_1 p1_2 p1_3 p1_4 p1_5 p1_6 p1_7 p1_8 p1_9 p1_10 p1_11 p1_12 p1_13 p1_14 p1_15 p1_16 p1_17 p1_18 p1_19 p1_20 p1_21) w1 fun b2 w2 =>
  ld (Value.int .i64) ((Addr.mk b1 0 none).add 1) w2 fun x3 =>
  jp (fun J4 => cnd (!decide (x3 = 2))
    (
    ld (Value.int .i64) ((Addr.mk b2 0 none).add 1) w2 fun x6 =>
    J4 (!decide (x6 = 2))
    )
    (
    J4 false
    ))
  fun c7 =>
  cnd (c7)
    (
    K 0 w2
    )
    (
    ld (Value.int .i64) ((Addr.mk b2 0 none).add 1) w2 fun x9 =>
    cnd (!decide (x9 = 2))
      (
      ld (Value.int .i64) ((Addr.mk b1 0 none).add 2) w2 fun x11 =>
      K x11 w2
      )
      (
      ld (Value.int .i64) ((Addr.mk b1 0 none).add 1) w2 fun x12 =>
      cnd (!decide (x12 = 2))
        (
        ld (Value.int .i64) ((Addr.mk b2 0 none).add 2) w2 fun x14 =>
        K x14 w2
        )
        (
        ld (Value.int .i64) ((Addr.mk b1 0 none).add 2) w2 fun x15 =>
        jp (fun J16 => cnd (decide (x15 = 0))
          (
          J16 true
          )
          (
          ld (Value.int .i64) ((Addr.mk b2 0 none).add 2) w2 fun x18 =>
          J16 (decide (x18 = 0))
          ))
        fun c19 =>
        cnd (c19)
          (
          K 0 w2
          )
          (
          ld (Value.int .i64) ((Addr.mk b1 0 none).add 2) w2 fun x21 =>
          ld (Value.int .i64) ((Addr.mk b2 0 none).add 2) w2 fun x22 =>
          K (max x21 x22) w2
          )
        )
      )
    )
set_option maxRecDepth 100000 in
theorem D34 (p0_0 : ByteArray) (p0_1 : Int) (p0_2 : Int) (p0_3 : Int) (p0_4 : Bool) (p0_5 : Int) (p0_6 : Bool) (p0_7 : Bool) (p0_8 : Int) (p0_9 : Int) (p0_10 : Int) (p0_11 : Int) (p0_12 : Sl) (p0_13 : Int) (p0_14 : Int) (p0_15 : Int) (p0_16 : Int) (p0_17 : Bool) (p0_18 : Int) (p0_19 : Int) (p0_20 : Int) (p0_21 : Int) (p1_0 : ByteArray) (p1_1 : Int) (p1_2 : Int) (p1_3 : Int) (p1_4 : Bool) (p1_5 : Int) (p1_6 : Bool) (p1_7 : Bool) (p1_8 : Int) (p1_9 : Int) (p1_10 : Int) (p1_11 : Int) (p1_12 : Sl) (p1_13 : Int) (p1_14 : Int) (p1_15 : Int) (p1_16 : Int) (p1_17 : Bool) (p1_18 : Int) (p1_19 : Int) (p1_20 : Int) (p1_21 : Int) (w0 : World) (K : Int → World → Prop) (h : F34 p0_0 p0_1 p0_2 p0_3 p0_4 p0_5 p0_6 p0_7 p0_8 p0_9 p0_10 p0_11 p0_12 p0_13 p0_14 p0_15 p0_16 p0_17 p0_18 p0_19 p0_20 p0_21 p1_0 p1_1 p1_2 p1_3 p1_4 p1_5 p1_6 p1_7 p1_8 p1_9 p1_10 p1_11 p1_12 p1_13 p1_14 p1_15 p1_16 p1_17 p1_18 p1_19 p1_20 p1_21 w0 K) : callC Try.prog 34 #[(V23 p0_0 p0_1 p0_2 p0_3 p0_4 p0_5 p0_6 p0_7 p0_8 p0_9 p0_10 p0_11 p0_12 p0_13 p0_14 p0_15 p0_16 p0_17 p0_18 p0_19 p0_20 p0_21), (V23 p1_0 p1_1 p1_2 p1_3 p1_4 p1_5 p1_6 p1_7 p1_8 p1_9 p1_10 p1_11 p1_12 p1_13 p1_14 p1_15 p1_16 p1_17 p1_18 p1_19 p1_20 p1_21)] (fun (r : Int) => (Value.int .i64 r)) w0 K := by
  unfold F34 at h
  refine calls_of_wpC Try.func34 rfl 40 rfl (by simp) ?_
  intro ρ hρ
  have e0 : ρ 0 = (V23 p0_0 p0_1 p0_2 p0_3 p0_4 p0_5 p0_6 p0_7 p0_8 p0_9 p0_10 p0_11 p0_12 p0_13 p0_14 p0_15 p0_16 p0_17 p0_18 p0_19 p0_20 p0_21) := hρ 0
  have e1 : ρ 1 = (V23 p1_0 p1_1 p1_2 p1_3 p1_4 p1_5 p1_6 p1_7 p1_8 p1_9 p1_10 p1_11 p1_12 p1_13 p1_14 p1_15 p1_16 p1_17 p1_18 p1_19 p1_20 p1_21) := hρ 1
  clear hρ
  refine wpC_seq ?_
  refine wpC_region ?_
  obtain ⟨b1, hb1⟩ : ∃ u, u = w0.heap.size := ⟨_, rfl⟩
  obtain ⟨w1, hw1⟩ : ∃ u, u = w0.alloc (.cells (A23 p0_0 p0_1 p0_2 p0_3 p0_4 p0_5 p0_6 p0_7 p0_8 p0_9 p0_10 p0_11 p0_12 p0_13 p0_14 p0_15 p0_16 p0_17 p0_18 p0_19 p0_20 p0_21) 24) := ⟨_, rfl⟩
  replace h := h b1 w1 hb1 hw1
  refine wpR_val (v := (Value.pointer (some (Addr.mk b1 0 none)))) (w' := w1) rfl rfl rfl ((x_box (v := (V23 p0_0 p0_1 p0_2 p0_3 p0_4 p0_5 p0_6 p0_7 p0_8 p0_9 p0_10 p0_11 p0_12 p0_13 p0_14 p0_15 p0_16 p0_17 p0_18 p0_19 p0_20 p0_21)) rfl e0).trans (by rw [hb1, hw1]; rfl)) ?_
  obtain ⟨b2, hb2⟩ : ∃ u, u = w1.heap.size := ⟨_, rfl⟩
  obtain ⟨w2, hw2⟩ : ∃ u, u = w1.alloc (.cells (A23 p1_0 p1_1 p1_2 p1_3 p1_4 p1_5 p1_6 p1_7 p1_8 p1_9 p1_10 p1_11 p1_12 p1_13 p1_14 p1_15 p1_16 p1_17 p1_18 p1_19 p1_20 p1_21) 24) := ⟨_, rfl⟩
  replace h := h b2 w2 hb2 hw2
  refine wpR_val (v := (Value.pointer (some (Addr.mk b2 0 none)))) (w' := w2) rfl rfl rfl ((x_box (v := (V23 p1_0 p1_1 p1_2 p1_3 p1_4 p1_5 p1_6 p1_7 p1_8 p1_9 p1_10 p1_11 p1_12 p1_13 p1_14 p1_15 p1_16 p1_17 p1_18 p1_19 p1_20 p1_21)) rfl e1).trans (by rw [hb2, hw2]; rfl)) ?_
  refine wpR_val (v := (Value.int .i64 0)) (w' := w2) rfl rfl rfl (x_assign (v := (Value.int .i64 0)) rfl rfl) ?_
  refine wpR_nil ?_
  refine wpC_seq ?_
  refine wpC_block ?_
  refine wpC_seq ?_
  refine wpC_cut (fun ρ => ρ 2 = (Value.pointer (some (Addr.mk b1 0 none))) ∧ ρ 3 = (Value.pointer (some (Addr.mk b2 0 none))) ∧ True) ⟨rfl, rfl, trivial⟩ ?_
  rintro ρ ⟨e2, e3, -⟩
  refine wpC_region ?_
  refine wpR_val (v := (Value.pointer (some ((Addr.mk b1 0 none).add 1)))) (w' := w2) rfl rfl rfl (x_fieldAddr rfl e2 FA_24_1) ?_
  obtain ⟨x3, q3, h⟩ := h
  refine wpR_val (v := (Value.int .i64 x3)) (w' := w2) rfl rfl rfl (x_load1 rfl rfl SH_3 q3) ?_
  refine wpR_val (v := (Value.bool (!decide (x3 = 2)))) (w' := w2) rfl rfl rfl (x_neq rfl rfl rfl) ?_
  refine wpR_val (v := (Value.bool (!decide (x3 = 2)))) (w' := w2) rfl rfl rfl (x_move (v := (Value.bool (!decide (x3 = 2)))) rfl rfl) ?_
  obtain ⟨J4, h, hk⟩ := h
  refine wpR_joinJ 4 (fun x ρ => ρ 13 = Value.bool x ∧ ρ 2 = (Value.pointer (some (Addr.mk b1 0 none))) ∧ ρ 3 = (Value.pointer (some (Addr.mk b2 0 none))) ∧ True) (fun x w => J4 x ∧ w2 = w) ?_ ?_
  · clear hk
    rcases Bool.eq_false_or_eq_true (!decide (x3 = 2)) with hc5 | hc5
    · replace h := h.1 hc5
      refine wpR_val (v := (Value.pointer (some ((Addr.mk b2 0 none).add 1)))) (w' := w2) (wantG rfl rfl rfl hc5) rfl rfl (x_fieldAddr rfl e3 FA_24_1) ?_
      obtain ⟨x6, q6, h⟩ := h
      refine wpR_val (v := (Value.int .i64 x6)) (w' := w2) (wantG rfl rfl rfl hc5) rfl rfl (x_load1 rfl rfl SH_3 q6) ?_
      refine wpR_val (v := (Value.bool (!decide (x6 = 2)))) (w' := w2) (wantG rfl rfl rfl hc5) rfl rfl (x_neq rfl rfl rfl) ?_
      refine wpR_val (v := (Value.bool (!decide (x6 = 2)))) (w' := w2) rfl rfl rfl (x_pickT (v := (Value.bool (!decide (x6 = 2)))) rfl rfl hc5 rfl) ?_
      refine wpR_nil ?_
      exact ⟨!decide (x6 = 2), ⟨rfl, e2, e3, trivial⟩, h, rfl⟩
    · replace h := h.2 hc5
      refine wpR_pass (wantN rfl rfl rfl hc5) rfl rfl ?_
      refine wpR_pass (wantN rfl rfl rfl hc5) rfl rfl ?_
      refine wpR_pass (wantN rfl rfl rfl hc5) rfl rfl ?_
      refine wpR_val (v := (Value.bool false)) (w' := w2) rfl rfl rfl (x_pickF (v := (Value.bool false)) rfl rfl hc5 rfl) ?_
      refine wpR_nil ?_
      exact ⟨false, ⟨rfl, e2, e3, trivial⟩, h, rfl⟩
  clear h
  rintro c7 ρ wj ⟨e13, e2, e3, -⟩ ⟨h, rfl⟩
  replace h := hk c7 h
  clear hk
  refine wpR_val (v := (Value.bool c7)) (w' := w2) rfl rfl rfl (x_assign (v := (Value.bool c7)) rfl e13) ?_
  refine wpR_nil ?_
  refine wpC_cond (b := c7) rfl (fun hc8 => ?_) (fun hc8 => ?_)
  · replace h := h.1 hc8
    refine wpC_seq ?_
    refine wpC_cut (fun ρ => True) trivial ?_
    rintro ρ -
    refine wpC_region ?_
    refine wpR_val (v := (Value.int .i64 0)) (w' := w2) rfl rfl rfl (x_assign (v := (Value.int .i64 0)) rfl rfl) ?_
    refine wpR_nil ?_
    refine wpC_ret ?_
    exact ⟨.inl rfl, fun a ha => ⟨_, results_rep1 rfl ha rfl, 0, rfl, h⟩⟩
  · replace h := h.2 hc8
    refine wpC_seq ?_
    refine wpC_cut (fun ρ => ρ 2 = (Value.pointer (some (Addr.mk b1 0 none))) ∧ ρ 3 = (Value.pointer (some (Addr.mk b2 0 none))) ∧ True) ⟨e2, e3, trivial⟩ ?_
    rintro ρ ⟨e2, e3, -⟩
    refine wpC_region ?_
    refine wpR_val (v := (Value.pointer (some ((Addr.mk b2 0 none).add 1)))) (w' := w2) rfl rfl rfl (x_fieldAddr rfl e3 FA_24_1) ?_
    obtain ⟨x9, q9, h⟩ := h
    refine wpR_val (v := (Value.int .i64 x9)) (w' := w2) rfl rfl rfl (x_load1 rfl rfl SH_3 q9) ?_
    refine wpR_val (v := (Value.bool (!decide (x9 = 2)))) (w' := w2) rfl rfl rfl (x_neq rfl rfl rfl) ?_
    refine wpR_val (v := (Value.bool (!decide (x9 = 2)))) (w' := w2) rfl rfl rfl (x_assign (v := (Value.bool (!decide (x9 = 2)))) rfl rfl) ?_
    refine wpR_nil ?_
    refine wpC_cond (b := !decide (x9 = 2)) rfl (fun hc10 => ?_) (fun hc10 => ?_)
    · replace h := h.1 hc10
      refine wpC_seq ?_
      refine wpC_cut (fun ρ => ρ 2 = (Value.pointer (some (Addr.mk b1 0 none))) ∧ True) ⟨e2, trivial⟩ ?_
      rintro ρ ⟨e2, -⟩
      refine wpC_region ?_
      refine wpR_val (v := (Value.pointer (some ((Addr.mk b1 0 none).add 2)))) (w' := w2) rfl rfl rfl (x_fieldAddr rfl e2 FA_24_2) ?_
      obtain ⟨x11, q11, h⟩ := h
      refine wpR_val (v := (Value.int .i64 x11)) (w' := w2) rfl rfl rfl (x_load1 rfl rfl SH_3 q11) ?_
      refine wpR_val (v := (Value.int .i64 x11)) (w' := w2) rfl rfl rfl (x_assign (v := (Value.int .i64 x11)) rfl rfl) ?_
      refine wpR_nil ?_
      refine wpC_ret ?_
      exact ⟨.inl rfl, fun a ha => ⟨_, results_rep1 rfl ha rfl, x11, rfl, h⟩⟩
    · replace h := h.2 hc10
      refine wpC_seq ?_
      refine wpC_cut (fun ρ => ρ 2 = (Value.pointer (some (Addr.mk b1 0 none))) ∧ ρ 3 = (Value.pointer (some (Addr.mk b2 0 none))) ∧ True) ⟨e2, e3, trivial⟩ ?_
      rintro ρ ⟨e2, e3, -⟩
      refine wpC_region ?_
      refine wpR_val (v := (Value.pointer (some ((Addr.mk b1 0 none).add 1)))) (w' := w2) rfl rfl rfl (x_fieldAddr rfl e2 FA_24_1) ?_
      obtain ⟨x12, q12, h⟩ := h
      refine wpR_val (v := (Value.int .i64 x12)) (w' := w2) rfl rfl rfl (x_load1 rfl rfl SH_3 q12) ?_
      refine wpR_val (v := (Value.bool (!decide (x12 = 2)))) (w' := w2) rfl rfl rfl (x_neq rfl rfl rfl) ?_
      refine wpR_val (v := (Value.bool (!decide (x12 = 2)))) (w' := w2) rfl rfl rfl (x_assign (v := (Value.bool (!decide (x12 = 2)))) rfl rfl) ?_
      refine wpR_nil ?_
      refine wpC_cond (b := !decide (x12 = 2)) rfl (fun hc13 => ?_) (fun hc13 => ?_)
      · replace h := h.1 hc13
        refine wpC_seq ?_
        refine wpC_cut (fun ρ => ρ 3 = (Value.pointer (some (Addr.mk b2 0 none))) ∧ True) ⟨e3, trivial⟩ ?_
        rintro ρ ⟨e3, -⟩
        refine wpC_region ?_
        refine wpR_val (v := (Value.pointer (some ((Addr.mk b2 0 none).add 2)))) (w' := w2) rfl rfl rfl (x_fieldAddr rfl e3 FA_24_2) ?_
        obtain ⟨x14, q14, h⟩ := h
        refine wpR_val (v := (Value.int .i64 x14)) (w' := w2) rfl rfl rfl (x_load1 rfl rfl SH_3 q14) ?_
        refine wpR_val (v := (Value.int .i64 x14)) (w' := w2) rfl rfl rfl (x_assign (v := (Value.int .i64 x14)) rfl rfl) ?_
        refine wpR_nil ?_
        refine wpC_ret ?_
        exact ⟨.inl rfl, fun a ha => ⟨_, results_rep1 rfl ha rfl, x14, rfl, h⟩⟩
      · replace h := h.2 hc13
        refine wpC_seq ?_
        refine wpC_cut (fun ρ => ρ 2 = (Value.pointer (some (Addr.mk b1 0 none))) ∧ ρ 3 = (Value.pointer (some (Addr.mk b2 0 none))) ∧ True) ⟨e2, e3, trivial⟩ ?_
        rintro ρ ⟨e2, e3, -⟩
        refine wpC_region ?_
        refine wpR_val (v := (Value.pointer (some ((Addr.mk b1 0 none).add 2)))) (w' := w2) rfl rfl rfl (x_fieldAddr rfl e2 FA_24_2) ?_
        obtain ⟨x15, q15, h⟩ := h
        refine wpR_val (v := (Value.int .i64 x15)) (w' := w2) rfl rfl rfl (x_load1 rfl rfl SH_3 q15) ?_
        refine wpR_val (v := (Value.bool (decide (x15 = 0)))) (w' := w2) rfl rfl rfl (x_eql rfl rfl rfl) ?_
        refine wpR_val (v := (Value.bool (decide (x15 = 0)))) (w' := w2) rfl rfl rfl (x_move (v := (Value.bool (decide (x15 = 0)))) rfl rfl) ?_
        obtain ⟨J16, h, hk⟩ := h
        refine wpR_joinJ 4 (fun x ρ => ρ 34 = Value.bool x ∧ ρ 2 = (Value.pointer (some (Addr.mk b1 0 none))) ∧ ρ 3 = (Value.pointer (some (Addr.mk b2 0 none))) ∧ True) (fun x w => J16 x ∧ w2 = w) ?_ ?_
        · clear hk
          rcases Bool.eq_false_or_eq_true (decide (x15 = 0)) with hc17 | hc17
          · replace h := h.1 hc17
            refine wpR_pass (wantN rfl rfl rfl hc17) rfl rfl ?_
            refine wpR_pass (wantN rfl rfl rfl hc17) rfl rfl ?_
            refine wpR_pass (wantN rfl rfl rfl hc17) rfl rfl ?_
            refine wpR_val (v := (Value.bool true)) (w' := w2) rfl rfl rfl (x_pickT (v := (Value.bool true)) rfl rfl hc17 rfl) ?_
            refine wpR_nil ?_
            exact ⟨true, ⟨rfl, e2, e3, trivial⟩, h, rfl⟩
          · replace h := h.2 hc17
            refine wpR_val (v := (Value.pointer (some ((Addr.mk b2 0 none).add 2)))) (w' := w2) (wantG rfl rfl rfl hc17) rfl rfl (x_fieldAddr rfl e3 FA_24_2) ?_
            obtain ⟨x18, q18, h⟩ := h
            refine wpR_val (v := (Value.int .i64 x18)) (w' := w2) (wantG rfl rfl rfl hc17) rfl rfl (x_load1 rfl rfl SH_3 q18) ?_
            refine wpR_val (v := (Value.bool (decide (x18 = 0)))) (w' := w2) (wantG rfl rfl rfl hc17) rfl rfl (x_eql rfl rfl rfl) ?_
            refine wpR_val (v := (Value.bool (decide (x18 = 0)))) (w' := w2) rfl rfl rfl (x_pickF (v := (Value.bool (decide (x18 = 0)))) rfl rfl hc17 rfl) ?_
            refine wpR_nil ?_
            exact ⟨decide (x18 = 0), ⟨rfl, e2, e3, trivial⟩, h, rfl⟩
        clear h
        rintro c19 ρ wj ⟨e34, e2, e3, -⟩ ⟨h, rfl⟩
        replace h := hk c19 h
        clear hk
        refine wpR_val (v := (Value.bool c19)) (w' := w2) rfl rfl rfl (x_assign (v := (Value.bool c19)) rfl e34) ?_
        refine wpR_nil ?_
        refine wpC_cond (b := c19) rfl (fun hc20 => ?_) (fun hc20 => ?_)
        · replace h := h.1 hc20
          refine wpC_seq ?_
          refine wpC_cut (fun ρ => True) trivial ?_
          rintro ρ -
          refine wpC_region ?_
          refine wpR_val (v := (Value.int .i64 0)) (w' := w2) rfl rfl rfl (x_assign (v := (Value.int .i64 0)) rfl rfl) ?_
          refine wpR_nil ?_
          refine wpC_ret ?_
          exact ⟨.inl rfl, fun a ha => ⟨_, results_rep1 rfl ha rfl, 0, rfl, h⟩⟩
        · replace h := h.2 hc20
          refine wpC_skip ?_
          refine wpC_seq ?_
          refine wpC_cut (fun ρ => ρ 2 = (Value.pointer (some (Addr.mk b1 0 none))) ∧ ρ 3 = (Value.pointer (some (Addr.mk b2 0 none))) ∧ True) ⟨e2, e3, trivial⟩ ?_
          rintro ρ ⟨e2, e3, -⟩
          refine wpC_region ?_
          refine wpR_val (v := (Value.pointer (some ((Addr.mk b1 0 none).add 2)))) (w' := w2) rfl rfl rfl (x_fieldAddr rfl e2 FA_24_2) ?_
          obtain ⟨x21, q21, h⟩ := h
          refine wpR_val (v := (Value.int .i64 x21)) (w' := w2) rfl rfl rfl (x_load1 rfl rfl SH_3 q21) ?_
          refine wpR_val (v := (Value.pointer (some ((Addr.mk b2 0 none).add 2)))) (w' := w2) rfl rfl rfl (x_fieldAddr rfl e3 FA_24_2) ?_
          obtain ⟨x22, q22, h⟩ := h
          refine wpR_val (v := (Value.int .i64 x22)) (w' := w2) rfl rfl rfl (x_load1 rfl rfl SH_3 q22) ?_
          refine wpR_val (v := (Value.int .i64 (max x21 x22))) (w' := w2) rfl rfl rfl (x_max rfl rfl rfl) ?_
          refine wpR_val (v := (Value.int .i64 (max x21 x22))) (w' := w2) rfl rfl rfl (x_assign (v := (Value.int .i64 (max x21 x22))) rfl rfl) ?_
          refine wpR_nil ?_
          refine wpC_ret ?_
          exact ⟨.inl rfl, fun a ha => ⟨_, results_rep1 rfl ha rfl, max x21 x22, rfl, h⟩⟩

/-- slices.Clone[[]string,string] -/
def F35 (p0 : Sl) (w0 : World) (K : Sl → World → Prop) : Prop :=
  cnd (p0.a.isNone)
    (
    K Sl.nil w0
    )
    (
    nw 9 #[] w0 fun b2 w1 =>
    rn Try.prog (Builtin.append_ #[22, 22] 22 #[Sl.v (⟨some ⟨b2, 0, none⟩, 0, 0⟩ : Sl), Sl.v p0]) Sl.v w1 fun r3 w2 =>
    K r3 w2
    )
set_option maxRecDepth 100000 in
theorem D35 (p0 : Sl) (w0 : World) (K : Sl → World → Prop) (h : F35 p0 w0 K) : callC Try.prog 35 #[(Sl.v p0)] (fun (r : Sl) => (Sl.v r)) w0 K := by
  unfold F35 at h
  refine calls_of_wpC Try.func35 rfl 8 rfl (by simp) ?_
  intro ρ hρ
  have e0 : ρ 0 = (Sl.v p0) := hρ 0
  clear hρ
  refine wpC_seq ?_
  refine wpC_region ?_
  refine wpR_val (v := (Sl.v Sl.nil)) (w' := w0) rfl rfl rfl (x_assign (v := (Sl.v Sl.nil)) rfl rfl) ?_
  refine wpR_nil ?_
  refine wpC_seq ?_
  refine wpC_seq ?_
  refine wpC_cut (fun ρ => ρ 0 = (Sl.v p0) ∧ True) ⟨e0, trivial⟩ ?_
  rintro ρ ⟨e0, -⟩
  refine wpC_region ?_
  refine wpR_val (v := (Sl.v p0)) (w' := w0) rfl rfl rfl (x_move (v := (Sl.v p0)) rfl e0) ?_
  refine wpR_val (v := (Value.bool p0.a.isNone)) (w' := w0) rfl rfl rfl (x_eqlNilS (s := p0) rfl rfl rfl isSliceT_22) ?_
  refine wpR_nil ?_
  refine wpC_cond (b := p0.a.isNone) rfl (fun hc1 => ?_) (fun hc1 => ?_)
  · replace h := h.1 hc1
    refine wpC_seq ?_
    refine wpC_cut (fun ρ => True) trivial ?_
    rintro ρ -
    refine wpC_region ?_
    refine wpR_val (v := (Sl.v Sl.nil)) (w' := w0) rfl rfl rfl (x_assign (v := (Sl.v Sl.nil)) rfl rfl) ?_
    refine wpR_nil ?_
    refine wpC_ret ?_
    exact ⟨.inl rfl, fun a ha => ⟨_, results_rep1 rfl ha rfl, Sl.nil, rfl, h⟩⟩
  · replace h := h.2 hc1
    refine wpC_skip ?_
    refine wpC_seq ?_
    refine wpC_cut (fun ρ => ρ 0 = (Sl.v p0) ∧ True) ⟨e0, trivial⟩ ?_
    rintro ρ ⟨e0, -⟩
    refine wpC_region ?_
    obtain ⟨b2, hb2⟩ : ∃ u, u = w0.heap.size := ⟨_, rfl⟩
    obtain ⟨w1, hw2⟩ : ∃ u, u = w0.alloc (.cells #[] 9) := ⟨_, rfl⟩
    replace h := h b2 w1 hb2 hw2
    refine wpR_val (v := (Sl.v (⟨some ⟨b2, 0, none⟩, 0, 0⟩ : Sl))) (w' := w1) rfl rfl rfl ((x_buildSlice (qs := []) rfl (by rfl) (BS_22_0_ )).trans (by rw [← hb2, ← hw2])) ?_
    refine wpR_val (v := (Sl.v p0)) (w' := w1) rfl rfl rfl (x_move (v := (Sl.v p0)) rfl e0) ?_
    obtain ⟨r3, w2, q3, h⟩ := h
    refine wpR_val (v := (Sl.v r3)) (w' := w2) rfl rfl rfl (x_append (s := (⟨some ⟨b2, 0, none⟩, 0, 0⟩ : Sl)) (u := p0) rfl rfl rfl rfl q3) ?_
    refine wpR_val (v := (Sl.v r3)) (w' := w2) rfl rfl rfl (x_assign (v := (Sl.v r3)) rfl rfl) ?_
    refine wpR_nil ?_
    refine wpC_ret ?_
    exact ⟨.inl rfl, fun a ha => ⟨_, results_rep1 rfl ha rfl, r3, rfl, h⟩⟩

/-- lex.Word -/
def F36 (p0 : ByteArray) (w0 : World) (K : Bool → World → Prop) : Prop :=
  jn (fun J1 => cnd (beqS p0 (ByteArray.mk #[]))
    (
    J1 true w0
    )
    (
    rn Try.prog (Instr.index 9 (Value.string p0) (Value.int .i64 0)) (fun (r : Int) => (Value.int .u8 r)) w0 fun r3 w1 =>
    callC Try.prog 43 #[(Value.int .u8 r3)] (fun (r : Bool) => (Value.bool r)) w1 fun r4 w2 =>
    J1 (!r4) w2
    ))
  fun c5 w3 =>
  cnd (c5 || (decide (20 < (p0.size : Int))))
    (
    K false w3
    )
    (
    callC Try.prog 44 #[(Value.string p0), (Value.func (.func 45) #[] #[])] (fun (r : Int) => (Value.int .i64 r)) w3 fun r9 w4 =>
    K (decide (r9 = (p0.size : Int))) w4
    )
set_option maxRecDepth 100000 in
theorem D36 (p0 : ByteArray) (w0 : World) (K : Bool → World → Prop) (h : F36 p0 w0 K) : callC Try.prog 36 #[(Value.string p0)] (fun (r : Bool) => (Value.bool r)) w0 K := by
  unfold F36 at h
  refine calls_of_wpC Try.func36 rfl 21 rfl (by simp) ?_
  intro ρ hρ
  have e0 : ρ 0 = (Value.string p0) := hρ 0
  clear hρ
  refine wpC_seq ?_
  refine wpC_region ?_
  refine wpR_val (v := (Value.bool false)) (w' := w0) rfl rfl rfl (x_assign (v := (Value.bool false)) rfl rfl) ?_
  refine wpR_nil ?_
  refine wpC_seq ?_
  refine wpC_seq ?_
  refine wpC_cut (fun ρ => ρ 0 = (Value.string p0) ∧ True) ⟨e0, trivial⟩ ?_
  rintro ρ ⟨e0, -⟩
  refine wpC_region ?_
  refine wpR_val (v := (Value.string p0)) (w' := w0) rfl rfl rfl (x_move (v := (Value.string p0)) rfl e0) ?_
  refine wpR_val (v := (Value.bool (beqS p0 (ByteArray.mk #[])))) (w' := w0) rfl rfl rfl (x_eqlS rfl rfl rfl) ?_
  refine wpR_val (v := (Value.bool (beqS p0 (ByteArray.mk #[])))) (w' := w0) rfl rfl rfl (x_move (v := (Value.bool (beqS p0 (ByteArray.mk #[])))) rfl rfl) ?_
  obtain ⟨J1, h, hk⟩ := h
  refine wpR_joinJ 5 (fun x ρ => ρ 10 = Value.bool x ∧ ρ 0 = (Value.string p0) ∧ True) (J1) ?_ ?_
  · clear hk
    rcases Bool.eq_false_or_eq_true (beqS p0 (ByteArray.mk #[])) with hc2 | hc2
    · replace h := h.1 hc2
      refine wpR_pass (wantN rfl rfl rfl hc2) rfl rfl ?_
      refine wpR_pass (wantN rfl rfl rfl hc2) rfl rfl ?_
      refine wpR_pass (wantN rfl rfl rfl hc2) rfl rfl ?_
      refine wpR_pass (wantN rfl rfl rfl hc2) rfl rfl ?_
      refine wpR_val (v := (Value.bool true)) (w' := w0) rfl rfl rfl (x_pickT (v := (Value.bool true)) rfl rfl hc2 rfl) ?_
      refine wpR_nil ?_
      exact ⟨true, ⟨rfl, e0, trivial⟩, h⟩
    · replace h := h.2 hc2
      refine wpR_val (v := (Value.string p0)) (w' := w0) (wantG rfl rfl rfl hc2) rfl rfl (x_move (v := (Value.string p0)) rfl e0) ?_
      obtain ⟨r3, w1, q3, h⟩ := h
      refine wpR_val (v := (Value.int .u8 r3)) (w' := w1) (wantG rfl rfl rfl hc2) rfl rfl (x_index rfl rfl rfl q3) ?_
      refine wpR_enter (wantG rfl rfl rfl hc2) rfl rfl (x_call (vs := [(Value.int .u8 r3)]) rfl rfl (mapl_cons rfl mapl_nil) Try.func43 NN_43 NB_43) (Calls.mono h ?_)
      rintro _ w2 ⟨r4, rfl, h⟩
      refine ⟨_, rfl, ?_⟩
      refine wpR_val (v := (Value.bool (!r4))) (w' := w2) (wantG rfl rfl rfl hc2) rfl rfl (x_not rfl rfl) ?_
      refine wpR_val (v := (Value.bool (!r4))) (w' := w2) rfl rfl rfl (x_pickF (v := (Value.bool (!r4))) rfl rfl hc2 rfl) ?_
      refine wpR_nil ?_
      exact ⟨!r4, ⟨rfl, e0, trivial⟩, h⟩
  clear h
  rintro c5 ρ w3 ⟨e10, e0, -⟩ h
  replace h := hk c5 w3 h
  clear hk
  refine wpR_val (v := (Value.bool c5)) (w' := w3) rfl rfl rfl (x_move (v := (Value.bool c5)) rfl e10) ?_
  refine wpR_joinJ 4 (fun (_ : Unit) ρ => ρ 15 = Value.bool (c5 || (decide (20 < (p0.size : Int)))) ∧ ρ 0 = (Value.string p0) ∧ True) (fun _ w => w3 = w) ?_ ?_
  · clear h
    rcases Bool.eq_false_or_eq_true (c5) with hc7 | hc7
    · skip
      refine wpR_pass (wantN rfl rfl rfl hc7) rfl rfl ?_
      refine wpR_pass (wantN rfl rfl rfl hc7) rfl rfl ?_
      refine wpR_pass (wantN rfl rfl rfl hc7) rfl rfl ?_
      refine wpR_val (v := (Value.bool true)) (w' := w3) rfl rfl rfl (x_pickT (v := (Value.bool true)) rfl rfl hc7 rfl) ?_
      refine wpR_nil ?_
      exact ⟨(), ⟨(by rw [hc7]; rfl), e0, trivial⟩, rfl⟩
    · skip
      refine wpR_val (v := (Value.string p0)) (w' := w3) (wantG rfl rfl rfl hc7) rfl rfl (x_move (v := (Value.string p0)) rfl e0) ?_
      refine wpR_val (v := (Value.int .i64 (p0.size : Int))) (w' := w3) (wantG rfl rfl rfl hc7) rfl rfl (x_lenStr rfl rfl isStrT_9) ?_
      refine wpR_val (v := (Value.bool (decide (20 < (p0.size : Int))))) (w' := w3) (wantG rfl rfl rfl hc7) rfl rfl (x_gtr rfl rfl rfl) ?_
      refine wpR_val (v := (Value.bool (decide (20 < (p0.size : Int))))) (w' := w3) rfl rfl rfl (x_pickF (v := (Value.bool (decide (20 < (p0.size : Int))))) rfl rfl hc7 rfl) ?_
      refine wpR_nil ?_
      exact ⟨(), ⟨(by rw [hc7]; rfl), e0, trivial⟩, rfl⟩
  rintro _ ρ wj ⟨e15, e0, -⟩ rfl
  refine wpR_nil ?_
  refine wpC_cond (b := c5 || (decide (20 < (p0.size : Int)))) e15 (fun hc8 => ?_) (fun hc8 => ?_)
  · replace h := h.1 hc8
    refine wpC_seq ?_
    refine wpC_region ?_
    refine wpR_val (v := (Value.bool false)) (w' := w3) rfl rfl rfl (x_assign (v := (Value.bool false)) rfl rfl) ?_
    refine wpR_nil ?_
    refine wpC_ret ?_
    exact ⟨.inl rfl, fun a ha => ⟨_, results_rep1 rfl ha rfl, false, rfl, h⟩⟩
  · replace h := h.2 hc8
    refine wpC_skip ?_
    refine wpC_seq ?_
    refine wpC_region ?_
    refine wpR_val (v := (Value.string p0)) (w' := w3) rfl rfl rfl (x_move (v := (Value.string p0)) rfl e0) ?_
    refine wpR_enter rfl rfl rfl (x_call (vs := [(Value.string p0), (Value.func (.func 45) #[] #[])]) rfl rfl (mapl_cons rfl (mapl_cons rfl mapl_nil)) Try.func44 NN_44 NB_44) (Calls.mono h ?_)
    rintro _ w4 ⟨r9, rfl, h⟩
    refine ⟨_, rfl, ?_⟩
    refine wpR_val (v := (Value.string p0)) (w' := w4) rfl rfl rfl (x_move (v := (Value.string p0)) rfl e0) ?_
    refine wpR_val (v := (Value.int .i64 (p0.size : Int))) (w' := w4) rfl rfl rfl (x_lenStr rfl rfl isStrT_9) ?_
    refine wpR_val (v := (Value.bool (decide (r9 = (p0.size : Int))))) (w' := w4) rfl rfl rfl (x_eql rfl rfl rfl) ?_
    refine wpR_val (v := (Value.bool (decide (r9 = (p0.size : Int))))) (w' := w4) rfl rfl rfl (x_assign (v := (Value.bool (decide (r9 = (p0.size : Int))))) rfl rfl) ?_
    refine wpR_nil ?_
    refine wpC_ret ?_
    exact ⟨.inl rfl, fun a ha => ⟨_, results_rep1 rfl ha rfl, decide (r9 = (p0.size : Int)), rfl, h⟩⟩

/-- syntax.Right$1 -/
def F37 (p0 : ByteArray) (w0 : World) (K : Bool → World → Prop) : Prop :=
  callC Try.prog 36 #[(Value.string p0)] (fun (r : Bool) => (Value.bool r)) w0 fun r1 w1 =>
  K (!r1) w1
set_option maxRecDepth 100000 in
theorem D37 (p0 : ByteArray) (w0 : World) (K : Bool → World → Prop) (h : F37 p0 w0 K) : callC Try.prog 37 #[(Value.string p0)] (fun (r : Bool) => (Value.bool r)) w0 K := by
  unfold F37 at h
  refine calls_of_wpC Try.func37 rfl 6 rfl (by simp) ?_
  intro ρ hρ
  have e0 : ρ 0 = (Value.string p0) := hρ 0
  clear hρ
  refine wpC_seq ?_
  refine wpC_region ?_
  refine wpR_val (v := (Value.bool false)) (w' := w0) rfl rfl rfl (x_assign (v := (Value.bool false)) rfl rfl) ?_
  refine wpR_nil ?_
  refine wpC_seq ?_
  refine wpC_cut (fun ρ => ρ 0 = (Value.string p0) ∧ True) ⟨e0, trivial⟩ ?_
  rintro ρ ⟨e0, -⟩
  refine wpC_region ?_
  refine wpR_val (v := (Value.string p0)) (w' := w0) rfl rfl rfl (x_move (v := (Value.string p0)) rfl e0) ?_
  refine wpR_enter rfl rfl rfl (x_call (vs := [(Value.string p0)]) rfl rfl (mapl_cons rfl mapl_nil) Try.func36 NN_36 NB_36) (Calls.mono h ?_)
  rintro _ w1 ⟨r1, rfl, h⟩
  refine ⟨_, rfl, ?_⟩
  refine wpR_val (v := (Value.bool (!r1))) (w' := w1) rfl rfl rfl (x_not rfl rfl) ?_
  refine wpR_val (v := (Value.bool (!r1))) (w' := w1) rfl rfl rfl (x_assign (v := (Value.bool (!r1))) rfl rfl) ?_
  refine wpR_nil ?_
  refine wpC_ret ?_
  exact ⟨.inl rfl, fun a ha => ⟨_, results_rep1 rfl ha rfl, !r1, rfl, h⟩⟩


end Go.Proofs.Ytadlnbdelkbboaa
