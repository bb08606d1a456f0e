import Derived.Test.YtadlnbdelkbboaaRows
import Derived.Test.YtadlnbdelkbboaaFs1
import Derived.Test.YtadlnbdelkbboaaDecRaw
namespace Go.Proofs.Ytadlnbdelkbboaa
open Go.Dec
set_option maxHeartbeats 400000
set_option maxRecDepth 100000

/-- linguaref13.Check -/
def F11 (p0_0 : ByteArray) (p0_1 : Int) (p0_2 : Int) (p0_3 : Int) (p0_4 : Bool) (p0_5 : Int) (p0_6 : Bool) (p0_7 : Bool) (p0_8 : Int) (p0_9 : Int) (p0_10 : Int) (p0_11 : Int) (p0_12 : Sl) (p0_13 : Int) (p0_14 : Int) (p0_15 : Int) (p0_16 : Int) (p0_17 : Bool) (p0_18 : Int) (p0_19 : Int) (p0_20 : Int) (p0_21 : Int) (w0 : World) (K : Int → World → Prop) : Prop :=
  nw 24 (A23 p0_0 p0_1 p0_2 p0_3 p0_4 p0_5 p0_6 p0_7 p0_8 p0_9 p0_10 p0_11 p0_12 p0_13 p0_14 p0_15 p0_16 p0_17 p0_18 p0_19 p0_20 p0_21) w0 fun b1 w1 =>
  L23 (Addr.mk b1 0 none) w1 fun x2 x3 x4 x5 x6 x7 x8 x9 x10 x11 x12 x13 x14 x15 x16 x17 x18 x19 x20 x21 x22 x23 =>
  callC Try.prog 28 #[(V23 x2 x3 x4 x5 x6 x7 x8 x9 x10 x11 x12 x13 x14 x15 x16 x17 x18 x19 x20 x21 x22 x23)] (fun (r : Bool) => (Value.bool r)) w1 fun r24 w2 =>
  cnd (!r24)
    (
    K 1 w2
    )
    (
    ld (Value.int .i64) ((Addr.mk b1 0 none).add 8) w2 fun x26 =>
    jp (fun J27 => cnd (decide (x26 < 40))
      (
      J27 true
      )
      (
      ld (Value.int .i64) ((Addr.mk b1 0 none).add 8) w2 fun x29 =>
      J27 (decide (4000 < x29))
      ))
    fun c30 =>
    jp (fun J31 => cnd (c30)
      (
      J31 true
      )
      (
      ld (Value.int .i64) ((Addr.mk b1 0 none).add 9) w2 fun x33 =>
      J31 (decide (x33 < 1))
      ))
    fun c34 =>
    jp (fun J35 => cnd (c34)
      (
      J35 true
      )
      (
      ld (Value.int .i64) ((Addr.mk b1 0 none).add 9) w2 fun x37 =>
      J35 (decide (20 < x37))
      ))
    fun c38 =>
    jp (fun J39 => cnd (c38)
      (
      J39 true
      )
      (
      ld (Value.int .i64) ((Addr.mk b1 0 none).add 10) w2 fun x41 =>
      J39 (decide (4 < x41))
      ))
    fun c42 =>
    jp (fun J43 => cnd (c42)
      (
      J43 true
      )
      (
      ld (Value.int .i64) ((Addr.mk b1 0 none).add 11) w2 fun x45 =>
      J43 (decide (65536 < x45))
      ))
    fun c46 =>
    cnd (c46)
      (
      K 3 w2
      )
      (
      ld (Value.int .i64) ((Addr.mk b1 0 none).add 18) w2 fun x48 =>
      jp (fun J49 => cnd (decide (x48 < 1))
        (
        J49 true
        )
        (
        ld (Value.int .i64) ((Addr.mk b1 0 none).add 19) w2 fun x51 =>
        jp (fun J52 => cnd (!decide (x51 = 0))
          (
          ld (Value.int .i64) ((Addr.mk b1 0 none).add 19) w2 fun x54 =>
          ld (Value.int .i64) ((Addr.mk b1 0 none).add 20) w2 fun x55 =>
          J52 (decide (x55 ≤ x54))
          )
          (
          J52 false
          ))
        fun c56 =>
        J49 c56
        ))
      fun c57 =>
      cnd (c57)
        (
        K 3 w2
        )
        (
        ld (Value.int .i64) ((Addr.mk b1 0 none).add 10) w2 fun x59 =>
        jp (fun J60 => cnd (decide (x59 = 0))
          (
          ld (Value.int .i64) ((Addr.mk b1 0 none).add 11) w2 fun x62 =>
          J60 (decide (x62 = 0))
          )
          (
          J60 false
          ))
        fun c63 =>
        jp (fun J64 => cnd (c63)
          (
          ld Sl.v ((Addr.mk b1 0 none).add 12) w2 fun x66 =>
          J64 (decide ((x66.len : Int) = 0))
          )
          (
          J64 false
          ))
        fun c67 =>
        jp (fun J68 => cnd (!c67)
          (
          ld (Value.int .i64) ((Addr.mk b1 0 none).add 10) w2 fun x70 =>
          jp (fun J71 => cnd (decide (x70 = 0))
            (
            J71 true
            )
            (
            ld (Value.int .i64) ((Addr.mk b1 0 none).add 11) w2 fun x73 =>
            J71 (decide (x73 = 0))
            ))
          fun c74 =>
          jp (fun J75 => cnd (c74)
            (
            J75 true
            )
            (
            ld Sl.v ((Addr.mk b1 0 none).add 12) w2 fun x77 =>
            J75 (decide ((x77.len : Int) = 0))
            ))
          fun c78 =>
          J68 c78
          )
          (
          J68 false
          ))
        fun c79 =>
        cnd (c79)
          (
          K 3 w2
          )
          (
          lp (fun (next81 : Int → World → Prop) l81 w3 =>
            ld Sl.v ((Addr.mk b1 0 none).add 12) w3 fun x82 =>
            cnd (decide (l81 < (x82.len : Int)))
              (
              lp (fun (next84 : Int → World → Prop) l84 w4 =>
                cnd (decide (l84 < l81))
                  (
                  jn (fun (J87 : Bool → World → Prop) => tk w4 fun w5 =>
                    ld Sl.v ((Addr.mk b1 0 none).add 12) w5 fun x88 =>
                    ix x88 l81 1 fun p89 =>
                    ld Value.string p89 w5 fun x90 =>
                    ld Sl.v ((Addr.mk b1 0 none).add 12) w5 fun x91 =>
                    ix x91 l84 1 fun p92 =>
                    ld Value.string p92 w5 fun x93 =>
                    J87 (beqS x90 x93) w5
                  )
                  fun l94 w6 =>
                  cnd (l94)
                    (
                    K 5 w6
                    )
                    (
                    next84 (IntKind.i64.wrap (l84 + 1)) w6
                    )
                  )
                  (
                  next81 (IntKind.i64.wrap (l81 + 1)) w4
                  )
              ) 0 w3
              )
              (
              K 0 w3
              )
          ) 0 w2
          )
        )
      )
    )
set_option maxRecDepth 100000 in
theorem D11 (p0_0 : ByteArray) (p0_1 : Int) (p0_2 : Int) (p0_3 : Int) (p0_4 : Bool) (p0_5 : Int) (p0_6 : Bool) (p0_7 : Bool) (p0_8 : Int) (p0_9 : Int) (p0_10 : Int) (p0_11 : Int) (p0_12 : Sl) (p0_13 : Int) (p0_14 : Int) (p0_15 : Int) (p0_16 : Int) (p0_17 : Bool) (p0_18 : Int) (p0_19 : Int) (p0_20 : Int) (p0_21 : Int) (w0 : World) (K : Int → World → Prop) (h : F11 p0_0 p0_1 p0_2 p0_3 p0_4 p0_5 p0_6 p0_7 p0_8 p0_9 p0_10 p0_11 p0_12 p0_13 p0_14 p0_15 p0_16 p0_17 p0_18 p0_19 p0_20 p0_21 w0 K) : callC Try.prog 11 #[(V23 p0_0 p0_1 p0_2 p0_3 p0_4 p0_5 p0_6 p0_7 p0_8 p0_9 p0_10 p0_11 p0_12 p0_13 p0_14 p0_15 p0_16 p0_17 p0_18 p0_19 p0_20 p0_21)] (fun (r : Int) => (Value.int .i64 r)) w0 K := by
  unfold F11 at h
  refine calls_of_wpC Try.func11 rfl 107 rfl (by simp) ?_
  intro ρ hρ
  have e0 : ρ 0 = (V23 p0_0 p0_1 p0_2 p0_3 p0_4 p0_5 p0_6 p0_7 p0_8 p0_9 p0_10 p0_11 p0_12 p0_13 p0_14 p0_15 p0_16 p0_17 p0_18 p0_19 p0_20 p0_21) := hρ 0
  clear hρ
  refine wpC_seq ?_
  refine wpC_region ?_
  obtain ⟨b1, hb1⟩ : ∃ u, u = w0.heap.size := ⟨_, rfl⟩
  obtain ⟨w1, hw1⟩ : ∃ u, u = w0.alloc (.cells (A23 p0_0 p0_1 p0_2 p0_3 p0_4 p0_5 p0_6 p0_7 p0_8 p0_9 p0_10 p0_11 p0_12 p0_13 p0_14 p0_15 p0_16 p0_17 p0_18 p0_19 p0_20 p0_21) 24) := ⟨_, rfl⟩
  replace h := h b1 w1 hb1 hw1
  refine wpR_val (v := (Value.pointer (some (Addr.mk b1 0 none)))) (w' := w1) rfl rfl rfl ((x_box (v := (V23 p0_0 p0_1 p0_2 p0_3 p0_4 p0_5 p0_6 p0_7 p0_8 p0_9 p0_10 p0_11 p0_12 p0_13 p0_14 p0_15 p0_16 p0_17 p0_18 p0_19 p0_20 p0_21)) rfl e0).trans (by rw [hb1, hw1]; rfl)) ?_
  refine wpR_val (v := (Value.int .i64 0)) (w' := w1) rfl rfl rfl (x_assign (v := (Value.int .i64 0)) rfl rfl) ?_
  refine wpR_nil ?_
  refine wpC_seq ?_
  refine wpC_seq ?_
  refine wpC_cut (fun ρ => ρ 1 = (Value.pointer (some (Addr.mk b1 0 none))) ∧ True) ⟨rfl, trivial⟩ ?_
  rintro ρ ⟨e1, -⟩
  refine wpC_region ?_
  obtain ⟨x2, q2, x3, q3, x4, q4, x5, q5, x6, q6, x7, q7, x8, q8, x9, q9, x10, q10, x11, q11, x12, q12, x13, q13, x14, q14, x15, q15, x16, q16, x17, q17, x18, q18, x19, q19, x20, q20, x21, q21, x22, q22, x23, q23, h⟩ := h
  refine wpR_val (v := (V23 x2 x3 x4 x5 x6 x7 x8 x9 x10 x11 x12 x13 x14 x15 x16 x17 x18 x19 x20 x21 x22 x23)) (w' := w1) rfl rfl rfl (x_loadN (S23 x2 x3 x4 x5 x6 x7 x8 x9 x10 x11 x12 x13 x14 x15 x16 x17 x18 x19 x20 x21 x22 x23) rfl e1 SH_24 (K23 ⟨q2, q3, q4, q5, q6, q7, q8, q9, q10, q11, q12, q13, q14, q15, q16, q17, q18, q19, q20, q21, q22, q23⟩)) ?_
  refine wpR_enter rfl rfl rfl (x_call (vs := [(V23 x2 x3 x4 x5 x6 x7 x8 x9 x10 x11 x12 x13 x14 x15 x16 x17 x18 x19 x20 x21 x22 x23)]) rfl rfl (mapl_cons rfl mapl_nil) Try.func28 NN_28 NB_28) (Calls.mono h ?_)
  rintro _ w2 ⟨r24, rfl, h⟩
  refine ⟨_, rfl, ?_⟩
  refine wpR_val (v := (Value.bool (!r24))) (w' := w2) rfl rfl rfl (x_not rfl rfl) ?_
  refine wpR_nil ?_
  refine wpC_cond (b := !r24) rfl (fun hc25 => ?_) (fun hc25 => ?_)
  · replace h := h.1 hc25
    refine wpC_seq ?_
    refine wpC_cut (fun ρ => True) trivial ?_
    rintro ρ -
    refine wpC_region ?_
    refine wpR_val (v := (Value.int .i64 1)) (w' := w2) rfl rfl rfl (x_assign (v := (Value.int .i64 1)) rfl rfl) ?_
    refine wpR_nil ?_
    refine wpC_ret ?_
    exact ⟨.inl rfl, fun a ha => ⟨_, results_rep1 rfl ha rfl, 1, rfl, h⟩⟩
  · replace h := h.2 hc25
    refine wpC_skip ?_
    refine wpC_seq ?_
    refine wpC_seq ?_
    refine wpC_cut (fun ρ => ρ 1 = (Value.pointer (some (Addr.mk b1 0 none))) ∧ True) ⟨e1, trivial⟩ ?_
    rintro ρ ⟨e1, -⟩
    refine wpC_region ?_
    refine wpR_val (v := (Value.pointer (some ((Addr.mk b1 0 none).add 8)))) (w' := w2) rfl rfl rfl (x_fieldAddr rfl e1 FA_24_8) ?_
    obtain ⟨x26, q26, h⟩ := h
    refine wpR_val (v := (Value.int .i64 x26)) (w' := w2) rfl rfl rfl (x_load1 rfl rfl SH_3 q26) ?_
    refine wpR_val (v := (Value.bool (decide (x26 < 40)))) (w' := w2) rfl rfl rfl (x_lss rfl rfl rfl) ?_
    refine wpR_val (v := (Value.bool (decide (x26 < 40)))) (w' := w2) rfl rfl rfl (x_move (v := (Value.bool (decide (x26 < 40)))) rfl rfl) ?_
    obtain ⟨J27, h, hk⟩ := h
    refine wpR_joinJ 4 (fun x ρ => ρ 16 = Value.bool x ∧ ρ 1 = (Value.pointer (some (Addr.mk b1 0 none))) ∧ True) (fun x w => J27 x ∧ w2 = w) ?_ ?_
    · clear hk
      rcases Bool.eq_false_or_eq_true (decide (x26 < 40)) with hc28 | hc28
      · replace h := h.1 hc28
        refine wpR_pass (wantN rfl rfl rfl hc28) rfl rfl ?_
        refine wpR_pass (wantN rfl rfl rfl hc28) rfl rfl ?_
        refine wpR_pass (wantN rfl rfl rfl hc28) rfl rfl ?_
        refine wpR_val (v := (Value.bool true)) (w' := w2) rfl rfl rfl (x_pickT (v := (Value.bool true)) rfl rfl hc28 rfl) ?_
        refine wpR_nil ?_
        exact ⟨true, ⟨rfl, e1, trivial⟩, h, rfl⟩
      · replace h := h.2 hc28
        refine wpR_val (v := (Value.pointer (some ((Addr.mk b1 0 none).add 8)))) (w' := w2) (wantG rfl rfl rfl hc28) rfl rfl (x_fieldAddr rfl e1 FA_24_8) ?_
        obtain ⟨x29, q29, h⟩ := h
        refine wpR_val (v := (Value.int .i64 x29)) (w' := w2) (wantG rfl rfl rfl hc28) rfl rfl (x_load1 rfl rfl SH_3 q29) ?_
        refine wpR_val (v := (Value.bool (decide (4000 < x29)))) (w' := w2) (wantG rfl rfl rfl hc28) rfl rfl (x_gtr rfl rfl rfl) ?_
        refine wpR_val (v := (Value.bool (decide (4000 < x29)))) (w' := w2) rfl rfl rfl (x_pickF (v := (Value.bool (decide (4000 < x29)))) rfl rfl hc28 rfl) ?_
        refine wpR_nil ?_
        exact ⟨decide (4000 < x29), ⟨rfl, e1, trivial⟩, h, rfl⟩
    clear h
    rintro c30 ρ wj ⟨e16, e1, -⟩ ⟨h, rfl⟩
    replace h := hk c30 h
    clear hk
    refine wpR_val (v := (Value.bool c30)) (w' := w2) rfl rfl rfl (x_move (v := (Value.bool c30)) rfl e16) ?_
    obtain ⟨J31, h, hk⟩ := h
    refine wpR_joinJ 4 (fun x ρ => ρ 21 = Value.bool x ∧ ρ 1 = (Value.pointer (some (Addr.mk b1 0 none))) ∧ True) (fun x w => J31 x ∧ w2 = w) ?_ ?_
    · clear hk
      rcases Bool.eq_false_or_eq_true (c30) with hc32 | hc32
      · replace h := h.1 hc32
        refine wpR_pass (wantN rfl rfl rfl hc32) rfl rfl ?_
        refine wpR_pass (wantN rfl rfl rfl hc32) rfl rfl ?_
        refine wpR_pass (wantN rfl rfl rfl hc32) rfl rfl ?_
        refine wpR_val (v := (Value.bool true)) (w' := w2) rfl rfl rfl (x_pickT (v := (Value.bool true)) rfl rfl hc32 rfl) ?_
        refine wpR_nil ?_
        exact ⟨true, ⟨rfl, e1, trivial⟩, h, rfl⟩
      · replace h := h.2 hc32
        refine wpR_val (v := (Value.pointer (some ((Addr.mk b1 0 none).add 9)))) (w' := w2) (wantG rfl rfl rfl hc32) rfl rfl (x_fieldAddr rfl e1 FA_24_9) ?_
        obtain ⟨x33, q33, h⟩ := h
        refine wpR_val (v := (Value.int .i64 x33)) (w' := w2) (wantG rfl rfl rfl hc32) rfl rfl (x_load1 rfl rfl SH_3 q33) ?_
        refine wpR_val (v := (Value.bool (decide (x33 < 1)))) (w' := w2) (wantG rfl rfl rfl hc32) rfl rfl (x_lss rfl rfl rfl) ?_
        refine wpR_val (v := (Value.bool (decide (x33 < 1)))) (w' := w2) rfl rfl rfl (x_pickF (v := (Value.bool (decide (x33 < 1)))) rfl rfl hc32 rfl) ?_
        refine wpR_nil ?_
        exact ⟨decide (x33 < 1), ⟨rfl, e1, trivial⟩, h, rfl⟩
    clear h
    rintro c34 ρ wj ⟨e21, e1, -⟩ ⟨h, rfl⟩
    replace h := hk c34 h
    clear hk
    refine wpR_val (v := (Value.bool c34)) (w' := w2) rfl rfl rfl (x_move (v := (Value.bool c34)) rfl e21) ?_
    obtain ⟨J35, h, hk⟩ := h
    refine wpR_joinJ 4 (fun x ρ => ρ 26 = Value.bool x ∧ ρ 1 = (Value.pointer (some (Addr.mk b1 0 none))) ∧ True) (fun x w => J35 x ∧ w2 = w) ?_ ?_
    · clear hk
      rcases Bool.eq_false_or_eq_true (c34) with hc36 | hc36
      · replace h := h.1 hc36
        refine wpR_pass (wantN rfl rfl rfl hc36) rfl rfl ?_
        refine wpR_pass (wantN rfl rfl rfl hc36) rfl rfl ?_
        refine wpR_pass (wantN rfl rfl rfl hc36) rfl rfl ?_
        refine wpR_val (v := (Value.bool true)) (w' := w2) rfl rfl rfl (x_pickT (v := (Value.bool true)) rfl rfl hc36 rfl) ?_
        refine wpR_nil ?_
        exact ⟨true, ⟨rfl, e1, trivial⟩, h, rfl⟩
      · replace h := h.2 hc36
        refine wpR_val (v := (Value.pointer (some ((Addr.mk b1 0 none).add 9)))) (w' := w2) (wantG rfl rfl rfl hc36) rfl rfl (x_fieldAddr rfl e1 FA_24_9) ?_
        obtain ⟨x37, q37, h⟩ := h
        refine wpR_val (v := (Value.int .i64 x37)) (w' := w2) (wantG rfl rfl rfl hc36) rfl rfl (x_load1 rfl rfl SH_3 q37) ?_
        refine wpR_val (v := (Value.bool (decide (20 < x37)))) (w' := w2) (wantG rfl rfl rfl hc36) rfl rfl (x_gtr rfl rfl rfl) ?_
        refine wpR_val (v := (Value.bool (decide (20 < x37)))) (w' := w2) rfl rfl rfl (x_pickF (v := (Value.bool (decide (20 < x37)))) rfl rfl hc36 rfl) ?_
        refine wpR_nil ?_
        exact ⟨decide (20 < x37), ⟨rfl, e1, trivial⟩, h, rfl⟩
    clear h
    rintro c38 ρ wj ⟨e26, e1, -⟩ ⟨h, rfl⟩
    replace h := hk c38 h
    clear hk
    refine wpR_val (v := (Value.bool c38)) (w' := w2) rfl rfl rfl (x_move (v := (Value.bool c38)) rfl e26) ?_
    obtain ⟨J39, h, hk⟩ := h
    refine wpR_joinJ 4 (fun x ρ => ρ 31 = Value.bool x ∧ ρ 1 = (Value.pointer (some (Addr.mk b1 0 none))) ∧ True) (fun x w => J39 x ∧ w2 = w) ?_ ?_
    · clear hk
      rcases Bool.eq_false_or_eq_true (c38) with hc40 | hc40
      · replace h := h.1 hc40
        refine wpR_pass (wantN rfl rfl rfl hc40) rfl rfl ?_
        refine wpR_pass (wantN rfl rfl rfl hc40) rfl rfl ?_
        refine wpR_pass (wantN rfl rfl rfl hc40) rfl rfl ?_
        refine wpR_val (v := (Value.bool true)) (w' := w2) rfl rfl rfl (x_pickT (v := (Value.bool true)) rfl rfl hc40 rfl) ?_
        refine wpR_nil ?_
        exact ⟨true, ⟨rfl, e1, trivial⟩, h, rfl⟩
      · replace h := h.2 hc40
        refine wpR_val (v := (Value.pointer (some ((Addr.mk b1 0 none).add 10)))) (w' := w2) (wantG rfl rfl rfl hc40) rfl rfl (x_fieldAddr rfl e1 FA_24_10) ?_
        obtain ⟨x41, q41, h⟩ := h
        refine wpR_val (v := (Value.int .i64 x41)) (w' := w2) (wantG rfl rfl rfl hc40) rfl rfl (x_load1 rfl rfl SH_3 q41) ?_
        refine wpR_val (v := (Value.bool (decide (4 < x41)))) (w' := w2) (wantG rfl rfl rfl hc40) rfl rfl (x_gtr rfl rfl rfl) ?_
        refine wpR_val (v := (Value.bool (decide (4 < x41)))) (w' := w2) rfl rfl rfl (x_pickF (v := (Value.bool (decide (4 < x41)))) rfl rfl hc40 rfl) ?_
        refine wpR_nil ?_
        exact ⟨decide (4 < x41), ⟨rfl, e1, trivial⟩, h, rfl⟩
    clear h
    rintro c42 ρ wj ⟨e31, e1, -⟩ ⟨h, rfl⟩
    replace h := hk c42 h
    clear hk
    refine wpR_val (v := (Value.bool c42)) (w' := w2) rfl rfl rfl (x_move (v := (Value.bool c42)) rfl e31) ?_
    obtain ⟨J43, h, hk⟩ := h
    refine wpR_joinJ 4 (fun x ρ => ρ 36 = Value.bool x ∧ ρ 1 = (Value.pointer (some (Addr.mk b1 0 none))) ∧ True) (fun x w => J43 x ∧ w2 = w) ?_ ?_
    · clear hk
      rcases Bool.eq_false_or_eq_true (c42) with hc44 | hc44
      · replace h := h.1 hc44
        refine wpR_pass (wantN rfl rfl rfl hc44) rfl rfl ?_
        refine wpR_pass (wantN rfl rfl rfl hc44) rfl rfl ?_
        refine wpR_pass (wantN rfl rfl rfl hc44) rfl rfl ?_
        refine wpR_val (v := (Value.bool true)) (w' := w2) rfl rfl rfl (x_pickT (v := (Value.bool true)) rfl rfl hc44 rfl) ?_
        refine wpR_nil ?_
        exact ⟨true, ⟨rfl, e1, trivial⟩, h, rfl⟩
      · replace h := h.2 hc44
        refine wpR_val (v := (Value.pointer (some ((Addr.mk b1 0 none).add 11)))) (w' := w2) (wantG rfl rfl rfl hc44) rfl rfl (x_fieldAddr rfl e1 FA_24_11) ?_
        obtain ⟨x45, q45, h⟩ := h
        refine wpR_val (v := (Value.int .i64 x45)) (w' := w2) (wantG rfl rfl rfl hc44) rfl rfl (x_load1 rfl rfl SH_3 q45) ?_
        refine wpR_val (v := (Value.bool (decide (65536 < x45)))) (w' := w2) (wantG rfl rfl rfl hc44) rfl rfl (x_gtr rfl rfl rfl) ?_
        refine wpR_val (v := (Value.bool (decide (65536 < x45)))) (w' := w2) rfl rfl rfl (x_pickF (v := (Value.bool (decide (65536 < x45)))) rfl rfl hc44 rfl) ?_
        refine wpR_nil ?_
        exact ⟨decide (65536 < x45), ⟨rfl, e1, trivial⟩, h, rfl⟩
    clear h
    rintro c46 ρ wj ⟨e36, e1, -⟩ ⟨h, rfl⟩
    replace h := hk c46 h
    clear hk
    refine wpR_nil ?_
    refine wpC_cond (b := c46) e36 (fun hc47 => ?_) (fun hc47 => ?_)
    · replace h := h.1 hc47
      refine wpC_seq ?_
      refine wpC_region ?_
      refine wpR_val (v := (Value.int .i64 3)) (w' := w2) rfl rfl rfl (x_assign (v := (Value.int .i64 3)) rfl rfl) ?_
      refine wpR_nil ?_
      refine wpC_ret ?_
      exact ⟨.inl rfl, fun a ha => ⟨_, results_rep1 rfl ha rfl, 3, rfl, h⟩⟩
    · replace h := h.2 hc47
      refine wpC_skip ?_
      refine wpC_seq ?_
      refine wpC_seq ?_
      refine wpC_region ?_
      refine wpR_val (v := (Value.pointer (some ((Addr.mk b1 0 none).add 18)))) (w' := w2) rfl rfl rfl (x_fieldAddr rfl e1 FA_24_18) ?_
      obtain ⟨x48, q48, h⟩ := h
      refine wpR_val (v := (Value.int .i64 x48)) (w' := w2) rfl rfl rfl (x_load1 rfl rfl SH_3 q48) ?_
      refine wpR_val (v := (Value.bool (decide (x48 < 1)))) (w' := w2) rfl rfl rfl (x_lss rfl rfl rfl) ?_
      refine wpR_val (v := (Value.bool (decide (x48 < 1)))) (w' := w2) rfl rfl rfl (x_move (v := (Value.bool (decide (x48 < 1)))) rfl rfl) ?_
      obtain ⟨J49, h, hk⟩ := h
      refine wpR_joinJ 11 (fun x ρ => ρ 51 = Value.bool x ∧ ρ 1 = (Value.pointer (some (Addr.mk b1 0 none))) ∧ True) (fun x w => J49 x ∧ w2 = w) ?_ ?_
      · clear hk
        rcases Bool.eq_false_or_eq_true (decide (x48 < 1)) with hc50 | hc50
        · replace h := h.1 hc50
          refine wpR_pass (wantN rfl rfl rfl hc50) rfl rfl ?_
          refine wpR_pass (wantN rfl rfl rfl hc50) rfl rfl ?_
          refine wpR_pass (wantN rfl rfl rfl hc50) rfl rfl ?_
          refine wpR_pass (wantN rfl rfl rfl hc50) rfl rfl ?_
          refine wpR_pass (wantU rfl rfl rfl) rfl rfl ?_
          refine wpR_pass (wantU rfl rfl rfl) rfl rfl ?_
          refine wpR_pass (wantU rfl rfl rfl) rfl rfl ?_
          refine wpR_pass (wantU rfl rfl rfl) rfl rfl ?_
          refine wpR_pass (wantU rfl rfl rfl) rfl rfl ?_
          refine wpR_pass (wantN rfl rfl rfl hc50) rfl rfl ?_
          refine wpR_val (v := (Value.bool true)) (w' := w2) rfl rfl rfl (x_pickT (v := (Value.bool true)) rfl rfl hc50 rfl) ?_
          refine wpR_nil ?_
          exact ⟨true, ⟨rfl, e1, trivial⟩, h, rfl⟩
        · replace h := h.2 hc50
          refine wpR_val (v := (Value.pointer (some ((Addr.mk b1 0 none).add 19)))) (w' := w2) (wantG rfl rfl rfl hc50) rfl rfl (x_fieldAddr rfl e1 FA_24_19) ?_
          obtain ⟨x51, q51, h⟩ := h
          refine wpR_val (v := (Value.int .i64 x51)) (w' := w2) (wantG rfl rfl rfl hc50) rfl rfl (x_load1 rfl rfl SH_3 q51) ?_
          refine wpR_val (v := (Value.bool (!decide (x51 = 0)))) (w' := w2) (wantG rfl rfl rfl hc50) rfl rfl (x_neq rfl rfl rfl) ?_
          refine wpR_val (v := (Value.bool (!decide (x51 = 0)))) (w' := w2) (wantG rfl rfl rfl hc50) rfl rfl (x_move (v := (Value.bool (!decide (x51 = 0)))) rfl rfl) ?_
          obtain ⟨J52, h, hk⟩ := h
          refine wpR_joinJ 6 (fun x ρ => ρ 50 = Value.bool x ∧ ρ 1 = (Value.pointer (some (Addr.mk b1 0 none))) ∧ ρ 40 = (Value.bool (decide (x48 < 1))) ∧ True) (fun x w => J52 x ∧ w2 = w) ?_ ?_
          · clear hk
            rcases Bool.eq_false_or_eq_true (!decide (x51 = 0)) with hc53 | hc53
            · replace h := h.1 hc53
              refine wpR_val (v := (Value.pointer (some ((Addr.mk b1 0 none).add 19)))) (w' := w2) (wantG rfl rfl rfl hc53) rfl rfl (x_fieldAddr rfl e1 FA_24_19) ?_
              obtain ⟨x54, q54, h⟩ := h
              refine wpR_val (v := (Value.int .i64 x54)) (w' := w2) (wantG rfl rfl rfl hc53) rfl rfl (x_load1 rfl rfl SH_3 q54) ?_
              refine wpR_val (v := (Value.pointer (some ((Addr.mk b1 0 none).add 20)))) (w' := w2) (wantG rfl rfl rfl hc53) rfl rfl (x_fieldAddr rfl e1 FA_24_20) ?_
              obtain ⟨x55, q55, h⟩ := h
              refine wpR_val (v := (Value.int .i64 x55)) (w' := w2) (wantG rfl rfl rfl hc53) rfl rfl (x_load1 rfl rfl SH_3 q55) ?_
              refine wpR_val (v := (Value.bool (decide (x55 ≤ x54)))) (w' := w2) (wantG rfl rfl rfl hc53) rfl rfl (x_geq rfl rfl rfl) ?_
              refine wpR_val (v := (Value.bool (decide (x55 ≤ x54)))) (w' := w2) (wantG rfl rfl rfl hc50) rfl rfl (x_pickT (v := (Value.bool (decide (x55 ≤ x54)))) rfl rfl hc53 rfl) ?_
              refine wpR_nil ?_
              exact ⟨decide (x55 ≤ x54), ⟨rfl, e1, rfl, trivial⟩, h, rfl⟩
            · replace h := h.2 hc53
              refine wpR_pass (wantN rfl rfl rfl hc53) rfl rfl ?_
              refine wpR_pass (wantN rfl rfl rfl hc53) rfl rfl ?_
              refine wpR_pass (wantN rfl rfl rfl hc53) rfl rfl ?_
              refine wpR_pass (wantN rfl rfl rfl hc53) rfl rfl ?_
              refine wpR_pass (wantN rfl rfl rfl hc53) rfl rfl ?_
              refine wpR_val (v := (Value.bool false)) (w' := w2) (wantG rfl rfl rfl hc50) rfl rfl (x_pickF (v := (Value.bool false)) rfl rfl hc53 rfl) ?_
              refine wpR_nil ?_
              exact ⟨false, ⟨rfl, e1, rfl, trivial⟩, h, rfl⟩
          clear h
          rintro c56 ρ wj ⟨e50, e1, e40, -⟩ ⟨h, rfl⟩
          replace h := hk c56 h
          clear hk
          refine wpR_val (v := (Value.bool c56)) (w' := w2) rfl rfl rfl (x_pickF (v := (Value.bool c56)) rfl e40 hc50 e50) ?_
          refine wpR_nil ?_
          exact ⟨c56, ⟨rfl, e1, trivial⟩, h, rfl⟩
      clear h
      rintro c57 ρ wj ⟨e51, e1, -⟩ ⟨h, rfl⟩
      replace h := hk c57 h
      clear hk
      refine wpR_nil ?_
      refine wpC_cond (b := c57) e51 (fun hc58 => ?_) (fun hc58 => ?_)
      · replace h := h.1 hc58
        refine wpC_seq ?_
        refine wpC_region ?_
        refine wpR_val (v := (Value.int .i64 3)) (w' := w2) rfl rfl rfl (x_assign (v := (Value.int .i64 3)) rfl rfl) ?_
        refine wpR_nil ?_
        refine wpC_ret ?_
        exact ⟨.inl rfl, fun a ha => ⟨_, results_rep1 rfl ha rfl, 3, rfl, h⟩⟩
      · replace h := h.2 hc58
        refine wpC_skip ?_
        refine wpC_seq ?_
        refine wpC_region ?_
        refine wpR_val (v := (Value.pointer (some ((Addr.mk b1 0 none).add 10)))) (w' := w2) rfl rfl rfl (x_fieldAddr rfl e1 FA_24_10) ?_
        obtain ⟨x59, q59, h⟩ := h
        refine wpR_val (v := (Value.int .i64 x59)) (w' := w2) rfl rfl rfl (x_load1 rfl rfl SH_3 q59) ?_
        refine wpR_val (v := (Value.bool (decide (x59 = 0)))) (w' := w2) rfl rfl rfl (x_eql rfl rfl rfl) ?_
        refine wpR_val (v := (Value.bool (decide (x59 = 0)))) (w' := w2) rfl rfl rfl (x_move (v := (Value.bool (decide (x59 = 0)))) rfl rfl) ?_
        obtain ⟨J60, h, hk⟩ := h
        refine wpR_joinJ 4 (fun x ρ => ρ 59 = Value.bool x ∧ ρ 1 = (Value.pointer (some (Addr.mk b1 0 none))) ∧ True) (fun x w => J60 x ∧ w2 = w) ?_ ?_
        · clear hk
          rcases Bool.eq_false_or_eq_true (decide (x59 = 0)) with hc61 | hc61
          · replace h := h.1 hc61
            refine wpR_val (v := (Value.pointer (some ((Addr.mk b1 0 none).add 11)))) (w' := w2) (wantG rfl rfl rfl hc61) rfl rfl (x_fieldAddr rfl e1 FA_24_11) ?_
            obtain ⟨x62, q62, h⟩ := h
            refine wpR_val (v := (Value.int .i64 x62)) (w' := w2) (wantG rfl rfl rfl hc61) rfl rfl (x_load1 rfl rfl SH_3 q62) ?_
            refine wpR_val (v := (Value.bool (decide (x62 = 0)))) (w' := w2) (wantG rfl rfl rfl hc61) rfl rfl (x_eql rfl rfl rfl) ?_
            refine wpR_val (v := (Value.bool (decide (x62 = 0)))) (w' := w2) rfl rfl rfl (x_pickT (v := (Value.bool (decide (x62 = 0)))) rfl rfl hc61 rfl) ?_
            refine wpR_nil ?_
            exact ⟨decide (x62 = 0), ⟨rfl, e1, trivial⟩, h, rfl⟩
          · replace h := h.2 hc61
            refine wpR_pass (wantN rfl rfl rfl hc61) rfl rfl ?_
            refine wpR_pass (wantN rfl rfl rfl hc61) rfl rfl ?_
            refine wpR_pass (wantN rfl rfl rfl hc61) rfl rfl ?_
            refine wpR_val (v := (Value.bool false)) (w' := w2) rfl rfl rfl (x_pickF (v := (Value.bool false)) rfl rfl hc61 rfl) ?_
            refine wpR_nil ?_
            exact ⟨false, ⟨rfl, e1, trivial⟩, h, rfl⟩
        clear h
        rintro c63 ρ wj ⟨e59, e1, -⟩ ⟨h, rfl⟩
        replace h := hk c63 h
        clear hk
        refine wpR_val (v := (Value.bool c63)) (w' := w2) rfl rfl rfl (x_move (v := (Value.bool c63)) rfl e59) ?_
        obtain ⟨J64, h, hk⟩ := h
        refine wpR_joinJ 5 (fun x ρ => ρ 65 = Value.bool x ∧ ρ 1 = (Value.pointer (some (Addr.mk b1 0 none))) ∧ True) (fun x w => J64 x ∧ w2 = w) ?_ ?_
        · clear hk
          rcases Bool.eq_false_or_eq_true (c63) with hc65 | hc65
          · replace h := h.1 hc65
            refine wpR_val (v := (Value.pointer (some ((Addr.mk b1 0 none).add 12)))) (w' := w2) (wantG rfl rfl rfl hc65) rfl rfl (x_fieldAddr rfl e1 FA_24_12) ?_
            obtain ⟨x66, q66, h⟩ := h
            refine wpR_val (v := (Sl.v x66)) (w' := w2) (wantG rfl rfl rfl hc65) rfl rfl (x_load1 rfl rfl SH_22 q66) ?_
            refine wpR_val (v := (Value.int .i64 (x66.len : Int))) (w' := w2) (wantG rfl rfl rfl hc65) rfl rfl (x_lenS (s := x66) rfl rfl isSliceT_22) ?_
            refine wpR_val (v := (Value.bool (decide ((x66.len : Int) = 0)))) (w' := w2) (wantG rfl rfl rfl hc65) rfl rfl (x_eql rfl rfl rfl) ?_
            refine wpR_val (v := (Value.bool (decide ((x66.len : Int) = 0)))) (w' := w2) rfl rfl rfl (x_pickT (v := (Value.bool (decide ((x66.len : Int) = 0)))) rfl rfl hc65 rfl) ?_
            refine wpR_nil ?_
            exact ⟨decide ((x66.len : Int) = 0), ⟨rfl, e1, trivial⟩, h, rfl⟩
          · replace h := h.2 hc65
            refine wpR_pass (wantN rfl rfl rfl hc65) rfl rfl ?_
            refine wpR_pass (wantN rfl rfl rfl hc65) rfl rfl ?_
            refine wpR_pass (wantN rfl rfl rfl hc65) rfl rfl ?_
            refine wpR_pass (wantN rfl rfl rfl hc65) rfl rfl ?_
            refine wpR_val (v := (Value.bool false)) (w' := w2) rfl rfl rfl (x_pickF (v := (Value.bool false)) rfl rfl hc65 rfl) ?_
            refine wpR_nil ?_
            exact ⟨false, ⟨rfl, e1, trivial⟩, h, rfl⟩
        clear h
        rintro c67 ρ wj ⟨e65, e1, -⟩ ⟨h, rfl⟩
        replace h := hk c67 h
        clear hk
        refine wpR_val (v := (Value.bool c67)) (w' := w2) rfl rfl rfl (x_assign (v := (Value.bool c67)) rfl e65) ?_
        refine wpR_nil ?_
        refine wpC_seq ?_
        refine wpC_seq ?_
        refine wpC_cut (fun ρ => ρ 1 = (Value.pointer (some (Addr.mk b1 0 none))) ∧ ρ 3 = (Value.bool c67) ∧ True) ⟨e1, rfl, trivial⟩ ?_
        rintro ρ ⟨e1, e3, -⟩
        refine wpC_region ?_
        refine wpR_val (v := (Value.bool c67)) (w' := w2) rfl rfl rfl (x_move (v := (Value.bool c67)) rfl e3) ?_
        refine wpR_val (v := (Value.bool (!c67))) (w' := w2) rfl rfl rfl (x_not rfl rfl) ?_
        refine wpR_val (v := (Value.bool (!c67))) (w' := w2) rfl rfl rfl (x_move (v := (Value.bool (!c67))) rfl rfl) ?_
        obtain ⟨J68, h, hk⟩ := h
        refine wpR_joinJ 15 (fun x ρ => ρ 83 = Value.bool x ∧ ρ 1 = (Value.pointer (some (Addr.mk b1 0 none))) ∧ True) (fun x w => J68 x ∧ w2 = w) ?_ ?_
        · clear hk
          rcases Bool.eq_false_or_eq_true (!c67) with hc69 | hc69
          · replace h := h.1 hc69
            refine wpR_val (v := (Value.pointer (some ((Addr.mk b1 0 none).add 10)))) (w' := w2) (wantG rfl rfl rfl hc69) rfl rfl (x_fieldAddr rfl e1 FA_24_10) ?_
            obtain ⟨x70, q70, h⟩ := h
            refine wpR_val (v := (Value.int .i64 x70)) (w' := w2) (wantG rfl rfl rfl hc69) rfl rfl (x_load1 rfl rfl SH_3 q70) ?_
            refine wpR_val (v := (Value.bool (decide (x70 = 0)))) (w' := w2) (wantG rfl rfl rfl hc69) rfl rfl (x_eql rfl rfl rfl) ?_
            refine wpR_val (v := (Value.bool (decide (x70 = 0)))) (w' := w2) (wantG rfl rfl rfl hc69) rfl rfl (x_move (v := (Value.bool (decide (x70 = 0)))) rfl rfl) ?_
            obtain ⟨J71, h, hk⟩ := h
            refine wpR_joinJ 4 (fun x ρ => ρ 76 = Value.bool x ∧ ρ 1 = (Value.pointer (some (Addr.mk b1 0 none))) ∧ ρ 68 = (Value.bool (!c67)) ∧ True) (fun x w => J71 x ∧ w2 = w) ?_ ?_
            · clear hk
              rcases Bool.eq_false_or_eq_true (decide (x70 = 0)) with hc72 | hc72
              · replace h := h.1 hc72
                refine wpR_pass (wantN rfl rfl rfl hc72) rfl rfl ?_
                refine wpR_pass (wantN rfl rfl rfl hc72) rfl rfl ?_
                refine wpR_pass (wantN rfl rfl rfl hc72) rfl rfl ?_
                refine wpR_val (v := (Value.bool true)) (w' := w2) (wantG rfl rfl rfl hc69) rfl rfl (x_pickT (v := (Value.bool true)) rfl rfl hc72 rfl) ?_
                refine wpR_nil ?_
                exact ⟨true, ⟨rfl, e1, rfl, trivial⟩, h, rfl⟩
              · replace h := h.2 hc72
                refine wpR_val (v := (Value.pointer (some ((Addr.mk b1 0 none).add 11)))) (w' := w2) (wantG rfl rfl rfl hc72) rfl rfl (x_fieldAddr rfl e1 FA_24_11) ?_
                obtain ⟨x73, q73, h⟩ := h
                refine wpR_val (v := (Value.int .i64 x73)) (w' := w2) (wantG rfl rfl rfl hc72) rfl rfl (x_load1 rfl rfl SH_3 q73) ?_
                refine wpR_val (v := (Value.bool (decide (x73 = 0)))) (w' := w2) (wantG rfl rfl rfl hc72) rfl rfl (x_eql rfl rfl rfl) ?_
                refine wpR_val (v := (Value.bool (decide (x73 = 0)))) (w' := w2) (wantG rfl rfl rfl hc69) rfl rfl (x_pickF (v := (Value.bool (decide (x73 = 0)))) rfl rfl hc72 rfl) ?_
                refine wpR_nil ?_
                exact ⟨decide (x73 = 0), ⟨rfl, e1, rfl, trivial⟩, h, rfl⟩
            clear h
            rintro c74 ρ wj ⟨e76, e1, e68, -⟩ ⟨h, rfl⟩
            replace h := hk c74 h
            clear hk
            refine wpR_val (v := (Value.bool c74)) (w' := w2) (wantG rfl rfl e68 hc69) rfl rfl (x_move (v := (Value.bool c74)) rfl e76) ?_
            obtain ⟨J75, h, hk⟩ := h
            refine wpR_joinJ 5 (fun x ρ => ρ 82 = Value.bool x ∧ ρ 1 = (Value.pointer (some (Addr.mk b1 0 none))) ∧ ρ 68 = (Value.bool (!c67)) ∧ True) (fun x w => J75 x ∧ w2 = w) ?_ ?_
            · clear hk
              rcases Bool.eq_false_or_eq_true (c74) with hc76 | hc76
              · replace h := h.1 hc76
                refine wpR_pass (wantN rfl rfl rfl hc76) rfl rfl ?_
                refine wpR_pass (wantN rfl rfl rfl hc76) rfl rfl ?_
                refine wpR_pass (wantN rfl rfl rfl hc76) rfl rfl ?_
                refine wpR_pass (wantN rfl rfl rfl hc76) rfl rfl ?_
                refine wpR_val (v := (Value.bool true)) (w' := w2) (wantG rfl rfl e68 hc69) rfl rfl (x_pickT (v := (Value.bool true)) rfl rfl hc76 rfl) ?_
                refine wpR_nil ?_
                exact ⟨true, ⟨rfl, e1, e68, trivial⟩, h, rfl⟩
              · replace h := h.2 hc76
                refine wpR_val (v := (Value.pointer (some ((Addr.mk b1 0 none).add 12)))) (w' := w2) (wantG rfl rfl rfl hc76) rfl rfl (x_fieldAddr rfl e1 FA_24_12) ?_
                obtain ⟨x77, q77, h⟩ := h
                refine wpR_val (v := (Sl.v x77)) (w' := w2) (wantG rfl rfl rfl hc76) rfl rfl (x_load1 rfl rfl SH_22 q77) ?_
                refine wpR_val (v := (Value.int .i64 (x77.len : Int))) (w' := w2) (wantG rfl rfl rfl hc76) rfl rfl (x_lenS (s := x77) rfl rfl isSliceT_22) ?_
                refine wpR_val (v := (Value.bool (decide ((x77.len : Int) = 0)))) (w' := w2) (wantG rfl rfl rfl hc76) rfl rfl (x_eql rfl rfl rfl) ?_
                refine wpR_val (v := (Value.bool (decide ((x77.len : Int) = 0)))) (w' := w2) (wantG rfl rfl e68 hc69) rfl rfl (x_pickF (v := (Value.bool (decide ((x77.len : Int) = 0)))) rfl rfl hc76 rfl) ?_
                refine wpR_nil ?_
                exact ⟨decide ((x77.len : Int) = 0), ⟨rfl, e1, e68, trivial⟩, h, rfl⟩
            clear h
            rintro c78 ρ wj ⟨e82, e1, e68, -⟩ ⟨h, rfl⟩
            replace h := hk c78 h
            clear hk
            refine wpR_val (v := (Value.bool c78)) (w' := w2) rfl rfl rfl (x_pickT (v := (Value.bool c78)) rfl e68 hc69 e82) ?_
            refine wpR_nil ?_
            exact ⟨c78, ⟨rfl, e1, trivial⟩, h, rfl⟩
          · replace h := h.2 hc69
            refine wpR_pass (wantN rfl rfl rfl hc69) rfl rfl ?_
            refine wpR_pass (wantN rfl rfl rfl hc69) rfl rfl ?_
            refine wpR_pass (wantN rfl rfl rfl hc69) rfl rfl ?_
            refine wpR_pass (wantN rfl rfl rfl hc69) rfl rfl ?_
            refine wpR_pass (wantU rfl rfl rfl) rfl rfl ?_
            refine wpR_pass (wantU rfl rfl rfl) rfl rfl ?_
            refine wpR_pass (wantU rfl rfl rfl) rfl rfl ?_
            refine wpR_pass (wantN rfl rfl rfl hc69) rfl rfl ?_
            refine wpR_pass (wantN rfl rfl rfl hc69) rfl rfl ?_
            refine wpR_pass (wantU rfl rfl rfl) rfl rfl ?_
            refine wpR_pass (wantU rfl rfl rfl) rfl rfl ?_
            refine wpR_pass (wantU rfl rfl rfl) rfl rfl ?_
            refine wpR_pass (wantU rfl rfl rfl) rfl rfl ?_
            refine wpR_pass (wantN rfl rfl rfl hc69) rfl rfl ?_
            refine wpR_val (v := (Value.bool false)) (w' := w2) rfl rfl rfl (x_pickF (v := (Value.bool false)) rfl rfl hc69 rfl) ?_
            refine wpR_nil ?_
            exact ⟨false, ⟨rfl, e1, trivial⟩, h, rfl⟩
        clear h
        rintro c79 ρ wj ⟨e83, e1, -⟩ ⟨h, rfl⟩
        replace h := hk c79 h
        clear hk
        refine wpR_nil ?_
        refine wpC_cond (b := c79) e83 (fun hc80 => ?_) (fun hc80 => ?_)
        · replace h := h.1 hc80
          refine wpC_seq ?_
          refine wpC_region ?_
          refine wpR_val (v := (Value.int .i64 3)) (w' := w2) rfl rfl rfl (x_assign (v := (Value.int .i64 3)) rfl rfl) ?_
          refine wpR_nil ?_
          refine wpC_ret ?_
          exact ⟨.inl rfl, fun a ha => ⟨_, results_rep1 rfl ha rfl, 3, rfl, h⟩⟩
        · replace h := h.2 hc80
          refine wpC_skip ?_
          refine wpC_seq ?_
          refine wpC_seq ?_
          refine wpC_region ?_
          refine wpR_val (v := (Value.int .i64 0)) (w' := w2) rfl rfl rfl (x_assign (v := (Value.int .i64 0)) rfl rfl) ?_
          refine wpR_nil ?_
          refine wpC_block ?_
          obtain ⟨I81, μ81, hI81, hr81⟩ := h
          refine wpC_loop (fun (x : Int) ρ => ρ 4 = (Value.int .i64 x) ∧ ρ 1 = (Value.pointer (some (Addr.mk b1 0 none))) ∧ True) I81 μ81 0 ⟨rfl, e1, trivial⟩ hI81 ?_
          rintro l81 ρ w3 ⟨e4, e1, -⟩ h
          replace h := hr81 l81 w3 h
          clear hr81 hI81
          refine wpC_seq ?_
          refine wpC_seq ?_
          refine wpC_region ?_
          refine wpR_val (v := (Value.int .i64 l81)) (w' := w3) rfl rfl rfl (x_move (v := (Value.int .i64 l81)) rfl e4) ?_
          refine wpR_val (v := (Value.pointer (some ((Addr.mk b1 0 none).add 12)))) (w' := w3) rfl rfl rfl (x_fieldAddr rfl e1 FA_24_12) ?_
          obtain ⟨x82, q82, h⟩ := h
          refine wpR_val (v := (Sl.v x82)) (w' := w3) rfl rfl rfl (x_load1 rfl rfl SH_22 q82) ?_
          refine wpR_val (v := (Value.int .i64 (x82.len : Int))) (w' := w3) rfl rfl rfl (x_lenS (s := x82) rfl rfl isSliceT_22) ?_
          refine wpR_val (v := (Value.bool (decide (l81 < (x82.len : Int))))) (w' := w3) rfl rfl rfl (x_lss rfl rfl rfl) ?_
          refine wpR_nil ?_
          refine wpC_cond (b := decide (l81 < (x82.len : Int))) rfl (fun hc83 => ?_) (fun hc83 => ?_)
          · replace h := h.1 hc83
            refine wpC_skip ?_
            refine wpC_seq ?_
            refine wpC_block ?_
            refine wpC_seq ?_
            refine wpC_cut (fun ρ => ρ 1 = (Value.pointer (some (Addr.mk b1 0 none))) ∧ ρ 4 = (Value.int .i64 l81) ∧ True) ⟨e1, e4, trivial⟩ ?_
            rintro ρ ⟨e1, e4, -⟩
            refine wpC_region ?_
            refine wpR_val (v := (Value.int .i64 0)) (w' := w3) rfl rfl rfl (x_assign (v := (Value.int .i64 0)) rfl rfl) ?_
            refine wpR_nil ?_
            refine wpC_block ?_
            obtain ⟨I84, μ84, hI84, hr84⟩ := h
            refine wpC_loop (fun (x : Int) ρ => ρ 5 = (Value.int .i64 x) ∧ ρ 1 = (Value.pointer (some (Addr.mk b1 0 none))) ∧ ρ 4 = (Value.int .i64 l81) ∧ True) I84 μ84 0 ⟨rfl, e1, e4, trivial⟩ hI84 ?_
            rintro l84 ρ w4 ⟨e5, e1, e4, -⟩ h
            replace h := hr84 l84 w4 h
            clear hr84 hI84
            refine wpC_seq ?_
            refine wpC_seq ?_
            refine wpC_region ?_
            refine wpR_val (v := (Value.int .i64 l84)) (w' := w4) rfl rfl rfl (x_move (v := (Value.int .i64 l84)) rfl e5) ?_
            refine wpR_val (v := (Value.int .i64 l81)) (w' := w4) rfl rfl rfl (x_move (v := (Value.int .i64 l81)) rfl e4) ?_
            refine wpR_val (v := (Value.bool (decide (l84 < l81)))) (w' := w4) rfl rfl rfl (x_lss rfl rfl rfl) ?_
            refine wpR_nil ?_
            refine wpC_cond (b := decide (l84 < l81)) rfl (fun hc85 => ?_) (fun hc85 => ?_)
            · replace h := h.1 hc85
              refine wpC_skip ?_
              refine wpC_seq ?_
              refine wpC_block ?_
              refine wpC_seq ?_
              refine wpC_cut (fun ρ => ρ 1 = (Value.pointer (some (Addr.mk b1 0 none))) ∧ ρ 4 = (Value.int .i64 l81) ∧ ρ 5 = (Value.int .i64 l84) ∧ True) ⟨e1, e4, e5, trivial⟩ ?_
              rintro ρ ⟨e1, e4, e5, -⟩
              obtain ⟨J87, h, hk⟩ := h
              refine wpC_drawJ (by kernel_rfl) (fun (x : Bool) ρ => ρ 106 = (Value.bool x) ∧ ρ 1 = (Value.pointer (some (Addr.mk b1 0 none))) ∧ ρ 4 = (Value.int .i64 l81) ∧ ρ 5 = (Value.int .i64 l84) ∧ True) J87 ?_ ?_
              · clear hk
                unfold tk at h
                generalize w4.drew = w5 at h ⊢
                refine wpD_take (v := (Value.pointer (some ((Addr.mk b1 0 none).add 12)))) 0 (fun _ => True) rfl (by kernel_rfl) (by kernel_rfl) (by kernel_rfl) rfl rfl rfl trivial (fun w _ => (x_fieldAddr rfl e1 FA_24_12)) ?_
                obtain ⟨x88, q88, h⟩ := h
                refine wpD_take (v := (Sl.v x88)) 1 (fun w => w.cell? ((Addr.mk b1 0 none).add 12) = some (Sl.v x88)) rfl (by kernel_rfl) (by kernel_rfl) (by kernel_rfl) rfl rfl rfl q88 (fun w q88 => (x_load1 rfl rfl SH_22 q88)) ?_
                refine wpD_take (v := (Value.int .i64 l81)) 2 (fun _ => True) rfl (by kernel_rfl) (by kernel_rfl) (by kernel_rfl) rfl rfl rfl trivial (fun w _ => (x_move (v := (Value.int .i64 l81)) rfl e4)) ?_
                obtain ⟨q89, z89, r89, h⟩ := h
                generalize hp89 : z89.add ((l81 : Int).toNat * 1) = p89 at h
                refine wpD_take (v := (Value.pointer (some p89))) 3 (fun _ => True) rfl (by kernel_rfl) (by kernel_rfl) (by kernel_rfl) rfl rfl rfl trivial (fun w _ => ((x_indexAddr (s := x88) rfl rfl rfl ES_22 q89 r89).trans (by rw [hp89]))) ?_
                obtain ⟨x90, q90, h⟩ := h
                refine wpD_take (v := (Value.string x90)) 4 (fun w => w.cell? p89 = some (Value.string x90)) rfl (by kernel_rfl) (by kernel_rfl) (by kernel_rfl) rfl rfl rfl q90 (fun w q90 => (x_load1 rfl rfl SH_9 q90)) ?_
                refine wpD_take (v := (Value.pointer (some ((Addr.mk b1 0 none).add 12)))) 5 (fun _ => True) rfl (by kernel_rfl) (by kernel_rfl) (by kernel_rfl) rfl rfl rfl trivial (fun w _ => (x_fieldAddr rfl e1 FA_24_12)) ?_
                obtain ⟨x91, q91, h⟩ := h
                refine wpD_take (v := (Sl.v x91)) 6 (fun w => w.cell? ((Addr.mk b1 0 none).add 12) = some (Sl.v x91)) rfl (by kernel_rfl) (by kernel_rfl) (by kernel_rfl) rfl rfl rfl q91 (fun w q91 => (x_load1 rfl rfl SH_22 q91)) ?_
                refine wpD_take (v := (Value.int .i64 l84)) 7 (fun _ => True) rfl (by kernel_rfl) (by kernel_rfl) (by kernel_rfl) rfl rfl rfl trivial (fun w _ => (x_move (v := (Value.int .i64 l84)) rfl e5)) ?_
                obtain ⟨q92, z92, r92, h⟩ := h
                generalize hp92 : z92.add ((l84 : Int).toNat * 1) = p92 at h
                refine wpD_take (v := (Value.pointer (some p92))) 8 (fun _ => True) rfl (by kernel_rfl) (by kernel_rfl) (by kernel_rfl) rfl rfl rfl trivial (fun w _ => ((x_indexAddr (s := x91) rfl rfl rfl ES_22 q92 r92).trans (by rw [hp92]))) ?_
                obtain ⟨x93, q93, h⟩ := h
                refine wpD_take (v := (Value.string x93)) 9 (fun w => w.cell? p92 = some (Value.string x93)) rfl (by kernel_rfl) (by kernel_rfl) (by kernel_rfl) rfl rfl rfl q93 (fun w q93 => (x_load1 rfl rfl SH_9 q93)) ?_
                refine wpD_take (v := (Value.bool (beqS x90 x93))) 10 (fun _ => True) rfl (by kernel_rfl) (by kernel_rfl) (by kernel_rfl) rfl rfl rfl trivial (fun w _ => (x_eqlS rfl rfl rfl)) ?_
                exact wpD_done (by kernel_rfl) ⟨beqS x90 x93, ⟨rfl, e1, e4, e5, trivial⟩, h⟩
              clear h
              rintro l94 ρ w6 ⟨e106, e1, e4, e5, -⟩ h
              replace h := hk l94 w6 h
              clear hk
              refine wpC_cond (b := l94) e106 (fun hc95 => ?_) (fun hc95 => ?_)
              · replace h := h.1 hc95
                refine wpC_seq ?_
                refine wpC_region ?_
                refine wpR_val (v := (Value.int .i64 5)) (w' := w6) rfl rfl rfl (x_assign (v := (Value.int .i64 5)) rfl rfl) ?_
                refine wpR_nil ?_
                refine wpC_ret ?_
                exact ⟨.inl rfl, fun a ha => ⟨_, results_rep1 rfl ha rfl, 5, rfl, h⟩⟩
              · replace h := h.2 hc95
                refine wpC_skip ?_
                refine wpC_region ?_
                refine wpR_val (v := (Value.int .i64 l84)) (w' := w6) rfl rfl rfl (x_move (v := (Value.int .i64 l84)) rfl e5) ?_
                refine wpR_val (v := (Value.int .i64 (IntKind.i64.wrap (l84 + 1)))) (w' := w6) rfl rfl rfl (x_add rfl rfl rfl) ?_
                refine wpR_val (v := (Value.int .i64 (IntKind.i64.wrap (l84 + 1)))) (w' := w6) rfl rfl rfl (x_assign (v := (Value.int .i64 (IntKind.i64.wrap (l84 + 1)))) rfl rfl) ?_
                refine wpR_nil ?_
                exact ⟨IntKind.i64.wrap (l84 + 1), ⟨rfl, e1, e4, trivial⟩, h⟩
            · replace h := h.2 hc85
              refine wpC_exit ?_
              refine wpC_cut (fun ρ => ρ 1 = (Value.pointer (some (Addr.mk b1 0 none))) ∧ ρ 4 = (Value.int .i64 l81) ∧ True) ⟨e1, e4, trivial⟩ ?_
              rintro ρ ⟨e1, e4, -⟩
              refine wpC_region ?_
              refine wpR_val (v := (Value.int .i64 l81)) (w' := w4) rfl rfl rfl (x_move (v := (Value.int .i64 l81)) rfl e4) ?_
              refine wpR_val (v := (Value.int .i64 (IntKind.i64.wrap (l81 + 1)))) (w' := w4) rfl rfl rfl (x_add rfl rfl rfl) ?_
              refine wpR_val (v := (Value.int .i64 (IntKind.i64.wrap (l81 + 1)))) (w' := w4) rfl rfl rfl (x_assign (v := (Value.int .i64 (IntKind.i64.wrap (l81 + 1)))) rfl rfl) ?_
              refine wpR_nil ?_
              exact ⟨IntKind.i64.wrap (l81 + 1), ⟨rfl, e1, trivial⟩, h⟩
          · replace h := h.2 hc83
            refine wpC_exit ?_
            refine wpC_seq ?_
            refine wpC_cut (fun ρ => True) trivial ?_
            rintro ρ -
            refine wpC_region ?_
            refine wpR_val (v := (Value.int .i64 0)) (w' := w3) rfl rfl rfl (x_assign (v := (Value.int .i64 0)) rfl rfl) ?_
            refine wpR_nil ?_
            refine wpC_ret ?_
            exact ⟨.inl rfl, fun a ha => ⟨_, results_rep1 rfl ha rfl, 0, rfl, h⟩⟩

/-- profile.AtMost -/
def F12 (p0_0 : ByteArray) (p0_1 : Int) (p0_2 : Int) (p0_3 : Int) (p0_4 : Bool) (p0_5 : Int) (p0_6 : Bool) (p0_7 : Bool) (p0_8 : Int) (p0_9 : Int) (p0_10 : Int) (p0_11 : Int) (p0_12 : Sl) (p0_13 : Int) (p0_14 : Int) (p0_15 : Int) (p0_16 : Int) (p0_17 : Bool) (p0_18 : Int) (p0_19 : Int) (p0_20 : Int) (p0_21 : Int) (p1_0 : ByteArray) (p1_1 : Int) (p1_2 : Int) (p1_3 : Int) (p1_4 : Bool) (p1_5 : Int) (p1_6 : Bool) (p1_7 : Bool) (p1_8 : Int) (p1_9 : Int) (p1_10 : Int) (p1_11 : Int) (p1_12 : Sl) (p1_13 : Int) (p1_14 : Int) (p1_15 : Int) (p1_16 : Int) (p1_17 : Bool) (p1_18 : Int) (p1_19 : Int) (p1_20 : Int) (p1_21 : Int) (w0 : World) (K : Bool → World → Prop) : Prop :=
  nw 24 (A23 p0_0 p0_1 p0_2 p0_3 p0_4 p0_5 p0_6 p0_7 p0_8 p0_9 p0_10 p0_11 p0_12 p0_13 p0_14 p0_15 p0_16 p0_17 p0_18 p0_19 p0_20 p0_21) w0 fun b1 w1 =>
  nw 24 (A23 p1_0 p1_1 p1_2 p1_3 p1_4 p1_5 p1_6 p1_7 p1_8 p1_9 p1_10 p1_11 p1_12 p1_13 p1_14 p1_15 p1_16 p1_17 p1_18 p1_19 p1_20 p1_21) w1 fun b2 w2 =>
  ld (Value.int .i64) ((Addr.mk b1 0 none).add 1) w2 fun x3 =>
  ld (Value.int .i64) ((Addr.mk b2 0 none).add 1) w2 fun x4 =>
  jp (fun J5 => cnd (decide (x3 ≤ x4))
    (
    ld (Value.int .i64) ((Addr.mk b1 0 none).add 3) w2 fun x7 =>
    ld (Value.int .i64) ((Addr.mk b2 0 none).add 3) w2 fun x8 =>
    J5 (decide (x7 ≤ x8))
    )
    (
    J5 false
    ))
  fun c9 =>
  jp (fun J10 => cnd (c9)
    (
    ld (Value.int .i64) ((Addr.mk b1 0 none).add 5) w2 fun x12 =>
    ld (Value.int .i64) ((Addr.mk b2 0 none).add 5) w2 fun x13 =>
    J10 (decide (x12 ≤ x13))
    )
    (
    J10 false
    ))
  fun c14 =>
  jp (fun J15 => cnd (c14)
    (
    ld (Value.int .i64) ((Addr.mk b1 0 none).add 8) w2 fun x17 =>
    ld (Value.int .i64) ((Addr.mk b2 0 none).add 8) w2 fun x18 =>
    J15 (decide (x17 ≤ x18))
    )
    (
    J15 false
    ))
  fun c19 =>
  jp (fun J20 => cnd (c19)
    (
    ld (Value.int .i64) ((Addr.mk b1 0 none).add 9) w2 fun x22 =>
    ld (Value.int .i64) ((Addr.mk b2 0 none).add 9) w2 fun x23 =>
    J20 (decide (x22 ≤ x23))
    )
    (
    J20 false
    ))
  fun c24 =>
  jp (fun J25 => cnd (c24)
    (
    ld (Value.int .i64) ((Addr.mk b1 0 none).add 10) w2 fun x27 =>
    ld (Value.int .i64) ((Addr.mk b2 0 none).add 10) w2 fun x28 =>
    J25 (decide (x27 ≤ x28))
    )
    (
    J25 false
    ))
  fun c29 =>
  jp (fun J30 => cnd (c29)
    (
    ld (Value.int .i64) ((Addr.mk b1 0 none).add 11) w2 fun x32 =>
    ld (Value.int .i64) ((Addr.mk b2 0 none).add 11) w2 fun x33 =>
    J30 (decide (x32 ≤ x33))
    )
    (
    J30 false
    ))
  fun c34 =>
  jp (fun J35 => cnd (c34)
    (
    ld (Value.int .i64) ((Addr.mk b1 0 none).add 16) w2 fun x37 =>
    ld (Value.int .i64) ((Addr.mk b2 0 none).add 16) w2 fun x38 =>
    J35 (decide (x37 ≤ x38))
    )
    (
    J35 false
    ))
  fun c39 =>
  ld Value.bool ((Addr.mk b1 0 none).add 4) w2 fun x40 =>
  jp (fun J41 => cnd (!x40)
    (
    J41 true
    )
    (
    ld Value.bool ((Addr.mk b2 0 none).add 4) w2 fun x43 =>
    J41 x43
    ))
  fun c44 =>
  jp (fun J45 => cnd (c44)
    (
    ld Value.bool ((Addr.mk b1 0 none).add 6) w2 fun x47 =>
    jp (fun J48 => cnd (!x47)
      (
      J48 true
      )
      (
      ld Value.bool ((Addr.mk b2 0 none).add 6) w2 fun x50 =>
      J48 x50
      ))
    fun c51 =>
    J45 c51
    )
    (
    J45 false
    ))
  fun c52 =>
  jp (fun J53 => cnd (c52)
    (
    ld Value.bool ((Addr.mk b1 0 none).add 7) w2 fun x55 =>
    jp (fun J56 => cnd (!x55)
      (
      J56 true
      )
      (
      ld Value.bool ((Addr.mk b2 0 none).add 7) w2 fun x58 =>
      J56 x58
      ))
    fun c59 =>
    J53 c59
    )
    (
    J53 false
    ))
  fun c60 =>
  ld (Value.int .i64) ((Addr.mk b1 0 none).add 1) w2 fun x61 =>
  jp (fun J62 => cnd (decide (x61 = 0))
    (
    J62 true
    )
    (
    ld (Value.int .i64) ((Addr.mk b2 0 none).add 2) w2 fun x64 =>
    J62 (decide (x64 = 0))
    ))
  fun c65 =>
  jp (fun J66 => cnd (c65)
    (
    J66 true
    )
    (
    ld (Value.int .i64) ((Addr.mk b1 0 none).add 2) w2 fun x68 =>
    jp (fun J69 => cnd (!decide (x68 = 0))
      (
      ld (Value.int .i64) ((Addr.mk b1 0 none).add 2) w2 fun x71 =>
      ld (Value.int .i64) ((Addr.mk b2 0 none).add 2) w2 fun x72 =>
      J69 (decide (x71 ≤ x72))
      )
      (
      J69 false
      ))
    fun c73 =>
    J66 c73
    ))
  fun c74 =>
  jn (fun J79 => cnd ((c39 && c60) && c74)
    (
    ld Sl.v ((Addr.mk b1 0 none).add 12) w2 fun x81 =>
    callC Try.prog 30 #[(Sl.v x81), (Value.func (.func 29) #[] (List.toArray [(Value.pointer (some (Addr.mk b2 0 none)))]))] (fun (r : Bool) => (Value.bool r)) w2 fun r82 w3 =>
    J79 (!r82) w3
    )
    (
    J79 false w2
    ))
  fun c83 w4 =>
  K c83 w4
set_option maxRecDepth 100000 in
theorem D12 (p0_0 : ByteArray) (p0_1 : Int) (p0_2 : Int) (p0_3 : Int) (p0_4 : Bool) (p0_5 : Int) (p0_6 : Bool) (p0_7 : Bool) (p0_8 : Int) (p0_9 : Int) (p0_10 : Int) (p0_11 : Int) (p0_12 : Sl) (p0_13 : Int) (p0_14 : Int) (p0_15 : Int) (p0_16 : Int) (p0_17 : Bool) (p0_18 : Int) (p0_19 : Int) (p0_20 : Int) (p0_21 : Int) (p1_0 : ByteArray) (p1_1 : Int) (p1_2 : Int) (p1_3 : Int) (p1_4 : Bool) (p1_5 : Int) (p1_6 : Bool) (p1_7 : Bool) (p1_8 : Int) (p1_9 : Int) (p1_10 : Int) (p1_11 : Int) (p1_12 : Sl) (p1_13 : Int) (p1_14 : Int) (p1_15 : Int) (p1_16 : Int) (p1_17 : Bool) (p1_18 : Int) (p1_19 : Int) (p1_20 : Int) (p1_21 : Int) (w0 : World) (K : Bool → World → Prop) (h : F12 p0_0 p0_1 p0_2 p0_3 p0_4 p0_5 p0_6 p0_7 p0_8 p0_9 p0_10 p0_11 p0_12 p0_13 p0_14 p0_15 p0_16 p0_17 p0_18 p0_19 p0_20 p0_21 p1_0 p1_1 p1_2 p1_3 p1_4 p1_5 p1_6 p1_7 p1_8 p1_9 p1_10 p1_11 p1_12 p1_13 p1_14 p1_15 p1_16 p1_17 p1_18 p1_19 p1_20 p1_21 w0 K) : callC Try.prog 12 #[(V23 p0_0 p0_1 p0_2 p0_3 p0_4 p0_5 p0_6 p0_7 p0_8 p0_9 p0_10 p0_11 p0_12 p0_13 p0_14 p0_15 p0_16 p0_17 p0_18 p0_19 p0_20 p0_21), (V23 p1_0 p1_1 p1_2 p1_3 p1_4 p1_5 p1_6 p1_7 p1_8 p1_9 p1_10 p1_11 p1_12 p1_13 p1_14 p1_15 p1_16 p1_17 p1_18 p1_19 p1_20 p1_21)] (fun (r : Bool) => (Value.bool r)) w0 K := by
  unfold F12 at h
  refine calls_of_wpC Try.func12 rfl 123 rfl (by simp) ?_
  intro ρ hρ
  have e0 : ρ 0 = (V23 p0_0 p0_1 p0_2 p0_3 p0_4 p0_5 p0_6 p0_7 p0_8 p0_9 p0_10 p0_11 p0_12 p0_13 p0_14 p0_15 p0_16 p0_17 p0_18 p0_19 p0_20 p0_21) := hρ 0
  have e1 : ρ 1 = (V23 p1_0 p1_1 p1_2 p1_3 p1_4 p1_5 p1_6 p1_7 p1_8 p1_9 p1_10 p1_11 p1_12 p1_13 p1_14 p1_15 p1_16 p1_17 p1_18 p1_19 p1_20 p1_21) := hρ 1
  clear hρ
  refine wpC_seq ?_
  refine wpC_region ?_
  obtain ⟨b1, hb1⟩ : ∃ u, u = w0.heap.size := ⟨_, rfl⟩
  obtain ⟨w1, hw1⟩ : ∃ u, u = w0.alloc (.cells (A23 p0_0 p0_1 p0_2 p0_3 p0_4 p0_5 p0_6 p0_7 p0_8 p0_9 p0_10 p0_11 p0_12 p0_13 p0_14 p0_15 p0_16 p0_17 p0_18 p0_19 p0_20 p0_21) 24) := ⟨_, rfl⟩
  replace h := h b1 w1 hb1 hw1
  refine wpR_val (v := (Value.pointer (some (Addr.mk b1 0 none)))) (w' := w1) rfl rfl rfl ((x_box (v := (V23 p0_0 p0_1 p0_2 p0_3 p0_4 p0_5 p0_6 p0_7 p0_8 p0_9 p0_10 p0_11 p0_12 p0_13 p0_14 p0_15 p0_16 p0_17 p0_18 p0_19 p0_20 p0_21)) rfl e0).trans (by rw [hb1, hw1]; rfl)) ?_
  obtain ⟨b2, hb2⟩ : ∃ u, u = w1.heap.size := ⟨_, rfl⟩
  obtain ⟨w2, hw2⟩ : ∃ u, u = w1.alloc (.cells (A23 p1_0 p1_1 p1_2 p1_3 p1_4 p1_5 p1_6 p1_7 p1_8 p1_9 p1_10 p1_11 p1_12 p1_13 p1_14 p1_15 p1_16 p1_17 p1_18 p1_19 p1_20 p1_21) 24) := ⟨_, rfl⟩
  replace h := h b2 w2 hb2 hw2
  refine wpR_val (v := (Value.pointer (some (Addr.mk b2 0 none)))) (w' := w2) rfl rfl rfl ((x_box (v := (V23 p1_0 p1_1 p1_2 p1_3 p1_4 p1_5 p1_6 p1_7 p1_8 p1_9 p1_10 p1_11 p1_12 p1_13 p1_14 p1_15 p1_16 p1_17 p1_18 p1_19 p1_20 p1_21)) rfl e1).trans (by rw [hb2, hw2]; rfl)) ?_
  refine wpR_val (v := (Value.bool false)) (w' := w2) rfl rfl rfl (x_assign (v := (Value.bool false)) rfl rfl) ?_
  refine wpR_nil ?_
  refine wpC_seq ?_
  refine wpC_cut (fun ρ => ρ 2 = (Value.pointer (some (Addr.mk b1 0 none))) ∧ ρ 3 = (Value.pointer (some (Addr.mk b2 0 none))) ∧ True) ⟨rfl, rfl, trivial⟩ ?_
  rintro ρ ⟨e2, e3, -⟩
  refine wpC_region ?_
  refine wpR_val (v := (Value.pointer (some ((Addr.mk b1 0 none).add 1)))) (w' := w2) rfl rfl rfl (x_fieldAddr rfl e2 FA_24_1) ?_
  obtain ⟨x3, q3, h⟩ := h
  refine wpR_val (v := (Value.int .i64 x3)) (w' := w2) rfl rfl rfl (x_load1 rfl rfl SH_3 q3) ?_
  refine wpR_val (v := (Value.pointer (some ((Addr.mk b2 0 none).add 1)))) (w' := w2) rfl rfl rfl (x_fieldAddr rfl e3 FA_24_1) ?_
  obtain ⟨x4, q4, h⟩ := h
  refine wpR_val (v := (Value.int .i64 x4)) (w' := w2) rfl rfl rfl (x_load1 rfl rfl SH_3 q4) ?_
  refine wpR_val (v := (Value.bool (decide (x3 ≤ x4)))) (w' := w2) rfl rfl rfl (x_leq rfl rfl rfl) ?_
  refine wpR_val (v := (Value.bool (decide (x3 ≤ x4)))) (w' := w2) rfl rfl rfl (x_move (v := (Value.bool (decide (x3 ≤ x4)))) rfl rfl) ?_
  obtain ⟨J5, h, hk⟩ := h
  refine wpR_joinJ 6 (fun x ρ => ρ 20 = Value.bool x ∧ ρ 2 = (Value.pointer (some (Addr.mk b1 0 none))) ∧ ρ 3 = (Value.pointer (some (Addr.mk b2 0 none))) ∧ True) (fun x w => J5 x ∧ w2 = w) ?_ ?_
  · clear hk
    rcases Bool.eq_false_or_eq_true (decide (x3 ≤ x4)) with hc6 | hc6
    · replace h := h.1 hc6
      refine wpR_val (v := (Value.pointer (some ((Addr.mk b1 0 none).add 3)))) (w' := w2) (wantG rfl rfl rfl hc6) rfl rfl (x_fieldAddr rfl e2 FA_24_3) ?_
      obtain ⟨x7, q7, h⟩ := h
      refine wpR_val (v := (Value.int .i64 x7)) (w' := w2) (wantG rfl rfl rfl hc6) rfl rfl (x_load1 rfl rfl SH_3 q7) ?_
      refine wpR_val (v := (Value.pointer (some ((Addr.mk b2 0 none).add 3)))) (w' := w2) (wantG rfl rfl rfl hc6) rfl rfl (x_fieldAddr rfl e3 FA_24_3) ?_
      obtain ⟨x8, q8, h⟩ := h
      refine wpR_val (v := (Value.int .i64 x8)) (w' := w2) (wantG rfl rfl rfl hc6) rfl rfl (x_load1 rfl rfl SH_3 q8) ?_
      refine wpR_val (v := (Value.bool (decide (x7 ≤ x8)))) (w' := w2) (wantG rfl rfl rfl hc6) rfl rfl (x_leq rfl rfl rfl) ?_
      refine wpR_val (v := (Value.bool (decide (x7 ≤ x8)))) (w' := w2) rfl rfl rfl (x_pickT (v := (Value.bool (decide (x7 ≤ x8)))) rfl rfl hc6 rfl) ?_
      refine wpR_nil ?_
      exact ⟨decide (x7 ≤ x8), ⟨rfl, e2, e3, trivial⟩, h, rfl⟩
    · replace h := h.2 hc6
      refine wpR_pass (wantN rfl rfl rfl hc6) rfl rfl ?_
      refine wpR_pass (wantN rfl rfl rfl hc6) rfl rfl ?_
      refine wpR_pass (wantN rfl rfl rfl hc6) rfl rfl ?_
      refine wpR_pass (wantN rfl rfl rfl hc6) rfl rfl ?_
      refine wpR_pass (wantN rfl rfl rfl hc6) rfl rfl ?_
      refine wpR_val (v := (Value.bool false)) (w' := w2) rfl rfl rfl (x_pickF (v := (Value.bool false)) rfl rfl hc6 rfl) ?_
      refine wpR_nil ?_
      exact ⟨false, ⟨rfl, e2, e3, trivial⟩, h, rfl⟩
  clear h
  rintro c9 ρ wj ⟨e20, e2, e3, -⟩ ⟨h, rfl⟩
  replace h := hk c9 h
  clear hk
  refine wpR_val (v := (Value.bool c9)) (w' := w2) rfl rfl rfl (x_move (v := (Value.bool c9)) rfl e20) ?_
  obtain ⟨J10, h, hk⟩ := h
  refine wpR_joinJ 6 (fun x ρ => ρ 27 = Value.bool x ∧ ρ 2 = (Value.pointer (some (Addr.mk b1 0 none))) ∧ ρ 3 = (Value.pointer (some (Addr.mk b2 0 none))) ∧ True) (fun x w => J10 x ∧ w2 = w) ?_ ?_
  · clear hk
    rcases Bool.eq_false_or_eq_true (c9) with hc11 | hc11
    · replace h := h.1 hc11
      refine wpR_val (v := (Value.pointer (some ((Addr.mk b1 0 none).add 5)))) (w' := w2) (wantG rfl rfl rfl hc11) rfl rfl (x_fieldAddr rfl e2 FA_24_5) ?_
      obtain ⟨x12, q12, h⟩ := h
      refine wpR_val (v := (Value.int .i64 x12)) (w' := w2) (wantG rfl rfl rfl hc11) rfl rfl (x_load1 rfl rfl SH_3 q12) ?_
      refine wpR_val (v := (Value.pointer (some ((Addr.mk b2 0 none).add 5)))) (w' := w2) (wantG rfl rfl rfl hc11) rfl rfl (x_fieldAddr rfl e3 FA_24_5) ?_
      obtain ⟨x13, q13, h⟩ := h
      refine wpR_val (v := (Value.int .i64 x13)) (w' := w2) (wantG rfl rfl rfl hc11) rfl rfl (x_load1 rfl rfl SH_3 q13) ?_
      refine wpR_val (v := (Value.bool (decide (x12 ≤ x13)))) (w' := w2) (wantG rfl rfl rfl hc11) rfl rfl (x_leq rfl rfl rfl) ?_
      refine wpR_val (v := (Value.bool (decide (x12 ≤ x13)))) (w' := w2) rfl rfl rfl (x_pickT (v := (Value.bool (decide (x12 ≤ x13)))) rfl rfl hc11 rfl) ?_
      refine wpR_nil ?_
      exact ⟨decide (x12 ≤ x13), ⟨rfl, e2, e3, trivial⟩, h, rfl⟩
    · replace h := h.2 hc11
      refine wpR_pass (wantN rfl rfl rfl hc11) rfl rfl ?_
      refine wpR_pass (wantN rfl rfl rfl hc11) rfl rfl ?_
      refine wpR_pass (wantN rfl rfl rfl hc11) rfl rfl ?_
      refine wpR_pass (wantN rfl rfl rfl hc11) rfl rfl ?_
      refine wpR_pass (wantN rfl rfl rfl hc11) rfl rfl ?_
      refine wpR_val (v := (Value.bool false)) (w' := w2) rfl rfl rfl (x_pickF (v := (Value.bool false)) rfl rfl hc11 rfl) ?_
      refine wpR_nil ?_
      exact ⟨false, ⟨rfl, e2, e3, trivial⟩, h, rfl⟩
  clear h
  rintro c14 ρ wj ⟨e27, e2, e3, -⟩ ⟨h, rfl⟩
  replace h := hk c14 h
  clear hk
  refine wpR_val (v := (Value.bool c14)) (w' := w2) rfl rfl rfl (x_move (v := (Value.bool c14)) rfl e27) ?_
  obtain ⟨J15, h, hk⟩ := h
  refine wpR_joinJ 6 (fun x ρ => ρ 34 = Value.bool x ∧ ρ 2 = (Value.pointer (some (Addr.mk b1 0 none))) ∧ ρ 3 = (Value.pointer (some (Addr.mk b2 0 none))) ∧ True) (fun x w => J15 x ∧ w2 = w) ?_ ?_
  · clear hk
    rcases Bool.eq_false_or_eq_true (c14) with hc16 | hc16
    · replace h := h.1 hc16
      refine wpR_val (v := (Value.pointer (some ((Addr.mk b1 0 none).add 8)))) (w' := w2) (wantG rfl rfl rfl hc16) rfl rfl (x_fieldAddr rfl e2 FA_24_8) ?_
      obtain ⟨x17, q17, h⟩ := h
      refine wpR_val (v := (Value.int .i64 x17)) (w' := w2) (wantG rfl rfl rfl hc16) rfl rfl (x_load1 rfl rfl SH_3 q17) ?_
      refine wpR_val (v := (Value.pointer (some ((Addr.mk b2 0 none).add 8)))) (w' := w2) (wantG rfl rfl rfl hc16) rfl rfl (x_fieldAddr rfl e3 FA_24_8) ?_
      obtain ⟨x18, q18, h⟩ := h
      refine wpR_val (v := (Value.int .i64 x18)) (w' := w2) (wantG rfl rfl rfl hc16) rfl rfl (x_load1 rfl rfl SH_3 q18) ?_
      refine wpR_val (v := (Value.bool (decide (x17 ≤ x18)))) (w' := w2) (wantG rfl rfl rfl hc16) rfl rfl (x_leq rfl rfl rfl) ?_
      refine wpR_val (v := (Value.bool (decide (x17 ≤ x18)))) (w' := w2) rfl rfl rfl (x_pickT (v := (Value.bool (decide (x17 ≤ x18)))) rfl rfl hc16 rfl) ?_
      refine wpR_nil ?_
      exact ⟨decide (x17 ≤ x18), ⟨rfl, e2, e3, trivial⟩, h, rfl⟩
    · replace h := h.2 hc16
      refine wpR_pass (wantN rfl rfl rfl hc16) rfl rfl ?_
      refine wpR_pass (wantN rfl rfl rfl hc16) rfl rfl ?_
      refine wpR_pass (wantN rfl rfl rfl hc16) rfl rfl ?_
      refine wpR_pass (wantN rfl rfl rfl hc16) rfl rfl ?_
      refine wpR_pass (wantN rfl rfl rfl hc16) rfl rfl ?_
      refine wpR_val (v := (Value.bool false)) (w' := w2) rfl rfl rfl (x_pickF (v := (Value.bool false)) rfl rfl hc16 rfl) ?_
      refine wpR_nil ?_
      exact ⟨false, ⟨rfl, e2, e3, trivial⟩, h, rfl⟩
  clear h
  rintro c19 ρ wj ⟨e34, e2, e3, -⟩ ⟨h, rfl⟩
  replace h := hk c19 h
  clear hk
  refine wpR_val (v := (Value.bool c19)) (w' := w2) rfl rfl rfl (x_move (v := (Value.bool c19)) rfl e34) ?_
  obtain ⟨J20, h, hk⟩ := h
  refine wpR_joinJ 6 (fun x ρ => ρ 41 = Value.bool x ∧ ρ 2 = (Value.pointer (some (Addr.mk b1 0 none))) ∧ ρ 3 = (Value.pointer (some (Addr.mk b2 0 none))) ∧ True) (fun x w => J20 x ∧ w2 = w) ?_ ?_
  · clear hk
    rcases Bool.eq_false_or_eq_true (c19) with hc21 | hc21
    · replace h := h.1 hc21
      refine wpR_val (v := (Value.pointer (some ((Addr.mk b1 0 none).add 9)))) (w' := w2) (wantG rfl rfl rfl hc21) rfl rfl (x_fieldAddr rfl e2 FA_24_9) ?_
      obtain ⟨x22, q22, h⟩ := h
      refine wpR_val (v := (Value.int .i64 x22)) (w' := w2) (wantG rfl rfl rfl hc21) rfl rfl (x_load1 rfl rfl SH_3 q22) ?_
      refine wpR_val (v := (Value.pointer (some ((Addr.mk b2 0 none).add 9)))) (w' := w2) (wantG rfl rfl rfl hc21) rfl rfl (x_fieldAddr rfl e3 FA_24_9) ?_
      obtain ⟨x23, q23, h⟩ := h
      refine wpR_val (v := (Value.int .i64 x23)) (w' := w2) (wantG rfl rfl rfl hc21) rfl rfl (x_load1 rfl rfl SH_3 q23) ?_
      refine wpR_val (v := (Value.bool (decide (x22 ≤ x23)))) (w' := w2) (wantG rfl rfl rfl hc21) rfl rfl (x_leq rfl rfl rfl) ?_
      refine wpR_val (v := (Value.bool (decide (x22 ≤ x23)))) (w' := w2) rfl rfl rfl (x_pickT (v := (Value.bool (decide (x22 ≤ x23)))) rfl rfl hc21 rfl) ?_
      refine wpR_nil ?_
      exact ⟨decide (x22 ≤ x23), ⟨rfl, e2, e3, trivial⟩, h, rfl⟩
    · replace h := h.2 hc21
      refine wpR_pass (wantN rfl rfl rfl hc21) rfl rfl ?_
      refine wpR_pass (wantN rfl rfl rfl hc21) rfl rfl ?_
      refine wpR_pass (wantN rfl rfl rfl hc21) rfl rfl ?_
      refine wpR_pass (wantN rfl rfl rfl hc21) rfl rfl ?_
      refine wpR_pass (wantN rfl rfl rfl hc21) rfl rfl ?_
      refine wpR_val (v := (Value.bool false)) (w' := w2) rfl rfl rfl (x_pickF (v := (Value.bool false)) rfl rfl hc21 rfl) ?_
      refine wpR_nil ?_
      exact ⟨false, ⟨rfl, e2, e3, trivial⟩, h, rfl⟩
  clear h
  rintro c24 ρ wj ⟨e41, e2, e3, -⟩ ⟨h, rfl⟩
  replace h := hk c24 h
  clear hk
  refine wpR_val (v := (Value.bool c24)) (w' := w2) rfl rfl rfl (x_move (v := (Value.bool c24)) rfl e41) ?_
  obtain ⟨J25, h, hk⟩ := h
  refine wpR_joinJ 6 (fun x ρ => ρ 48 = Value.bool x ∧ ρ 2 = (Value.pointer (some (Addr.mk b1 0 none))) ∧ ρ 3 = (Value.pointer (some (Addr.mk b2 0 none))) ∧ True) (fun x w => J25 x ∧ w2 = w) ?_ ?_
  · clear hk
    rcases Bool.eq_false_or_eq_true (c24) with hc26 | hc26
    · replace h := h.1 hc26
      refine wpR_val (v := (Value.pointer (some ((Addr.mk b1 0 none).add 10)))) (w' := w2) (wantG rfl rfl rfl hc26) rfl rfl (x_fieldAddr rfl e2 FA_24_10) ?_
      obtain ⟨x27, q27, h⟩ := h
      refine wpR_val (v := (Value.int .i64 x27)) (w' := w2) (wantG rfl rfl rfl hc26) rfl rfl (x_load1 rfl rfl SH_3 q27) ?_
      refine wpR_val (v := (Value.pointer (some ((Addr.mk b2 0 none).add 10)))) (w' := w2) (wantG rfl rfl rfl hc26) rfl rfl (x_fieldAddr rfl e3 FA_24_10) ?_
      obtain ⟨x28, q28, h⟩ := h
      refine wpR_val (v := (Value.int .i64 x28)) (w' := w2) (wantG rfl rfl rfl hc26) rfl rfl (x_load1 rfl rfl SH_3 q28) ?_
      refine wpR_val (v := (Value.bool (decide (x27 ≤ x28)))) (w' := w2) (wantG rfl rfl rfl hc26) rfl rfl (x_leq rfl rfl rfl) ?_
      refine wpR_val (v := (Value.bool (decide (x27 ≤ x28)))) (w' := w2) rfl rfl rfl (x_pickT (v := (Value.bool (decide (x27 ≤ x28)))) rfl rfl hc26 rfl) ?_
      refine wpR_nil ?_
      exact ⟨decide (x27 ≤ x28), ⟨rfl, e2, e3, trivial⟩, h, rfl⟩
    · replace h := h.2 hc26
      refine wpR_pass (wantN rfl rfl rfl hc26) rfl rfl ?_
      refine wpR_pass (wantN rfl rfl rfl hc26) rfl rfl ?_
      refine wpR_pass (wantN rfl rfl rfl hc26) rfl rfl ?_
      refine wpR_pass (wantN rfl rfl rfl hc26) rfl rfl ?_
      refine wpR_pass (wantN rfl rfl rfl hc26) rfl rfl ?_
      refine wpR_val (v := (Value.bool false)) (w' := w2) rfl rfl rfl (x_pickF (v := (Value.bool false)) rfl rfl hc26 rfl) ?_
      refine wpR_nil ?_
      exact ⟨false, ⟨rfl, e2, e3, trivial⟩, h, rfl⟩
  clear h
  rintro c29 ρ wj ⟨e48, e2, e3, -⟩ ⟨h, rfl⟩
  replace h := hk c29 h
  clear hk
  refine wpR_val (v := (Value.bool c29)) (w' := w2) rfl rfl rfl (x_move (v := (Value.bool c29)) rfl e48) ?_
  obtain ⟨J30, h, hk⟩ := h
  refine wpR_joinJ 6 (fun x ρ => ρ 55 = Value.bool x ∧ ρ 2 = (Value.pointer (some (Addr.mk b1 0 none))) ∧ ρ 3 = (Value.pointer (some (Addr.mk b2 0 none))) ∧ True) (fun x w => J30 x ∧ w2 = w) ?_ ?_
  · clear hk
    rcases Bool.eq_false_or_eq_true (c29) with hc31 | hc31
    · replace h := h.1 hc31
      refine wpR_val (v := (Value.pointer (some ((Addr.mk b1 0 none).add 11)))) (w' := w2) (wantG rfl rfl rfl hc31) rfl rfl (x_fieldAddr rfl e2 FA_24_11) ?_
      obtain ⟨x32, q32, h⟩ := h
      refine wpR_val (v := (Value.int .i64 x32)) (w' := w2) (wantG rfl rfl rfl hc31) rfl rfl (x_load1 rfl rfl SH_3 q32) ?_
      refine wpR_val (v := (Value.pointer (some ((Addr.mk b2 0 none).add 11)))) (w' := w2) (wantG rfl rfl rfl hc31) rfl rfl (x_fieldAddr rfl e3 FA_24_11) ?_
      obtain ⟨x33, q33, h⟩ := h
      refine wpR_val (v := (Value.int .i64 x33)) (w' := w2) (wantG rfl rfl rfl hc31) rfl rfl (x_load1 rfl rfl SH_3 q33) ?_
      refine wpR_val (v := (Value.bool (decide (x32 ≤ x33)))) (w' := w2) (wantG rfl rfl rfl hc31) rfl rfl (x_leq rfl rfl rfl) ?_
      refine wpR_val (v := (Value.bool (decide (x32 ≤ x33)))) (w' := w2) rfl rfl rfl (x_pickT (v := (Value.bool (decide (x32 ≤ x33)))) rfl rfl hc31 rfl) ?_
      refine wpR_nil ?_
      exact ⟨decide (x32 ≤ x33), ⟨rfl, e2, e3, trivial⟩, h, rfl⟩
    · replace h := h.2 hc31
      refine wpR_pass (wantN rfl rfl rfl hc31) rfl rfl ?_
      refine wpR_pass (wantN rfl rfl rfl hc31) rfl rfl ?_
      refine wpR_pass (wantN rfl rfl rfl hc31) rfl rfl ?_
      refine wpR_pass (wantN rfl rfl rfl hc31) rfl rfl ?_
      refine wpR_pass (wantN rfl rfl rfl hc31) rfl rfl ?_
      refine wpR_val (v := (Value.bool false)) (w' := w2) rfl rfl rfl (x_pickF (v := (Value.bool false)) rfl rfl hc31 rfl) ?_
      refine wpR_nil ?_
      exact ⟨false, ⟨rfl, e2, e3, trivial⟩, h, rfl⟩
  clear h
  rintro c34 ρ wj ⟨e55, e2, e3, -⟩ ⟨h, rfl⟩
  replace h := hk c34 h
  clear hk
  refine wpR_val (v := (Value.bool c34)) (w' := w2) rfl rfl rfl (x_move (v := (Value.bool c34)) rfl e55) ?_
  obtain ⟨J35, h, hk⟩ := h
  refine wpR_joinJ 6 (fun x ρ => ρ 62 = Value.bool x ∧ ρ 2 = (Value.pointer (some (Addr.mk b1 0 none))) ∧ ρ 3 = (Value.pointer (some (Addr.mk b2 0 none))) ∧ True) (fun x w => J35 x ∧ w2 = w) ?_ ?_
  · clear hk
    rcases Bool.eq_false_or_eq_true (c34) with hc36 | hc36
    · replace h := h.1 hc36
      refine wpR_val (v := (Value.pointer (some ((Addr.mk b1 0 none).add 16)))) (w' := w2) (wantG rfl rfl rfl hc36) rfl rfl (x_fieldAddr rfl e2 FA_24_16) ?_
      obtain ⟨x37, q37, h⟩ := h
      refine wpR_val (v := (Value.int .i64 x37)) (w' := w2) (wantG rfl rfl rfl hc36) rfl rfl (x_load1 rfl rfl SH_3 q37) ?_
      refine wpR_val (v := (Value.pointer (some ((Addr.mk b2 0 none).add 16)))) (w' := w2) (wantG rfl rfl rfl hc36) rfl rfl (x_fieldAddr rfl e3 FA_24_16) ?_
      obtain ⟨x38, q38, h⟩ := h
      refine wpR_val (v := (Value.int .i64 x38)) (w' := w2) (wantG rfl rfl rfl hc36) rfl rfl (x_load1 rfl rfl SH_3 q38) ?_
      refine wpR_val (v := (Value.bool (decide (x37 ≤ x38)))) (w' := w2) (wantG rfl rfl rfl hc36) rfl rfl (x_leq rfl rfl rfl) ?_
      refine wpR_val (v := (Value.bool (decide (x37 ≤ x38)))) (w' := w2) rfl rfl rfl (x_pickT (v := (Value.bool (decide (x37 ≤ x38)))) rfl rfl hc36 rfl) ?_
      refine wpR_nil ?_
      exact ⟨decide (x37 ≤ x38), ⟨rfl, e2, e3, trivial⟩, h, rfl⟩
    · replace h := h.2 hc36
      refine wpR_pass (wantN rfl rfl rfl hc36) rfl rfl ?_
      refine wpR_pass (wantN rfl rfl rfl hc36) rfl rfl ?_
      refine wpR_pass (wantN rfl rfl rfl hc36) rfl rfl ?_
      refine wpR_pass (wantN rfl rfl rfl hc36) rfl rfl ?_
      refine wpR_pass (wantN rfl rfl rfl hc36) rfl rfl ?_
      refine wpR_val (v := (Value.bool false)) (w' := w2) rfl rfl rfl (x_pickF (v := (Value.bool false)) rfl rfl hc36 rfl) ?_
      refine wpR_nil ?_
      exact ⟨false, ⟨rfl, e2, e3, trivial⟩, h, rfl⟩
  clear h
  rintro c39 ρ wj ⟨e62, e2, e3, -⟩ ⟨h, rfl⟩
  replace h := hk c39 h
  clear hk
  refine wpR_val (v := (Value.bool c39)) (w' := w2) rfl rfl rfl (x_assign (v := (Value.bool c39)) rfl e62) ?_
  refine wpR_nil ?_
  refine wpC_seq ?_
  refine wpC_cut (fun ρ => ρ 2 = (Value.pointer (some (Addr.mk b1 0 none))) ∧ ρ 3 = (Value.pointer (some (Addr.mk b2 0 none))) ∧ ρ 5 = (Value.bool c39) ∧ True) ⟨e2, e3, rfl, trivial⟩ ?_
  rintro ρ ⟨e2, e3, e5, -⟩
  refine wpC_region ?_
  refine wpR_val (v := (Value.pointer (some ((Addr.mk b1 0 none).add 4)))) (w' := w2) rfl rfl rfl (x_fieldAddr rfl e2 FA_24_4) ?_
  obtain ⟨x40, q40, h⟩ := h
  refine wpR_val (v := (Value.bool x40)) (w' := w2) rfl rfl rfl (x_load1 rfl rfl SH_4 q40) ?_
  refine wpR_val (v := (Value.bool (!x40))) (w' := w2) rfl rfl rfl (x_not rfl rfl) ?_
  refine wpR_val (v := (Value.bool (!x40))) (w' := w2) rfl rfl rfl (x_move (v := (Value.bool (!x40))) rfl rfl) ?_
  obtain ⟨J41, h, hk⟩ := h
  refine wpR_joinJ 3 (fun x ρ => ρ 69 = Value.bool x ∧ ρ 2 = (Value.pointer (some (Addr.mk b1 0 none))) ∧ ρ 3 = (Value.pointer (some (Addr.mk b2 0 none))) ∧ ρ 5 = (Value.bool c39) ∧ True) (fun x w => J41 x ∧ w2 = w) ?_ ?_
  · clear hk
    rcases Bool.eq_false_or_eq_true (!x40) with hc42 | hc42
    · replace h := h.1 hc42
      refine wpR_pass (wantN rfl rfl rfl hc42) rfl rfl ?_
      refine wpR_pass (wantN rfl rfl rfl hc42) rfl rfl ?_
      refine wpR_val (v := (Value.bool true)) (w' := w2) rfl rfl rfl (x_pickT (v := (Value.bool true)) rfl rfl hc42 rfl) ?_
      refine wpR_nil ?_
      exact ⟨true, ⟨rfl, e2, e3, e5, trivial⟩, h, rfl⟩
    · replace h := h.2 hc42
      refine wpR_val (v := (Value.pointer (some ((Addr.mk b2 0 none).add 4)))) (w' := w2) (wantG rfl rfl rfl hc42) rfl rfl (x_fieldAddr rfl e3 FA_24_4) ?_
      obtain ⟨x43, q43, h⟩ := h
      refine wpR_val (v := (Value.bool x43)) (w' := w2) (wantG rfl rfl rfl hc42) rfl rfl (x_load1 rfl rfl SH_4 q43) ?_
      refine wpR_val (v := (Value.bool x43)) (w' := w2) rfl rfl rfl (x_pickF (v := (Value.bool x43)) rfl rfl hc42 rfl) ?_
      refine wpR_nil ?_
      exact ⟨x43, ⟨rfl, e2, e3, e5, trivial⟩, h, rfl⟩
  clear h
  rintro c44 ρ wj ⟨e69, e2, e3, e5, -⟩ ⟨h, rfl⟩
  replace h := hk c44 h
  clear hk
  refine wpR_val (v := (Value.bool c44)) (w' := w2) rfl rfl rfl (x_move (v := (Value.bool c44)) rfl e69) ?_
  obtain ⟨J45, h, hk⟩ := h
  refine wpR_joinJ 8 (fun x ρ => ρ 78 = Value.bool x ∧ ρ 2 = (Value.pointer (some (Addr.mk b1 0 none))) ∧ ρ 3 = (Value.pointer (some (Addr.mk b2 0 none))) ∧ ρ 5 = (Value.bool c39) ∧ True) (fun x w => J45 x ∧ w2 = w) ?_ ?_
  · clear hk
    rcases Bool.eq_false_or_eq_true (c44) with hc46 | hc46
    · replace h := h.1 hc46
      refine wpR_val (v := (Value.pointer (some ((Addr.mk b1 0 none).add 6)))) (w' := w2) (wantG rfl rfl rfl hc46) rfl rfl (x_fieldAddr rfl e2 FA_24_6) ?_
      obtain ⟨x47, q47, h⟩ := h
      refine wpR_val (v := (Value.bool x47)) (w' := w2) (wantG rfl rfl rfl hc46) rfl rfl (x_load1 rfl rfl SH_4 q47) ?_
      refine wpR_val (v := (Value.bool (!x47))) (w' := w2) (wantG rfl rfl rfl hc46) rfl rfl (x_not rfl rfl) ?_
      refine wpR_val (v := (Value.bool (!x47))) (w' := w2) (wantG rfl rfl rfl hc46) rfl rfl (x_move (v := (Value.bool (!x47))) rfl rfl) ?_
      obtain ⟨J48, h, hk⟩ := h
      refine wpR_joinJ 3 (fun x ρ => ρ 77 = Value.bool x ∧ ρ 2 = (Value.pointer (some (Addr.mk b1 0 none))) ∧ ρ 3 = (Value.pointer (some (Addr.mk b2 0 none))) ∧ ρ 5 = (Value.bool c39) ∧ ρ 70 = (Value.bool c44) ∧ True) (fun x w => J48 x ∧ w2 = w) ?_ ?_
      · clear hk
        rcases Bool.eq_false_or_eq_true (!x47) with hc49 | hc49
        · replace h := h.1 hc49
          refine wpR_pass (wantN rfl rfl rfl hc49) rfl rfl ?_
          refine wpR_pass (wantN rfl rfl rfl hc49) rfl rfl ?_
          refine wpR_val (v := (Value.bool true)) (w' := w2) (wantG rfl rfl rfl hc46) rfl rfl (x_pickT (v := (Value.bool true)) rfl rfl hc49 rfl) ?_
          refine wpR_nil ?_
          exact ⟨true, ⟨rfl, e2, e3, e5, rfl, trivial⟩, h, rfl⟩
        · replace h := h.2 hc49
          refine wpR_val (v := (Value.pointer (some ((Addr.mk b2 0 none).add 6)))) (w' := w2) (wantG rfl rfl rfl hc49) rfl rfl (x_fieldAddr rfl e3 FA_24_6) ?_
          obtain ⟨x50, q50, h⟩ := h
          refine wpR_val (v := (Value.bool x50)) (w' := w2) (wantG rfl rfl rfl hc49) rfl rfl (x_load1 rfl rfl SH_4 q50) ?_
          refine wpR_val (v := (Value.bool x50)) (w' := w2) (wantG rfl rfl rfl hc46) rfl rfl (x_pickF (v := (Value.bool x50)) rfl rfl hc49 rfl) ?_
          refine wpR_nil ?_
          exact ⟨x50, ⟨rfl, e2, e3, e5, rfl, trivial⟩, h, rfl⟩
      clear h
      rintro c51 ρ wj ⟨e77, e2, e3, e5, e70, -⟩ ⟨h, rfl⟩
      replace h := hk c51 h
      clear hk
      refine wpR_val (v := (Value.bool c51)) (w' := w2) rfl rfl rfl (x_pickT (v := (Value.bool c51)) rfl e70 hc46 e77) ?_
      refine wpR_nil ?_
      exact ⟨c51, ⟨rfl, e2, e3, e5, trivial⟩, h, rfl⟩
    · replace h := h.2 hc46
      refine wpR_pass (wantN rfl rfl rfl hc46) rfl rfl ?_
      refine wpR_pass (wantN rfl rfl rfl hc46) rfl rfl ?_
      refine wpR_pass (wantN rfl rfl rfl hc46) rfl rfl ?_
      refine wpR_pass (wantN rfl rfl rfl hc46) rfl rfl ?_
      refine wpR_pass (wantU rfl rfl rfl) rfl rfl ?_
      refine wpR_pass (wantU rfl rfl rfl) rfl rfl ?_
      refine wpR_pass (wantN rfl rfl rfl hc46) rfl rfl ?_
      refine wpR_val (v := (Value.bool false)) (w' := w2) rfl rfl rfl (x_pickF (v := (Value.bool false)) rfl rfl hc46 rfl) ?_
      refine wpR_nil ?_
      exact ⟨false, ⟨rfl, e2, e3, e5, trivial⟩, h, rfl⟩
  clear h
  rintro c52 ρ wj ⟨e78, e2, e3, e5, -⟩ ⟨h, rfl⟩
  replace h := hk c52 h
  clear hk
  refine wpR_val (v := (Value.bool c52)) (w' := w2) rfl rfl rfl (x_move (v := (Value.bool c52)) rfl e78) ?_
  obtain ⟨J53, h, hk⟩ := h
  refine wpR_joinJ 8 (fun x ρ => ρ 87 = Value.bool x ∧ ρ 2 = (Value.pointer (some (Addr.mk b1 0 none))) ∧ ρ 3 = (Value.pointer (some (Addr.mk b2 0 none))) ∧ ρ 5 = (Value.bool c39) ∧ True) (fun x w => J53 x ∧ w2 = w) ?_ ?_
  · clear hk
    rcases Bool.eq_false_or_eq_true (c52) with hc54 | hc54
    · replace h := h.1 hc54
      refine wpR_val (v := (Value.pointer (some ((Addr.mk b1 0 none).add 7)))) (w' := w2) (wantG rfl rfl rfl hc54) rfl rfl (x_fieldAddr rfl e2 FA_24_7) ?_
      obtain ⟨x55, q55, h⟩ := h
      refine wpR_val (v := (Value.bool x55)) (w' := w2) (wantG rfl rfl rfl hc54) rfl rfl (x_load1 rfl rfl SH_4 q55) ?_
      refine wpR_val (v := (Value.bool (!x55))) (w' := w2) (wantG rfl rfl rfl hc54) rfl rfl (x_not rfl rfl) ?_
      refine wpR_val (v := (Value.bool (!x55))) (w' := w2) (wantG rfl rfl rfl hc54) rfl rfl (x_move (v := (Value.bool (!x55))) rfl rfl) ?_
      obtain ⟨J56, h, hk⟩ := h
      refine wpR_joinJ 3 (fun x ρ => ρ 86 = Value.bool x ∧ ρ 2 = (Value.pointer (some (Addr.mk b1 0 none))) ∧ ρ 3 = (Value.pointer (some (Addr.mk b2 0 none))) ∧ ρ 5 = (Value.bool c39) ∧ ρ 79 = (Value.bool c52) ∧ True) (fun x w => J56 x ∧ w2 = w) ?_ ?_
      · clear hk
        rcases Bool.eq_false_or_eq_true (!x55) with hc57 | hc57
        · replace h := h.1 hc57
          refine wpR_pass (wantN rfl rfl rfl hc57) rfl rfl ?_
          refine wpR_pass (wantN rfl rfl rfl hc57) rfl rfl ?_
          refine wpR_val (v := (Value.bool true)) (w' := w2) (wantG rfl rfl rfl hc54) rfl rfl (x_pickT (v := (Value.bool true)) rfl rfl hc57 rfl) ?_
          refine wpR_nil ?_
          exact ⟨true, ⟨rfl, e2, e3, e5, rfl, trivial⟩, h, rfl⟩
        · replace h := h.2 hc57
          refine wpR_val (v := (Value.pointer (some ((Addr.mk b2 0 none).add 7)))) (w' := w2) (wantG rfl rfl rfl hc57) rfl rfl (x_fieldAddr rfl e3 FA_24_7) ?_
          obtain ⟨x58, q58, h⟩ := h
          refine wpR_val (v := (Value.bool x58)) (w' := w2) (wantG rfl rfl rfl hc57) rfl rfl (x_load1 rfl rfl SH_4 q58) ?_
          refine wpR_val (v := (Value.bool x58)) (w' := w2) (wantG rfl rfl rfl hc54) rfl rfl (x_pickF (v := (Value.bool x58)) rfl rfl hc57 rfl) ?_
          refine wpR_nil ?_
          exact ⟨x58, ⟨rfl, e2, e3, e5, rfl, trivial⟩, h, rfl⟩
      clear h
      rintro c59 ρ wj ⟨e86, e2, e3, e5, e79, -⟩ ⟨h, rfl⟩
      replace h := hk c59 h
      clear hk
      refine wpR_val (v := (Value.bool c59)) (w' := w2) rfl rfl rfl (x_pickT (v := (Value.bool c59)) rfl e79 hc54 e86) ?_
      refine wpR_nil ?_
      exact ⟨c59, ⟨rfl, e2, e3, e5, trivial⟩, h, rfl⟩
    · replace h := h.2 hc54
      refine wpR_pass (wantN rfl rfl rfl hc54) rfl rfl ?_
      refine wpR_pass (wantN rfl rfl rfl hc54) rfl rfl ?_
      refine wpR_pass (wantN rfl rfl rfl hc54) rfl rfl ?_
      refine wpR_pass (wantN rfl rfl rfl hc54) rfl rfl ?_
      refine wpR_pass (wantU rfl rfl rfl) rfl rfl ?_
      refine wpR_pass (wantU rfl rfl rfl) rfl rfl ?_
      refine wpR_pass (wantN rfl rfl rfl hc54) rfl rfl ?_
      refine wpR_val (v := (Value.bool false)) (w' := w2) rfl rfl rfl (x_pickF (v := (Value.bool false)) rfl rfl hc54 rfl) ?_
      refine wpR_nil ?_
      exact ⟨false, ⟨rfl, e2, e3, e5, trivial⟩, h, rfl⟩
  clear h
  rintro c60 ρ wj ⟨e87, e2, e3, e5, -⟩ ⟨h, rfl⟩
  replace h := hk c60 h
  clear hk
  refine wpR_val (v := (Value.bool c60)) (w' := w2) rfl rfl rfl (x_assign (v := (Value.bool c60)) rfl e87) ?_
  refine wpR_nil ?_
  refine wpC_seq ?_
  refine wpC_cut (fun ρ => ρ 2 = (Value.pointer (some (Addr.mk b1 0 none))) ∧ ρ 3 = (Value.pointer (some (Addr.mk b2 0 none))) ∧ ρ 5 = (Value.bool c39) ∧ ρ 6 = (Value.bool c60) ∧ True) ⟨e2, e3, e5, rfl, trivial⟩ ?_
  rintro ρ ⟨e2, e3, e5, e6, -⟩
  refine wpC_region ?_
  refine wpR_val (v := (Value.pointer (some ((Addr.mk b1 0 none).add 1)))) (w' := w2) rfl rfl rfl (x_fieldAddr rfl e2 FA_24_1) ?_
  obtain ⟨x61, q61, h⟩ := h
  refine wpR_val (v := (Value.int .i64 x61)) (w' := w2) rfl rfl rfl (x_load1 rfl rfl SH_3 q61) ?_
  refine wpR_val (v := (Value.bool (decide (x61 = 0)))) (w' := w2) rfl rfl rfl (x_eql rfl rfl rfl) ?_
  refine wpR_val (v := (Value.bool (decide (x61 = 0)))) (w' := w2) rfl rfl rfl (x_move (v := (Value.bool (decide (x61 = 0)))) rfl rfl) ?_
  obtain ⟨J62, h, hk⟩ := h
  refine wpR_joinJ 4 (fun x ρ => ρ 95 = Value.bool x ∧ ρ 2 = (Value.pointer (some (Addr.mk b1 0 none))) ∧ ρ 3 = (Value.pointer (some (Addr.mk b2 0 none))) ∧ ρ 5 = (Value.bool c39) ∧ ρ 6 = (Value.bool c60) ∧ True) (fun x w => J62 x ∧ w2 = w) ?_ ?_
  · clear hk
    rcases Bool.eq_false_or_eq_true (decide (x61 = 0)) with hc63 | hc63
    · replace h := h.1 hc63
      refine wpR_pass (wantN rfl rfl rfl hc63) rfl rfl ?_
      refine wpR_pass (wantN rfl rfl rfl hc63) rfl rfl ?_
      refine wpR_pass (wantN rfl rfl rfl hc63) rfl rfl ?_
      refine wpR_val (v := (Value.bool true)) (w' := w2) rfl rfl rfl (x_pickT (v := (Value.bool true)) rfl rfl hc63 rfl) ?_
      refine wpR_nil ?_
      exact ⟨true, ⟨rfl, e2, e3, e5, e6, trivial⟩, h, rfl⟩
    · replace h := h.2 hc63
      refine wpR_val (v := (Value.pointer (some ((Addr.mk b2 0 none).add 2)))) (w' := w2) (wantG rfl rfl rfl hc63) rfl rfl (x_fieldAddr rfl e3 FA_24_2) ?_
      obtain ⟨x64, q64, h⟩ := h
      refine wpR_val (v := (Value.int .i64 x64)) (w' := w2) (wantG rfl rfl rfl hc63) rfl rfl (x_load1 rfl rfl SH_3 q64) ?_
      refine wpR_val (v := (Value.bool (decide (x64 = 0)))) (w' := w2) (wantG rfl rfl rfl hc63) rfl rfl (x_eql rfl rfl rfl) ?_
      refine wpR_val (v := (Value.bool (decide (x64 = 0)))) (w' := w2) rfl rfl rfl (x_pickF (v := (Value.bool (decide (x64 = 0)))) rfl rfl hc63 rfl) ?_
      refine wpR_nil ?_
      exact ⟨decide (x64 = 0), ⟨rfl, e2, e3, e5, e6, trivial⟩, h, rfl⟩
  clear h
  rintro c65 ρ wj ⟨e95, e2, e3, e5, e6, -⟩ ⟨h, rfl⟩
  replace h := hk c65 h
  clear hk
  refine wpR_val (v := (Value.bool c65)) (w' := w2) rfl rfl rfl (x_move (v := (Value.bool c65)) rfl e95) ?_
  obtain ⟨J66, h, hk⟩ := h
  refine wpR_joinJ 11 (fun x ρ => ρ 107 = Value.bool x ∧ ρ 2 = (Value.pointer (some (Addr.mk b1 0 none))) ∧ ρ 3 = (Value.pointer (some (Addr.mk b2 0 none))) ∧ ρ 5 = (Value.bool c39) ∧ ρ 6 = (Value.bool c60) ∧ True) (fun x w => J66 x ∧ w2 = w) ?_ ?_
  · clear hk
    rcases Bool.eq_false_or_eq_true (c65) with hc67 | hc67
    · replace h := h.1 hc67
      refine wpR_pass (wantN rfl rfl rfl hc67) rfl rfl ?_
      refine wpR_pass (wantN rfl rfl rfl hc67) rfl rfl ?_
      refine wpR_pass (wantN rfl rfl rfl hc67) rfl rfl ?_
      refine wpR_pass (wantN rfl rfl rfl hc67) rfl rfl ?_
      refine wpR_pass (wantU rfl rfl rfl) rfl rfl ?_
      refine wpR_pass (wantU rfl rfl rfl) rfl rfl ?_
      refine wpR_pass (wantU rfl rfl rfl) rfl rfl ?_
      refine wpR_pass (wantU rfl rfl rfl) rfl rfl ?_
      refine wpR_pass (wantU rfl rfl rfl) rfl rfl ?_
      refine wpR_pass (wantN rfl rfl rfl hc67) rfl rfl ?_
      refine wpR_val (v := (Value.bool true)) (w' := w2) rfl rfl rfl (x_pickT (v := (Value.bool true)) rfl rfl hc67 rfl) ?_
      refine wpR_nil ?_
      exact ⟨true, ⟨rfl, e2, e3, e5, e6, trivial⟩, h, rfl⟩
    · replace h := h.2 hc67
      refine wpR_val (v := (Value.pointer (some ((Addr.mk b1 0 none).add 2)))) (w' := w2) (wantG rfl rfl rfl hc67) rfl rfl (x_fieldAddr rfl e2 FA_24_2) ?_
      obtain ⟨x68, q68, h⟩ := h
      refine wpR_val (v := (Value.int .i64 x68)) (w' := w2) (wantG rfl rfl rfl hc67) rfl rfl (x_load1 rfl rfl SH_3 q68) ?_
      refine wpR_val (v := (Value.bool (!decide (x68 = 0)))) (w' := w2) (wantG rfl rfl rfl hc67) rfl rfl (x_neq rfl rfl rfl) ?_
      refine wpR_val (v := (Value.bool (!decide (x68 = 0)))) (w' := w2) (wantG rfl rfl rfl hc67) rfl rfl (x_move (v := (Value.bool (!decide (x68 = 0)))) rfl rfl) ?_
      obtain ⟨J69, h, hk⟩ := h
      refine wpR_joinJ 6 (fun x ρ => ρ 106 = Value.bool x ∧ ρ 2 = (Value.pointer (some (Addr.mk b1 0 none))) ∧ ρ 3 = (Value.pointer (some (Addr.mk b2 0 none))) ∧ ρ 5 = (Value.bool c39) ∧ ρ 6 = (Value.bool c60) ∧ ρ 96 = (Value.bool c65) ∧ True) (fun x w => J69 x ∧ w2 = w) ?_ ?_
      · clear hk
        rcases Bool.eq_false_or_eq_true (!decide (x68 = 0)) with hc70 | hc70
        · replace h := h.1 hc70
          refine wpR_val (v := (Value.pointer (some ((Addr.mk b1 0 none).add 2)))) (w' := w2) (wantG rfl rfl rfl hc70) rfl rfl (x_fieldAddr rfl e2 FA_24_2) ?_
          obtain ⟨x71, q71, h⟩ := h
          refine wpR_val (v := (Value.int .i64 x71)) (w' := w2) (wantG rfl rfl rfl hc70) rfl rfl (x_load1 rfl rfl SH_3 q71) ?_
          refine wpR_val (v := (Value.pointer (some ((Addr.mk b2 0 none).add 2)))) (w' := w2) (wantG rfl rfl rfl hc70) rfl rfl (x_fieldAddr rfl e3 FA_24_2) ?_
          obtain ⟨x72, q72, h⟩ := h
          refine wpR_val (v := (Value.int .i64 x72)) (w' := w2) (wantG rfl rfl rfl hc70) rfl rfl (x_load1 rfl rfl SH_3 q72) ?_
          refine wpR_val (v := (Value.bool (decide (x71 ≤ x72)))) (w' := w2) (wantG rfl rfl rfl hc70) rfl rfl (x_leq rfl rfl rfl) ?_
          refine wpR_val (v := (Value.bool (decide (x71 ≤ x72)))) (w' := w2) (wantG rfl rfl rfl hc67) rfl rfl (x_pickT (v := (Value.bool (decide (x71 ≤ x72)))) rfl rfl hc70 rfl) ?_
          refine wpR_nil ?_
          exact ⟨decide (x71 ≤ x72), ⟨rfl, e2, e3, e5, e6, rfl, trivial⟩, h, rfl⟩
        · replace h := h.2 hc70
          refine wpR_pass (wantN rfl rfl rfl hc70) rfl rfl ?_
          refine wpR_pass (wantN rfl rfl rfl hc70) rfl rfl ?_
          refine wpR_pass (wantN rfl rfl rfl hc70) rfl rfl ?_
          refine wpR_pass (wantN rfl rfl rfl hc70) rfl rfl ?_
          refine wpR_pass (wantN rfl rfl rfl hc70) rfl rfl ?_
          refine wpR_val (v := (Value.bool false)) (w' := w2) (wantG rfl rfl rfl hc67) rfl rfl (x_pickF (v := (Value.bool false)) rfl rfl hc70 rfl) ?_
          refine wpR_nil ?_
          exact ⟨false, ⟨rfl, e2, e3, e5, e6, rfl, trivial⟩, h, rfl⟩
      clear h
      rintro c73 ρ wj ⟨e106, e2, e3, e5, e6, e96, -⟩ ⟨h, rfl⟩
      replace h := hk c73 h
      clear hk
      refine wpR_val (v := (Value.bool c73)) (w' := w2) rfl rfl rfl (x_pickF (v := (Value.bool c73)) rfl e96 hc67 e106) ?_
      refine wpR_nil ?_
      exact ⟨c73, ⟨rfl, e2, e3, e5, e6, trivial⟩, h, rfl⟩
  clear h
  rintro c74 ρ wj ⟨e107, e2, e3, e5, e6, -⟩ ⟨h, rfl⟩
  replace h := hk c74 h
  clear hk
  refine wpR_val (v := (Value.bool c74)) (w' := w2) rfl rfl rfl (x_assign (v := (Value.bool c74)) rfl e107) ?_
  refine wpR_nil ?_
  refine wpC_seq ?_
  refine wpC_cut (fun ρ => ρ 2 = (Value.pointer (some (Addr.mk b1 0 none))) ∧ ρ 3 = (Value.pointer (some (Addr.mk b2 0 none))) ∧ ρ 5 = (Value.bool c39) ∧ ρ 6 = (Value.bool c60) ∧ ρ 7 = (Value.bool c74) ∧ True) ⟨e2, e3, e5, e6, rfl, trivial⟩ ?_
  rintro ρ ⟨e2, e3, e5, e6, e7, -⟩
  refine wpC_region ?_
  refine wpR_val (v := (Value.func (.func 29) #[] (List.toArray [(Value.pointer (some (Addr.mk b2 0 none)))]))) (w' := w2) rfl rfl rfl (x_makeFunc (vs := [(Value.pointer (some (Addr.mk b2 0 none)))]) rfl (mapl_cons e3 mapl_nil)) ?_
  refine wpR_val (v := (Value.func (.func 29) #[] (List.toArray [(Value.pointer (some (Addr.mk b2 0 none)))]))) (w' := w2) rfl rfl rfl (x_assign (v := (Value.func (.func 29) #[] (List.toArray [(Value.pointer (some (Addr.mk b2 0 none)))]))) rfl rfl) ?_
  refine wpR_nil ?_
  refine wpC_seq ?_
  refine wpC_cut (fun ρ => ρ 2 = (Value.pointer (some (Addr.mk b1 0 none))) ∧ ρ 5 = (Value.bool c39) ∧ ρ 6 = (Value.bool c60) ∧ ρ 7 = (Value.bool c74) ∧ ρ 8 = (Value.func (.func 29) #[] (List.toArray [(Value.pointer (some (Addr.mk b2 0 none)))])) ∧ True) ⟨e2, e5, e6, e7, rfl, trivial⟩ ?_
  rintro ρ ⟨e2, e5, e6, e7, e8, -⟩
  refine wpC_region ?_
  refine wpR_val (v := (Value.bool c39)) (w' := w2) rfl rfl rfl (x_move (v := (Value.bool c39)) rfl e5) ?_
  refine wpR_val (v := (Value.bool c39)) (w' := w2) rfl rfl rfl (x_move (v := (Value.bool c39)) rfl rfl) ?_
  refine wpR_joinJ 2 (fun (_ : Unit) ρ => ρ 112 = Value.bool (c39 && c60) ∧ ρ 2 = (Value.pointer (some (Addr.mk b1 0 none))) ∧ ρ 7 = (Value.bool c74) ∧ ρ 8 = (Value.func (.func 29) #[] (List.toArray [(Value.pointer (some (Addr.mk b2 0 none)))])) ∧ True) (fun _ w => w2 = w) ?_ ?_
  · clear h
    rcases Bool.eq_false_or_eq_true (c39) with hc76 | hc76
    · skip
      refine wpR_val (v := (Value.bool c60)) (w' := w2) (wantG rfl rfl rfl hc76) rfl rfl (x_move (v := (Value.bool c60)) rfl e6) ?_
      refine wpR_val (v := (Value.bool c60)) (w' := w2) rfl rfl rfl (x_pickT (v := (Value.bool c60)) rfl rfl hc76 rfl) ?_
      refine wpR_nil ?_
      exact ⟨(), ⟨(by rw [hc76]; rfl), e2, e7, e8, trivial⟩, rfl⟩
    · skip
      refine wpR_pass (wantN rfl rfl rfl hc76) rfl rfl ?_
      refine wpR_val (v := (Value.bool false)) (w' := w2) rfl rfl rfl (x_pickF (v := (Value.bool false)) rfl rfl hc76 rfl) ?_
      refine wpR_nil ?_
      exact ⟨(), ⟨(by rw [hc76]; rfl), e2, e7, e8, trivial⟩, rfl⟩
  rintro _ ρ wj ⟨e112, e2, e7, e8, -⟩ rfl
  refine wpR_val (v := (Value.bool (c39 && c60))) (w' := w2) rfl rfl rfl (x_move (v := (Value.bool (c39 && c60))) rfl e112) ?_
  refine wpR_joinJ 2 (fun (_ : Unit) ρ => ρ 115 = Value.bool ((c39 && c60) && c74) ∧ ρ 2 = (Value.pointer (some (Addr.mk b1 0 none))) ∧ ρ 8 = (Value.func (.func 29) #[] (List.toArray [(Value.pointer (some (Addr.mk b2 0 none)))])) ∧ True) (fun _ w => w2 = w) ?_ ?_
  · clear h
    rcases Bool.eq_false_or_eq_true (c39 && c60) with hc78 | hc78
    · skip
      refine wpR_val (v := (Value.bool c74)) (w' := w2) (wantG rfl rfl rfl hc78) rfl rfl (x_move (v := (Value.bool c74)) rfl e7) ?_
      refine wpR_val (v := (Value.bool c74)) (w' := w2) rfl rfl rfl (x_pickT (v := (Value.bool c74)) rfl rfl hc78 rfl) ?_
      refine wpR_nil ?_
      exact ⟨(), ⟨(by rw [hc78]; rfl), e2, e8, trivial⟩, rfl⟩
    · skip
      refine wpR_pass (wantN rfl rfl rfl hc78) rfl rfl ?_
      refine wpR_val (v := (Value.bool false)) (w' := w2) rfl rfl rfl (x_pickF (v := (Value.bool false)) rfl rfl hc78 rfl) ?_
      refine wpR_nil ?_
      exact ⟨(), ⟨(by rw [hc78]; rfl), e2, e8, trivial⟩, rfl⟩
  rintro _ ρ wj ⟨e115, e2, e8, -⟩ rfl
  refine wpR_val (v := (Value.bool ((c39 && c60) && c74))) (w' := w2) rfl rfl rfl (x_move (v := (Value.bool ((c39 && c60) && c74))) rfl e115) ?_
  obtain ⟨J79, h, hk⟩ := h
  refine wpR_joinJ 6 (fun x ρ => ρ 122 = Value.bool x ∧ True) (J79) ?_ ?_
  · clear hk
    rcases Bool.eq_false_or_eq_true ((c39 && c60) && c74) with hc80 | hc80
    · replace h := h.1 hc80
      refine wpR_val (v := (Value.pointer (some ((Addr.mk b1 0 none).add 12)))) (w' := w2) (wantG rfl rfl rfl hc80) rfl rfl (x_fieldAddr rfl e2 FA_24_12) ?_
      obtain ⟨x81, q81, h⟩ := h
      refine wpR_val (v := (Sl.v x81)) (w' := w2) (wantG rfl rfl rfl hc80) rfl rfl (x_load1 rfl rfl SH_22 q81) ?_
      refine wpR_val (v := (Value.func (.func 29) #[] (List.toArray [(Value.pointer (some (Addr.mk b2 0 none)))]))) (w' := w2) (wantG rfl rfl rfl hc80) rfl rfl (x_move (v := (Value.func (.func 29) #[] (List.toArray [(Value.pointer (some (Addr.mk b2 0 none)))]))) rfl e8) ?_
      refine wpR_enter (wantG rfl rfl rfl hc80) rfl rfl (x_call (vs := [(Sl.v x81), (Value.func (.func 29) #[] (List.toArray [(Value.pointer (some (Addr.mk b2 0 none)))]))]) rfl rfl (mapl_cons rfl (mapl_cons rfl mapl_nil)) Try.func30 NN_30 NB_30) (Calls.mono h ?_)
      rintro _ w3 ⟨r82, rfl, h⟩
      refine ⟨_, rfl, ?_⟩
      refine wpR_val (v := (Value.bool (!r82))) (w' := w3) (wantG rfl rfl rfl hc80) rfl rfl (x_not rfl rfl) ?_
      refine wpR_val (v := (Value.bool (!r82))) (w' := w3) rfl rfl rfl (x_pickT (v := (Value.bool (!r82))) rfl rfl hc80 rfl) ?_
      refine wpR_nil ?_
      exact ⟨!r82, ⟨rfl, trivial⟩, h⟩
    · replace h := h.2 hc80
      refine wpR_pass (wantN rfl rfl rfl hc80) rfl rfl ?_
      refine wpR_pass (wantN rfl rfl rfl hc80) rfl rfl ?_
      refine wpR_pass (wantN rfl rfl rfl hc80) rfl rfl ?_
      refine wpR_pass (wantN rfl rfl rfl hc80) rfl rfl ?_
      refine wpR_pass (wantN rfl rfl rfl hc80) rfl rfl ?_
      refine wpR_val (v := (Value.bool false)) (w' := w2) rfl rfl rfl (x_pickF (v := (Value.bool false)) rfl rfl hc80 rfl) ?_
      refine wpR_nil ?_
      exact ⟨false, ⟨rfl, trivial⟩, h⟩
  clear h
  rintro c83 ρ w4 ⟨e122, -⟩ h
  replace h := hk c83 w4 h
  clear hk
  refine wpR_val (v := (Value.bool c83)) (w' := w4) rfl rfl rfl (x_assign (v := (Value.bool c83)) rfl e122) ?_
  refine wpR_nil ?_
  refine wpC_ret ?_
  exact ⟨.inl rfl, fun a ha => ⟨_, results_rep1 rfl ha rfl, c83, rfl, h⟩⟩

/-- linguaref13.AtMost -/
def F13 (p0_0 : ByteArray) (p0_1 : Int) (p0_2 : Int) (p0_3 : Int) (p0_4 : Bool) (p0_5 : Int) (p0_6 : Bool) (p0_7 : Bool) (p0_8 : Int) (p0_9 : Int) (p0_10 : Int) (p0_11 : Int) (p0_12 : Sl) (p0_13 : Int) (p0_14 : Int) (p0_15 : Int) (p0_16 : Int) (p0_17 : Bool) (p0_18 : Int) (p0_19 : Int) (p0_20 : Int) (p0_21 : Int) (p1_0 : ByteArray) (p1_1 : Int) (p1_2 : Int) (p1_3 : Int) (p1_4 : Bool) (p1_5 : Int) (p1_6 : Bool) (p1_7 : Bool) (p1_8 : Int) (p1_9 : Int) (p1_10 : Int) (p1_11 : Int) (p1_12 : Sl) (p1_13 : Int) (p1_14 : Int) (p1_15 : Int) (p1_16 : Int) (p1_17 : Bool) (p1_18 : Int) (p1_19 : Int) (p1_20 : Int) (p1_21 : Int) (w0 : World) (K : Bool → World → Prop) : Prop :=
  nw 24 (A23 p0_0 p0_1 p0_2 p0_3 p0_4 p0_5 p0_6 p0_7 p0_8 p0_9 p0_10 p0_11 p0_12 p0_13 p0_14 p0_15 p0_16 p0_17 p0_18 p0_19 p0_20 p0_21) w0 fun b1 w1 =>
  nw 24 (A23 p1_0 p1_1 p1_2 p1_3 p1_4 p1_5 p1_6 p1_7 p1_8 p1_9 p1_10 p1_11 p1_12 p1_13 p1_14 p1_15 p1_16 p1_17 p1_18 p1_19 p1_20 p1_21) w1 fun b2 w2 =>
  L23 (Addr.mk b1 0 none) w2 fun x3 x4 x5 x6 x7 x8 x9 x10 x11 x12 x13 x14 x15 x16 x17 x18 x19 x20 x21 x22 x23 x24 =>
  callC Try.prog 31 #[(V23 x3 x4 x5 x6 x7 x8 x9 x10 x11 x12 x13 x14 x15 x16 x17 x18 x19 x20 x21 x22 x23 x24)] (fun (r : Sl) => (Sl.v r)) w2 fun r25 w3 =>
  L23 (Addr.mk b2 0 none) w3 fun x26 x27 x28 x29 x30 x31 x32 x33 x34 x35 x36 x37 x38 x39 x40 x41 x42 x43 x44 x45 x46 x47 =>
  callC Try.prog 31 #[(V23 x26 x27 x28 x29 x30 x31 x32 x33 x34 x35 x36 x37 x38 x39 x40 x41 x42 x43 x44 x45 x46 x47)] (fun (r : Sl) => (Sl.v r)) w3 fun r48 w4 =>
  lp (fun (next49 : Int → World → Prop) l49 w5 =>
    cnd (decide (l49 < (r25.len : Int)))
      (
      jn (fun (J52 : Bool → World → Prop) => tk w5 fun w6 =>
        ix r25 l49 1 fun p53 =>
        ld (Value.int .i64) p53 w6 fun x54 =>
        ix r48 l49 1 fun p55 =>
        ld (Value.int .i64) p55 w6 fun x56 =>
        J52 (decide (x56 < x54)) w6
      )
      fun l57 w7 =>
      cnd (l57)
        (
        K false w7
        )
        (
        next49 (IntKind.i64.wrap (l49 + 1)) w7
        )
      )
      (
      lp (fun (next59 : Int → World → Prop) l59 w8 =>
        ld Sl.v ((Addr.mk b1 0 none).add 12) w8 fun x60 =>
        cnd (decide (l59 < (x60.len : Int)))
          (
          jn (fun (J63 : Bool → World → Prop) => tk w8 fun w9 =>
            ld Sl.v ((Addr.mk b2 0 none).add 12) w9 fun x64 =>
            ld Sl.v ((Addr.mk b1 0 none).add 12) w9 fun x65 =>
            ix x65 l59 1 fun p66 =>
            ld Value.string p66 w9 fun x67 =>
            callC Try.prog 32 #[(Sl.v x64), (Value.string x67)] (fun (r : Bool) => (Value.bool r)) w9 fun r68 w10 =>
            (w10.cell? ((Addr.mk b1 0 none).add 12) = some (Sl.v x65)) ∧
            J63 (!r68) w10
          )
          fun l69 w11 =>
          cnd (l69)
            (
            K false w11
            )
            (
            next59 (IntKind.i64.wrap (l59 + 1)) w11
            )
          )
          (
          ld (Value.int .i64) ((Addr.mk b1 0 none).add 1) w8 fun x71 =>
          jp (fun J72 => cnd (decide (x71 = 0))
            (
            J72 true
            )
            (
            ld (Value.int .i64) ((Addr.mk b2 0 none).add 2) w8 fun x74 =>
            J72 (decide (x74 = 0))
            ))
          fun c75 =>
          cnd (c75)
            (
            K true w8
            )
            (
            ld (Value.int .i64) ((Addr.mk b1 0 none).add 2) w8 fun x77 =>
            jp (fun J78 => cnd (!decide (x77 = 0))
              (
              ld (Value.int .i64) ((Addr.mk b1 0 none).add 2) w8 fun x80 =>
              ld (Value.int .i64) ((Addr.mk b2 0 none).add 2) w8 fun x81 =>
              J78 (decide (x80 ≤ x81))
              )
              (
              J78 false
              ))
            fun c82 =>
            K c82 w8
            )
          )
      ) 0 w5
      )
  ) 0 w4
set_option maxRecDepth 100000 in
theorem D13 (p0_0 : ByteArray) (p0_1 : Int) (p0_2 : Int) (p0_3 : Int) (p0_4 : Bool) (p0_5 : Int) (p0_6 : Bool) (p0_7 : Bool) (p0_8 : Int) (p0_9 : Int) (p0_10 : Int) (p0_11 : Int) (p0_12 : Sl) (p0_13 : Int) (p0_14 : Int) (p0_15 : Int) (p0_16 : Int) (p0_17 : Bool) (p0_18 : Int) (p0_19 : Int) (p0_20 : Int) (p0_21 : Int) (p1_0 : ByteArray) (p1_1 : Int) (p1_2 : Int) (p1_3 : Int) (p1_4 : Bool) (p1_5 : Int) (p1_6 : Bool) (p1_7 : Bool) (p1_8 : Int) (p1_9 : Int) (p1_10 : Int) (p1_11 : Int) (p1_12 : Sl) (p1_13 : Int) (p1_14 : Int) (p1_15 : Int) (p1_16 : Int) (p1_17 : Bool) (p1_18 : Int) (p1_19 : Int) (p1_20 : Int) (p1_21 : Int) (w0 : World) (K : Bool → World → Prop) (h : F13 p0_0 p0_1 p0_2 p0_3 p0_4 p0_5 p0_6 p0_7 p0_8 p0_9 p0_10 p0_11 p0_12 p0_13 p0_14 p0_15 p0_16 p0_17 p0_18 p0_19 p0_20 p0_21 p1_0 p1_1 p1_2 p1_3 p1_4 p1_5 p1_6 p1_7 p1_8 p1_9 p1_10 p1_11 p1_12 p1_13 p1_14 p1_15 p1_16 p1_17 p1_18 p1_19 p1_20 p1_21 w0 K) : callC Try.prog 13 #[(V23 p0_0 p0_1 p0_2 p0_3 p0_4 p0_5 p0_6 p0_7 p0_8 p0_9 p0_10 p0_11 p0_12 p0_13 p0_14 p0_15 p0_16 p0_17 p0_18 p0_19 p0_20 p0_21), (V23 p1_0 p1_1 p1_2 p1_3 p1_4 p1_5 p1_6 p1_7 p1_8 p1_9 p1_10 p1_11 p1_12 p1_13 p1_14 p1_15 p1_16 p1_17 p1_18 p1_19 p1_20 p1_21)] (fun (r : Bool) => (Value.bool r)) w0 K := by
  unfold F13 at h
  refine calls_of_wpC Try.func13 rfl 62 rfl (by simp) ?_
  intro ρ hρ
  have e0 : ρ 0 = (V23 p0_0 p0_1 p0_2 p0_3 p0_4 p0_5 p0_6 p0_7 p0_8 p0_9 p0_10 p0_11 p0_12 p0_13 p0_14 p0_15 p0_16 p0_17 p0_18 p0_19 p0_20 p0_21) := hρ 0
  have e1 : ρ 1 = (V23 p1_0 p1_1 p1_2 p1_3 p1_4 p1_5 p1_6 p1_7 p1_8 p1_9 p1_10 p1_11 p1_12 p1_13 p1_14 p1_15 p1_16 p1_17 p1_18 p1_19 p1_20 p1_21) := hρ 1
  clear hρ
  refine wpC_seq ?_
  refine wpC_region ?_
  obtain ⟨b1, hb1⟩ : ∃ u, u = w0.heap.size := ⟨_, rfl⟩
  obtain ⟨w1, hw1⟩ : ∃ u, u = w0.alloc (.cells (A23 p0_0 p0_1 p0_2 p0_3 p0_4 p0_5 p0_6 p0_7 p0_8 p0_9 p0_10 p0_11 p0_12 p0_13 p0_14 p0_15 p0_16 p0_17 p0_18 p0_19 p0_20 p0_21) 24) := ⟨_, rfl⟩
  replace h := h b1 w1 hb1 hw1
  refine wpR_val (v := (Value.pointer (some (Addr.mk b1 0 none)))) (w' := w1) rfl rfl rfl ((x_box (v := (V23 p0_0 p0_1 p0_2 p0_3 p0_4 p0_5 p0_6 p0_7 p0_8 p0_9 p0_10 p0_11 p0_12 p0_13 p0_14 p0_15 p0_16 p0_17 p0_18 p0_19 p0_20 p0_21)) rfl e0).trans (by rw [hb1, hw1]; rfl)) ?_
  obtain ⟨b2, hb2⟩ : ∃ u, u = w1.heap.size := ⟨_, rfl⟩
  obtain ⟨w2, hw2⟩ : ∃ u, u = w1.alloc (.cells (A23 p1_0 p1_1 p1_2 p1_3 p1_4 p1_5 p1_6 p1_7 p1_8 p1_9 p1_10 p1_11 p1_12 p1_13 p1_14 p1_15 p1_16 p1_17 p1_18 p1_19 p1_20 p1_21) 24) := ⟨_, rfl⟩
  replace h := h b2 w2 hb2 hw2
  refine wpR_val (v := (Value.pointer (some (Addr.mk b2 0 none)))) (w' := w2) rfl rfl rfl ((x_box (v := (V23 p1_0 p1_1 p1_2 p1_3 p1_4 p1_5 p1_6 p1_7 p1_8 p1_9 p1_10 p1_11 p1_12 p1_13 p1_14 p1_15 p1_16 p1_17 p1_18 p1_19 p1_20 p1_21)) rfl e1).trans (by rw [hb2, hw2]; rfl)) ?_
  refine wpR_val (v := (Value.bool false)) (w' := w2) rfl rfl rfl (x_assign (v := (Value.bool false)) rfl rfl) ?_
  refine wpR_nil ?_
  refine wpC_seq ?_
  refine wpC_cut (fun ρ => ρ 2 = (Value.pointer (some (Addr.mk b1 0 none))) ∧ ρ 3 = (Value.pointer (some (Addr.mk b2 0 none))) ∧ True) ⟨rfl, rfl, trivial⟩ ?_
  rintro ρ ⟨e2, e3, -⟩
  refine wpC_region ?_
  obtain ⟨x3, q3, x4, q4, x5, q5, x6, q6, x7, q7, x8, q8, x9, q9, x10, q10, x11, q11, x12, q12, x13, q13, x14, q14, x15, q15, x16, q16, x17, q17, x18, q18, x19, q19, x20, q20, x21, q21, x22, q22, x23, q23, x24, q24, h⟩ := h
  refine wpR_val (v := (V23 x3 x4 x5 x6 x7 x8 x9 x10 x11 x12 x13 x14 x15 x16 x17 x18 x19 x20 x21 x22 x23 x24)) (w' := w2) rfl rfl rfl (x_loadN (S23 x3 x4 x5 x6 x7 x8 x9 x10 x11 x12 x13 x14 x15 x16 x17 x18 x19 x20 x21 x22 x23 x24) rfl e2 SH_24 (K23 ⟨q3, q4, q5, q6, q7, q8, q9, q10, q11, q12, q13, q14, q15, q16, q17, q18, q19, q20, q21, q22, q23, q24⟩)) ?_
  refine wpR_enter rfl rfl rfl (x_call (vs := [(V23 x3 x4 x5 x6 x7 x8 x9 x10 x11 x12 x13 x14 x15 x16 x17 x18 x19 x20 x21 x22 x23 x24)]) rfl rfl (mapl_cons rfl mapl_nil) Try.func31 NN_31 NB_31) (Calls.mono h ?_)
  rintro _ w3 ⟨r25, rfl, h⟩
  refine ⟨_, rfl, ?_⟩
  refine wpR_val (v := (Sl.v r25)) (w' := w3) rfl rfl rfl (x_assign (v := (Sl.v r25)) rfl rfl) ?_
  refine wpR_nil ?_
  refine wpC_seq ?_
  refine wpC_cut (fun ρ => ρ 2 = (Value.pointer (some (Addr.mk b1 0 none))) ∧ ρ 3 = (Value.pointer (some (Addr.mk b2 0 none))) ∧ ρ 5 = (Sl.v r25) ∧ True) ⟨e2, e3, rfl, trivial⟩ ?_
  rintro ρ ⟨e2, e3, e5, -⟩
  refine wpC_region ?_
  obtain ⟨x26, q26, x27, q27, x28, q28, x29, q29, x30, q30, x31, q31, x32, q32, x33, q33, x34, q34, x35, q35, x36, q36, x37, q37, x38, q38, x39, q39, x40, q40, x41, q41, x42, q42, x43, q43, x44, q44, x45, q45, x46, q46, x47, q47, h⟩ := h
  refine wpR_val (v := (V23 x26 x27 x28 x29 x30 x31 x32 x33 x34 x35 x36 x37 x38 x39 x40 x41 x42 x43 x44 x45 x46 x47)) (w' := w3) rfl rfl rfl (x_loadN (S23 x26 x27 x28 x29 x30 x31 x32 x33 x34 x35 x36 x37 x38 x39 x40 x41 x42 x43 x44 x45 x46 x47) rfl e3 SH_24 (K23 ⟨q26, q27, q28, q29, q30, q31, q32, q33, q34, q35, q36, q37, q38, q39, q40, q41, q42, q43, q44, q45, q46, q47⟩)) ?_
  refine wpR_enter rfl rfl rfl (x_call (vs := [(V23 x26 x27 x28 x29 x30 x31 x32 x33 x34 x35 x36 x37 x38 x39 x40 x41 x42 x43 x44 x45 x46 x47)]) rfl rfl (mapl_cons rfl mapl_nil) Try.func31 NN_31 NB_31) (Calls.mono h ?_)
  rintro _ w4 ⟨r48, rfl, h⟩
  refine ⟨_, rfl, ?_⟩
  refine wpR_val (v := (Sl.v r48)) (w' := w4) rfl rfl rfl (x_assign (v := (Sl.v r48)) rfl rfl) ?_
  refine wpR_nil ?_
  refine wpC_seq ?_
  refine wpC_seq ?_
  refine wpC_cut (fun ρ => ρ 2 = (Value.pointer (some (Addr.mk b1 0 none))) ∧ ρ 3 = (Value.pointer (some (Addr.mk b2 0 none))) ∧ ρ 5 = (Sl.v r25) ∧ ρ 6 = (Sl.v r48) ∧ True) ⟨e2, e3, e5, rfl, trivial⟩ ?_
  rintro ρ ⟨e2, e3, e5, e6, -⟩
  refine wpC_region ?_
  refine wpR_val (v := (Value.int .i64 0)) (w' := w4) rfl rfl rfl (x_assign (v := (Value.int .i64 0)) rfl rfl) ?_
  refine wpR_nil ?_
  refine wpC_block ?_
  obtain ⟨I49, μ49, hI49, hr49⟩ := h
  refine wpC_loop (fun (x : Int) ρ => ρ 7 = (Value.int .i64 x) ∧ ρ 2 = (Value.pointer (some (Addr.mk b1 0 none))) ∧ ρ 3 = (Value.pointer (some (Addr.mk b2 0 none))) ∧ ρ 5 = (Sl.v r25) ∧ ρ 6 = (Sl.v r48) ∧ True) I49 μ49 0 ⟨rfl, e2, e3, e5, e6, trivial⟩ hI49 ?_
  rintro l49 ρ w5 ⟨e7, e2, e3, e5, e6, -⟩ h
  replace h := hr49 l49 w5 h
  clear hr49 hI49
  refine wpC_seq ?_
  refine wpC_seq ?_
  refine wpC_region ?_
  refine wpR_val (v := (Value.int .i64 l49)) (w' := w5) rfl rfl rfl (x_move (v := (Value.int .i64 l49)) rfl e7) ?_
  refine wpR_val (v := (Sl.v r25)) (w' := w5) rfl rfl rfl (x_move (v := (Sl.v r25)) rfl e5) ?_
  refine wpR_val (v := (Value.int .i64 (r25.len : Int))) (w' := w5) rfl rfl rfl (x_lenS (s := r25) rfl rfl isSliceT_38) ?_
  refine wpR_val (v := (Value.bool (decide (l49 < (r25.len : Int))))) (w' := w5) rfl rfl rfl (x_lss rfl rfl rfl) ?_
  refine wpR_nil ?_
  refine wpC_cond (b := decide (l49 < (r25.len : Int))) rfl (fun hc50 => ?_) (fun hc50 => ?_)
  · replace h := h.1 hc50
    refine wpC_skip ?_
    refine wpC_seq ?_
    refine wpC_block ?_
    refine wpC_seq ?_
    refine wpC_cut (fun ρ => ρ 2 = (Value.pointer (some (Addr.mk b1 0 none))) ∧ ρ 3 = (Value.pointer (some (Addr.mk b2 0 none))) ∧ ρ 5 = (Sl.v r25) ∧ ρ 6 = (Sl.v r48) ∧ ρ 7 = (Value.int .i64 l49) ∧ True) ⟨e2, e3, e5, e6, e7, trivial⟩ ?_
    rintro ρ ⟨e2, e3, e5, e6, e7, -⟩
    obtain ⟨J52, h, hk⟩ := h
    refine wpC_drawJ (by kernel_rfl) (fun (x : Bool) ρ => ρ 27 = (Value.bool x) ∧ ρ 2 = (Value.pointer (some (Addr.mk b1 0 none))) ∧ ρ 3 = (Value.pointer (some (Addr.mk b2 0 none))) ∧ ρ 5 = (Sl.v r25) ∧ ρ 6 = (Sl.v r48) ∧ ρ 7 = (Value.int .i64 l49) ∧ True) J52 ?_ ?_
    · clear hk
      unfold tk at h
      generalize w5.drew = w6 at h ⊢
      refine wpD_take (v := (Sl.v r25)) 0 (fun _ => True) rfl (by kernel_rfl) (by kernel_rfl) (by kernel_rfl) rfl rfl rfl trivial (fun w _ => (x_move (v := (Sl.v r25)) rfl e5)) ?_
      refine wpD_take (v := (Value.int .i64 l49)) 1 (fun _ => True) rfl (by kernel_rfl) (by kernel_rfl) (by kernel_rfl) rfl rfl rfl trivial (fun w _ => (x_move (v := (Value.int .i64 l49)) rfl e7)) ?_
      obtain ⟨q53, z53, r53, h⟩ := h
      generalize hp53 : z53.add ((l49 : Int).toNat * 1) = p53 at h
      refine wpD_take (v := (Value.pointer (some p53))) 2 (fun _ => True) rfl (by kernel_rfl) (by kernel_rfl) (by kernel_rfl) rfl rfl rfl trivial (fun w _ => ((x_indexAddr (s := r25) rfl rfl rfl ES_38 q53 r53).trans (by rw [hp53]))) ?_
      obtain ⟨x54, q54, h⟩ := h
      refine wpD_take (v := (Value.int .i64 x54)) 3 (fun w => w.cell? p53 = some (Value.int .i64 x54)) rfl (by kernel_rfl) (by kernel_rfl) (by kernel_rfl) rfl rfl rfl q54 (fun w q54 => (x_load1 rfl rfl SH_3 q54)) ?_
      refine wpD_take (v := (Sl.v r48)) 4 (fun _ => True) rfl (by kernel_rfl) (by kernel_rfl) (by kernel_rfl) rfl rfl rfl trivial (fun w _ => (x_move (v := (Sl.v r48)) rfl e6)) ?_
      refine wpD_take (v := (Value.int .i64 l49)) 5 (fun _ => True) rfl (by kernel_rfl) (by kernel_rfl) (by kernel_rfl) rfl rfl rfl trivial (fun w _ => (x_move (v := (Value.int .i64 l49)) rfl e7)) ?_
      obtain ⟨q55, z55, r55, h⟩ := h
      generalize hp55 : z55.add ((l49 : Int).toNat * 1) = p55 at h
      refine wpD_take (v := (Value.pointer (some p55))) 6 (fun _ => True) rfl (by kernel_rfl) (by kernel_rfl) (by kernel_rfl) rfl rfl rfl trivial (fun w _ => ((x_indexAddr (s := r48) rfl rfl rfl ES_38 q55 r55).trans (by rw [hp55]))) ?_
      obtain ⟨x56, q56, h⟩ := h
      refine wpD_take (v := (Value.int .i64 x56)) 7 (fun w => w.cell? p55 = some (Value.int .i64 x56)) rfl (by kernel_rfl) (by kernel_rfl) (by kernel_rfl) rfl rfl rfl q56 (fun w q56 => (x_load1 rfl rfl SH_3 q56)) ?_
      refine wpD_take (v := (Value.bool (decide (x56 < x54)))) 8 (fun _ => True) rfl (by kernel_rfl) (by kernel_rfl) (by kernel_rfl) rfl rfl rfl trivial (fun w _ => (x_gtr rfl rfl rfl)) ?_
      exact wpD_done (by kernel_rfl) ⟨decide (x56 < x54), ⟨rfl, e2, e3, e5, e6, e7, trivial⟩, h⟩
    clear h
    rintro l57 ρ w7 ⟨e27, e2, e3, e5, e6, e7, -⟩ h
    replace h := hk l57 w7 h
    clear hk
    refine wpC_cond (b := l57) e27 (fun hc58 => ?_) (fun hc58 => ?_)
    · replace h := h.1 hc58
      refine wpC_seq ?_
      refine wpC_region ?_
      refine wpR_val (v := (Value.bool false)) (w' := w7) rfl rfl rfl (x_assign (v := (Value.bool false)) rfl rfl) ?_
      refine wpR_nil ?_
      refine wpC_ret ?_
      exact ⟨.inl rfl, fun a ha => ⟨_, results_rep1 rfl ha rfl, false, rfl, h⟩⟩
    · replace h := h.2 hc58
      refine wpC_skip ?_
      refine wpC_region ?_
      refine wpR_val (v := (Value.int .i64 l49)) (w' := w7) rfl rfl rfl (x_move (v := (Value.int .i64 l49)) rfl e7) ?_
      refine wpR_val (v := (Value.int .i64 (IntKind.i64.wrap (l49 + 1)))) (w' := w7) rfl rfl rfl (x_add rfl rfl rfl) ?_
      refine wpR_val (v := (Value.int .i64 (IntKind.i64.wrap (l49 + 1)))) (w' := w7) rfl rfl rfl (x_assign (v := (Value.int .i64 (IntKind.i64.wrap (l49 + 1)))) rfl rfl) ?_
      refine wpR_nil ?_
      exact ⟨IntKind.i64.wrap (l49 + 1), ⟨rfl, e2, e3, e5, e6, trivial⟩, h⟩
  · replace h := h.2 hc50
    refine wpC_exit ?_
    refine wpC_seq ?_
    refine wpC_seq ?_
    refine wpC_cut (fun ρ => ρ 2 = (Value.pointer (some (Addr.mk b1 0 none))) ∧ ρ 3 = (Value.pointer (some (Addr.mk b2 0 none))) ∧ True) ⟨e2, e3, trivial⟩ ?_
    rintro ρ ⟨e2, e3, -⟩
    refine wpC_region ?_
    refine wpR_val (v := (Value.int .i64 0)) (w' := w5) rfl rfl rfl (x_assign (v := (Value.int .i64 0)) rfl rfl) ?_
    refine wpR_nil ?_
    refine wpC_block ?_
    obtain ⟨I59, μ59, hI59, hr59⟩ := h
    refine wpC_loop (fun (x : Int) ρ => ρ 8 = (Value.int .i64 x) ∧ ρ 2 = (Value.pointer (some (Addr.mk b1 0 none))) ∧ ρ 3 = (Value.pointer (some (Addr.mk b2 0 none))) ∧ True) I59 μ59 0 ⟨rfl, e2, e3, trivial⟩ hI59 ?_
    rintro l59 ρ w8 ⟨e8, e2, e3, -⟩ h
    replace h := hr59 l59 w8 h
    clear hr59 hI59
    refine wpC_seq ?_
    refine wpC_seq ?_
    refine wpC_region ?_
    refine wpR_val (v := (Value.int .i64 l59)) (w' := w8) rfl rfl rfl (x_move (v := (Value.int .i64 l59)) rfl e8) ?_
    refine wpR_val (v := (Value.pointer (some ((Addr.mk b1 0 none).add 12)))) (w' := w8) rfl rfl rfl (x_fieldAddr rfl e2 FA_24_12) ?_
    obtain ⟨x60, q60, h⟩ := h
    refine wpR_val (v := (Sl.v x60)) (w' := w8) rfl rfl rfl (x_load1 rfl rfl SH_22 q60) ?_
    refine wpR_val (v := (Value.int .i64 (x60.len : Int))) (w' := w8) rfl rfl rfl (x_lenS (s := x60) rfl rfl isSliceT_22) ?_
    refine wpR_val (v := (Value.bool (decide (l59 < (x60.len : Int))))) (w' := w8) rfl rfl rfl (x_lss rfl rfl rfl) ?_
    refine wpR_nil ?_
    refine wpC_cond (b := decide (l59 < (x60.len : Int))) rfl (fun hc61 => ?_) (fun hc61 => ?_)
    · replace h := h.1 hc61
      refine wpC_skip ?_
      refine wpC_seq ?_
      refine wpC_block ?_
      refine wpC_seq ?_
      refine wpC_cut (fun ρ => ρ 2 = (Value.pointer (some (Addr.mk b1 0 none))) ∧ ρ 3 = (Value.pointer (some (Addr.mk b2 0 none))) ∧ ρ 8 = (Value.int .i64 l59) ∧ True) ⟨e2, e3, e8, trivial⟩ ?_
      rintro ρ ⟨e2, e3, e8, -⟩
      obtain ⟨J63, h, hk⟩ := h
      refine wpC_drawJ (by kernel_rfl) (fun (x : Bool) ρ => ρ 43 = (Value.bool x) ∧ ρ 2 = (Value.pointer (some (Addr.mk b1 0 none))) ∧ ρ 3 = (Value.pointer (some (Addr.mk b2 0 none))) ∧ ρ 8 = (Value.int .i64 l59) ∧ True) J63 ?_ ?_
      · clear hk
        unfold tk at h
        generalize w8.drew = w9 at h ⊢
        refine wpD_take (v := (Value.pointer (some ((Addr.mk b2 0 none).add 12)))) 0 (fun _ => True) rfl (by kernel_rfl) (by kernel_rfl) (by kernel_rfl) rfl rfl rfl trivial (fun w _ => (x_fieldAddr rfl e3 FA_24_12)) ?_
        obtain ⟨x64, q64, h⟩ := h
        refine wpD_take (v := (Sl.v x64)) 1 (fun w => w.cell? ((Addr.mk b2 0 none).add 12) = some (Sl.v x64)) rfl (by kernel_rfl) (by kernel_rfl) (by kernel_rfl) rfl rfl rfl q64 (fun w q64 => (x_load1 rfl rfl SH_22 q64)) ?_
        refine wpD_take (v := (Value.pointer (some ((Addr.mk b1 0 none).add 12)))) 2 (fun _ => True) rfl (by kernel_rfl) (by kernel_rfl) (by kernel_rfl) rfl rfl rfl trivial (fun w _ => (x_fieldAddr rfl e2 FA_24_12)) ?_
        obtain ⟨x65, q65, h⟩ := h
        refine wpD_take (v := (Sl.v x65)) 3 (fun w => w.cell? ((Addr.mk b1 0 none).add 12) = some (Sl.v x65)) rfl (by kernel_rfl) (by kernel_rfl) (by kernel_rfl) rfl rfl rfl q65 (fun w q65 => (x_load1 rfl rfl SH_22 q65)) ?_
        refine wpD_take (v := (Value.int .i64 l59)) 4 (fun _ => True) rfl (by kernel_rfl) (by kernel_rfl) (by kernel_rfl) rfl rfl rfl trivial (fun w _ => (x_move (v := (Value.int .i64 l59)) rfl e8)) ?_
        obtain ⟨q66, z66, r66, h⟩ := h
        generalize hp66 : z66.add ((l59 : Int).toNat * 1) = p66 at h
        refine wpD_take (v := (Value.pointer (some p66))) 5 (fun _ => True) rfl (by kernel_rfl) (by kernel_rfl) (by kernel_rfl) rfl rfl rfl trivial (fun w _ => ((x_indexAddr (s := x65) rfl rfl rfl ES_22 q66 r66).trans (by rw [hp66]))) ?_
        obtain ⟨x67, q67, h⟩ := h
        refine wpD_take (v := (Value.string x67)) 6 (fun w => w.cell? p66 = some (Value.string x67)) rfl (by kernel_rfl) (by kernel_rfl) (by kernel_rfl) rfl rfl rfl q67 (fun w q67 => (x_load1 rfl rfl SH_9 q67)) ?_
        refine wpD_all (rs := [7]) (by kernel_rfl) (by simp) (allD_cons ?_ allD_nil)
        refine stepD_enterL (L' := [(5, fun _ => True), (4, fun _ => True), (3, fun w => w.cell? ((Addr.mk b1 0 none).add 12) = some (Sl.v x65)), (2, fun _ => True), (0, fun _ => True)]) rfl rfl rfl rfl (x_call (vs := [(Sl.v x64), (Value.string x67)]) rfl rfl (mapl_cons rfl (mapl_cons rfl mapl_nil)) Try.func32 NN_32 NB_32) (by kernel_rfl) (Calls.mono h ?_)
        rintro _ w10 ⟨r68, rfl, h⟩
        obtain ⟨o3, h⟩ := h
        refine ⟨_, rfl, (held_cons trivial (held_cons trivial (held_cons o3 (held_cons trivial (held_cons trivial held_nil))))), ?_⟩
        refine wpD_take (v := (Value.bool (!r68))) 8 (fun _ => True) rfl (by kernel_rfl) (by kernel_rfl) (by kernel_rfl) rfl rfl rfl trivial (fun w _ => (x_not rfl rfl)) ?_
        exact wpD_done (by kernel_rfl) ⟨!r68, ⟨rfl, e2, e3, e8, trivial⟩, h⟩
      clear h
      rintro l69 ρ w11 ⟨e43, e2, e3, e8, -⟩ h
      replace h := hk l69 w11 h
      clear hk
      refine wpC_cond (b := l69) e43 (fun hc70 => ?_) (fun hc70 => ?_)
      · replace h := h.1 hc70
        refine wpC_seq ?_
        refine wpC_region ?_
        refine wpR_val (v := (Value.bool false)) (w' := w11) rfl rfl rfl (x_assign (v := (Value.bool false)) rfl rfl) ?_
        refine wpR_nil ?_
        refine wpC_ret ?_
        exact ⟨.inl rfl, fun a ha => ⟨_, results_rep1 rfl ha rfl, false, rfl, h⟩⟩
      · replace h := h.2 hc70
        refine wpC_skip ?_
        refine wpC_region ?_
        refine wpR_val (v := (Value.int .i64 l59)) (w' := w11) rfl rfl rfl (x_move (v := (Value.int .i64 l59)) rfl e8) ?_
        refine wpR_val (v := (Value.int .i64 (IntKind.i64.wrap (l59 + 1)))) (w' := w11) rfl rfl rfl (x_add rfl rfl rfl) ?_
        refine wpR_val (v := (Value.int .i64 (IntKind.i64.wrap (l59 + 1)))) (w' := w11) rfl rfl rfl (x_assign (v := (Value.int .i64 (IntKind.i64.wrap (l59 + 1)))) rfl rfl) ?_
        refine wpR_nil ?_
        exact ⟨IntKind.i64.wrap (l59 + 1), ⟨rfl, e2, e3, trivial⟩, h⟩
    · replace h := h.2 hc61
      refine wpC_exit ?_
      refine wpC_seq ?_
      refine wpC_seq ?_
      refine wpC_cut (fun ρ => ρ 2 = (Value.pointer (some (Addr.mk b1 0 none))) ∧ ρ 3 = (Value.pointer (some (Addr.mk b2 0 none))) ∧ True) ⟨e2, e3, trivial⟩ ?_
      rintro ρ ⟨e2, e3, -⟩
      refine wpC_region ?_
      refine wpR_val (v := (Value.pointer (some ((Addr.mk b1 0 none).add 1)))) (w' := w8) rfl rfl rfl (x_fieldAddr rfl e2 FA_24_1) ?_
      obtain ⟨x71, q71, h⟩ := h
      refine wpR_val (v := (Value.int .i64 x71)) (w' := w8) rfl rfl rfl (x_load1 rfl rfl SH_3 q71) ?_
      refine wpR_val (v := (Value.bool (decide (x71 = 0)))) (w' := w8) rfl rfl rfl (x_eql rfl rfl rfl) ?_
      refine wpR_val (v := (Value.bool (decide (x71 = 0)))) (w' := w8) rfl rfl rfl (x_move (v := (Value.bool (decide (x71 = 0)))) rfl rfl) ?_
      obtain ⟨J72, h, hk⟩ := h
      refine wpR_joinJ 4 (fun x ρ => ρ 51 = Value.bool x ∧ ρ 2 = (Value.pointer (some (Addr.mk b1 0 none))) ∧ ρ 3 = (Value.pointer (some (Addr.mk b2 0 none))) ∧ True) (fun x w => J72 x ∧ w8 = w) ?_ ?_
      · clear hk
        rcases Bool.eq_false_or_eq_true (decide (x71 = 0)) with hc73 | hc73
        · replace h := h.1 hc73
          refine wpR_pass (wantN rfl rfl rfl hc73) rfl rfl ?_
          refine wpR_pass (wantN rfl rfl rfl hc73) rfl rfl ?_
          refine wpR_pass (wantN rfl rfl rfl hc73) rfl rfl ?_
          refine wpR_val (v := (Value.bool true)) (w' := w8) rfl rfl rfl (x_pickT (v := (Value.bool true)) rfl rfl hc73 rfl) ?_
          refine wpR_nil ?_
          exact ⟨true, ⟨rfl, e2, e3, trivial⟩, h, rfl⟩
        · replace h := h.2 hc73
          refine wpR_val (v := (Value.pointer (some ((Addr.mk b2 0 none).add 2)))) (w' := w8) (wantG rfl rfl rfl hc73) rfl rfl (x_fieldAddr rfl e3 FA_24_2) ?_
          obtain ⟨x74, q74, h⟩ := h
          refine wpR_val (v := (Value.int .i64 x74)) (w' := w8) (wantG rfl rfl rfl hc73) rfl rfl (x_load1 rfl rfl SH_3 q74) ?_
          refine wpR_val (v := (Value.bool (decide (x74 = 0)))) (w' := w8) (wantG rfl rfl rfl hc73) rfl rfl (x_eql rfl rfl rfl) ?_
          refine wpR_val (v := (Value.bool (decide (x74 = 0)))) (w' := w8) rfl rfl rfl (x_pickF (v := (Value.bool (decide (x74 = 0)))) rfl rfl hc73 rfl) ?_
          refine wpR_nil ?_
          exact ⟨decide (x74 = 0), ⟨rfl, e2, e3, trivial⟩, h, rfl⟩
      clear h
      rintro c75 ρ wj ⟨e51, e2, e3, -⟩ ⟨h, rfl⟩
      replace h := hk c75 h
      clear hk
      refine wpR_nil ?_
      refine wpC_cond (b := c75) e51 (fun hc76 => ?_) (fun hc76 => ?_)
      · replace h := h.1 hc76
        refine wpC_seq ?_
        refine wpC_region ?_
        refine wpR_val (v := (Value.bool true)) (w' := w8) rfl rfl rfl (x_assign (v := (Value.bool true)) rfl rfl) ?_
        refine wpR_nil ?_
        refine wpC_ret ?_
        exact ⟨.inl rfl, fun a ha => ⟨_, results_rep1 rfl ha rfl, true, rfl, h⟩⟩
      · replace h := h.2 hc76
        refine wpC_skip ?_
        refine wpC_seq ?_
        refine wpC_region ?_
        refine wpR_val (v := (Value.pointer (some ((Addr.mk b1 0 none).add 2)))) (w' := w8) rfl rfl rfl (x_fieldAddr rfl e2 FA_24_2) ?_
        obtain ⟨x77, q77, h⟩ := h
        refine wpR_val (v := (Value.int .i64 x77)) (w' := w8) rfl rfl rfl (x_load1 rfl rfl SH_3 q77) ?_
        refine wpR_val (v := (Value.bool (!decide (x77 = 0)))) (w' := w8) rfl rfl rfl (x_neq rfl rfl rfl) ?_
        refine wpR_val (v := (Value.bool (!decide (x77 = 0)))) (w' := w8) rfl rfl rfl (x_move (v := (Value.bool (!decide (x77 = 0)))) rfl rfl) ?_
        obtain ⟨J78, h, hk⟩ := h
        refine wpR_joinJ 6 (fun x ρ => ρ 61 = Value.bool x ∧ True) (fun x w => J78 x ∧ w8 = w) ?_ ?_
        · clear hk
          rcases Bool.eq_false_or_eq_true (!decide (x77 = 0)) with hc79 | hc79
          · replace h := h.1 hc79
            refine wpR_val (v := (Value.pointer (some ((Addr.mk b1 0 none).add 2)))) (w' := w8) (wantG rfl rfl rfl hc79) rfl rfl (x_fieldAddr rfl e2 FA_24_2) ?_
            obtain ⟨x80, q80, h⟩ := h
            refine wpR_val (v := (Value.int .i64 x80)) (w' := w8) (wantG rfl rfl rfl hc79) rfl rfl (x_load1 rfl rfl SH_3 q80) ?_
            refine wpR_val (v := (Value.pointer (some ((Addr.mk b2 0 none).add 2)))) (w' := w8) (wantG rfl rfl rfl hc79) rfl rfl (x_fieldAddr rfl e3 FA_24_2) ?_
            obtain ⟨x81, q81, h⟩ := h
            refine wpR_val (v := (Value.int .i64 x81)) (w' := w8) (wantG rfl rfl rfl hc79) rfl rfl (x_load1 rfl rfl SH_3 q81) ?_
            refine wpR_val (v := (Value.bool (decide (x80 ≤ x81)))) (w' := w8) (wantG rfl rfl rfl hc79) rfl rfl (x_leq rfl rfl rfl) ?_
            refine wpR_val (v := (Value.bool (decide (x80 ≤ x81)))) (w' := w8) rfl rfl rfl (x_pickT (v := (Value.bool (decide (x80 ≤ x81)))) rfl rfl hc79 rfl) ?_
            refine wpR_nil ?_
            exact ⟨decide (x80 ≤ x81), ⟨rfl, trivial⟩, h, rfl⟩
          · replace h := h.2 hc79
            refine wpR_pass (wantN rfl rfl rfl hc79) rfl rfl ?_
            refine wpR_pass (wantN rfl rfl rfl hc79) rfl rfl ?_
            refine wpR_pass (wantN rfl rfl rfl hc79) rfl rfl ?_
            refine wpR_pass (wantN rfl rfl rfl hc79) rfl rfl ?_
            refine wpR_pass (wantN rfl rfl rfl hc79) rfl rfl ?_
            refine wpR_val (v := (Value.bool false)) (w' := w8) rfl rfl rfl (x_pickF (v := (Value.bool false)) rfl rfl hc79 rfl) ?_
            refine wpR_nil ?_
            exact ⟨false, ⟨rfl, trivial⟩, h, rfl⟩
        clear h
        rintro c82 ρ wj ⟨e61, -⟩ ⟨h, rfl⟩
        replace h := hk c82 h
        clear hk
        refine wpR_val (v := (Value.bool c82)) (w' := w8) rfl rfl rfl (x_assign (v := (Value.bool c82)) rfl e61) ?_
        refine wpR_nil ?_
        refine wpC_ret ?_
        exact ⟨.inl rfl, fun a ha => ⟨_, results_rep1 rfl ha rfl, c82, rfl, h⟩⟩

/-- linguaref13.Same -/
def F14 (p0_0 : ByteArray) (p0_1 : Int) (p0_2 : Int) (p0_3 : Int) (p0_4 : Bool) (p0_5 : Int) (p0_6 : Bool) (p0_7 : Bool) (p0_8 : Int) (p0_9 : Int) (p0_10 : Int) (p0_11 : Int) (p0_12 : Sl) (p0_13 : Int) (p0_14 : Int) (p0_15 : Int) (p0_16 : Int) (p0_17 : Bool) (p0_18 : Int) (p0_19 : Int) (p0_20 : Int) (p0_21 : Int) (p1_0 : ByteArray) (p1_1 : Int) (p1_2 : Int) (p1_3 : Int) (p1_4 : Bool) (p1_5 : Int) (p1_6 : Bool) (p1_7 : Bool) (p1_8 : Int) (p1_9 : Int) (p1_10 : Int) (p1_11 : Int) (p1_12 : Sl) (p1_13 : Int) (p1_14 : Int) (p1_15 : Int) (p1_16 : Int) (p1_17 : Bool) (p1_18 : Int) (p1_19 : Int) (p1_20 : Int) (p1_21 : Int) (w0 : World) (K : Bool → World → Prop) : Prop :=
  nw 24 (A23 p0_0 p0_1 p0_2 p0_3 p0_4 p0_5 p0_6 p0_7 p0_8 p0_9 p0_10 p0_11 p0_12 p0_13 p0_14 p0_15 p0_16 p0_17 p0_18 p0_19 p0_20 p0_21) w0 fun b1 w1 =>
  nw 24 (A23 p1_0 p1_1 p1_2 p1_3 p1_4 p1_5 p1_6 p1_7 p1_8 p1_9 p1_10 p1_11 p1_12 p1_13 p1_14 p1_15 p1_16 p1_17 p1_18 p1_19 p1_20 p1_21) w1 fun b2 w2 =>
  L23 (Addr.mk b1 0 none) w2 fun x3 x4 x5 x6 x7 x8 x9 x10 x11 x12 x13 x14 x15 x16 x17 x18 x19 x20 x21 x22 x23 x24 =>
  callC Try.prog 31 #[(V23 x3 x4 x5 x6 x7 x8 x9 x10 x11 x12 x13 x14 x15 x16 x17 x18 x19 x20 x21 x22 x23 x24)] (fun (r : Sl) => (Sl.v r)) w2 fun r25 w3 =>
  L23 (Addr.mk b2 0 none) w3 fun x26 x27 x28 x29 x30 x31 x32 x33 x34 x35 x36 x37 x38 x39 x40 x41 x42 x43 x44 x45 x46 x47 =>
  callC Try.prog 31 #[(V23 x26 x27 x28 x29 x30 x31 x32 x33 x34 x35 x36 x37 x38 x39 x40 x41 x42 x43 x44 x45 x46 x47)] (fun (r : Sl) => (Sl.v r)) w3 fun r48 w4 =>
  lp (fun (next49 : Int → World → Prop) l49 w5 =>
    cnd (decide (l49 < (r25.len : Int)))
      (
      jn (fun (J52 : Bool → World → Prop) => tk w5 fun w6 =>
        ix r25 l49 1 fun p53 =>
        ld (Value.int .i64) p53 w6 fun x54 =>
        ix r48 l49 1 fun p55 =>
        ld (Value.int .i64) p55 w6 fun x56 =>
        J52 (!decide (x54 = x56)) w6
      )
      fun l57 w7 =>
      cnd (l57)
        (
        K false w7
        )
        (
        next49 (IntKind.i64.wrap (l49 + 1)) w7
        )
      )
      (
      ld Sl.v ((Addr.mk b1 0 none).add 12) w5 fun x59 =>
      ld Sl.v ((Addr.mk b2 0 none).add 12) w5 fun x60 =>
      cnd (!decide ((x59.len : Int) = (x60.len : Int)))
        (
        K false w5
        )
        (
        lp (fun (next62 : Int → World → Prop) l62 w8 =>
          ld Sl.v ((Addr.mk b1 0 none).add 12) w8 fun x63 =>
          cnd (decide (l62 < (x63.len : Int)))
            (
            jn (fun (J66 : Bool → World → Prop) => tk w8 fun w9 =>
              ld Sl.v ((Addr.mk b1 0 none).add 12) w9 fun x67 =>
              ix x67 l62 1 fun p68 =>
              ld Value.string p68 w9 fun x69 =>
              ld Sl.v ((Addr.mk b2 0 none).add 12) w9 fun x70 =>
              ix x70 l62 1 fun p71 =>
              ld Value.string p71 w9 fun x72 =>
              J66 (!beqS x69 x72) w9
            )
            fun l73 w10 =>
            cnd (l73)
              (
              K false w10
              )
              (
              next62 (IntKind.i64.wrap (l62 + 1)) w10
              )
            )
            (
            ld Value.string ((Addr.mk b1 0 none).add 0) w8 fun x75 =>
            ld Value.string ((Addr.mk b2 0 none).add 0) w8 fun x76 =>
            jp (fun J77 => cnd (beqS x75 x76)
              (
              ld (Value.int .i64) ((Addr.mk b1 0 none).add 2) w8 fun x79 =>
              ld (Value.int .i64) ((Addr.mk b2 0 none).add 2) w8 fun x80 =>
              J77 (decide (x79 = x80))
              )
              (
              J77 false
              ))
            fun c81 =>
            jp (fun J82 => cnd (c81)
              (
              ld (Value.int .i64) ((Addr.mk b1 0 none).add 13) w8 fun x84 =>
              ld (Value.int .i64) ((Addr.mk b2 0 none).add 13) w8 fun x85 =>
              J82 (decide (x84 = x85))
              )
              (
              J82 false
              ))
            fun c86 =>
            jp (fun J87 => cnd (c86)
              (
              ld (Value.int .i64) ((Addr.mk b1 0 none).add 14) w8 fun x89 =>
              ld (Value.int .i64) ((Addr.mk b2 0 none).add 14) w8 fun x90 =>
              J87 (decide (x89 = x90))
              )
              (
              J87 false
              ))
            fun c91 =>
            jp (fun J92 => cnd (c91)
              (
              ld (Value.int .i64) ((Addr.mk b1 0 none).add 15) w8 fun x94 =>
              ld (Value.int .i64) ((Addr.mk b2 0 none).add 15) w8 fun x95 =>
              J92 (decide (x94 = x95))
              )
              (
              J92 false
              ))
            fun c96 =>
            jp (fun J97 => cnd (c96)
              (
              ld Value.bool ((Addr.mk b1 0 none).add 17) w8 fun x99 =>
              ld Value.bool ((Addr.mk b2 0 none).add 17) w8 fun x100 =>
              J97 (x99 == x100)
              )
              (
              J97 false
              ))
            fun c101 =>
            jp (fun J102 => cnd (c101)
              (
              ld (Value.int .i64) ((Addr.mk b1 0 none).add 18) w8 fun x104 =>
              ld (Value.int .i64) ((Addr.mk b2 0 none).add 18) w8 fun x105 =>
              J102 (decide (x104 = x105))
              )
              (
              J102 false
              ))
            fun c106 =>
            jp (fun J107 => cnd (c106)
              (
              ld (Value.int .i64) ((Addr.mk b1 0 none).add 19) w8 fun x109 =>
              ld (Value.int .i64) ((Addr.mk b2 0 none).add 19) w8 fun x110 =>
              J107 (decide (x109 = x110))
              )
              (
              J107 false
              ))
            fun c111 =>
            jp (fun J112 => cnd (c111)
              (
              ld (Value.int .i64) ((Addr.mk b1 0 none).add 20) w8 fun x114 =>
              ld (Value.int .i64) ((Addr.mk b2 0 none).add 20) w8 fun x115 =>
              J112 (decide (x114 = x115))
              )
              (
              J112 false
              ))
            fun c116 =>
            jp (fun J117 => cnd (c116)
              (
              ld (Value.int .i64) ((Addr.mk b1 0 none).add 21) w8 fun x119 =>
              ld (Value.int .i64) ((Addr.mk b2 0 none).add 21) w8 fun x120 =>
              J117 (decide (x119 = x120))
              )
              (
              J117 false
              ))
            fun c121 =>
            K c121 w8
            )
        ) 0 w5
        )
      )
  ) 0 w4
set_option maxRecDepth 100000 in
theorem D14 (p0_0 : ByteArray) (p0_1 : Int) (p0_2 : Int) (p0_3 : Int) (p0_4 : Bool) (p0_5 : Int) (p0_6 : Bool) (p0_7 : Bool) (p0_8 : Int) (p0_9 : Int) (p0_10 : Int) (p0_11 : Int) (p0_12 : Sl) (p0_13 : Int) (p0_14 : Int) (p0_15 : Int) (p0_16 : Int) (p0_17 : Bool) (p0_18 : Int) (p0_19 : Int) (p0_20 : Int) (p0_21 : Int) (p1_0 : ByteArray) (p1_1 : Int) (p1_2 : Int) (p1_3 : Int) (p1_4 : Bool) (p1_5 : Int) (p1_6 : Bool) (p1_7 : Bool) (p1_8 : Int) (p1_9 : Int) (p1_10 : Int) (p1_11 : Int) (p1_12 : Sl) (p1_13 : Int) (p1_14 : Int) (p1_15 : Int) (p1_16 : Int) (p1_17 : Bool) (p1_18 : Int) (p1_19 : Int) (p1_20 : Int) (p1_21 : Int) (w0 : World) (K : Bool → World → Prop) (h : F14 p0_0 p0_1 p0_2 p0_3 p0_4 p0_5 p0_6 p0_7 p0_8 p0_9 p0_10 p0_11 p0_12 p0_13 p0_14 p0_15 p0_16 p0_17 p0_18 p0_19 p0_20 p0_21 p1_0 p1_1 p1_2 p1_3 p1_4 p1_5 p1_6 p1_7 p1_8 p1_9 p1_10 p1_11 p1_12 p1_13 p1_14 p1_15 p1_16 p1_17 p1_18 p1_19 p1_20 p1_21 w0 K) : callC Try.prog 14 #[(V23 p0_0 p0_1 p0_2 p0_3 p0_4 p0_5 p0_6 p0_7 p0_8 p0_9 p0_10 p0_11 p0_12 p0_13 p0_14 p0_15 p0_16 p0_17 p0_18 p0_19 p0_20 p0_21), (V23 p1_0 p1_1 p1_2 p1_3 p1_4 p1_5 p1_6 p1_7 p1_8 p1_9 p1_10 p1_11 p1_12 p1_13 p1_14 p1_15 p1_16 p1_17 p1_18 p1_19 p1_20 p1_21)] (fun (r : Bool) => (Value.bool r)) w0 K := by
  unfold F14 at h
  refine calls_of_wpC Try.func14 rfl 123 rfl (by simp) ?_
  intro ρ hρ
  have e0 : ρ 0 = (V23 p0_0 p0_1 p0_2 p0_3 p0_4 p0_5 p0_6 p0_7 p0_8 p0_9 p0_10 p0_11 p0_12 p0_13 p0_14 p0_15 p0_16 p0_17 p0_18 p0_19 p0_20 p0_21) := hρ 0
  have e1 : ρ 1 = (V23 p1_0 p1_1 p1_2 p1_3 p1_4 p1_5 p1_6 p1_7 p1_8 p1_9 p1_10 p1_11 p1_12 p1_13 p1_14 p1_15 p1_16 p1_17 p1_18 p1_19 p1_20 p1_21) := hρ 1
  clear hρ
  refine wpC_seq ?_
  refine wpC_region ?_
  obtain ⟨b1, hb1⟩ : ∃ u, u = w0.heap.size := ⟨_, rfl⟩
  obtain ⟨w1, hw1⟩ : ∃ u, u = w0.alloc (.cells (A23 p0_0 p0_1 p0_2 p0_3 p0_4 p0_5 p0_6 p0_7 p0_8 p0_9 p0_10 p0_11 p0_12 p0_13 p0_14 p0_15 p0_16 p0_17 p0_18 p0_19 p0_20 p0_21) 24) := ⟨_, rfl⟩
  replace h := h b1 w1 hb1 hw1
  refine wpR_val (v := (Value.pointer (some (Addr.mk b1 0 none)))) (w' := w1) rfl rfl rfl ((x_box (v := (V23 p0_0 p0_1 p0_2 p0_3 p0_4 p0_5 p0_6 p0_7 p0_8 p0_9 p0_10 p0_11 p0_12 p0_13 p0_14 p0_15 p0_16 p0_17 p0_18 p0_19 p0_20 p0_21)) rfl e0).trans (by rw [hb1, hw1]; rfl)) ?_
  obtain ⟨b2, hb2⟩ : ∃ u, u = w1.heap.size := ⟨_, rfl⟩
  obtain ⟨w2, hw2⟩ : ∃ u, u = w1.alloc (.cells (A23 p1_0 p1_1 p1_2 p1_3 p1_4 p1_5 p1_6 p1_7 p1_8 p1_9 p1_10 p1_11 p1_12 p1_13 p1_14 p1_15 p1_16 p1_17 p1_18 p1_19 p1_20 p1_21) 24) := ⟨_, rfl⟩
  replace h := h b2 w2 hb2 hw2
  refine wpR_val (v := (Value.pointer (some (Addr.mk b2 0 none)))) (w' := w2) rfl rfl rfl ((x_box (v := (V23 p1_0 p1_1 p1_2 p1_3 p1_4 p1_5 p1_6 p1_7 p1_8 p1_9 p1_10 p1_11 p1_12 p1_13 p1_14 p1_15 p1_16 p1_17 p1_18 p1_19 p1_20 p1_21)) rfl e1).trans (by rw [hb2, hw2]; rfl)) ?_
  refine wpR_val (v := (Value.bool false)) (w' := w2) rfl rfl rfl (x_assign (v := (Value.bool false)) rfl rfl) ?_
  refine wpR_nil ?_
  refine wpC_seq ?_
  refine wpC_cut (fun ρ => ρ 2 = (Value.pointer (some (Addr.mk b1 0 none))) ∧ ρ 3 = (Value.pointer (some (Addr.mk b2 0 none))) ∧ True) ⟨rfl, rfl, trivial⟩ ?_
  rintro ρ ⟨e2, e3, -⟩
  refine wpC_region ?_
  obtain ⟨x3, q3, x4, q4, x5, q5, x6, q6, x7, q7, x8, q8, x9, q9, x10, q10, x11, q11, x12, q12, x13, q13, x14, q14, x15, q15, x16, q16, x17, q17, x18, q18, x19, q19, x20, q20, x21, q21, x22, q22, x23, q23, x24, q24, h⟩ := h
  refine wpR_val (v := (V23 x3 x4 x5 x6 x7 x8 x9 x10 x11 x12 x13 x14 x15 x16 x17 x18 x19 x20 x21 x22 x23 x24)) (w' := w2) rfl rfl rfl (x_loadN (S23 x3 x4 x5 x6 x7 x8 x9 x10 x11 x12 x13 x14 x15 x16 x17 x18 x19 x20 x21 x22 x23 x24) rfl e2 SH_24 (K23 ⟨q3, q4, q5, q6, q7, q8, q9, q10, q11, q12, q13, q14, q15, q16, q17, q18, q19, q20, q21, q22, q23, q24⟩)) ?_
  refine wpR_enter rfl rfl rfl (x_call (vs := [(V23 x3 x4 x5 x6 x7 x8 x9 x10 x11 x12 x13 x14 x15 x16 x17 x18 x19 x20 x21 x22 x23 x24)]) rfl rfl (mapl_cons rfl mapl_nil) Try.func31 NN_31 NB_31) (Calls.mono h ?_)
  rintro _ w3 ⟨r25, rfl, h⟩
  refine ⟨_, rfl, ?_⟩
  refine wpR_val (v := (Sl.v r25)) (w' := w3) rfl rfl rfl (x_assign (v := (Sl.v r25)) rfl rfl) ?_
  refine wpR_nil ?_
  refine wpC_seq ?_
  refine wpC_cut (fun ρ => ρ 2 = (Value.pointer (some (Addr.mk b1 0 none))) ∧ ρ 3 = (Value.pointer (some (Addr.mk b2 0 none))) ∧ ρ 5 = (Sl.v r25) ∧ True) ⟨e2, e3, rfl, trivial⟩ ?_
  rintro ρ ⟨e2, e3, e5, -⟩
  refine wpC_region ?_
  obtain ⟨x26, q26, x27, q27, x28, q28, x29, q29, x30, q30, x31, q31, x32, q32, x33, q33, x34, q34, x35, q35, x36, q36, x37, q37, x38, q38, x39, q39, x40, q40, x41, q41, x42, q42, x43, q43, x44, q44, x45, q45, x46, q46, x47, q47, h⟩ := h
  refine wpR_val (v := (V23 x26 x27 x28 x29 x30 x31 x32 x33 x34 x35 x36 x37 x38 x39 x40 x41 x42 x43 x44 x45 x46 x47)) (w' := w3) rfl rfl rfl (x_loadN (S23 x26 x27 x28 x29 x30 x31 x32 x33 x34 x35 x36 x37 x38 x39 x40 x41 x42 x43 x44 x45 x46 x47) rfl e3 SH_24 (K23 ⟨q26, q27, q28, q29, q30, q31, q32, q33, q34, q35, q36, q37, q38, q39, q40, q41, q42, q43, q44, q45, q46, q47⟩)) ?_
  refine wpR_enter rfl rfl rfl (x_call (vs := [(V23 x26 x27 x28 x29 x30 x31 x32 x33 x34 x35 x36 x37 x38 x39 x40 x41 x42 x43 x44 x45 x46 x47)]) rfl rfl (mapl_cons rfl mapl_nil) Try.func31 NN_31 NB_31) (Calls.mono h ?_)
  rintro _ w4 ⟨r48, rfl, h⟩
  refine ⟨_, rfl, ?_⟩
  refine wpR_val (v := (Sl.v r48)) (w' := w4) rfl rfl rfl (x_assign (v := (Sl.v r48)) rfl rfl) ?_
  refine wpR_nil ?_
  refine wpC_seq ?_
  refine wpC_seq ?_
  refine wpC_cut (fun ρ => ρ 2 = (Value.pointer (some (Addr.mk b1 0 none))) ∧ ρ 3 = (Value.pointer (some (Addr.mk b2 0 none))) ∧ ρ 5 = (Sl.v r25) ∧ ρ 6 = (Sl.v r48) ∧ True) ⟨e2, e3, e5, rfl, trivial⟩ ?_
  rintro ρ ⟨e2, e3, e5, e6, -⟩
  refine wpC_region ?_
  refine wpR_val (v := (Value.int .i64 0)) (w' := w4) rfl rfl rfl (x_assign (v := (Value.int .i64 0)) rfl rfl) ?_
  refine wpR_nil ?_
  refine wpC_block ?_
  obtain ⟨I49, μ49, hI49, hr49⟩ := h
  refine wpC_loop (fun (x : Int) ρ => ρ 7 = (Value.int .i64 x) ∧ ρ 2 = (Value.pointer (some (Addr.mk b1 0 none))) ∧ ρ 3 = (Value.pointer (some (Addr.mk b2 0 none))) ∧ ρ 5 = (Sl.v r25) ∧ ρ 6 = (Sl.v r48) ∧ True) I49 μ49 0 ⟨rfl, e2, e3, e5, e6, trivial⟩ hI49 ?_
  rintro l49 ρ w5 ⟨e7, e2, e3, e5, e6, -⟩ h
  replace h := hr49 l49 w5 h
  clear hr49 hI49
  refine wpC_seq ?_
  refine wpC_seq ?_
  refine wpC_region ?_
  refine wpR_val (v := (Value.int .i64 l49)) (w' := w5) rfl rfl rfl (x_move (v := (Value.int .i64 l49)) rfl e7) ?_
  refine wpR_val (v := (Sl.v r25)) (w' := w5) rfl rfl rfl (x_move (v := (Sl.v r25)) rfl e5) ?_
  refine wpR_val (v := (Value.int .i64 (r25.len : Int))) (w' := w5) rfl rfl rfl (x_lenS (s := r25) rfl rfl isSliceT_38) ?_
  refine wpR_val (v := (Value.bool (decide (l49 < (r25.len : Int))))) (w' := w5) rfl rfl rfl (x_lss rfl rfl rfl) ?_
  refine wpR_nil ?_
  refine wpC_cond (b := decide (l49 < (r25.len : Int))) rfl (fun hc50 => ?_) (fun hc50 => ?_)
  · replace h := h.1 hc50
    refine wpC_skip ?_
    refine wpC_seq ?_
    refine wpC_block ?_
    refine wpC_seq ?_
    refine wpC_cut (fun ρ => ρ 2 = (Value.pointer (some (Addr.mk b1 0 none))) ∧ ρ 3 = (Value.pointer (some (Addr.mk b2 0 none))) ∧ ρ 5 = (Sl.v r25) ∧ ρ 6 = (Sl.v r48) ∧ ρ 7 = (Value.int .i64 l49) ∧ True) ⟨e2, e3, e5, e6, e7, trivial⟩ ?_
    rintro ρ ⟨e2, e3, e5, e6, e7, -⟩
    obtain ⟨J52, h, hk⟩ := h
    refine wpC_drawJ (by kernel_rfl) (fun (x : Bool) ρ => ρ 28 = (Value.bool x) ∧ ρ 2 = (Value.pointer (some (Addr.mk b1 0 none))) ∧ ρ 3 = (Value.pointer (some (Addr.mk b2 0 none))) ∧ ρ 5 = (Sl.v r25) ∧ ρ 6 = (Sl.v r48) ∧ ρ 7 = (Value.int .i64 l49) ∧ True) J52 ?_ ?_
    · clear hk
      unfold tk at h
      generalize w5.drew = w6 at h ⊢
      refine wpD_take (v := (Sl.v r25)) 0 (fun _ => True) rfl (by kernel_rfl) (by kernel_rfl) (by kernel_rfl) rfl rfl rfl trivial (fun w _ => (x_move (v := (Sl.v r25)) rfl e5)) ?_
      refine wpD_take (v := (Value.int .i64 l49)) 1 (fun _ => True) rfl (by kernel_rfl) (by kernel_rfl) (by kernel_rfl) rfl rfl rfl trivial (fun w _ => (x_move (v := (Value.int .i64 l49)) rfl e7)) ?_
      obtain ⟨q53, z53, r53, h⟩ := h
      generalize hp53 : z53.add ((l49 : Int).toNat * 1) = p53 at h
      refine wpD_take (v := (Value.pointer (some p53))) 2 (fun _ => True) rfl (by kernel_rfl) (by kernel_rfl) (by kernel_rfl) rfl rfl rfl trivial (fun w _ => ((x_indexAddr (s := r25) rfl rfl rfl ES_38 q53 r53).trans (by rw [hp53]))) ?_
      obtain ⟨x54, q54, h⟩ := h
      refine wpD_take (v := (Value.int .i64 x54)) 3 (fun w => w.cell? p53 = some (Value.int .i64 x54)) rfl (by kernel_rfl) (by kernel_rfl) (by kernel_rfl) rfl rfl rfl q54 (fun w q54 => (x_load1 rfl rfl SH_3 q54)) ?_
      refine wpD_take (v := (Sl.v r48)) 4 (fun _ => True) rfl (by kernel_rfl) (by kernel_rfl) (by kernel_rfl) rfl rfl rfl trivial (fun w _ => (x_move (v := (Sl.v r48)) rfl e6)) ?_
      refine wpD_take (v := (Value.int .i64 l49)) 5 (fun _ => True) rfl (by kernel_rfl) (by kernel_rfl) (by kernel_rfl) rfl rfl rfl trivial (fun w _ => (x_move (v := (Value.int .i64 l49)) rfl e7)) ?_
      obtain ⟨q55, z55, r55, h⟩ := h
      generalize hp55 : z55.add ((l49 : Int).toNat * 1) = p55 at h
      refine wpD_take (v := (Value.pointer (some p55))) 6 (fun _ => True) rfl (by kernel_rfl) (by kernel_rfl) (by kernel_rfl) rfl rfl rfl trivial (fun w _ => ((x_indexAddr (s := r48) rfl rfl rfl ES_38 q55 r55).trans (by rw [hp55]))) ?_
      obtain ⟨x56, q56, h⟩ := h
      refine wpD_take (v := (Value.int .i64 x56)) 7 (fun w => w.cell? p55 = some (Value.int .i64 x56)) rfl (by kernel_rfl) (by kernel_rfl) (by kernel_rfl) rfl rfl rfl q56 (fun w q56 => (x_load1 rfl rfl SH_3 q56)) ?_
      refine wpD_take (v := (Value.bool (!decide (x54 = x56)))) 8 (fun _ => True) rfl (by kernel_rfl) (by kernel_rfl) (by kernel_rfl) rfl rfl rfl trivial (fun w _ => (x_neq rfl rfl rfl)) ?_
      exact wpD_done (by kernel_rfl) ⟨!decide (x54 = x56), ⟨rfl, e2, e3, e5, e6, e7, trivial⟩, h⟩
    clear h
    rintro l57 ρ w7 ⟨e28, e2, e3, e5, e6, e7, -⟩ h
    replace h := hk l57 w7 h
    clear hk
    refine wpC_cond (b := l57) e28 (fun hc58 => ?_) (fun hc58 => ?_)
    · replace h := h.1 hc58
      refine wpC_seq ?_
      refine wpC_region ?_
      refine wpR_val (v := (Value.bool false)) (w' := w7) rfl rfl rfl (x_assign (v := (Value.bool false)) rfl rfl) ?_
      refine wpR_nil ?_
      refine wpC_ret ?_
      exact ⟨.inl rfl, fun a ha => ⟨_, results_rep1 rfl ha rfl, false, rfl, h⟩⟩
    · replace h := h.2 hc58
      refine wpC_skip ?_
      refine wpC_region ?_
      refine wpR_val (v := (Value.int .i64 l49)) (w' := w7) rfl rfl rfl (x_move (v := (Value.int .i64 l49)) rfl e7) ?_
      refine wpR_val (v := (Value.int .i64 (IntKind.i64.wrap (l49 + 1)))) (w' := w7) rfl rfl rfl (x_add rfl rfl rfl) ?_
      refine wpR_val (v := (Value.int .i64 (IntKind.i64.wrap (l49 + 1)))) (w' := w7) rfl rfl rfl (x_assign (v := (Value.int .i64 (IntKind.i64.wrap (l49 + 1)))) rfl rfl) ?_
      refine wpR_nil ?_
      exact ⟨IntKind.i64.wrap (l49 + 1), ⟨rfl, e2, e3, e5, e6, trivial⟩, h⟩
  · replace h := h.2 hc50
    refine wpC_exit ?_
    refine wpC_seq ?_
    refine wpC_seq ?_
    refine wpC_cut (fun ρ => ρ 2 = (Value.pointer (some (Addr.mk b1 0 none))) ∧ ρ 3 = (Value.pointer (some (Addr.mk b2 0 none))) ∧ True) ⟨e2, e3, trivial⟩ ?_
    rintro ρ ⟨e2, e3, -⟩
    refine wpC_region ?_
    refine wpR_val (v := (Value.pointer (some ((Addr.mk b1 0 none).add 12)))) (w' := w5) rfl rfl rfl (x_fieldAddr rfl e2 FA_24_12) ?_
    obtain ⟨x59, q59, h⟩ := h
    refine wpR_val (v := (Sl.v x59)) (w' := w5) rfl rfl rfl (x_load1 rfl rfl SH_22 q59) ?_
    refine wpR_val (v := (Value.int .i64 (x59.len : Int))) (w' := w5) rfl rfl rfl (x_lenS (s := x59) rfl rfl isSliceT_22) ?_
    refine wpR_val (v := (Value.pointer (some ((Addr.mk b2 0 none).add 12)))) (w' := w5) rfl rfl rfl (x_fieldAddr rfl e3 FA_24_12) ?_
    obtain ⟨x60, q60, h⟩ := h
    refine wpR_val (v := (Sl.v x60)) (w' := w5) rfl rfl rfl (x_load1 rfl rfl SH_22 q60) ?_
    refine wpR_val (v := (Value.int .i64 (x60.len : Int))) (w' := w5) rfl rfl rfl (x_lenS (s := x60) rfl rfl isSliceT_22) ?_
    refine wpR_val (v := (Value.bool (!decide ((x59.len : Int) = (x60.len : Int))))) (w' := w5) rfl rfl rfl (x_neq rfl rfl rfl) ?_
    refine wpR_nil ?_
    refine wpC_cond (b := !decide ((x59.len : Int) = (x60.len : Int))) rfl (fun hc61 => ?_) (fun hc61 => ?_)
    · replace h := h.1 hc61
      refine wpC_seq ?_
      refine wpC_cut (fun ρ => True) trivial ?_
      rintro ρ -
      refine wpC_region ?_
      refine wpR_val (v := (Value.bool false)) (w' := w5) rfl rfl rfl (x_assign (v := (Value.bool false)) rfl rfl) ?_
      refine wpR_nil ?_
      refine wpC_ret ?_
      exact ⟨.inl rfl, fun a ha => ⟨_, results_rep1 rfl ha rfl, false, rfl, h⟩⟩
    · replace h := h.2 hc61
      refine wpC_skip ?_
      refine wpC_seq ?_
      refine wpC_seq ?_
      refine wpC_cut (fun ρ => ρ 2 = (Value.pointer (some (Addr.mk b1 0 none))) ∧ ρ 3 = (Value.pointer (some (Addr.mk b2 0 none))) ∧ True) ⟨e2, e3, trivial⟩ ?_
      rintro ρ ⟨e2, e3, -⟩
      refine wpC_region ?_
      refine wpR_val (v := (Value.int .i64 0)) (w' := w5) rfl rfl rfl (x_assign (v := (Value.int .i64 0)) rfl rfl) ?_
      refine wpR_nil ?_
      refine wpC_block ?_
      obtain ⟨I62, μ62, hI62, hr62⟩ := h
      refine wpC_loop (fun (x : Int) ρ => ρ 8 = (Value.int .i64 x) ∧ ρ 2 = (Value.pointer (some (Addr.mk b1 0 none))) ∧ ρ 3 = (Value.pointer (some (Addr.mk b2 0 none))) ∧ True) I62 μ62 0 ⟨rfl, e2, e3, trivial⟩ hI62 ?_
      rintro l62 ρ w8 ⟨e8, e2, e3, -⟩ h
      replace h := hr62 l62 w8 h
      clear hr62 hI62
      refine wpC_seq ?_
      refine wpC_seq ?_
      refine wpC_region ?_
      refine wpR_val (v := (Value.int .i64 l62)) (w' := w8) rfl rfl rfl (x_move (v := (Value.int .i64 l62)) rfl e8) ?_
      refine wpR_val (v := (Value.pointer (some ((Addr.mk b1 0 none).add 12)))) (w' := w8) rfl rfl rfl (x_fieldAddr rfl e2 FA_24_12) ?_
      obtain ⟨x63, q63, h⟩ := h
      refine wpR_val (v := (Sl.v x63)) (w' := w8) rfl rfl rfl (x_load1 rfl rfl SH_22 q63) ?_
      refine wpR_val (v := (Value.int .i64 (x63.len : Int))) (w' := w8) rfl rfl rfl (x_lenS (s := x63) rfl rfl isSliceT_22) ?_
      refine wpR_val (v := (Value.bool (decide (l62 < (x63.len : Int))))) (w' := w8) rfl rfl rfl (x_lss rfl rfl rfl) ?_
      refine wpR_nil ?_
      refine wpC_cond (b := decide (l62 < (x63.len : Int))) rfl (fun hc64 => ?_) (fun hc64 => ?_)
      · replace h := h.1 hc64
        refine wpC_skip ?_
        refine wpC_seq ?_
        refine wpC_block ?_
        refine wpC_seq ?_
        refine wpC_cut (fun ρ => ρ 2 = (Value.pointer (some (Addr.mk b1 0 none))) ∧ ρ 3 = (Value.pointer (some (Addr.mk b2 0 none))) ∧ ρ 8 = (Value.int .i64 l62) ∧ True) ⟨e2, e3, e8, trivial⟩ ?_
        rintro ρ ⟨e2, e3, e8, -⟩
        obtain ⟨J66, h, hk⟩ := h
        refine wpC_drawJ (by kernel_rfl) (fun (x : Bool) ρ => ρ 53 = (Value.bool x) ∧ ρ 2 = (Value.pointer (some (Addr.mk b1 0 none))) ∧ ρ 3 = (Value.pointer (some (Addr.mk b2 0 none))) ∧ ρ 8 = (Value.int .i64 l62) ∧ True) J66 ?_ ?_
        · clear hk
          unfold tk at h
          generalize w8.drew = w9 at h ⊢
          refine wpD_take (v := (Value.pointer (some ((Addr.mk b1 0 none).add 12)))) 0 (fun _ => True) rfl (by kernel_rfl) (by kernel_rfl) (by kernel_rfl) rfl rfl rfl trivial (fun w _ => (x_fieldAddr rfl e2 FA_24_12)) ?_
          obtain ⟨x67, q67, h⟩ := h
          refine wpD_take (v := (Sl.v x67)) 1 (fun w => w.cell? ((Addr.mk b1 0 none).add 12) = some (Sl.v x67)) rfl (by kernel_rfl) (by kernel_rfl) (by kernel_rfl) rfl rfl rfl q67 (fun w q67 => (x_load1 rfl rfl SH_22 q67)) ?_
          refine wpD_take (v := (Value.int .i64 l62)) 2 (fun _ => True) rfl (by kernel_rfl) (by kernel_rfl) (by kernel_rfl) rfl rfl rfl trivial (fun w _ => (x_move (v := (Value.int .i64 l62)) rfl e8)) ?_
          obtain ⟨q68, z68, r68, h⟩ := h
          generalize hp68 : z68.add ((l62 : Int).toNat * 1) = p68 at h
          refine wpD_take (v := (Value.pointer (some p68))) 3 (fun _ => True) rfl (by kernel_rfl) (by kernel_rfl) (by kernel_rfl) rfl rfl rfl trivial (fun w _ => ((x_indexAddr (s := x67) rfl rfl rfl ES_22 q68 r68).trans (by rw [hp68]))) ?_
          obtain ⟨x69, q69, h⟩ := h
          refine wpD_take (v := (Value.string x69)) 4 (fun w => w.cell? p68 = some (Value.string x69)) rfl (by kernel_rfl) (by kernel_rfl) (by kernel_rfl) rfl rfl rfl q69 (fun w q69 => (x_load1 rfl rfl SH_9 q69)) ?_
          refine wpD_take (v := (Value.pointer (some ((Addr.mk b2 0 none).add 12)))) 5 (fun _ => True) rfl (by kernel_rfl) (by kernel_rfl) (by kernel_rfl) rfl rfl rfl trivial (fun w _ => (x_fieldAddr rfl e3 FA_24_12)) ?_
          obtain ⟨x70, q70, h⟩ := h
          refine wpD_take (v := (Sl.v x70)) 6 (fun w => w.cell? ((Addr.mk b2 0 none).add 12) = some (Sl.v x70)) rfl (by kernel_rfl) (by kernel_rfl) (by kernel_rfl) rfl rfl rfl q70 (fun w q70 => (x_load1 rfl rfl SH_22 q70)) ?_
          refine wpD_take (v := (Value.int .i64 l62)) 7 (fun _ => True) rfl (by kernel_rfl) (by kernel_rfl) (by kernel_rfl) rfl rfl rfl trivial (fun w _ => (x_move (v := (Value.int .i64 l62)) rfl e8)) ?_
          obtain ⟨q71, z71, r71, h⟩ := h
          generalize hp71 : z71.add ((l62 : Int).toNat * 1) = p71 at h
          refine wpD_take (v := (Value.pointer (some p71))) 8 (fun _ => True) rfl (by kernel_rfl) (by kernel_rfl) (by kernel_rfl) rfl rfl rfl trivial (fun w _ => ((x_indexAddr (s := x70) rfl rfl rfl ES_22 q71 r71).trans (by rw [hp71]))) ?_
          obtain ⟨x72, q72, h⟩ := h
          refine wpD_take (v := (Value.string x72)) 9 (fun w => w.cell? p71 = some (Value.string x72)) rfl (by kernel_rfl) (by kernel_rfl) (by kernel_rfl) rfl rfl rfl q72 (fun w q72 => (x_load1 rfl rfl SH_9 q72)) ?_
          refine wpD_take (v := (Value.bool (!beqS x69 x72))) 10 (fun _ => True) rfl (by kernel_rfl) (by kernel_rfl) (by kernel_rfl) rfl rfl rfl trivial (fun w _ => (x_neqS rfl rfl rfl)) ?_
          exact wpD_done (by kernel_rfl) ⟨!beqS x69 x72, ⟨rfl, e2, e3, e8, trivial⟩, h⟩
        clear h
        rintro l73 ρ w10 ⟨e53, e2, e3, e8, -⟩ h
        replace h := hk l73 w10 h
        clear hk
        refine wpC_cond (b := l73) e53 (fun hc74 => ?_) (fun hc74 => ?_)
        · replace h := h.1 hc74
          refine wpC_seq ?_
          refine wpC_region ?_
          refine wpR_val (v := (Value.bool false)) (w' := w10) rfl rfl rfl (x_assign (v := (Value.bool false)) rfl rfl) ?_
          refine wpR_nil ?_
          refine wpC_ret ?_
          exact ⟨.inl rfl, fun a ha => ⟨_, results_rep1 rfl ha rfl, false, rfl, h⟩⟩
        · replace h := h.2 hc74
          refine wpC_skip ?_
          refine wpC_region ?_
          refine wpR_val (v := (Value.int .i64 l62)) (w' := w10) rfl rfl rfl (x_move (v := (Value.int .i64 l62)) rfl e8) ?_
          refine wpR_val (v := (Value.int .i64 (IntKind.i64.wrap (l62 + 1)))) (w' := w10) rfl rfl rfl (x_add rfl rfl rfl) ?_
          refine wpR_val (v := (Value.int .i64 (IntKind.i64.wrap (l62 + 1)))) (w' := w10) rfl rfl rfl (x_assign (v := (Value.int .i64 (IntKind.i64.wrap (l62 + 1)))) rfl rfl) ?_
          refine wpR_nil ?_
          exact ⟨IntKind.i64.wrap (l62 + 1), ⟨rfl, e2, e3, trivial⟩, h⟩
      · replace h := h.2 hc64
        refine wpC_exit ?_
        refine wpC_seq ?_
        refine wpC_cut (fun ρ => ρ 2 = (Value.pointer (some (Addr.mk b1 0 none))) ∧ ρ 3 = (Value.pointer (some (Addr.mk b2 0 none))) ∧ True) ⟨e2, e3, trivial⟩ ?_
        rintro ρ ⟨e2, e3, -⟩
        refine wpC_region ?_
        refine wpR_val (v := (Value.pointer (some ((Addr.mk b1 0 none).add 0)))) (w' := w8) rfl rfl rfl (x_fieldAddr rfl e2 FA_24_0) ?_
        obtain ⟨x75, q75, h⟩ := h
        refine wpR_val (v := (Value.string x75)) (w' := w8) rfl rfl rfl (x_load1 rfl rfl SH_9 q75) ?_
        refine wpR_val (v := (Value.pointer (some ((Addr.mk b2 0 none).add 0)))) (w' := w8) rfl rfl rfl (x_fieldAddr rfl e3 FA_24_0) ?_
        obtain ⟨x76, q76, h⟩ := h
        refine wpR_val (v := (Value.string x76)) (w' := w8) rfl rfl rfl (x_load1 rfl rfl SH_9 q76) ?_
        refine wpR_val (v := (Value.bool (beqS x75 x76))) (w' := w8) rfl rfl rfl (x_eqlS rfl rfl rfl) ?_
        refine wpR_val (v := (Value.bool (beqS x75 x76))) (w' := w8) rfl rfl rfl (x_move (v := (Value.bool (beqS x75 x76))) rfl rfl) ?_
        obtain ⟨J77, h, hk⟩ := h
        refine wpR_joinJ 6 (fun x ρ => ρ 65 = Value.bool x ∧ ρ 2 = (Value.pointer (some (Addr.mk b1 0 none))) ∧ ρ 3 = (Value.pointer (some (Addr.mk b2 0 none))) ∧ True) (fun x w => J77 x ∧ w8 = w) ?_ ?_
        · clear hk
          rcases Bool.eq_false_or_eq_true (beqS x75 x76) with hc78 | hc78
          · replace h := h.1 hc78
            refine wpR_val (v := (Value.pointer (some ((Addr.mk b1 0 none).add 2)))) (w' := w8) (wantG rfl rfl rfl hc78) rfl rfl (x_fieldAddr rfl e2 FA_24_2) ?_
            obtain ⟨x79, q79, h⟩ := h
            refine wpR_val (v := (Value.int .i64 x79)) (w' := w8) (wantG rfl rfl rfl hc78) rfl rfl (x_load1 rfl rfl SH_3 q79) ?_
            refine wpR_val (v := (Value.pointer (some ((Addr.mk b2 0 none).add 2)))) (w' := w8) (wantG rfl rfl rfl hc78) rfl rfl (x_fieldAddr rfl e3 FA_24_2) ?_
            obtain ⟨x80, q80, h⟩ := h
            refine wpR_val (v := (Value.int .i64 x80)) (w' := w8) (wantG rfl rfl rfl hc78) rfl rfl (x_load1 rfl rfl SH_3 q80) ?_
            refine wpR_val (v := (Value.bool (decide (x79 = x80)))) (w' := w8) (wantG rfl rfl rfl hc78) rfl rfl (x_eql rfl rfl rfl) ?_
            refine wpR_val (v := (Value.bool (decide (x79 = x80)))) (w' := w8) rfl rfl rfl (x_pickT (v := (Value.bool (decide (x79 = x80)))) rfl rfl hc78 rfl) ?_
            refine wpR_nil ?_
            exact ⟨decide (x79 = x80), ⟨rfl, e2, e3, trivial⟩, h, rfl⟩
          · replace h := h.2 hc78
            refine wpR_pass (wantN rfl rfl rfl hc78) rfl rfl ?_
            refine wpR_pass (wantN rfl rfl rfl hc78) rfl rfl ?_
            refine wpR_pass (wantN rfl rfl rfl hc78) rfl rfl ?_
            refine wpR_pass (wantN rfl rfl rfl hc78) rfl rfl ?_
            refine wpR_pass (wantN rfl rfl rfl hc78) rfl rfl ?_
            refine wpR_val (v := (Value.bool false)) (w' := w8) rfl rfl rfl (x_pickF (v := (Value.bool false)) rfl rfl hc78 rfl) ?_
            refine wpR_nil ?_
            exact ⟨false, ⟨rfl, e2, e3, trivial⟩, h, rfl⟩
        clear h
        rintro c81 ρ wj ⟨e65, e2, e3, -⟩ ⟨h, rfl⟩
        replace h := hk c81 h
        clear hk
        refine wpR_val (v := (Value.bool c81)) (w' := w8) rfl rfl rfl (x_move (v := (Value.bool c81)) rfl e65) ?_
        obtain ⟨J82, h, hk⟩ := h
        refine wpR_joinJ 6 (fun x ρ => ρ 72 = Value.bool x ∧ ρ 2 = (Value.pointer (some (Addr.mk b1 0 none))) ∧ ρ 3 = (Value.pointer (some (Addr.mk b2 0 none))) ∧ True) (fun x w => J82 x ∧ w8 = w) ?_ ?_
        · clear hk
          rcases Bool.eq_false_or_eq_true (c81) with hc83 | hc83
          · replace h := h.1 hc83
            refine wpR_val (v := (Value.pointer (some ((Addr.mk b1 0 none).add 13)))) (w' := w8) (wantG rfl rfl rfl hc83) rfl rfl (x_fieldAddr rfl e2 FA_24_13) ?_
            obtain ⟨x84, q84, h⟩ := h
            refine wpR_val (v := (Value.int .i64 x84)) (w' := w8) (wantG rfl rfl rfl hc83) rfl rfl (x_load1 rfl rfl SH_3 q84) ?_
            refine wpR_val (v := (Value.pointer (some ((Addr.mk b2 0 none).add 13)))) (w' := w8) (wantG rfl rfl rfl hc83) rfl rfl (x_fieldAddr rfl e3 FA_24_13) ?_
            obtain ⟨x85, q85, h⟩ := h
            refine wpR_val (v := (Value.int .i64 x85)) (w' := w8) (wantG rfl rfl rfl hc83) rfl rfl (x_load1 rfl rfl SH_3 q85) ?_
            refine wpR_val (v := (Value.bool (decide (x84 = x85)))) (w' := w8) (wantG rfl rfl rfl hc83) rfl rfl (x_eql rfl rfl rfl) ?_
            refine wpR_val (v := (Value.bool (decide (x84 = x85)))) (w' := w8) rfl rfl rfl (x_pickT (v := (Value.bool (decide (x84 = x85)))) rfl rfl hc83 rfl) ?_
            refine wpR_nil ?_
            exact ⟨decide (x84 = x85), ⟨rfl, e2, e3, trivial⟩, h, rfl⟩
          · replace h := h.2 hc83
            refine wpR_pass (wantN rfl rfl rfl hc83) rfl rfl ?_
            refine wpR_pass (wantN rfl rfl rfl hc83) rfl rfl ?_
            refine wpR_pass (wantN rfl rfl rfl hc83) rfl rfl ?_
            refine wpR_pass (wantN rfl rfl rfl hc83) rfl rfl ?_
            refine wpR_pass (wantN rfl rfl rfl hc83) rfl rfl ?_
            refine wpR_val (v := (Value.bool false)) (w' := w8) rfl rfl rfl (x_pickF (v := (Value.bool false)) rfl rfl hc83 rfl) ?_
            refine wpR_nil ?_
            exact ⟨false, ⟨rfl, e2, e3, trivial⟩, h, rfl⟩
        clear h
        rintro c86 ρ wj ⟨e72, e2, e3, -⟩ ⟨h, rfl⟩
        replace h := hk c86 h
        clear hk
        refine wpR_val (v := (Value.bool c86)) (w' := w8) rfl rfl rfl (x_move (v := (Value.bool c86)) rfl e72) ?_
        obtain ⟨J87, h, hk⟩ := h
        refine wpR_joinJ 6 (fun x ρ => ρ 79 = Value.bool x ∧ ρ 2 = (Value.pointer (some (Addr.mk b1 0 none))) ∧ ρ 3 = (Value.pointer (some (Addr.mk b2 0 none))) ∧ True) (fun x w => J87 x ∧ w8 = w) ?_ ?_
        · clear hk
          rcases Bool.eq_false_or_eq_true (c86) with hc88 | hc88
          · replace h := h.1 hc88
            refine wpR_val (v := (Value.pointer (some ((Addr.mk b1 0 none).add 14)))) (w' := w8) (wantG rfl rfl rfl hc88) rfl rfl (x_fieldAddr rfl e2 FA_24_14) ?_
            obtain ⟨x89, q89, h⟩ := h
            refine wpR_val (v := (Value.int .i64 x89)) (w' := w8) (wantG rfl rfl rfl hc88) rfl rfl (x_load1 rfl rfl SH_3 q89) ?_
            refine wpR_val (v := (Value.pointer (some ((Addr.mk b2 0 none).add 14)))) (w' := w8) (wantG rfl rfl rfl hc88) rfl rfl (x_fieldAddr rfl e3 FA_24_14) ?_
            obtain ⟨x90, q90, h⟩ := h
            refine wpR_val (v := (Value.int .i64 x90)) (w' := w8) (wantG rfl rfl rfl hc88) rfl rfl (x_load1 rfl rfl SH_3 q90) ?_
            refine wpR_val (v := (Value.bool (decide (x89 = x90)))) (w' := w8) (wantG rfl rfl rfl hc88) rfl rfl (x_eql rfl rfl rfl) ?_
            refine wpR_val (v := (Value.bool (decide (x89 = x90)))) (w' := w8) rfl rfl rfl (x_pickT (v := (Value.bool (decide (x89 = x90)))) rfl rfl hc88 rfl) ?_
            refine wpR_nil ?_
            exact ⟨decide (x89 = x90), ⟨rfl, e2, e3, trivial⟩, h, rfl⟩
          · replace h := h.2 hc88
            refine wpR_pass (wantN rfl rfl rfl hc88) rfl rfl ?_
            refine wpR_pass (wantN rfl rfl rfl hc88) rfl rfl ?_
            refine wpR_pass (wantN rfl rfl rfl hc88) rfl rfl ?_
            refine wpR_pass (wantN rfl rfl rfl hc88) rfl rfl ?_
            refine wpR_pass (wantN rfl rfl rfl hc88) rfl rfl ?_
            refine wpR_val (v := (Value.bool false)) (w' := w8) rfl rfl rfl (x_pickF (v := (Value.bool false)) rfl rfl hc88 rfl) ?_
            refine wpR_nil ?_
            exact ⟨false, ⟨rfl, e2, e3, trivial⟩, h, rfl⟩
        clear h
        rintro c91 ρ wj ⟨e79, e2, e3, -⟩ ⟨h, rfl⟩
        replace h := hk c91 h
        clear hk
        refine wpR_val (v := (Value.bool c91)) (w' := w8) rfl rfl rfl (x_move (v := (Value.bool c91)) rfl e79) ?_
        obtain ⟨J92, h, hk⟩ := h
        refine wpR_joinJ 6 (fun x ρ => ρ 86 = Value.bool x ∧ ρ 2 = (Value.pointer (some (Addr.mk b1 0 none))) ∧ ρ 3 = (Value.pointer (some (Addr.mk b2 0 none))) ∧ True) (fun x w => J92 x ∧ w8 = w) ?_ ?_
        · clear hk
          rcases Bool.eq_false_or_eq_true (c91) with hc93 | hc93
          · replace h := h.1 hc93
            refine wpR_val (v := (Value.pointer (some ((Addr.mk b1 0 none).add 15)))) (w' := w8) (wantG rfl rfl rfl hc93) rfl rfl (x_fieldAddr rfl e2 FA_24_15) ?_
            obtain ⟨x94, q94, h⟩ := h
            refine wpR_val (v := (Value.int .i64 x94)) (w' := w8) (wantG rfl rfl rfl hc93) rfl rfl (x_load1 rfl rfl SH_3 q94) ?_
            refine wpR_val (v := (Value.pointer (some ((Addr.mk b2 0 none).add 15)))) (w' := w8) (wantG rfl rfl rfl hc93) rfl rfl (x_fieldAddr rfl e3 FA_24_15) ?_
            obtain ⟨x95, q95, h⟩ := h
            refine wpR_val (v := (Value.int .i64 x95)) (w' := w8) (wantG rfl rfl rfl hc93) rfl rfl (x_load1 rfl rfl SH_3 q95) ?_
            refine wpR_val (v := (Value.bool (decide (x94 = x95)))) (w' := w8) (wantG rfl rfl rfl hc93) rfl rfl (x_eql rfl rfl rfl) ?_
            refine wpR_val (v := (Value.bool (decide (x94 = x95)))) (w' := w8) rfl rfl rfl (x_pickT (v := (Value.bool (decide (x94 = x95)))) rfl rfl hc93 rfl) ?_
            refine wpR_nil ?_
            exact ⟨decide (x94 = x95), ⟨rfl, e2, e3, trivial⟩, h, rfl⟩
          · replace h := h.2 hc93
            refine wpR_pass (wantN rfl rfl rfl hc93) rfl rfl ?_
            refine wpR_pass (wantN rfl rfl rfl hc93) rfl rfl ?_
            refine wpR_pass (wantN rfl rfl rfl hc93) rfl rfl ?_
            refine wpR_pass (wantN rfl rfl rfl hc93) rfl rfl ?_
            refine wpR_pass (wantN rfl rfl rfl hc93) rfl rfl ?_
            refine wpR_val (v := (Value.bool false)) (w' := w8) rfl rfl rfl (x_pickF (v := (Value.bool false)) rfl rfl hc93 rfl) ?_
            refine wpR_nil ?_
            exact ⟨false, ⟨rfl, e2, e3, trivial⟩, h, rfl⟩
        clear h
        rintro c96 ρ wj ⟨e86, e2, e3, -⟩ ⟨h, rfl⟩
        replace h := hk c96 h
        clear hk
        refine wpR_val (v := (Value.bool c96)) (w' := w8) rfl rfl rfl (x_assign (v := (Value.bool c96)) rfl e86) ?_
        refine wpR_nil ?_
        refine wpC_seq ?_
        refine wpC_cut (fun ρ => ρ 2 = (Value.pointer (some (Addr.mk b1 0 none))) ∧ ρ 3 = (Value.pointer (some (Addr.mk b2 0 none))) ∧ ρ 9 = (Value.bool c96) ∧ True) ⟨e2, e3, rfl, trivial⟩ ?_
        rintro ρ ⟨e2, e3, e9, -⟩
        refine wpC_region ?_
        refine wpR_val (v := (Value.bool c96)) (w' := w8) rfl rfl rfl (x_move (v := (Value.bool c96)) rfl e9) ?_
        refine wpR_val (v := (Value.bool c96)) (w' := w8) rfl rfl rfl (x_move (v := (Value.bool c96)) rfl rfl) ?_
        obtain ⟨J97, h, hk⟩ := h
        refine wpR_joinJ 6 (fun x ρ => ρ 94 = Value.bool x ∧ ρ 2 = (Value.pointer (some (Addr.mk b1 0 none))) ∧ ρ 3 = (Value.pointer (some (Addr.mk b2 0 none))) ∧ True) (fun x w => J97 x ∧ w8 = w) ?_ ?_
        · clear hk
          rcases Bool.eq_false_or_eq_true (c96) with hc98 | hc98
          · replace h := h.1 hc98
            refine wpR_val (v := (Value.pointer (some ((Addr.mk b1 0 none).add 17)))) (w' := w8) (wantG rfl rfl rfl hc98) rfl rfl (x_fieldAddr rfl e2 FA_24_17) ?_
            obtain ⟨x99, q99, h⟩ := h
            refine wpR_val (v := (Value.bool x99)) (w' := w8) (wantG rfl rfl rfl hc98) rfl rfl (x_load1 rfl rfl SH_4 q99) ?_
            refine wpR_val (v := (Value.pointer (some ((Addr.mk b2 0 none).add 17)))) (w' := w8) (wantG rfl rfl rfl hc98) rfl rfl (x_fieldAddr rfl e3 FA_24_17) ?_
            obtain ⟨x100, q100, h⟩ := h
            refine wpR_val (v := (Value.bool x100)) (w' := w8) (wantG rfl rfl rfl hc98) rfl rfl (x_load1 rfl rfl SH_4 q100) ?_
            refine wpR_val (v := (Value.bool (x99 == x100))) (w' := w8) (wantG rfl rfl rfl hc98) rfl rfl (x_eqlB rfl rfl rfl isBoolT_4) ?_
            refine wpR_val (v := (Value.bool (x99 == x100))) (w' := w8) rfl rfl rfl (x_pickT (v := (Value.bool (x99 == x100))) rfl rfl hc98 rfl) ?_
            refine wpR_nil ?_
            exact ⟨x99 == x100, ⟨rfl, e2, e3, trivial⟩, h, rfl⟩
          · replace h := h.2 hc98
            refine wpR_pass (wantN rfl rfl rfl hc98) rfl rfl ?_
            refine wpR_pass (wantN rfl rfl rfl hc98) rfl rfl ?_
            refine wpR_pass (wantN rfl rfl rfl hc98) rfl rfl ?_
            refine wpR_pass (wantN rfl rfl rfl hc98) rfl rfl ?_
            refine wpR_pass (wantN rfl rfl rfl hc98) rfl rfl ?_
            refine wpR_val (v := (Value.bool false)) (w' := w8) rfl rfl rfl (x_pickF (v := (Value.bool false)) rfl rfl hc98 rfl) ?_
            refine wpR_nil ?_
            exact ⟨false, ⟨rfl, e2, e3, trivial⟩, h, rfl⟩
        clear h
        rintro c101 ρ wj ⟨e94, e2, e3, -⟩ ⟨h, rfl⟩
        replace h := hk c101 h
        clear hk
        refine wpR_val (v := (Value.bool c101)) (w' := w8) rfl rfl rfl (x_move (v := (Value.bool c101)) rfl e94) ?_
        obtain ⟨J102, h, hk⟩ := h
        refine wpR_joinJ 6 (fun x ρ => ρ 101 = Value.bool x ∧ ρ 2 = (Value.pointer (some (Addr.mk b1 0 none))) ∧ ρ 3 = (Value.pointer (some (Addr.mk b2 0 none))) ∧ True) (fun x w => J102 x ∧ w8 = w) ?_ ?_
        · clear hk
          rcases Bool.eq_false_or_eq_true (c101) with hc103 | hc103
          · replace h := h.1 hc103
            refine wpR_val (v := (Value.pointer (some ((Addr.mk b1 0 none).add 18)))) (w' := w8) (wantG rfl rfl rfl hc103) rfl rfl (x_fieldAddr rfl e2 FA_24_18) ?_
            obtain ⟨x104, q104, h⟩ := h
            refine wpR_val (v := (Value.int .i64 x104)) (w' := w8) (wantG rfl rfl rfl hc103) rfl rfl (x_load1 rfl rfl SH_3 q104) ?_
            refine wpR_val (v := (Value.pointer (some ((Addr.mk b2 0 none).add 18)))) (w' := w8) (wantG rfl rfl rfl hc103) rfl rfl (x_fieldAddr rfl e3 FA_24_18) ?_
            obtain ⟨x105, q105, h⟩ := h
            refine wpR_val (v := (Value.int .i64 x105)) (w' := w8) (wantG rfl rfl rfl hc103) rfl rfl (x_load1 rfl rfl SH_3 q105) ?_
            refine wpR_val (v := (Value.bool (decide (x104 = x105)))) (w' := w8) (wantG rfl rfl rfl hc103) rfl rfl (x_eql rfl rfl rfl) ?_
            refine wpR_val (v := (Value.bool (decide (x104 = x105)))) (w' := w8) rfl rfl rfl (x_pickT (v := (Value.bool (decide (x104 = x105)))) rfl rfl hc103 rfl) ?_
            refine wpR_nil ?_
            exact ⟨decide (x104 = x105), ⟨rfl, e2, e3, trivial⟩, h, rfl⟩
          · replace h := h.2 hc103
            refine wpR_pass (wantN rfl rfl rfl hc103) rfl rfl ?_
            refine wpR_pass (wantN rfl rfl rfl hc103) rfl rfl ?_
            refine wpR_pass (wantN rfl rfl rfl hc103) rfl rfl ?_
            refine wpR_pass (wantN rfl rfl rfl hc103) rfl rfl ?_
            refine wpR_pass (wantN rfl rfl rfl hc103) rfl rfl ?_
            refine wpR_val (v := (Value.bool false)) (w' := w8) rfl rfl rfl (x_pickF (v := (Value.bool false)) rfl rfl hc103 rfl) ?_
            refine wpR_nil ?_
            exact ⟨false, ⟨rfl, e2, e3, trivial⟩, h, rfl⟩
        clear h
        rintro c106 ρ wj ⟨e101, e2, e3, -⟩ ⟨h, rfl⟩
        replace h := hk c106 h
        clear hk
        refine wpR_val (v := (Value.bool c106)) (w' := w8) rfl rfl rfl (x_move (v := (Value.bool c106)) rfl e101) ?_
        obtain ⟨J107, h, hk⟩ := h
        refine wpR_joinJ 6 (fun x ρ => ρ 108 = Value.bool x ∧ ρ 2 = (Value.pointer (some (Addr.mk b1 0 none))) ∧ ρ 3 = (Value.pointer (some (Addr.mk b2 0 none))) ∧ True) (fun x w => J107 x ∧ w8 = w) ?_ ?_
        · clear hk
          rcases Bool.eq_false_or_eq_true (c106) with hc108 | hc108
          · replace h := h.1 hc108
            refine wpR_val (v := (Value.pointer (some ((Addr.mk b1 0 none).add 19)))) (w' := w8) (wantG rfl rfl rfl hc108) rfl rfl (x_fieldAddr rfl e2 FA_24_19) ?_
            obtain ⟨x109, q109, h⟩ := h
            refine wpR_val (v := (Value.int .i64 x109)) (w' := w8) (wantG rfl rfl rfl hc108) rfl rfl (x_load1 rfl rfl SH_3 q109) ?_
            refine wpR_val (v := (Value.pointer (some ((Addr.mk b2 0 none).add 19)))) (w' := w8) (wantG rfl rfl rfl hc108) rfl rfl (x_fieldAddr rfl e3 FA_24_19) ?_
            obtain ⟨x110, q110, h⟩ := h
            refine wpR_val (v := (Value.int .i64 x110)) (w' := w8) (wantG rfl rfl rfl hc108) rfl rfl (x_load1 rfl rfl SH_3 q110) ?_
            refine wpR_val (v := (Value.bool (decide (x109 = x110)))) (w' := w8) (wantG rfl rfl rfl hc108) rfl rfl (x_eql rfl rfl rfl) ?_
            refine wpR_val (v := (Value.bool (decide (x109 = x110)))) (w' := w8) rfl rfl rfl (x_pickT (v := (Value.bool (decide (x109 = x110)))) rfl rfl hc108 rfl) ?_
            refine wpR_nil ?_
            exact ⟨decide (x109 = x110), ⟨rfl, e2, e3, trivial⟩, h, rfl⟩
          · replace h := h.2 hc108
            refine wpR_pass (wantN rfl rfl rfl hc108) rfl rfl ?_
            refine wpR_pass (wantN rfl rfl rfl hc108) rfl rfl ?_
            refine wpR_pass (wantN rfl rfl rfl hc108) rfl rfl ?_
            refine wpR_pass (wantN rfl rfl rfl hc108) rfl rfl ?_
            refine wpR_pass (wantN rfl rfl rfl hc108) rfl rfl ?_
            refine wpR_val (v := (Value.bool false)) (w' := w8) rfl rfl rfl (x_pickF (v := (Value.bool false)) rfl rfl hc108 rfl) ?_
            refine wpR_nil ?_
            exact ⟨false, ⟨rfl, e2, e3, trivial⟩, h, rfl⟩
        clear h
        rintro c111 ρ wj ⟨e108, e2, e3, -⟩ ⟨h, rfl⟩
        replace h := hk c111 h
        clear hk
        refine wpR_val (v := (Value.bool c111)) (w' := w8) rfl rfl rfl (x_move (v := (Value.bool c111)) rfl e108) ?_
        obtain ⟨J112, h, hk⟩ := h
        refine wpR_joinJ 6 (fun x ρ => ρ 115 = Value.bool x ∧ ρ 2 = (Value.pointer (some (Addr.mk b1 0 none))) ∧ ρ 3 = (Value.pointer (some (Addr.mk b2 0 none))) ∧ True) (fun x w => J112 x ∧ w8 = w) ?_ ?_
        · clear hk
          rcases Bool.eq_false_or_eq_true (c111) with hc113 | hc113
          · replace h := h.1 hc113
            refine wpR_val (v := (Value.pointer (some ((Addr.mk b1 0 none).add 20)))) (w' := w8) (wantG rfl rfl rfl hc113) rfl rfl (x_fieldAddr rfl e2 FA_24_20) ?_
            obtain ⟨x114, q114, h⟩ := h
            refine wpR_val (v := (Value.int .i64 x114)) (w' := w8) (wantG rfl rfl rfl hc113) rfl rfl (x_load1 rfl rfl SH_3 q114) ?_
            refine wpR_val (v := (Value.pointer (some ((Addr.mk b2 0 none).add 20)))) (w' := w8) (wantG rfl rfl rfl hc113) rfl rfl (x_fieldAddr rfl e3 FA_24_20) ?_
            obtain ⟨x115, q115, h⟩ := h
            refine wpR_val (v := (Value.int .i64 x115)) (w' := w8) (wantG rfl rfl rfl hc113) rfl rfl (x_load1 rfl rfl SH_3 q115) ?_
            refine wpR_val (v := (Value.bool (decide (x114 = x115)))) (w' := w8) (wantG rfl rfl rfl hc113) rfl rfl (x_eql rfl rfl rfl) ?_
            refine wpR_val (v := (Value.bool (decide (x114 = x115)))) (w' := w8) rfl rfl rfl (x_pickT (v := (Value.bool (decide (x114 = x115)))) rfl rfl hc113 rfl) ?_
            refine wpR_nil ?_
            exact ⟨decide (x114 = x115), ⟨rfl, e2, e3, trivial⟩, h, rfl⟩
          · replace h := h.2 hc113
            refine wpR_pass (wantN rfl rfl rfl hc113) rfl rfl ?_
            refine wpR_pass (wantN rfl rfl rfl hc113) rfl rfl ?_
            refine wpR_pass (wantN rfl rfl rfl hc113) rfl rfl ?_
            refine wpR_pass (wantN rfl rfl rfl hc113) rfl rfl ?_
            refine wpR_pass (wantN rfl rfl rfl hc113) rfl rfl ?_
            refine wpR_val (v := (Value.bool false)) (w' := w8) rfl rfl rfl (x_pickF (v := (Value.bool false)) rfl rfl hc113 rfl) ?_
            refine wpR_nil ?_
            exact ⟨false, ⟨rfl, e2, e3, trivial⟩, h, rfl⟩
        clear h
        rintro c116 ρ wj ⟨e115, e2, e3, -⟩ ⟨h, rfl⟩
        replace h := hk c116 h
        clear hk
        refine wpR_val (v := (Value.bool c116)) (w' := w8) rfl rfl rfl (x_move (v := (Value.bool c116)) rfl e115) ?_
        obtain ⟨J117, h, hk⟩ := h
        refine wpR_joinJ 6 (fun x ρ => ρ 122 = Value.bool x ∧ True) (fun x w => J117 x ∧ w8 = w) ?_ ?_
        · clear hk
          rcases Bool.eq_false_or_eq_true (c116) with hc118 | hc118
          · replace h := h.1 hc118
            refine wpR_val (v := (Value.pointer (some ((Addr.mk b1 0 none).add 21)))) (w' := w8) (wantG rfl rfl rfl hc118) rfl rfl (x_fieldAddr rfl e2 FA_24_21) ?_
            obtain ⟨x119, q119, h⟩ := h
            refine wpR_val (v := (Value.int .i64 x119)) (w' := w8) (wantG rfl rfl rfl hc118) rfl rfl (x_load1 rfl rfl SH_3 q119) ?_
            refine wpR_val (v := (Value.pointer (some ((Addr.mk b2 0 none).add 21)))) (w' := w8) (wantG rfl rfl rfl hc118) rfl rfl (x_fieldAddr rfl e3 FA_24_21) ?_
            obtain ⟨x120, q120, h⟩ := h
            refine wpR_val (v := (Value.int .i64 x120)) (w' := w8) (wantG rfl rfl rfl hc118) rfl rfl (x_load1 rfl rfl SH_3 q120) ?_
            refine wpR_val (v := (Value.bool (decide (x119 = x120)))) (w' := w8) (wantG rfl rfl rfl hc118) rfl rfl (x_eql rfl rfl rfl) ?_
            refine wpR_val (v := (Value.bool (decide (x119 = x120)))) (w' := w8) rfl rfl rfl (x_pickT (v := (Value.bool (decide (x119 = x120)))) rfl rfl hc118 rfl) ?_
            refine wpR_nil ?_
            exact ⟨decide (x119 = x120), ⟨rfl, trivial⟩, h, rfl⟩
          · replace h := h.2 hc118
            refine wpR_pass (wantN rfl rfl rfl hc118) rfl rfl ?_
            refine wpR_pass (wantN rfl rfl rfl hc118) rfl rfl ?_
            refine wpR_pass (wantN rfl rfl rfl hc118) rfl rfl ?_
            refine wpR_pass (wantN rfl rfl rfl hc118) rfl rfl ?_
            refine wpR_pass (wantN rfl rfl rfl hc118) rfl rfl ?_
            refine wpR_val (v := (Value.bool false)) (w' := w8) rfl rfl rfl (x_pickF (v := (Value.bool false)) rfl rfl hc118 rfl) ?_
            refine wpR_nil ?_
            exact ⟨false, ⟨rfl, trivial⟩, h, rfl⟩
        clear h
        rintro c121 ρ wj ⟨e122, -⟩ ⟨h, rfl⟩
        replace h := hk c121 h
        clear hk
        refine wpR_val (v := (Value.bool c121)) (w' := w8) rfl rfl rfl (x_assign (v := (Value.bool c121)) rfl e122) ?_
        refine wpR_nil ?_
        refine wpC_ret ?_
        exact ⟨.inl rfl, fun a ha => ⟨_, results_rep1 rfl ha rfl, c121, rfl, h⟩⟩


end Go.Proofs.Ytadlnbdelkbboaa
