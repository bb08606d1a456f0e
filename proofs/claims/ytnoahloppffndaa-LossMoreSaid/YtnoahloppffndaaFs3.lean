import Derived.Test.YtnoahloppffndaaRows
import Derived.Test.YtnoahloppffndaaFs1
import Derived.Test.YtnoahloppffndaaDecRaw
namespace Go.Proofs.Ytnoahloppffndaa
open Go.Dec
set_option maxHeartbeats 400000
set_option maxRecDepth 100000

/-- profile.Check -/
def F17 (p0_0 : ByteArray) (p0_1 : Int) (p0_2 : Int) (p0_3 : Int) (p0_4 : Bool) (p0_5 : Int) (p0_6 : Bool) (p0_7 : Bool) (p0_8 : Int) (p0_9 : Int) (p0_10 : Int) (p0_11 : Int) (p0_12 : Sl) (p0_13 : Int) (p0_14 : Int) (p0_15 : Int) (p0_16 : Int) (p0_17 : Bool) (p0_18 : Int) (p0_19 : Int) (p0_20 : Int) (p0_21 : Int) (w0 : World) (K : Int → World → Prop) : Prop :=
  nw 24 (A23 p0_0 p0_1 p0_2 p0_3 p0_4 p0_5 p0_6 p0_7 p0_8 p0_9 p0_10 p0_11 p0_12 p0_13 p0_14 p0_15 p0_16 p0_17 p0_18 p0_19 p0_20 p0_21) w0 fun b9 w1 =>
  L23 (Addr.mk b9 0 none) w1 fun x10 x11 x12 x13 x14 x15 x16 x17 x18 x19 x20 x21 x22 x23 x24 x25 x26 x27 x28 x29 x30 x31 =>
  callC Try.prog 39 #[(V23 x10 x11 x12 x13 x14 x15 x16 x17 x18 x19 x20 x21 x22 x23 x24 x25 x26 x27 x28 x29 x30 x31)] (fun (r : Bool) => (Value.bool r)) w1 fun r32 w2 =>
  cnd (!r32)
    (
    K 1 w2
    )
    (
    ld (Value.int .i64) ((Addr.mk b9 0 none).add 8) w2 fun x34 =>
    callC Try.prog 40 #[(Value.int .i64 x34), (Value.int .i64 40), (Value.int .i64 4000)] (fun (r : Bool) => (Value.bool r)) w2 fun r35 w3 =>
    jn (fun J36 => cnd (!r35)
      (
      J36 true w3
      )
      (
      ld (Value.int .i64) ((Addr.mk b9 0 none).add 9) w3 fun x38 =>
      callC Try.prog 40 #[(Value.int .i64 x38), (Value.int .i64 1), (Value.int .i64 20)] (fun (r : Bool) => (Value.bool r)) w3 fun r39 w4 =>
      J36 (!r39) w4
      ))
    fun c40 w5 =>
    jp (fun J41 => cnd (c40)
      (
      J41 true
      )
      (
      ld (Value.int .i64) ((Addr.mk b9 0 none).add 10) w5 fun x43 =>
      J41 (decide (4 < x43))
      ))
    fun c44 =>
    jp (fun J45 => cnd (c44)
      (
      J45 true
      )
      (
      ld (Value.int .i64) ((Addr.mk b9 0 none).add 11) w5 fun x47 =>
      J45 (decide (65536 < x47))
      ))
    fun c48 =>
    jp (fun J49 => cnd (c48)
      (
      J49 true
      )
      (
      ld (Value.int .i64) ((Addr.mk b9 0 none).add 18) w5 fun x51 =>
      J49 (decide (x51 < 1))
      ))
    fun c52 =>
    jp (fun J53 => cnd (c52)
      (
      J53 true
      )
      (
      ld (Value.int .i64) ((Addr.mk b9 0 none).add 19) w5 fun x55 =>
      jp (fun J56 => cnd (!decide (x55 = 0))
        (
        ld (Value.int .i64) ((Addr.mk b9 0 none).add 19) w5 fun x58 =>
        ld (Value.int .i64) ((Addr.mk b9 0 none).add 20) w5 fun x59 =>
        J56 (decide (x59 ≤ x58))
        )
        (
        J56 false
        ))
      fun c60 =>
      J53 c60
      ))
    fun c61 =>
    jn (fun J62 => cnd (c61)
      (
      J62 true w5
      )
      (
      L23 (Addr.mk b9 0 none) w5 fun x64 x65 x66 x67 x68 x69 x70 x71 x72 x73 x74 x75 x76 x77 x78 x79 x80 x81 x82 x83 x84 x85 =>
      callC Try.prog 41 #[(V23 x64 x65 x66 x67 x68 x69 x70 x71 x72 x73 x74 x75 x76 x77 x78 x79 x80 x81 x82 x83 x84 x85)] (fun (r : Bool) => (Value.bool r)) w5 fun r86 w6 =>
      J62 (!r86) w6
      ))
    fun c87 w7 =>
    cnd (c87)
      (
      K 3 w7
      )
      (
      ld Sl.v ((Addr.mk b9 0 none).add 12) w7 fun x89 =>
      lp (fun (next90 : Int → World → Prop) l90 w8 =>
        cnd (decide (l90 < (x89.len : Int)))
          (
          ix x89 l90 1 fun p92 =>
          ld Value.string p92 w8 fun x93 =>
          ld Sl.v ((Addr.mk b9 0 none).add 12) w8 fun x94 =>
          rn Try.prog (Instr.sliceAt 22 (Sl.v x94) none (some (Value.int .i64 l90)) none) (fun (r : Sl) => (Sl.v r)) w8 fun r95 w9 =>
          callC Try.prog 42 #[(Sl.v r95), (Value.string x93)] (fun (r : Bool) => (Value.bool r)) w9 fun r96 w10 =>
          cnd (r96)
            (
            K 5 w10
            )
            (
            next90 (IntKind.i64.wrap (l90 + 1)) w10
            )
          )
          (
          K 0 w8
          )
      ) 0 w7
      )
    )
set_option maxRecDepth 100000 in
theorem D17 (p0_0 : ByteArray) (p0_1 : Int) (p0_2 : Int) (p0_3 : Int) (p0_4 : Bool) (p0_5 : Int) (p0_6 : Bool) (p0_7 : Bool) (p0_8 : Int) (p0_9 : Int) (p0_10 : Int) (p0_11 : Int) (p0_12 : Sl) (p0_13 : Int) (p0_14 : Int) (p0_15 : Int) (p0_16 : Int) (p0_17 : Bool) (p0_18 : Int) (p0_19 : Int) (p0_20 : Int) (p0_21 : Int) (w0 : World) (K : Int → World → Prop) (h : F17 p0_0 p0_1 p0_2 p0_3 p0_4 p0_5 p0_6 p0_7 p0_8 p0_9 p0_10 p0_11 p0_12 p0_13 p0_14 p0_15 p0_16 p0_17 p0_18 p0_19 p0_20 p0_21 w0 K) : callC Try.prog 17 #[(V23 p0_0 p0_1 p0_2 p0_3 p0_4 p0_5 p0_6 p0_7 p0_8 p0_9 p0_10 p0_11 p0_12 p0_13 p0_14 p0_15 p0_16 p0_17 p0_18 p0_19 p0_20 p0_21)] (fun (r : Int) => (Value.int .i64 r)) w0 K := by
  unfold F17 at h
  refine calls_of_wpC Try.func17 rfl 65 rfl (by simp) ?_
  intro ρ hρ
  have e0 : ρ 0 = (V23 p0_0 p0_1 p0_2 p0_3 p0_4 p0_5 p0_6 p0_7 p0_8 p0_9 p0_10 p0_11 p0_12 p0_13 p0_14 p0_15 p0_16 p0_17 p0_18 p0_19 p0_20 p0_21) := hρ 0
  clear hρ
  refine wpC_seq ?_
  refine wpC_region ?_
  obtain ⟨b9, hb9⟩ : ∃ u, u = w0.heap.size := ⟨_, rfl⟩
  obtain ⟨w1, hw9⟩ : ∃ u, u = w0.alloc (.cells (A23 p0_0 p0_1 p0_2 p0_3 p0_4 p0_5 p0_6 p0_7 p0_8 p0_9 p0_10 p0_11 p0_12 p0_13 p0_14 p0_15 p0_16 p0_17 p0_18 p0_19 p0_20 p0_21) 24) := ⟨_, rfl⟩
  replace h := h b9 w1 hb9 hw9
  refine wpR_val (v := (Value.pointer (some (Addr.mk b9 0 none)))) (w' := w1) rfl rfl rfl ((x_box (v := (V23 p0_0 p0_1 p0_2 p0_3 p0_4 p0_5 p0_6 p0_7 p0_8 p0_9 p0_10 p0_11 p0_12 p0_13 p0_14 p0_15 p0_16 p0_17 p0_18 p0_19 p0_20 p0_21)) rfl e0).trans (by rw [hb9, hw9]; rfl)) ?_
  refine wpR_val (v := (Value.int .i64 0)) (w' := w1) rfl rfl rfl (x_assign (v := (Value.int .i64 0)) rfl rfl) ?_
  refine wpR_nil ?_
  refine wpC_seq ?_
  refine wpC_seq ?_
  refine wpC_cut (fun ρ => ρ 1 = (Value.pointer (some (Addr.mk b9 0 none))) ∧ True) ⟨rfl, trivial⟩ ?_
  rintro ρ ⟨e1, -⟩
  refine wpC_region ?_
  obtain ⟨x10, q10, x11, q11, x12, q12, x13, q13, x14, q14, x15, q15, x16, q16, x17, q17, x18, q18, x19, q19, x20, q20, x21, q21, x22, q22, x23, q23, x24, q24, x25, q25, x26, q26, x27, q27, x28, q28, x29, q29, x30, q30, x31, q31, h⟩ := h
  refine wpR_val (v := (V23 x10 x11 x12 x13 x14 x15 x16 x17 x18 x19 x20 x21 x22 x23 x24 x25 x26 x27 x28 x29 x30 x31)) (w' := w1) rfl rfl rfl (x_loadN (S23 x10 x11 x12 x13 x14 x15 x16 x17 x18 x19 x20 x21 x22 x23 x24 x25 x26 x27 x28 x29 x30 x31) rfl e1 SH_24 (K23 ⟨q10, q11, q12, q13, q14, q15, q16, q17, q18, q19, q20, q21, q22, q23, q24, q25, q26, q27, q28, q29, q30, q31⟩)) ?_
  refine wpR_enter rfl rfl rfl (x_call (vs := [(V23 x10 x11 x12 x13 x14 x15 x16 x17 x18 x19 x20 x21 x22 x23 x24 x25 x26 x27 x28 x29 x30 x31)]) rfl rfl (mapl_cons rfl mapl_nil) Try.func39 NN_39 NB_39) (Calls.mono h ?_)
  rintro _ w2 ⟨r32, rfl, h⟩
  refine ⟨_, rfl, ?_⟩
  refine wpR_val (v := (Value.bool (!r32))) (w' := w2) rfl rfl rfl (x_not rfl rfl) ?_
  refine wpR_nil ?_
  refine wpC_cond (b := !r32) rfl (fun hc33 => ?_) (fun hc33 => ?_)
  · replace h := h.1 hc33
    refine wpC_seq ?_
    refine wpC_cut (fun ρ => True) trivial ?_
    rintro ρ -
    refine wpC_region ?_
    refine wpR_val (v := (Value.int .i64 1)) (w' := w2) rfl rfl rfl (x_assign (v := (Value.int .i64 1)) rfl rfl) ?_
    refine wpR_nil ?_
    refine wpC_ret ?_
    exact ⟨.inl rfl, fun a ha => ⟨_, results_rep1 rfl ha rfl, 1, rfl, h⟩⟩
  · replace h := h.2 hc33
    refine wpC_skip ?_
    refine wpC_seq ?_
    refine wpC_seq ?_
    refine wpC_cut (fun ρ => ρ 1 = (Value.pointer (some (Addr.mk b9 0 none))) ∧ True) ⟨e1, trivial⟩ ?_
    rintro ρ ⟨e1, -⟩
    refine wpC_region ?_
    refine wpR_val (v := (Value.pointer (some ((Addr.mk b9 0 none).add 8)))) (w' := w2) rfl rfl rfl (x_fieldAddr rfl e1 FA_24_8) ?_
    obtain ⟨x34, q34, h⟩ := h
    refine wpR_val (v := (Value.int .i64 x34)) (w' := w2) rfl rfl rfl (x_load1 rfl rfl SH_3 q34) ?_
    refine wpR_enter rfl rfl rfl (x_call (vs := [(Value.int .i64 x34), (Value.int .i64 40), (Value.int .i64 4000)]) rfl rfl (mapl_cons rfl (mapl_cons rfl (mapl_cons rfl mapl_nil))) Try.func40 NN_40 NB_40) (Calls.mono h ?_)
    rintro _ w3 ⟨r35, rfl, h⟩
    refine ⟨_, rfl, ?_⟩
    refine wpR_val (v := (Value.bool (!r35))) (w' := w3) rfl rfl rfl (x_not rfl rfl) ?_
    refine wpR_val (v := (Value.bool (!r35))) (w' := w3) rfl rfl rfl (x_move (v := (Value.bool (!r35))) rfl rfl) ?_
    obtain ⟨J36, h, hk⟩ := h
    refine wpR_joinJ 5 (fun x ρ => ρ 17 = Value.bool x ∧ ρ 1 = (Value.pointer (some (Addr.mk b9 0 none))) ∧ True) (J36) ?_ ?_
    · clear hk
      rcases Bool.eq_false_or_eq_true (!r35) with hc37 | hc37
      · replace h := h.1 hc37
        refine wpR_pass (wantN rfl rfl rfl hc37) rfl rfl ?_
        refine wpR_pass (wantN rfl rfl rfl hc37) rfl rfl ?_
        refine wpR_pass (wantN rfl rfl rfl hc37) rfl rfl ?_
        refine wpR_pass (wantN rfl rfl rfl hc37) rfl rfl ?_
        refine wpR_val (v := (Value.bool true)) (w' := w3) rfl rfl rfl (x_pickT (v := (Value.bool true)) rfl rfl hc37 rfl) ?_
        refine wpR_nil ?_
        exact ⟨true, ⟨rfl, e1, trivial⟩, h⟩
      · replace h := h.2 hc37
        refine wpR_val (v := (Value.pointer (some ((Addr.mk b9 0 none).add 9)))) (w' := w3) (wantG rfl rfl rfl hc37) rfl rfl (x_fieldAddr rfl e1 FA_24_9) ?_
        obtain ⟨x38, q38, h⟩ := h
        refine wpR_val (v := (Value.int .i64 x38)) (w' := w3) (wantG rfl rfl rfl hc37) rfl rfl (x_load1 rfl rfl SH_3 q38) ?_
        refine wpR_enter (wantG rfl rfl rfl hc37) rfl rfl (x_call (vs := [(Value.int .i64 x38), (Value.int .i64 1), (Value.int .i64 20)]) rfl rfl (mapl_cons rfl (mapl_cons rfl (mapl_cons rfl mapl_nil))) Try.func40 NN_40 NB_40) (Calls.mono h ?_)
        rintro _ w4 ⟨r39, rfl, h⟩
        refine ⟨_, rfl, ?_⟩
        refine wpR_val (v := (Value.bool (!r39))) (w' := w4) (wantG rfl rfl rfl hc37) rfl rfl (x_not rfl rfl) ?_
        refine wpR_val (v := (Value.bool (!r39))) (w' := w4) rfl rfl rfl (x_pickF (v := (Value.bool (!r39))) rfl rfl hc37 rfl) ?_
        refine wpR_nil ?_
        exact ⟨!r39, ⟨rfl, e1, trivial⟩, h⟩
    clear h
    rintro c40 ρ w5 ⟨e17, e1, -⟩ h
    replace h := hk c40 w5 h
    clear hk
    refine wpR_val (v := (Value.bool c40)) (w' := w5) rfl rfl rfl (x_move (v := (Value.bool c40)) rfl e17) ?_
    obtain ⟨J41, h, hk⟩ := h
    refine wpR_joinJ 4 (fun x ρ => ρ 22 = Value.bool x ∧ ρ 1 = (Value.pointer (some (Addr.mk b9 0 none))) ∧ True) (fun x w => J41 x ∧ w5 = w) ?_ ?_
    · clear hk
      rcases Bool.eq_false_or_eq_true (c40) with hc42 | hc42
      · replace h := h.1 hc42
        refine wpR_pass (wantN rfl rfl rfl hc42) rfl rfl ?_
        refine wpR_pass (wantN rfl rfl rfl hc42) rfl rfl ?_
        refine wpR_pass (wantN rfl rfl rfl hc42) rfl rfl ?_
        refine wpR_val (v := (Value.bool true)) (w' := w5) rfl rfl rfl (x_pickT (v := (Value.bool true)) rfl rfl hc42 rfl) ?_
        refine wpR_nil ?_
        exact ⟨true, ⟨rfl, e1, trivial⟩, h, rfl⟩
      · replace h := h.2 hc42
        refine wpR_val (v := (Value.pointer (some ((Addr.mk b9 0 none).add 10)))) (w' := w5) (wantG rfl rfl rfl hc42) rfl rfl (x_fieldAddr rfl e1 FA_24_10) ?_
        obtain ⟨x43, q43, h⟩ := h
        refine wpR_val (v := (Value.int .i64 x43)) (w' := w5) (wantG rfl rfl rfl hc42) rfl rfl (x_load1 rfl rfl SH_3 q43) ?_
        refine wpR_val (v := (Value.bool (decide (4 < x43)))) (w' := w5) (wantG rfl rfl rfl hc42) rfl rfl (x_gtr rfl rfl rfl) ?_
        refine wpR_val (v := (Value.bool (decide (4 < x43)))) (w' := w5) rfl rfl rfl (x_pickF (v := (Value.bool (decide (4 < x43)))) rfl rfl hc42 rfl) ?_
        refine wpR_nil ?_
        exact ⟨decide (4 < x43), ⟨rfl, e1, trivial⟩, h, rfl⟩
    clear h
    rintro c44 ρ wj ⟨e22, e1, -⟩ ⟨h, rfl⟩
    replace h := hk c44 h
    clear hk
    refine wpR_val (v := (Value.bool c44)) (w' := w5) rfl rfl rfl (x_move (v := (Value.bool c44)) rfl e22) ?_
    obtain ⟨J45, h, hk⟩ := h
    refine wpR_joinJ 4 (fun x ρ => ρ 27 = Value.bool x ∧ ρ 1 = (Value.pointer (some (Addr.mk b9 0 none))) ∧ True) (fun x w => J45 x ∧ w5 = w) ?_ ?_
    · clear hk
      rcases Bool.eq_false_or_eq_true (c44) with hc46 | hc46
      · replace h := h.1 hc46
        refine wpR_pass (wantN rfl rfl rfl hc46) rfl rfl ?_
        refine wpR_pass (wantN rfl rfl rfl hc46) rfl rfl ?_
        refine wpR_pass (wantN rfl rfl rfl hc46) rfl rfl ?_
        refine wpR_val (v := (Value.bool true)) (w' := w5) rfl rfl rfl (x_pickT (v := (Value.bool true)) rfl rfl hc46 rfl) ?_
        refine wpR_nil ?_
        exact ⟨true, ⟨rfl, e1, trivial⟩, h, rfl⟩
      · replace h := h.2 hc46
        refine wpR_val (v := (Value.pointer (some ((Addr.mk b9 0 none).add 11)))) (w' := w5) (wantG rfl rfl rfl hc46) rfl rfl (x_fieldAddr rfl e1 FA_24_11) ?_
        obtain ⟨x47, q47, h⟩ := h
        refine wpR_val (v := (Value.int .i64 x47)) (w' := w5) (wantG rfl rfl rfl hc46) rfl rfl (x_load1 rfl rfl SH_3 q47) ?_
        refine wpR_val (v := (Value.bool (decide (65536 < x47)))) (w' := w5) (wantG rfl rfl rfl hc46) rfl rfl (x_gtr rfl rfl rfl) ?_
        refine wpR_val (v := (Value.bool (decide (65536 < x47)))) (w' := w5) rfl rfl rfl (x_pickF (v := (Value.bool (decide (65536 < x47)))) rfl rfl hc46 rfl) ?_
        refine wpR_nil ?_
        exact ⟨decide (65536 < x47), ⟨rfl, e1, trivial⟩, h, rfl⟩
    clear h
    rintro c48 ρ wj ⟨e27, e1, -⟩ ⟨h, rfl⟩
    replace h := hk c48 h
    clear hk
    refine wpR_val (v := (Value.bool c48)) (w' := w5) rfl rfl rfl (x_move (v := (Value.bool c48)) rfl e27) ?_
    obtain ⟨J49, h, hk⟩ := h
    refine wpR_joinJ 4 (fun x ρ => ρ 32 = Value.bool x ∧ ρ 1 = (Value.pointer (some (Addr.mk b9 0 none))) ∧ True) (fun x w => J49 x ∧ w5 = w) ?_ ?_
    · clear hk
      rcases Bool.eq_false_or_eq_true (c48) with hc50 | hc50
      · replace h := h.1 hc50
        refine wpR_pass (wantN rfl rfl rfl hc50) rfl rfl ?_
        refine wpR_pass (wantN rfl rfl rfl hc50) rfl rfl ?_
        refine wpR_pass (wantN rfl rfl rfl hc50) rfl rfl ?_
        refine wpR_val (v := (Value.bool true)) (w' := w5) rfl rfl rfl (x_pickT (v := (Value.bool true)) rfl rfl hc50 rfl) ?_
        refine wpR_nil ?_
        exact ⟨true, ⟨rfl, e1, trivial⟩, h, rfl⟩
      · replace h := h.2 hc50
        refine wpR_val (v := (Value.pointer (some ((Addr.mk b9 0 none).add 18)))) (w' := w5) (wantG rfl rfl rfl hc50) rfl rfl (x_fieldAddr rfl e1 FA_24_18) ?_
        obtain ⟨x51, q51, h⟩ := h
        refine wpR_val (v := (Value.int .i64 x51)) (w' := w5) (wantG rfl rfl rfl hc50) rfl rfl (x_load1 rfl rfl SH_3 q51) ?_
        refine wpR_val (v := (Value.bool (decide (x51 < 1)))) (w' := w5) (wantG rfl rfl rfl hc50) rfl rfl (x_lss rfl rfl rfl) ?_
        refine wpR_val (v := (Value.bool (decide (x51 < 1)))) (w' := w5) rfl rfl rfl (x_pickF (v := (Value.bool (decide (x51 < 1)))) rfl rfl hc50 rfl) ?_
        refine wpR_nil ?_
        exact ⟨decide (x51 < 1), ⟨rfl, e1, trivial⟩, h, rfl⟩
    clear h
    rintro c52 ρ wj ⟨e32, e1, -⟩ ⟨h, rfl⟩
    replace h := hk c52 h
    clear hk
    refine wpR_val (v := (Value.bool c52)) (w' := w5) rfl rfl rfl (x_move (v := (Value.bool c52)) rfl e32) ?_
    obtain ⟨J53, h, hk⟩ := h
    refine wpR_joinJ 11 (fun x ρ => ρ 44 = Value.bool x ∧ ρ 1 = (Value.pointer (some (Addr.mk b9 0 none))) ∧ True) (fun x w => J53 x ∧ w5 = w) ?_ ?_
    · clear hk
      rcases Bool.eq_false_or_eq_true (c52) with hc54 | hc54
      · replace h := h.1 hc54
        refine wpR_pass (wantN rfl rfl rfl hc54) rfl rfl ?_
        refine wpR_pass (wantN rfl rfl rfl hc54) rfl rfl ?_
        refine wpR_pass (wantN rfl rfl rfl hc54) rfl rfl ?_
        refine wpR_pass (wantN rfl rfl rfl hc54) rfl rfl ?_
        refine wpR_pass (wantU rfl rfl rfl) rfl rfl ?_
        refine wpR_pass (wantU rfl rfl rfl) rfl rfl ?_
        refine wpR_pass (wantU rfl rfl rfl) rfl rfl ?_
        refine wpR_pass (wantU rfl rfl rfl) rfl rfl ?_
        refine wpR_pass (wantU rfl rfl rfl) rfl rfl ?_
        refine wpR_pass (wantN rfl rfl rfl hc54) rfl rfl ?_
        refine wpR_val (v := (Value.bool true)) (w' := w5) rfl rfl rfl (x_pickT (v := (Value.bool true)) rfl rfl hc54 rfl) ?_
        refine wpR_nil ?_
        exact ⟨true, ⟨rfl, e1, trivial⟩, h, rfl⟩
      · replace h := h.2 hc54
        refine wpR_val (v := (Value.pointer (some ((Addr.mk b9 0 none).add 19)))) (w' := w5) (wantG rfl rfl rfl hc54) rfl rfl (x_fieldAddr rfl e1 FA_24_19) ?_
        obtain ⟨x55, q55, h⟩ := h
        refine wpR_val (v := (Value.int .i64 x55)) (w' := w5) (wantG rfl rfl rfl hc54) rfl rfl (x_load1 rfl rfl SH_3 q55) ?_
        refine wpR_val (v := (Value.bool (!decide (x55 = 0)))) (w' := w5) (wantG rfl rfl rfl hc54) rfl rfl (x_neq rfl rfl rfl) ?_
        refine wpR_val (v := (Value.bool (!decide (x55 = 0)))) (w' := w5) (wantG rfl rfl rfl hc54) rfl rfl (x_move (v := (Value.bool (!decide (x55 = 0)))) rfl rfl) ?_
        obtain ⟨J56, h, hk⟩ := h
        refine wpR_joinJ 6 (fun x ρ => ρ 43 = Value.bool x ∧ ρ 1 = (Value.pointer (some (Addr.mk b9 0 none))) ∧ ρ 33 = (Value.bool c52) ∧ True) (fun x w => J56 x ∧ w5 = w) ?_ ?_
        · clear hk
          rcases Bool.eq_false_or_eq_true (!decide (x55 = 0)) with hc57 | hc57
          · replace h := h.1 hc57
            refine wpR_val (v := (Value.pointer (some ((Addr.mk b9 0 none).add 19)))) (w' := w5) (wantG rfl rfl rfl hc57) rfl rfl (x_fieldAddr rfl e1 FA_24_19) ?_
            obtain ⟨x58, q58, h⟩ := h
            refine wpR_val (v := (Value.int .i64 x58)) (w' := w5) (wantG rfl rfl rfl hc57) rfl rfl (x_load1 rfl rfl SH_3 q58) ?_
            refine wpR_val (v := (Value.pointer (some ((Addr.mk b9 0 none).add 20)))) (w' := w5) (wantG rfl rfl rfl hc57) rfl rfl (x_fieldAddr rfl e1 FA_24_20) ?_
            obtain ⟨x59, q59, h⟩ := h
            refine wpR_val (v := (Value.int .i64 x59)) (w' := w5) (wantG rfl rfl rfl hc57) rfl rfl (x_load1 rfl rfl SH_3 q59) ?_
            refine wpR_val (v := (Value.bool (decide (x59 ≤ x58)))) (w' := w5) (wantG rfl rfl rfl hc57) rfl rfl (x_geq rfl rfl rfl) ?_
            refine wpR_val (v := (Value.bool (decide (x59 ≤ x58)))) (w' := w5) (wantG rfl rfl rfl hc54) rfl rfl (x_pickT (v := (Value.bool (decide (x59 ≤ x58)))) rfl rfl hc57 rfl) ?_
            refine wpR_nil ?_
            exact ⟨decide (x59 ≤ x58), ⟨rfl, e1, rfl, trivial⟩, h, rfl⟩
          · replace h := h.2 hc57
            refine wpR_pass (wantN rfl rfl rfl hc57) rfl rfl ?_
            refine wpR_pass (wantN rfl rfl rfl hc57) rfl rfl ?_
            refine wpR_pass (wantN rfl rfl rfl hc57) rfl rfl ?_
            refine wpR_pass (wantN rfl rfl rfl hc57) rfl rfl ?_
            refine wpR_pass (wantN rfl rfl rfl hc57) rfl rfl ?_
            refine wpR_val (v := (Value.bool false)) (w' := w5) (wantG rfl rfl rfl hc54) rfl rfl (x_pickF (v := (Value.bool false)) rfl rfl hc57 rfl) ?_
            refine wpR_nil ?_
            exact ⟨false, ⟨rfl, e1, rfl, trivial⟩, h, rfl⟩
        clear h
        rintro c60 ρ wj ⟨e43, e1, e33, -⟩ ⟨h, rfl⟩
        replace h := hk c60 h
        clear hk
        refine wpR_val (v := (Value.bool c60)) (w' := w5) rfl rfl rfl (x_pickF (v := (Value.bool c60)) rfl e33 hc54 e43) ?_
        refine wpR_nil ?_
        exact ⟨c60, ⟨rfl, e1, trivial⟩, h, rfl⟩
    clear h
    rintro c61 ρ wj ⟨e44, e1, -⟩ ⟨h, rfl⟩
    replace h := hk c61 h
    clear hk
    refine wpR_val (v := (Value.bool c61)) (w' := w5) rfl rfl rfl (x_move (v := (Value.bool c61)) rfl e44) ?_
    obtain ⟨J62, h, hk⟩ := h
    refine wpR_joinJ 4 (fun x ρ => ρ 49 = Value.bool x ∧ ρ 1 = (Value.pointer (some (Addr.mk b9 0 none))) ∧ True) (J62) ?_ ?_
    · clear hk
      rcases Bool.eq_false_or_eq_true (c61) with hc63 | hc63
      · replace h := h.1 hc63
        refine wpR_pass (wantN rfl rfl rfl hc63) rfl rfl ?_
        refine wpR_pass (wantN rfl rfl rfl hc63) rfl rfl ?_
        refine wpR_pass (wantN rfl rfl rfl hc63) rfl rfl ?_
        refine wpR_val (v := (Value.bool true)) (w' := w5) rfl rfl rfl (x_pickT (v := (Value.bool true)) rfl rfl hc63 rfl) ?_
        refine wpR_nil ?_
        exact ⟨true, ⟨rfl, e1, trivial⟩, h⟩
      · replace h := h.2 hc63
        obtain ⟨x64, q64, x65, q65, x66, q66, x67, q67, x68, q68, x69, q69, x70, q70, x71, q71, x72, q72, x73, q73, x74, q74, x75, q75, x76, q76, x77, q77, x78, q78, x79, q79, x80, q80, x81, q81, x82, q82, x83, q83, x84, q84, x85, q85, h⟩ := h
        refine wpR_val (v := (V23 x64 x65 x66 x67 x68 x69 x70 x71 x72 x73 x74 x75 x76 x77 x78 x79 x80 x81 x82 x83 x84 x85)) (w' := w5) (wantG rfl rfl rfl hc63) rfl rfl (x_loadN (S23 x64 x65 x66 x67 x68 x69 x70 x71 x72 x73 x74 x75 x76 x77 x78 x79 x80 x81 x82 x83 x84 x85) rfl e1 SH_24 (K23 ⟨q64, q65, q66, q67, q68, q69, q70, q71, q72, q73, q74, q75, q76, q77, q78, q79, q80, q81, q82, q83, q84, q85⟩)) ?_
        refine wpR_enter (wantG rfl rfl rfl hc63) rfl rfl (x_call (vs := [(V23 x64 x65 x66 x67 x68 x69 x70 x71 x72 x73 x74 x75 x76 x77 x78 x79 x80 x81 x82 x83 x84 x85)]) rfl rfl (mapl_cons rfl mapl_nil) Try.func41 NN_41 NB_41) (Calls.mono h ?_)
        rintro _ w6 ⟨r86, rfl, h⟩
        refine ⟨_, rfl, ?_⟩
        refine wpR_val (v := (Value.bool (!r86))) (w' := w6) (wantG rfl rfl rfl hc63) rfl rfl (x_not rfl rfl) ?_
        refine wpR_val (v := (Value.bool (!r86))) (w' := w6) rfl rfl rfl (x_pickF (v := (Value.bool (!r86))) rfl rfl hc63 rfl) ?_
        refine wpR_nil ?_
        exact ⟨!r86, ⟨rfl, e1, trivial⟩, h⟩
    clear h
    rintro c87 ρ w7 ⟨e49, e1, -⟩ h
    replace h := hk c87 w7 h
    clear hk
    refine wpR_nil ?_
    refine wpC_cond (b := c87) e49 (fun hc88 => ?_) (fun hc88 => ?_)
    · replace h := h.1 hc88
      refine wpC_seq ?_
      refine wpC_region ?_
      refine wpR_val (v := (Value.int .i64 3)) (w' := w7) rfl rfl rfl (x_assign (v := (Value.int .i64 3)) rfl rfl) ?_
      refine wpR_nil ?_
      refine wpC_ret ?_
      exact ⟨.inl rfl, fun a ha => ⟨_, results_rep1 rfl ha rfl, 3, rfl, h⟩⟩
    · replace h := h.2 hc88
      refine wpC_skip ?_
      refine wpC_seq ?_
      refine wpC_seq ?_
      refine wpC_region ?_
      refine wpR_val (v := (Value.pointer (some ((Addr.mk b9 0 none).add 12)))) (w' := w7) rfl rfl rfl (x_fieldAddr rfl e1 FA_24_12) ?_
      obtain ⟨x89, q89, h⟩ := h
      refine wpR_val (v := (Sl.v x89)) (w' := w7) rfl rfl rfl (x_load1 rfl rfl SH_22 q89) ?_
      refine wpR_val (v := (Value.int .i64 (x89.len : Int))) (w' := w7) rfl rfl rfl (x_lenS (s := x89) rfl rfl isSliceT_22) ?_
      refine wpR_val (v := (Value.int .i64 0)) (w' := w7) rfl rfl rfl (x_move (v := (Value.int .i64 0)) rfl rfl) ?_
      refine wpR_nil ?_
      refine wpC_block ?_
      obtain ⟨I90, μ90, hI90, hr90⟩ := h
      refine wpC_loop (fun (x : Int) ρ => ρ 53 = (Value.int .i64 x) ∧ ρ 1 = (Value.pointer (some (Addr.mk b9 0 none))) ∧ ρ 51 = (Sl.v x89) ∧ ρ 52 = (Value.int .i64 (x89.len : Int)) ∧ True) I90 μ90 0 ⟨rfl, e1, rfl, rfl, trivial⟩ hI90 ?_
      rintro l90 ρ w8 ⟨e53, e1, e51, e52, -⟩ h
      replace h := hr90 l90 w8 h
      clear hr90 hI90
      refine wpC_seq ?_
      refine wpC_region ?_
      refine wpR_val (v := (Value.bool (decide (l90 < (x89.len : Int))))) (w' := w8) rfl rfl rfl (x_lss rfl e53 e52) ?_
      refine wpR_nil ?_
      refine wpC_seq ?_
      refine wpC_cond (b := decide (l90 < (x89.len : Int))) rfl (fun hc91 => ?_) (fun hc91 => ?_)
      · replace h := h.1 hc91
        refine wpC_skip ?_
        refine wpC_seq ?_
        refine wpC_block ?_
        refine wpC_seq ?_
        refine wpC_cut (fun ρ => ρ 1 = (Value.pointer (some (Addr.mk b9 0 none))) ∧ ρ 51 = (Sl.v x89) ∧ ρ 52 = (Value.int .i64 (x89.len : Int)) ∧ ρ 53 = (Value.int .i64 l90) ∧ True) ⟨e1, e51, e52, e53, trivial⟩ ?_
        rintro ρ ⟨e1, e51, e52, e53, -⟩
        refine wpC_region ?_
        refine wpR_val (v := (Value.int .i64 l90)) (w' := w8) rfl rfl rfl (x_move (v := (Value.int .i64 l90)) rfl e53) ?_
        obtain ⟨q92, z92, r92, h⟩ := h
        generalize hp92 : z92.add ((l90 : Int).toNat * 1) = p92 at h
        refine wpR_val (v := (Value.pointer (some p92))) (w' := w8) rfl rfl rfl ((x_indexAddr (s := x89) rfl e51 e53 ES_22 q92 r92).trans (by rw [hp92])) ?_
        obtain ⟨x93, q93, h⟩ := h
        refine wpR_val (v := (Value.string x93)) (w' := w8) rfl rfl rfl (x_load1 rfl rfl SH_9 q93) ?_
        refine wpR_val (v := (Value.int .i64 l90)) (w' := w8) rfl rfl rfl (x_assign (v := (Value.int .i64 l90)) rfl rfl) ?_
        refine wpR_val (v := (Value.string x93)) (w' := w8) rfl rfl rfl (x_assign (v := (Value.string x93)) rfl rfl) ?_
        refine wpR_nil ?_
        refine wpC_seq ?_
        refine wpC_cut (fun ρ => ρ 1 = (Value.pointer (some (Addr.mk b9 0 none))) ∧ ρ 3 = (Value.int .i64 l90) ∧ ρ 4 = (Value.string x93) ∧ ρ 51 = (Sl.v x89) ∧ ρ 52 = (Value.int .i64 (x89.len : Int)) ∧ ρ 53 = (Value.int .i64 l90) ∧ True) ⟨e1, rfl, rfl, e51, e52, e53, trivial⟩ ?_
        rintro ρ ⟨e1, e3, e4, e51, e52, e53, -⟩
        refine wpC_region ?_
        refine wpR_val (v := (Value.pointer (some ((Addr.mk b9 0 none).add 12)))) (w' := w8) rfl rfl rfl (x_fieldAddr rfl e1 FA_24_12) ?_
        obtain ⟨x94, q94, h⟩ := h
        refine wpR_val (v := (Sl.v x94)) (w' := w8) rfl rfl rfl (x_load1 rfl rfl SH_22 q94) ?_
        refine wpR_val (v := (Value.int .i64 l90)) (w' := w8) rfl rfl rfl (x_move (v := (Value.int .i64 l90)) rfl e3) ?_
        obtain ⟨r95, w9, q95, h⟩ := h
        refine wpR_val (v := (Sl.v r95)) (w' := w9) rfl rfl rfl (x_sliceAt rfl rfl rfl (congrArg some rfl) rfl q95) ?_
        refine wpR_val (v := (Value.string x93)) (w' := w9) rfl rfl rfl (x_move (v := (Value.string x93)) rfl e4) ?_
        refine wpR_enter rfl rfl rfl (x_call (vs := [(Sl.v r95), (Value.string x93)]) rfl rfl (mapl_cons rfl (mapl_cons rfl mapl_nil)) Try.func42 NN_42 NB_42) (Calls.mono h ?_)
        rintro _ w10 ⟨r96, rfl, h⟩
        refine ⟨_, rfl, ?_⟩
        refine wpR_nil ?_
        refine wpC_cond (b := r96) rfl (fun hc97 => ?_) (fun hc97 => ?_)
        · replace h := h.1 hc97
          refine wpC_seq ?_
          refine wpC_cut (fun ρ => True) trivial ?_
          rintro ρ -
          refine wpC_region ?_
          refine wpR_val (v := (Value.int .i64 5)) (w' := w10) rfl rfl rfl (x_assign (v := (Value.int .i64 5)) rfl rfl) ?_
          refine wpR_nil ?_
          refine wpC_ret ?_
          exact ⟨.inl rfl, fun a ha => ⟨_, results_rep1 rfl ha rfl, 5, rfl, h⟩⟩
        · replace h := h.2 hc97
          refine wpC_skip ?_
          refine wpC_cut (fun ρ => ρ 1 = (Value.pointer (some (Addr.mk b9 0 none))) ∧ ρ 51 = (Sl.v x89) ∧ ρ 52 = (Value.int .i64 (x89.len : Int)) ∧ ρ 53 = (Value.int .i64 l90) ∧ True) ⟨e1, e51, e52, e53, trivial⟩ ?_
          rintro ρ ⟨e1, e51, e52, e53, -⟩
          refine wpC_region ?_
          refine wpR_val (v := (Value.int .i64 (IntKind.i64.wrap (l90 + 1)))) (w' := w10) rfl rfl rfl (x_add rfl e53 rfl) ?_
          refine wpR_val (v := (Value.int .i64 (IntKind.i64.wrap (l90 + 1)))) (w' := w10) rfl rfl rfl (x_move (v := (Value.int .i64 (IntKind.i64.wrap (l90 + 1)))) rfl rfl) ?_
          refine wpR_nil ?_
          exact ⟨IntKind.i64.wrap (l90 + 1), ⟨rfl, e1, e51, e52, trivial⟩, h⟩
      · replace h := h.2 hc91
        refine wpC_exit ?_
        refine wpC_seq ?_
        refine wpC_cut (fun ρ => True) trivial ?_
        rintro ρ -
        refine wpC_region ?_
        refine wpR_val (v := (Value.int .i64 0)) (w' := w8) rfl rfl rfl (x_assign (v := (Value.int .i64 0)) rfl rfl) ?_
        refine wpR_nil ?_
        refine wpC_ret ?_
        exact ⟨.inl rfl, fun a ha => ⟨_, results_rep1 rfl ha rfl, 0, rfl, h⟩⟩

/-- ways.Compile -/
def F18 (p0_0 : ByteArray) (p0_1 : Int) (p0_2 : Int) (p0_3 : Int) (p0_4 : Bool) (p0_5 : Int) (p0_6 : Bool) (p0_7 : Bool) (p0_8 : Int) (p0_9 : Int) (p0_10 : Int) (p0_11 : Int) (p0_12 : Sl) (p0_13 : Int) (p0_14 : Int) (p0_15 : Int) (p0_16 : Int) (p0_17 : Bool) (p0_18 : Int) (p0_19 : Int) (p0_20 : Int) (p0_21 : Int) (w0 : World) (K : (Sl × Int) → World → Prop) : Prop :=
  nw 24 (A23 p0_0 p0_1 p0_2 p0_3 p0_4 p0_5 p0_6 p0_7 p0_8 p0_9 p0_10 p0_11 p0_12 p0_13 p0_14 p0_15 p0_16 p0_17 p0_18 p0_19 p0_20 p0_21) w0 fun b9 w1 =>
  L23 (Addr.mk b9 0 none) w1 fun x10 x11 x12 x13 x14 x15 x16 x17 x18 x19 x20 x21 x22 x23 x24 x25 x26 x27 x28 x29 x30 x31 =>
  callC Try.prog 17 #[(V23 x10 x11 x12 x13 x14 x15 x16 x17 x18 x19 x20 x21 x22 x23 x24 x25 x26 x27 x28 x29 x30 x31)] (fun (r : Int) => (Value.int .i64 r)) w1 fun r32 w2 =>
  cnd (!decide (r32 = 0))
    (
    K (Sl.nil, r32) w2
    )
    (
    nw 46 #[(Value.int .i64 0), (Value.int .i64 0)] w2 fun b34 w3 =>
    nw 46 #[(Value.int .i64 0), (Value.int .i64 0)] w3 fun b35 w4 =>
    nw 46 #[(Value.int .i64 0), (Value.int .i64 0)] w4 fun b36 w5 =>
    st (Addr.mk b34 0 none) [(Value.int .i64 0), (Value.int .i64 0)] w5 fun w6 =>
    st (Addr.mk b35 0 none) [(Value.int .i64 2), (Value.int .i64 2)] w6 fun w7 =>
    st (Addr.mk b36 0 none) [(Value.int .i64 3), (Value.int .i64 2)] w7 fun w8 =>
    jn (fun (J41 : (Bool × Bool) → World → Prop) => tk w8 fun w9 =>
      ld (Value.int .i64) ((Addr.mk b9 0 none).add 9) w9 fun x42 =>
      ld (Value.int .i64) ((Addr.mk b9 0 none).add 1) w9 fun x43 =>
      cnd (decide (x43 = 2))
        (
        ld (Value.int .i64) ((Addr.mk b9 0 none).add 2) w9 fun x45 =>
        J41 (decide (1 < x42), decide (x45 = 0)) w9
        )
        (
        J41 (decide (1 < x42), false) w9
        )
    )
    fun l46 w10 =>
    rn Try.prog (Instr.makeSlice 25 (Value.int .i64 9) (Value.int .i64 9)) (fun (r : Sl) => (Sl.v r)) w10 fun r47 w11 =>
    ld (Value.int .i64) ((Addr.mk b34 0 none).add 0) w11 fun x48 =>
    ld (Value.int .i64) ((Addr.mk b34 0 none).add 1) w11 fun x49 =>
    ix r47 0 2 fun p50 =>
    st p50 [(Value.int .i64 x48), (Value.int .i64 x49)] w11 fun w12 =>
    jp (fun J52 => cnd (l46.1)
      (
      ld (Value.int .i64) ((Addr.mk b9 0 none).add 8) w12 fun x54 =>
      ld (Value.int .i64) ((Addr.mk b9 0 none).add 9) w12 fun x55 =>
      J52 (decide (4400 ≤ (IntKind.i64.wrap (x54 * x55))))
      )
      (
      J52 false
      ))
    fun c56 =>
    nw 72 #[(Value.bool c56), (Value.int .i64 1), (Value.int .i64 1), (Value.bool l46.1), (Value.int .i64 4), (Value.int .i64 1), (Value.bool true), (Value.int .i64 4), (Value.int .i64 0)] w12 fun b57 w13 =>
    callC Try.prog 43 #[(Sl.v (⟨some ⟨b57, 0, none⟩, 3, 3⟩ : Sl))] (fun (r : Int × Int) => (Value.agg #[(Value.int .i64 r.1), (Value.int .i64 r.2)])) w13 fun r58 w14 =>
    ix r47 1 2 fun p59 =>
    st p59 [(Value.int .i64 r58.1), (Value.int .i64 r58.2)] w14 fun w15 =>
    ld (Value.int .i64) ((Addr.mk b34 0 none).add 0) w15 fun x61 =>
    ld (Value.int .i64) ((Addr.mk b34 0 none).add 1) w15 fun x62 =>
    ld (Value.int .i64) ((Addr.mk b36 0 none).add 0) w15 fun x63 =>
    ld (Value.int .i64) ((Addr.mk b36 0 none).add 1) w15 fun x64 =>
    nw 72 #[(Value.bool l46.2), (Value.int .i64 x61), (Value.int .i64 x62), (Value.bool true), (Value.int .i64 x63), (Value.int .i64 x64)] w15 fun b65 w16 =>
    callC Try.prog 43 #[(Sl.v (⟨some ⟨b65, 0, none⟩, 2, 2⟩ : Sl))] (fun (r : Int × Int) => (Value.agg #[(Value.int .i64 r.1), (Value.int .i64 r.2)])) w16 fun r66 w17 =>
    ix r47 2 2 fun p67 =>
    st p67 [(Value.int .i64 r66.1), (Value.int .i64 r66.2)] w17 fun w18 =>
    ld (Value.int .i64) ((Addr.mk b9 0 none).add 3) w18 fun x69 =>
    ld (Value.int .i64) ((Addr.mk b34 0 none).add 0) w18 fun x70 =>
    ld (Value.int .i64) ((Addr.mk b34 0 none).add 1) w18 fun x71 =>
    ld (Value.int .i64) ((Addr.mk b36 0 none).add 0) w18 fun x72 =>
    ld (Value.int .i64) ((Addr.mk b36 0 none).add 1) w18 fun x73 =>
    nw 72 #[(Value.bool (!decide (x69 = 0))), (Value.int .i64 x70), (Value.int .i64 x71), (Value.bool l46.2), (Value.int .i64 2), (Value.int .i64 0), (Value.bool true), (Value.int .i64 x72), (Value.int .i64 x73)] w18 fun b74 w19 =>
    callC Try.prog 43 #[(Sl.v (⟨some ⟨b74, 0, none⟩, 3, 3⟩ : Sl))] (fun (r : Int × Int) => (Value.agg #[(Value.int .i64 r.1), (Value.int .i64 r.2)])) w19 fun r75 w20 =>
    ix r47 3 2 fun p76 =>
    st p76 [(Value.int .i64 r75.1), (Value.int .i64 r75.2)] w20 fun w21 =>
    ld Value.bool ((Addr.mk b9 0 none).add 4) w21 fun x78 =>
    ld (Value.int .i64) ((Addr.mk b34 0 none).add 0) w21 fun x81 =>
    ld (Value.int .i64) ((Addr.mk b34 0 none).add 1) w21 fun x82 =>
    ld Value.bool ((Addr.mk b9 0 none).add 4) w21 fun x83 =>
    ld (Value.int .i64) ((Addr.mk b36 0 none).add 0) w21 fun x84 =>
    ld (Value.int .i64) ((Addr.mk b36 0 none).add 1) w21 fun x85 =>
    nw 72 #[(Value.bool (x78 && (!l46.1))), (Value.int .i64 x81), (Value.int .i64 x82), (Value.bool x83), (Value.int .i64 0), (Value.int .i64 1), (Value.bool true), (Value.int .i64 x84), (Value.int .i64 x85)] w21 fun b86 w22 =>
    callC Try.prog 43 #[(Sl.v (⟨some ⟨b86, 0, none⟩, 3, 3⟩ : Sl))] (fun (r : Int × Int) => (Value.agg #[(Value.int .i64 r.1), (Value.int .i64 r.2)])) w22 fun r87 w23 =>
    ix r47 4 2 fun p88 =>
    st p88 [(Value.int .i64 r87.1), (Value.int .i64 r87.2)] w23 fun w24 =>
    ld (Value.int .i64) ((Addr.mk b9 0 none).add 5) w24 fun x90 =>
    ld (Value.int .i64) ((Addr.mk b34 0 none).add 0) w24 fun x91 =>
    ld (Value.int .i64) ((Addr.mk b34 0 none).add 1) w24 fun x92 =>
    ld (Value.int .i64) ((Addr.mk b9 0 none).add 5) w24 fun x93 =>
    ld (Value.int .i64) ((Addr.mk b35 0 none).add 0) w24 fun x94 =>
    ld (Value.int .i64) ((Addr.mk b35 0 none).add 1) w24 fun x95 =>
    nw 72 #[(Value.bool (decide (x90 = 2))), (Value.int .i64 x91), (Value.int .i64 x92), (Value.bool (decide (x93 = 1))), (Value.int .i64 2), (Value.int .i64 1), (Value.bool true), (Value.int .i64 x94), (Value.int .i64 x95)] w24 fun b96 w25 =>
    callC Try.prog 43 #[(Sl.v (⟨some ⟨b96, 0, none⟩, 3, 3⟩ : Sl))] (fun (r : Int × Int) => (Value.agg #[(Value.int .i64 r.1), (Value.int .i64 r.2)])) w25 fun r97 w26 =>
    ix r47 5 2 fun p98 =>
    st p98 [(Value.int .i64 r97.1), (Value.int .i64 r97.2)] w26 fun w27 =>
    ld Value.bool ((Addr.mk b9 0 none).add 6) w27 fun x100 =>
    ld (Value.int .i64) ((Addr.mk b34 0 none).add 0) w27 fun x101 =>
    ld (Value.int .i64) ((Addr.mk b34 0 none).add 1) w27 fun x102 =>
    ld (Value.int .i64) ((Addr.mk b35 0 none).add 0) w27 fun x103 =>
    ld (Value.int .i64) ((Addr.mk b35 0 none).add 1) w27 fun x104 =>
    nw 72 #[(Value.bool x100), (Value.int .i64 x101), (Value.int .i64 x102), (Value.bool true), (Value.int .i64 x103), (Value.int .i64 x104)] w27 fun b105 w28 =>
    callC Try.prog 43 #[(Sl.v (⟨some ⟨b105, 0, none⟩, 2, 2⟩ : Sl))] (fun (r : Int × Int) => (Value.agg #[(Value.int .i64 r.1), (Value.int .i64 r.2)])) w28 fun r106 w29 =>
    ix r47 6 2 fun p107 =>
    st p107 [(Value.int .i64 r106.1), (Value.int .i64 r106.2)] w29 fun w30 =>
    ld Value.bool ((Addr.mk b9 0 none).add 7) w30 fun x109 =>
    ld (Value.int .i64) ((Addr.mk b34 0 none).add 0) w30 fun x110 =>
    ld (Value.int .i64) ((Addr.mk b34 0 none).add 1) w30 fun x111 =>
    ld (Value.int .i64) ((Addr.mk b35 0 none).add 0) w30 fun x112 =>
    ld (Value.int .i64) ((Addr.mk b35 0 none).add 1) w30 fun x113 =>
    nw 72 #[(Value.bool x109), (Value.int .i64 x110), (Value.int .i64 x111), (Value.bool true), (Value.int .i64 x112), (Value.int .i64 x113)] w30 fun b114 w31 =>
    callC Try.prog 43 #[(Sl.v (⟨some ⟨b114, 0, none⟩, 2, 2⟩ : Sl))] (fun (r : Int × Int) => (Value.agg #[(Value.int .i64 r.1), (Value.int .i64 r.2)])) w31 fun r115 w32 =>
    ix r47 7 2 fun p116 =>
    st p116 [(Value.int .i64 r115.1), (Value.int .i64 r115.2)] w32 fun w33 =>
    ld (Value.int .i64) ((Addr.mk b9 0 none).add 10) w33 fun x118 =>
    ld (Value.int .i64) ((Addr.mk b34 0 none).add 0) w33 fun x119 =>
    ld (Value.int .i64) ((Addr.mk b34 0 none).add 1) w33 fun x120 =>
    ld (Value.int .i64) ((Addr.mk b9 0 none).add 10) w33 fun x121 =>
    ld (Value.int .i64) ((Addr.mk b35 0 none).add 0) w33 fun x122 =>
    ld (Value.int .i64) ((Addr.mk b35 0 none).add 1) w33 fun x123 =>
    nw 72 #[(Value.bool (decide (x118 = 4))), (Value.int .i64 x119), (Value.int .i64 x120), (Value.bool (decide (0 < x121))), (Value.int .i64 4), (Value.int .i64 1), (Value.bool true), (Value.int .i64 x122), (Value.int .i64 x123)] w33 fun b124 w34 =>
    callC Try.prog 43 #[(Sl.v (⟨some ⟨b124, 0, none⟩, 3, 3⟩ : Sl))] (fun (r : Int × Int) => (Value.agg #[(Value.int .i64 r.1), (Value.int .i64 r.2)])) w34 fun r125 w35 =>
    ix r47 8 2 fun p126 =>
    st p126 [(Value.int .i64 r125.1), (Value.int .i64 r125.2)] w35 fun w36 =>
    K (r47, 0) w36
    )
set_option maxRecDepth 100000 in
theorem D18 (p0_0 : ByteArray) (p0_1 : Int) (p0_2 : Int) (p0_3 : Int) (p0_4 : Bool) (p0_5 : Int) (p0_6 : Bool) (p0_7 : Bool) (p0_8 : Int) (p0_9 : Int) (p0_10 : Int) (p0_11 : Int) (p0_12 : Sl) (p0_13 : Int) (p0_14 : Int) (p0_15 : Int) (p0_16 : Int) (p0_17 : Bool) (p0_18 : Int) (p0_19 : Int) (p0_20 : Int) (p0_21 : Int) (w0 : World) (K : (Sl × Int) → World → Prop) (h : F18 p0_0 p0_1 p0_2 p0_3 p0_4 p0_5 p0_6 p0_7 p0_8 p0_9 p0_10 p0_11 p0_12 p0_13 p0_14 p0_15 p0_16 p0_17 p0_18 p0_19 p0_20 p0_21 w0 K) : callC Try.prog 18 #[(V23 p0_0 p0_1 p0_2 p0_3 p0_4 p0_5 p0_6 p0_7 p0_8 p0_9 p0_10 p0_11 p0_12 p0_13 p0_14 p0_15 p0_16 p0_17 p0_18 p0_19 p0_20 p0_21)] (fun (r : Sl × Int) => (Value.tuple #[(Sl.v r.1), (Value.int .i64 r.2)])) w0 K := by
  unfold F18 at h
  refine calls_of_wpC Try.func18 rfl 148 rfl (by simp) ?_
  intro ρ hρ
  have e0 : ρ 0 = (V23 p0_0 p0_1 p0_2 p0_3 p0_4 p0_5 p0_6 p0_7 p0_8 p0_9 p0_10 p0_11 p0_12 p0_13 p0_14 p0_15 p0_16 p0_17 p0_18 p0_19 p0_20 p0_21) := hρ 0
  clear hρ
  refine wpC_seq ?_
  refine wpC_region ?_
  obtain ⟨b9, hb9⟩ : ∃ u, u = w0.heap.size := ⟨_, rfl⟩
  obtain ⟨w1, hw9⟩ : ∃ u, u = w0.alloc (.cells (A23 p0_0 p0_1 p0_2 p0_3 p0_4 p0_5 p0_6 p0_7 p0_8 p0_9 p0_10 p0_11 p0_12 p0_13 p0_14 p0_15 p0_16 p0_17 p0_18 p0_19 p0_20 p0_21) 24) := ⟨_, rfl⟩
  replace h := h b9 w1 hb9 hw9
  refine wpR_val (v := (Value.pointer (some (Addr.mk b9 0 none)))) (w' := w1) rfl rfl rfl ((x_box (v := (V23 p0_0 p0_1 p0_2 p0_3 p0_4 p0_5 p0_6 p0_7 p0_8 p0_9 p0_10 p0_11 p0_12 p0_13 p0_14 p0_15 p0_16 p0_17 p0_18 p0_19 p0_20 p0_21)) rfl e0).trans (by rw [hb9, hw9]; rfl)) ?_
  refine wpR_val (v := (Sl.v Sl.nil)) (w' := w1) rfl rfl rfl (x_assign (v := (Sl.v Sl.nil)) rfl rfl) ?_
  refine wpR_val (v := (Value.int .i64 0)) (w' := w1) rfl rfl rfl (x_assign (v := (Value.int .i64 0)) rfl rfl) ?_
  refine wpR_nil ?_
  refine wpC_seq ?_
  refine wpC_seq ?_
  refine wpC_cut (fun ρ => ρ 1 = (Value.pointer (some (Addr.mk b9 0 none))) ∧ True) ⟨rfl, trivial⟩ ?_
  rintro ρ ⟨e1, -⟩
  refine wpC_region ?_
  obtain ⟨x10, q10, x11, q11, x12, q12, x13, q13, x14, q14, x15, q15, x16, q16, x17, q17, x18, q18, x19, q19, x20, q20, x21, q21, x22, q22, x23, q23, x24, q24, x25, q25, x26, q26, x27, q27, x28, q28, x29, q29, x30, q30, x31, q31, h⟩ := h
  refine wpR_val (v := (V23 x10 x11 x12 x13 x14 x15 x16 x17 x18 x19 x20 x21 x22 x23 x24 x25 x26 x27 x28 x29 x30 x31)) (w' := w1) rfl rfl rfl (x_loadN (S23 x10 x11 x12 x13 x14 x15 x16 x17 x18 x19 x20 x21 x22 x23 x24 x25 x26 x27 x28 x29 x30 x31) rfl e1 SH_24 (K23 ⟨q10, q11, q12, q13, q14, q15, q16, q17, q18, q19, q20, q21, q22, q23, q24, q25, q26, q27, q28, q29, q30, q31⟩)) ?_
  refine wpR_enter rfl rfl rfl (x_call (vs := [(V23 x10 x11 x12 x13 x14 x15 x16 x17 x18 x19 x20 x21 x22 x23 x24 x25 x26 x27 x28 x29 x30 x31)]) rfl rfl (mapl_cons rfl mapl_nil) Try.func17 NN_17 NB_17) (Calls.mono h ?_)
  rintro _ w2 ⟨r32, rfl, h⟩
  refine ⟨_, rfl, ?_⟩
  refine wpR_val (v := (Value.int .i64 r32)) (w' := w2) rfl rfl rfl (x_assign (v := (Value.int .i64 r32)) rfl rfl) ?_
  refine wpR_nil ?_
  refine wpC_seq ?_
  refine wpC_cut (fun ρ => ρ 1 = (Value.pointer (some (Addr.mk b9 0 none))) ∧ ρ 4 = (Value.int .i64 r32) ∧ True) ⟨e1, rfl, trivial⟩ ?_
  rintro ρ ⟨e1, e4, -⟩
  refine wpC_region ?_
  refine wpR_val (v := (Value.int .i64 r32)) (w' := w2) rfl rfl rfl (x_move (v := (Value.int .i64 r32)) rfl e4) ?_
  refine wpR_val (v := (Value.bool (!decide (r32 = 0)))) (w' := w2) rfl rfl rfl (x_neq rfl rfl rfl) ?_
  refine wpR_nil ?_
  refine wpC_cond (b := !decide (r32 = 0)) rfl (fun hc33 => ?_) (fun hc33 => ?_)
  · replace h := h.1 hc33
    refine wpC_seq ?_
    refine wpC_cut (fun ρ => ρ 4 = (Value.int .i64 r32) ∧ True) ⟨e4, trivial⟩ ?_
    rintro ρ ⟨e4, -⟩
    refine wpC_region ?_
    refine wpR_val (v := (Value.int .i64 r32)) (w' := w2) rfl rfl rfl (x_move (v := (Value.int .i64 r32)) rfl e4) ?_
    refine wpR_val (v := (Sl.v Sl.nil)) (w' := w2) rfl rfl rfl (x_assign (v := (Sl.v Sl.nil)) rfl rfl) ?_
    refine wpR_val (v := (Value.int .i64 r32)) (w' := w2) rfl rfl rfl (x_assign (v := (Value.int .i64 r32)) rfl rfl) ?_
    refine wpR_nil ?_
    refine wpC_ret ?_
    exact ⟨.inl rfl, fun a ha => ⟨_, results_rep2 rfl ha rfl rfl, (Sl.nil, r32), rfl, h⟩⟩
  · replace h := h.2 hc33
    refine wpC_skip ?_
    refine wpC_seq ?_
    refine wpC_cut (fun ρ => ρ 1 = (Value.pointer (some (Addr.mk b9 0 none))) ∧ True) ⟨e1, trivial⟩ ?_
    rintro ρ ⟨e1, -⟩
    refine wpC_region ?_
    refine wpR_val (v := (Value.agg #[(Value.int .i64 0), (Value.int .i64 0)])) (w' := w2) rfl rfl rfl (x_build (qs := [(0, (Value.int .i64 0)), (1, (Value.int .i64 0))]) rfl (by rfl) (BD_46_0_1 0 0 _)) ?_
    refine wpR_val (v := (Value.agg #[(Value.int .i64 2), (Value.int .i64 2)])) (w' := w2) rfl rfl rfl (x_build (qs := [(0, (Value.int .i64 2)), (1, (Value.int .i64 2))]) rfl (by rfl) (BD_46_0_1 2 2 _)) ?_
    refine wpR_val (v := (Value.agg #[(Value.int .i64 3), (Value.int .i64 2)])) (w' := w2) rfl rfl rfl (x_build (qs := [(0, (Value.int .i64 3)), (1, (Value.int .i64 2))]) rfl (by rfl) (BD_46_0_1 3 2 _)) ?_
    obtain ⟨b34, hb34⟩ : ∃ u, u = w2.heap.size := ⟨_, rfl⟩
    obtain ⟨w3, hw34⟩ : ∃ u, u = w2.alloc (.cells #[(Value.int .i64 0), (Value.int .i64 0)] 46) := ⟨_, rfl⟩
    replace h := h b34 w3 hb34 hw34
    refine wpR_val (v := (Value.pointer (some (Addr.mk b34 0 none)))) (w' := w3) rfl rfl rfl ((x_alloc rfl ZV_46).trans (by rw [hb34, hw34]; rfl)) ?_
    obtain ⟨b35, hb35⟩ : ∃ u, u = w3.heap.size := ⟨_, rfl⟩
    obtain ⟨w4, hw35⟩ : ∃ u, u = w3.alloc (.cells #[(Value.int .i64 0), (Value.int .i64 0)] 46) := ⟨_, rfl⟩
    replace h := h b35 w4 hb35 hw35
    refine wpR_val (v := (Value.pointer (some (Addr.mk b35 0 none)))) (w' := w4) rfl rfl rfl ((x_alloc rfl ZV_46).trans (by rw [hb35, hw35]; rfl)) ?_
    obtain ⟨b36, hb36⟩ : ∃ u, u = w4.heap.size := ⟨_, rfl⟩
    obtain ⟨w5, hw36⟩ : ∃ u, u = w4.alloc (.cells #[(Value.int .i64 0), (Value.int .i64 0)] 46) := ⟨_, rfl⟩
    replace h := h b36 w5 hb36 hw36
    refine wpR_val (v := (Value.pointer (some (Addr.mk b36 0 none)))) (w' := w5) rfl rfl rfl ((x_alloc rfl ZV_46).trans (by rw [hb36, hw36]; rfl)) ?_
    obtain ⟨q37, h⟩ := h
    obtain ⟨w6, hw37⟩ : ∃ u, u = setAll w5 (Addr.mk b34 0 none) [(Value.int .i64 0), (Value.int .i64 0)] 0 := ⟨_, rfl⟩
    replace h := h w6 hw37
    refine wpR_skp (w' := w6) rfl rfl ((x_store (v := (Value.agg #[(Value.int .i64 0), (Value.int .i64 0)])) rfl rfl rfl SZ_46 (ones (by rfl)) q37).trans (by rw [hw37]; rfl)) ?_
    obtain ⟨q38, h⟩ := h
    obtain ⟨w7, hw38⟩ : ∃ u, u = setAll w6 (Addr.mk b35 0 none) [(Value.int .i64 2), (Value.int .i64 2)] 0 := ⟨_, rfl⟩
    replace h := h w7 hw38
    refine wpR_skp (w' := w7) rfl rfl ((x_store (v := (Value.agg #[(Value.int .i64 2), (Value.int .i64 2)])) rfl rfl rfl SZ_46 (ones (by rfl)) q38).trans (by rw [hw38]; rfl)) ?_
    obtain ⟨q39, h⟩ := h
    obtain ⟨w8, hw39⟩ : ∃ u, u = setAll w7 (Addr.mk b36 0 none) [(Value.int .i64 3), (Value.int .i64 2)] 0 := ⟨_, rfl⟩
    replace h := h w8 hw39
    refine wpR_skp (w' := w8) rfl rfl ((x_store (v := (Value.agg #[(Value.int .i64 3), (Value.int .i64 2)])) rfl rfl rfl SZ_46 (ones (by rfl)) q39).trans (by rw [hw39]; rfl)) ?_
    refine wpR_nil ?_
    refine wpC_seq ?_
    refine wpC_cut (fun ρ => ρ 1 = (Value.pointer (some (Addr.mk b9 0 none))) ∧ ρ 5 = (Value.pointer (some (Addr.mk b34 0 none))) ∧ ρ 6 = (Value.pointer (some (Addr.mk b35 0 none))) ∧ ρ 7 = (Value.pointer (some (Addr.mk b36 0 none))) ∧ True) ⟨e1, rfl, rfl, rfl, trivial⟩ ?_
    rintro ρ ⟨e1, e5, e6, e7, -⟩
    obtain ⟨J41, h, hk⟩ := h
    refine wpC_drawJ (by kernel_rfl) (fun (x : Bool × Bool) ρ => ρ 8 = (Value.bool x.1) ∧ ρ 9 = (Value.bool x.2) ∧ ρ 1 = (Value.pointer (some (Addr.mk b9 0 none))) ∧ ρ 5 = (Value.pointer (some (Addr.mk b34 0 none))) ∧ ρ 6 = (Value.pointer (some (Addr.mk b35 0 none))) ∧ ρ 7 = (Value.pointer (some (Addr.mk b36 0 none))) ∧ True) J41 ?_ ?_
    · clear hk
      unfold tk at h
      generalize w8.drew = w9 at h ⊢
      refine wpD_take (v := (Value.pointer (some ((Addr.mk b9 0 none).add 9)))) 0 (fun _ => True) rfl (by kernel_rfl) (by kernel_rfl) (by kernel_rfl) rfl rfl rfl trivial (fun w _ => (x_fieldAddr rfl e1 FA_24_9)) ?_
      obtain ⟨x42, q42, h⟩ := h
      refine wpD_take (v := (Value.int .i64 x42)) 1 (fun w => w.cell? ((Addr.mk b9 0 none).add 9) = some (Value.int .i64 x42)) rfl (by kernel_rfl) (by kernel_rfl) (by kernel_rfl) rfl rfl rfl q42 (fun w q42 => (x_load1 rfl rfl SH_3 q42)) ?_
      refine wpD_take (v := (Value.bool (decide (1 < x42)))) 2 (fun _ => True) rfl (by kernel_rfl) (by kernel_rfl) (by kernel_rfl) rfl rfl rfl trivial (fun w _ => (x_gtr rfl rfl rfl)) ?_
      refine wpD_take (v := (Value.pointer (some ((Addr.mk b9 0 none).add 1)))) 3 (fun _ => True) rfl (by kernel_rfl) (by kernel_rfl) (by kernel_rfl) rfl rfl rfl trivial (fun w _ => (x_fieldAddr rfl e1 FA_24_1)) ?_
      obtain ⟨x43, q43, h⟩ := h
      refine wpD_take (v := (Value.int .i64 x43)) 4 (fun w => w.cell? ((Addr.mk b9 0 none).add 1) = some (Value.int .i64 x43)) rfl (by kernel_rfl) (by kernel_rfl) (by kernel_rfl) rfl rfl rfl q43 (fun w q43 => (x_load1 rfl rfl SH_3 q43)) ?_
      refine wpD_take (v := (Value.bool (decide (x43 = 2)))) 5 (fun _ => True) rfl (by kernel_rfl) (by kernel_rfl) (by kernel_rfl) rfl rfl rfl trivial (fun w _ => (x_eql rfl rfl rfl)) ?_
      refine wpD_take (v := (Value.bool (decide (x43 = 2)))) 6 (fun _ => True) rfl (by kernel_rfl) (by kernel_rfl) (by kernel_rfl) rfl rfl rfl trivial (fun w _ => (x_move (v := (Value.bool (decide (x43 = 2)))) rfl rfl)) ?_
      rcases Bool.eq_false_or_eq_true (decide (x43 = 2)) with hc44 | hc44
      · replace h := h.1 hc44
        refine wpD_take (v := (Value.pointer (some ((Addr.mk b9 0 none).add 2)))) 7 (fun _ => True) rfl (by kernel_rfl) (by kernel_rfl) (by kernel_rfl) (wantG rfl rfl rfl hc44) rfl rfl trivial (fun w _ => (x_fieldAddr rfl e1 FA_24_2)) ?_
        obtain ⟨x45, q45, h⟩ := h
        refine wpD_take (v := (Value.int .i64 x45)) 8 (fun w => w.cell? ((Addr.mk b9 0 none).add 2) = some (Value.int .i64 x45)) rfl (by kernel_rfl) (by kernel_rfl) (by kernel_rfl) (wantG rfl rfl rfl hc44) rfl rfl q45 (fun w q45 => (x_load1 rfl rfl SH_3 q45)) ?_
        refine wpD_take (v := (Value.bool (decide (x45 = 0)))) 9 (fun _ => True) rfl (by kernel_rfl) (by kernel_rfl) (by kernel_rfl) (wantG rfl rfl rfl hc44) rfl rfl trivial (fun w _ => (x_eql rfl rfl rfl)) ?_
        refine wpD_take (v := (Value.bool (decide (x45 = 0)))) 10 (fun _ => True) rfl (by kernel_rfl) (by kernel_rfl) (by kernel_rfl) rfl rfl rfl trivial (fun w _ => (x_pickT (v := (Value.bool (decide (x45 = 0)))) rfl rfl hc44 rfl)) ?_
        refine wpD_take (v := (Value.bool (decide (1 < x42)))) 11 (fun _ => True) rfl (by kernel_rfl) (by kernel_rfl) (by kernel_rfl) rfl rfl rfl trivial (fun w _ => (x_assign (v := (Value.bool (decide (1 < x42)))) rfl rfl)) ?_
        refine wpD_take (v := (Value.bool (decide (x45 = 0)))) 12 (fun _ => True) rfl (by kernel_rfl) (by kernel_rfl) (by kernel_rfl) rfl rfl rfl trivial (fun w _ => (x_assign (v := (Value.bool (decide (x45 = 0)))) rfl rfl)) ?_
        exact wpD_done (by kernel_rfl) ⟨(decide (1 < x42), decide (x45 = 0)), ⟨rfl, rfl, e1, e5, e6, e7, trivial⟩, h⟩
      · replace h := h.2 hc44
        refine wpD_pass 7 rfl (by kernel_rfl) (by kernel_rfl) (by kernel_rfl) (wantN rfl rfl rfl hc44) rfl rfl ?_
        refine wpD_pass 8 rfl (by kernel_rfl) (by kernel_rfl) (by kernel_rfl) (wantN rfl rfl rfl hc44) rfl rfl ?_
        refine wpD_pass 9 rfl (by kernel_rfl) (by kernel_rfl) (by kernel_rfl) (wantN rfl rfl rfl hc44) rfl rfl ?_
        refine wpD_take (v := (Value.bool false)) 10 (fun _ => True) rfl (by kernel_rfl) (by kernel_rfl) (by kernel_rfl) rfl rfl rfl trivial (fun w _ => (x_pickF (v := (Value.bool false)) rfl rfl hc44 rfl)) ?_
        refine wpD_take (v := (Value.bool (decide (1 < x42)))) 11 (fun _ => True) rfl (by kernel_rfl) (by kernel_rfl) (by kernel_rfl) rfl rfl rfl trivial (fun w _ => (x_assign (v := (Value.bool (decide (1 < x42)))) rfl rfl)) ?_
        refine wpD_take (v := (Value.bool false)) 12 (fun _ => True) rfl (by kernel_rfl) (by kernel_rfl) (by kernel_rfl) rfl rfl rfl trivial (fun w _ => (x_assign (v := (Value.bool false)) rfl rfl)) ?_
        exact wpD_done (by kernel_rfl) ⟨(decide (1 < x42), false), ⟨rfl, rfl, e1, e5, e6, e7, trivial⟩, h⟩
    clear h
    rintro l46 ρ w10 ⟨e8, e9, e1, e5, e6, e7, -⟩ h
    replace h := hk l46 w10 h
    clear hk
    refine wpC_seq ?_
    refine wpC_region ?_
    obtain ⟨r47, w11, q47, h⟩ := h
    refine wpR_val (v := (Sl.v r47)) (w' := w11) rfl rfl rfl (x_makeSlice rfl rfl rfl q47) ?_
    refine wpR_val (v := (Sl.v r47)) (w' := w11) rfl rfl rfl (x_assign (v := (Sl.v r47)) rfl rfl) ?_
    refine wpR_nil ?_
    refine wpC_seq ?_
    refine wpC_cut (fun ρ => ρ 1 = (Value.pointer (some (Addr.mk b9 0 none))) ∧ ρ 5 = (Value.pointer (some (Addr.mk b34 0 none))) ∧ ρ 6 = (Value.pointer (some (Addr.mk b35 0 none))) ∧ ρ 7 = (Value.pointer (some (Addr.mk b36 0 none))) ∧ ρ 8 = (Value.bool l46.1) ∧ ρ 9 = (Value.bool l46.2) ∧ ρ 10 = (Sl.v r47) ∧ True) ⟨e1, e5, e6, e7, e8, e9, rfl, trivial⟩ ?_
    rintro ρ ⟨e1, e5, e6, e7, e8, e9, e10, -⟩
    refine wpC_region ?_
    refine wpR_val (v := (Sl.v r47)) (w' := w11) rfl rfl rfl (x_move (v := (Sl.v r47)) rfl e10) ?_
    obtain ⟨x48, q48, x49, q49, h⟩ := h
    refine wpR_val (v := (Value.agg #[(Value.int .i64 x48), (Value.int .i64 x49)])) (w' := w11) rfl rfl rfl (x_loadN [(Value.int .i64 x48), (Value.int .i64 x49)] rfl e5 SH_46 (CellsAt.out (CellsAt.cons q48 (CellsAt.cons q49 CellsAt.nil)))) ?_
    obtain ⟨q50, z50, r50, h⟩ := h
    generalize hp50 : z50.add ((0 : Int).toNat * 2) = p50 at h
    refine wpR_val (v := (Value.pointer (some p50))) (w' := w11) rfl rfl rfl ((x_indexAddr (s := r47) rfl rfl rfl ES_25 q50 r50).trans (by rw [hp50])) ?_
    obtain ⟨q51, h⟩ := h
    obtain ⟨w12, hw51⟩ : ∃ u, u = setAll w11 p50 [(Value.int .i64 x48), (Value.int .i64 x49)] 0 := ⟨_, rfl⟩
    replace h := h w12 hw51
    refine wpR_skp (w' := w12) rfl rfl ((x_store (v := (Value.agg #[(Value.int .i64 x48), (Value.int .i64 x49)])) rfl rfl rfl SZ_46 (ones (by rfl)) q51).trans (by rw [hw51]; rfl)) ?_
    refine wpR_nil ?_
    refine wpC_seq ?_
    refine wpC_cut (fun ρ => ρ 1 = (Value.pointer (some (Addr.mk b9 0 none))) ∧ ρ 5 = (Value.pointer (some (Addr.mk b34 0 none))) ∧ ρ 6 = (Value.pointer (some (Addr.mk b35 0 none))) ∧ ρ 7 = (Value.pointer (some (Addr.mk b36 0 none))) ∧ ρ 8 = (Value.bool l46.1) ∧ ρ 9 = (Value.bool l46.2) ∧ ρ 10 = (Sl.v r47) ∧ True) ⟨e1, e5, e6, e7, e8, e9, e10, trivial⟩ ?_
    rintro ρ ⟨e1, e5, e6, e7, e8, e9, e10, -⟩
    refine wpC_region ?_
    refine wpR_val (v := (Sl.v r47)) (w' := w12) rfl rfl rfl (x_move (v := (Sl.v r47)) rfl e10) ?_
    refine wpR_val (v := (Value.bool l46.1)) (w' := w12) rfl rfl rfl (x_move (v := (Value.bool l46.1)) rfl e8) ?_
    refine wpR_val (v := (Value.bool l46.1)) (w' := w12) rfl rfl rfl (x_move (v := (Value.bool l46.1)) rfl rfl) ?_
    obtain ⟨J52, h, hk⟩ := h
    refine wpR_joinJ 7 (fun x ρ => ρ 43 = Value.bool x ∧ ρ 1 = (Value.pointer (some (Addr.mk b9 0 none))) ∧ ρ 5 = (Value.pointer (some (Addr.mk b34 0 none))) ∧ ρ 6 = (Value.pointer (some (Addr.mk b35 0 none))) ∧ ρ 7 = (Value.pointer (some (Addr.mk b36 0 none))) ∧ ρ 8 = (Value.bool l46.1) ∧ ρ 9 = (Value.bool l46.2) ∧ ρ 10 = (Sl.v r47) ∧ ρ 34 = (Sl.v r47) ∧ True) (fun x w => J52 x ∧ w12 = w) ?_ ?_
    · clear hk
      rcases Bool.eq_false_or_eq_true (l46.1) with hc53 | hc53
      · replace h := h.1 hc53
        refine wpR_val (v := (Value.pointer (some ((Addr.mk b9 0 none).add 8)))) (w' := w12) (wantG rfl rfl rfl hc53) rfl rfl (x_fieldAddr rfl e1 FA_24_8) ?_
        obtain ⟨x54, q54, h⟩ := h
        refine wpR_val (v := (Value.int .i64 x54)) (w' := w12) (wantG rfl rfl rfl hc53) rfl rfl (x_load1 rfl rfl SH_3 q54) ?_
        refine wpR_val (v := (Value.pointer (some ((Addr.mk b9 0 none).add 9)))) (w' := w12) (wantG rfl rfl rfl hc53) rfl rfl (x_fieldAddr rfl e1 FA_24_9) ?_
        obtain ⟨x55, q55, h⟩ := h
        refine wpR_val (v := (Value.int .i64 x55)) (w' := w12) (wantG rfl rfl rfl hc53) rfl rfl (x_load1 rfl rfl SH_3 q55) ?_
        refine wpR_val (v := (Value.int .i64 (IntKind.i64.wrap (x54 * x55)))) (w' := w12) (wantG rfl rfl rfl hc53) rfl rfl (x_mul rfl rfl rfl) ?_
        refine wpR_val (v := (Value.bool (decide (4400 ≤ (IntKind.i64.wrap (x54 * x55)))))) (w' := w12) (wantG rfl rfl rfl hc53) rfl rfl (x_geq rfl rfl rfl) ?_
        refine wpR_val (v := (Value.bool (decide (4400 ≤ (IntKind.i64.wrap (x54 * x55)))))) (w' := w12) rfl rfl rfl (x_pickT (v := (Value.bool (decide (4400 ≤ (IntKind.i64.wrap (x54 * x55)))))) rfl rfl hc53 rfl) ?_
        refine wpR_nil ?_
        exact ⟨decide (4400 ≤ (IntKind.i64.wrap (x54 * x55))), ⟨rfl, e1, e5, e6, e7, e8, e9, e10, rfl, trivial⟩, h, rfl⟩
      · replace h := h.2 hc53
        refine wpR_pass (wantN rfl rfl rfl hc53) rfl rfl ?_
        refine wpR_pass (wantN rfl rfl rfl hc53) rfl rfl ?_
        refine wpR_pass (wantN rfl rfl rfl hc53) rfl rfl ?_
        refine wpR_pass (wantN rfl rfl rfl hc53) rfl rfl ?_
        refine wpR_pass (wantN rfl rfl rfl hc53) rfl rfl ?_
        refine wpR_pass (wantN rfl rfl rfl hc53) rfl rfl ?_
        refine wpR_val (v := (Value.bool false)) (w' := w12) rfl rfl rfl (x_pickF (v := (Value.bool false)) rfl rfl hc53 rfl) ?_
        refine wpR_nil ?_
        exact ⟨false, ⟨rfl, e1, e5, e6, e7, e8, e9, e10, rfl, trivial⟩, h, rfl⟩
    clear h
    rintro c56 ρ wj ⟨e43, e1, e5, e6, e7, e8, e9, e10, e34, -⟩ ⟨h, rfl⟩
    replace h := hk c56 h
    clear hk
    refine wpR_val (v := (Value.agg #[(Value.int .i64 1), (Value.int .i64 1)])) (w' := w12) rfl rfl rfl (x_build (qs := [(0, (Value.int .i64 1)), (1, (Value.int .i64 1))]) rfl (by rfl) (BD_46_0_1 1 1 _)) ?_
    refine wpR_val (v := (Value.agg #[(Value.bool c56), (Value.int .i64 1), (Value.int .i64 1)])) (w' := w12) rfl rfl rfl (x_build (qs := [(0, (Value.bool c56)), (1, (Value.agg #[(Value.int .i64 1), (Value.int .i64 1)]))]) rfl (bl_cons e43 (bl_cons rfl bl_nil)) (BD_72_0_1 c56 1 1 _)) ?_
    refine wpR_val (v := (Value.bool l46.1)) (w' := w12) rfl rfl rfl (x_move (v := (Value.bool l46.1)) rfl e8) ?_
    refine wpR_val (v := (Value.agg #[(Value.int .i64 4), (Value.int .i64 1)])) (w' := w12) rfl rfl rfl (x_build (qs := [(0, (Value.int .i64 4)), (1, (Value.int .i64 1))]) rfl (by rfl) (BD_46_0_1 4 1 _)) ?_
    refine wpR_val (v := (Value.agg #[(Value.bool l46.1), (Value.int .i64 4), (Value.int .i64 1)])) (w' := w12) rfl rfl rfl (x_build (qs := [(0, (Value.bool l46.1)), (1, (Value.agg #[(Value.int .i64 4), (Value.int .i64 1)]))]) rfl (by rfl) (BD_72_0_1 l46.1 4 1 _)) ?_
    refine wpR_val (v := (Value.agg #[(Value.int .i64 4), (Value.int .i64 0)])) (w' := w12) rfl rfl rfl (x_build (qs := [(0, (Value.int .i64 4)), (1, (Value.int .i64 0))]) rfl (by rfl) (BD_46_0_1 4 0 _)) ?_
    refine wpR_val (v := (Value.agg #[(Value.bool true), (Value.int .i64 4), (Value.int .i64 0)])) (w' := w12) rfl rfl rfl (x_build (qs := [(0, (Value.bool true)), (1, (Value.agg #[(Value.int .i64 4), (Value.int .i64 0)]))]) rfl (by rfl) (BD_72_0_1 true 4 0 _)) ?_
    obtain ⟨b57, hb57⟩ : ∃ u, u = w12.heap.size := ⟨_, rfl⟩
    obtain ⟨w13, hw57⟩ : ∃ u, u = w12.alloc (.cells #[(Value.bool c56), (Value.int .i64 1), (Value.int .i64 1), (Value.bool l46.1), (Value.int .i64 4), (Value.int .i64 1), (Value.bool true), (Value.int .i64 4), (Value.int .i64 0)] 72) := ⟨_, rfl⟩
    replace h := h b57 w13 hb57 hw57
    refine wpR_val (v := (Sl.v (⟨some ⟨b57, 0, none⟩, 3, 3⟩ : Sl))) (w' := w13) rfl rfl rfl ((x_buildSlice (qs := [(0, (Value.agg #[(Value.bool c56), (Value.int .i64 1), (Value.int .i64 1)])), (1, (Value.agg #[(Value.bool l46.1), (Value.int .i64 4), (Value.int .i64 1)])), (2, (Value.agg #[(Value.bool true), (Value.int .i64 4), (Value.int .i64 0)]))]) rfl (by rfl) (BS_85_3_0_1_2 c56 1 1 l46.1 4 1 true 4 0)).trans (by rw [← hb57, ← hw57])) ?_
    refine wpR_enter rfl rfl rfl (x_call (vs := [(Sl.v (⟨some ⟨b57, 0, none⟩, 3, 3⟩ : Sl))]) rfl rfl (mapl_cons rfl mapl_nil) Try.func43 NN_43 NB_43) (Calls.mono h ?_)
    rintro _ w14 ⟨r58, rfl, h⟩
    refine ⟨_, rfl, ?_⟩
    obtain ⟨q59, z59, r59, h⟩ := h
    generalize hp59 : z59.add ((1 : Int).toNat * 2) = p59 at h
    refine wpR_val (v := (Value.pointer (some p59))) (w' := w14) rfl rfl rfl ((x_indexAddr (s := r47) rfl e34 rfl ES_25 q59 r59).trans (by rw [hp59])) ?_
    obtain ⟨q60, h⟩ := h
    obtain ⟨w15, hw60⟩ : ∃ u, u = setAll w14 p59 [(Value.int .i64 r58.1), (Value.int .i64 r58.2)] 0 := ⟨_, rfl⟩
    replace h := h w15 hw60
    refine wpR_skp (w' := w15) rfl rfl ((x_store (v := (Value.agg #[(Value.int .i64 r58.1), (Value.int .i64 r58.2)])) rfl rfl rfl SZ_46 (ones (by rfl)) q60).trans (by rw [hw60]; rfl)) ?_
    refine wpR_nil ?_
    refine wpC_seq ?_
    refine wpC_cut (fun ρ => ρ 1 = (Value.pointer (some (Addr.mk b9 0 none))) ∧ ρ 5 = (Value.pointer (some (Addr.mk b34 0 none))) ∧ ρ 6 = (Value.pointer (some (Addr.mk b35 0 none))) ∧ ρ 7 = (Value.pointer (some (Addr.mk b36 0 none))) ∧ ρ 8 = (Value.bool l46.1) ∧ ρ 9 = (Value.bool l46.2) ∧ ρ 10 = (Sl.v r47) ∧ True) ⟨e1, e5, e6, e7, e8, e9, e10, trivial⟩ ?_
    rintro ρ ⟨e1, e5, e6, e7, e8, e9, e10, -⟩
    refine wpC_region ?_
    refine wpR_val (v := (Sl.v r47)) (w' := w15) rfl rfl rfl (x_move (v := (Sl.v r47)) rfl e10) ?_
    refine wpR_val (v := (Value.bool l46.2)) (w' := w15) rfl rfl rfl (x_move (v := (Value.bool l46.2)) rfl e9) ?_
    obtain ⟨x61, q61, x62, q62, h⟩ := h
    refine wpR_val (v := (Value.agg #[(Value.int .i64 x61), (Value.int .i64 x62)])) (w' := w15) rfl rfl rfl (x_loadN [(Value.int .i64 x61), (Value.int .i64 x62)] rfl e5 SH_46 (CellsAt.out (CellsAt.cons q61 (CellsAt.cons q62 CellsAt.nil)))) ?_
    refine wpR_val (v := (Value.agg #[(Value.bool l46.2), (Value.int .i64 x61), (Value.int .i64 x62)])) (w' := w15) rfl rfl rfl (x_build (qs := [(0, (Value.bool l46.2)), (1, (Value.agg #[(Value.int .i64 x61), (Value.int .i64 x62)]))]) rfl (by rfl) (BD_72_0_1 l46.2 x61 x62 _)) ?_
    obtain ⟨x63, q63, x64, q64, h⟩ := h
    refine wpR_val (v := (Value.agg #[(Value.int .i64 x63), (Value.int .i64 x64)])) (w' := w15) rfl rfl rfl (x_loadN [(Value.int .i64 x63), (Value.int .i64 x64)] rfl e7 SH_46 (CellsAt.out (CellsAt.cons q63 (CellsAt.cons q64 CellsAt.nil)))) ?_
    refine wpR_val (v := (Value.agg #[(Value.bool true), (Value.int .i64 x63), (Value.int .i64 x64)])) (w' := w15) rfl rfl rfl (x_build (qs := [(0, (Value.bool true)), (1, (Value.agg #[(Value.int .i64 x63), (Value.int .i64 x64)]))]) rfl (by rfl) (BD_72_0_1 true x63 x64 _)) ?_
    obtain ⟨b65, hb65⟩ : ∃ u, u = w15.heap.size := ⟨_, rfl⟩
    obtain ⟨w16, hw65⟩ : ∃ u, u = w15.alloc (.cells #[(Value.bool l46.2), (Value.int .i64 x61), (Value.int .i64 x62), (Value.bool true), (Value.int .i64 x63), (Value.int .i64 x64)] 72) := ⟨_, rfl⟩
    replace h := h b65 w16 hb65 hw65
    refine wpR_val (v := (Sl.v (⟨some ⟨b65, 0, none⟩, 2, 2⟩ : Sl))) (w' := w16) rfl rfl rfl ((x_buildSlice (qs := [(0, (Value.agg #[(Value.bool l46.2), (Value.int .i64 x61), (Value.int .i64 x62)])), (1, (Value.agg #[(Value.bool true), (Value.int .i64 x63), (Value.int .i64 x64)]))]) rfl (by rfl) (BS_85_2_0_1 l46.2 x61 x62 true x63 x64)).trans (by rw [← hb65, ← hw65])) ?_
    refine wpR_enter rfl rfl rfl (x_call (vs := [(Sl.v (⟨some ⟨b65, 0, none⟩, 2, 2⟩ : Sl))]) rfl rfl (mapl_cons rfl mapl_nil) Try.func43 NN_43 NB_43) (Calls.mono h ?_)
    rintro _ w17 ⟨r66, rfl, h⟩
    refine ⟨_, rfl, ?_⟩
    obtain ⟨q67, z67, r67, h⟩ := h
    generalize hp67 : z67.add ((2 : Int).toNat * 2) = p67 at h
    refine wpR_val (v := (Value.pointer (some p67))) (w' := w17) rfl rfl rfl ((x_indexAddr (s := r47) rfl rfl rfl ES_25 q67 r67).trans (by rw [hp67])) ?_
    obtain ⟨q68, h⟩ := h
    obtain ⟨w18, hw68⟩ : ∃ u, u = setAll w17 p67 [(Value.int .i64 r66.1), (Value.int .i64 r66.2)] 0 := ⟨_, rfl⟩
    replace h := h w18 hw68
    refine wpR_skp (w' := w18) rfl rfl ((x_store (v := (Value.agg #[(Value.int .i64 r66.1), (Value.int .i64 r66.2)])) rfl rfl rfl SZ_46 (ones (by rfl)) q68).trans (by rw [hw68]; rfl)) ?_
    refine wpR_nil ?_
    refine wpC_seq ?_
    refine wpC_cut (fun ρ => ρ 1 = (Value.pointer (some (Addr.mk b9 0 none))) ∧ ρ 5 = (Value.pointer (some (Addr.mk b34 0 none))) ∧ ρ 6 = (Value.pointer (some (Addr.mk b35 0 none))) ∧ ρ 7 = (Value.pointer (some (Addr.mk b36 0 none))) ∧ ρ 8 = (Value.bool l46.1) ∧ ρ 9 = (Value.bool l46.2) ∧ ρ 10 = (Sl.v r47) ∧ True) ⟨e1, e5, e6, e7, e8, e9, e10, trivial⟩ ?_
    rintro ρ ⟨e1, e5, e6, e7, e8, e9, e10, -⟩
    refine wpC_region ?_
    refine wpR_val (v := (Sl.v r47)) (w' := w18) rfl rfl rfl (x_move (v := (Sl.v r47)) rfl e10) ?_
    refine wpR_val (v := (Value.pointer (some ((Addr.mk b9 0 none).add 3)))) (w' := w18) rfl rfl rfl (x_fieldAddr rfl e1 FA_24_3) ?_
    obtain ⟨x69, q69, h⟩ := h
    refine wpR_val (v := (Value.int .i64 x69)) (w' := w18) rfl rfl rfl (x_load1 rfl rfl SH_3 q69) ?_
    refine wpR_val (v := (Value.bool (!decide (x69 = 0)))) (w' := w18) rfl rfl rfl (x_neq rfl rfl rfl) ?_
    obtain ⟨x70, q70, x71, q71, h⟩ := h
    refine wpR_val (v := (Value.agg #[(Value.int .i64 x70), (Value.int .i64 x71)])) (w' := w18) rfl rfl rfl (x_loadN [(Value.int .i64 x70), (Value.int .i64 x71)] rfl e5 SH_46 (CellsAt.out (CellsAt.cons q70 (CellsAt.cons q71 CellsAt.nil)))) ?_
    refine wpR_val (v := (Value.agg #[(Value.bool (!decide (x69 = 0))), (Value.int .i64 x70), (Value.int .i64 x71)])) (w' := w18) rfl rfl rfl (x_build (qs := [(0, (Value.bool (!decide (x69 = 0)))), (1, (Value.agg #[(Value.int .i64 x70), (Value.int .i64 x71)]))]) rfl (by rfl) (BD_72_0_1 (!decide (x69 = 0)) x70 x71 _)) ?_
    refine wpR_val (v := (Value.bool l46.2)) (w' := w18) rfl rfl rfl (x_move (v := (Value.bool l46.2)) rfl e9) ?_
    refine wpR_val (v := (Value.agg #[(Value.int .i64 2), (Value.int .i64 0)])) (w' := w18) rfl rfl rfl (x_build (qs := [(0, (Value.int .i64 2)), (1, (Value.int .i64 0))]) rfl (by rfl) (BD_46_0_1 2 0 _)) ?_
    refine wpR_val (v := (Value.agg #[(Value.bool l46.2), (Value.int .i64 2), (Value.int .i64 0)])) (w' := w18) rfl rfl rfl (x_build (qs := [(0, (Value.bool l46.2)), (1, (Value.agg #[(Value.int .i64 2), (Value.int .i64 0)]))]) rfl (by rfl) (BD_72_0_1 l46.2 2 0 _)) ?_
    obtain ⟨x72, q72, x73, q73, h⟩ := h
    refine wpR_val (v := (Value.agg #[(Value.int .i64 x72), (Value.int .i64 x73)])) (w' := w18) rfl rfl rfl (x_loadN [(Value.int .i64 x72), (Value.int .i64 x73)] rfl e7 SH_46 (CellsAt.out (CellsAt.cons q72 (CellsAt.cons q73 CellsAt.nil)))) ?_
    refine wpR_val (v := (Value.agg #[(Value.bool true), (Value.int .i64 x72), (Value.int .i64 x73)])) (w' := w18) rfl rfl rfl (x_build (qs := [(0, (Value.bool true)), (1, (Value.agg #[(Value.int .i64 x72), (Value.int .i64 x73)]))]) rfl (by rfl) (BD_72_0_1 true x72 x73 _)) ?_
    obtain ⟨b74, hb74⟩ : ∃ u, u = w18.heap.size := ⟨_, rfl⟩
    obtain ⟨w19, hw74⟩ : ∃ u, u = w18.alloc (.cells #[(Value.bool (!decide (x69 = 0))), (Value.int .i64 x70), (Value.int .i64 x71), (Value.bool l46.2), (Value.int .i64 2), (Value.int .i64 0), (Value.bool true), (Value.int .i64 x72), (Value.int .i64 x73)] 72) := ⟨_, rfl⟩
    replace h := h b74 w19 hb74 hw74
    refine wpR_val (v := (Sl.v (⟨some ⟨b74, 0, none⟩, 3, 3⟩ : Sl))) (w' := w19) rfl rfl rfl ((x_buildSlice (qs := [(0, (Value.agg #[(Value.bool (!decide (x69 = 0))), (Value.int .i64 x70), (Value.int .i64 x71)])), (1, (Value.agg #[(Value.bool l46.2), (Value.int .i64 2), (Value.int .i64 0)])), (2, (Value.agg #[(Value.bool true), (Value.int .i64 x72), (Value.int .i64 x73)]))]) rfl (by rfl) (BS_85_3_0_1_2 (!decide (x69 = 0)) x70 x71 l46.2 2 0 true x72 x73)).trans (by rw [← hb74, ← hw74])) ?_
    refine wpR_enter rfl rfl rfl (x_call (vs := [(Sl.v (⟨some ⟨b74, 0, none⟩, 3, 3⟩ : Sl))]) rfl rfl (mapl_cons rfl mapl_nil) Try.func43 NN_43 NB_43) (Calls.mono h ?_)
    rintro _ w20 ⟨r75, rfl, h⟩
    refine ⟨_, rfl, ?_⟩
    obtain ⟨q76, z76, r76, h⟩ := h
    generalize hp76 : z76.add ((3 : Int).toNat * 2) = p76 at h
    refine wpR_val (v := (Value.pointer (some p76))) (w' := w20) rfl rfl rfl ((x_indexAddr (s := r47) rfl rfl rfl ES_25 q76 r76).trans (by rw [hp76])) ?_
    obtain ⟨q77, h⟩ := h
    obtain ⟨w21, hw77⟩ : ∃ u, u = setAll w20 p76 [(Value.int .i64 r75.1), (Value.int .i64 r75.2)] 0 := ⟨_, rfl⟩
    replace h := h w21 hw77
    refine wpR_skp (w' := w21) rfl rfl ((x_store (v := (Value.agg #[(Value.int .i64 r75.1), (Value.int .i64 r75.2)])) rfl rfl rfl SZ_46 (ones (by rfl)) q77).trans (by rw [hw77]; rfl)) ?_
    refine wpR_nil ?_
    refine wpC_seq ?_
    refine wpC_cut (fun ρ => ρ 1 = (Value.pointer (some (Addr.mk b9 0 none))) ∧ ρ 5 = (Value.pointer (some (Addr.mk b34 0 none))) ∧ ρ 6 = (Value.pointer (some (Addr.mk b35 0 none))) ∧ ρ 7 = (Value.pointer (some (Addr.mk b36 0 none))) ∧ ρ 8 = (Value.bool l46.1) ∧ ρ 10 = (Sl.v r47) ∧ True) ⟨e1, e5, e6, e7, e8, e10, trivial⟩ ?_
    rintro ρ ⟨e1, e5, e6, e7, e8, e10, -⟩
    refine wpC_region ?_
    refine wpR_val (v := (Sl.v r47)) (w' := w21) rfl rfl rfl (x_move (v := (Sl.v r47)) rfl e10) ?_
    refine wpR_val (v := (Value.pointer (some ((Addr.mk b9 0 none).add 4)))) (w' := w21) rfl rfl rfl (x_fieldAddr rfl e1 FA_24_4) ?_
    obtain ⟨x78, q78, h⟩ := h
    refine wpR_val (v := (Value.bool x78)) (w' := w21) rfl rfl rfl (x_load1 rfl rfl SH_4 q78) ?_
    refine wpR_val (v := (Value.bool x78)) (w' := w21) rfl rfl rfl (x_move (v := (Value.bool x78)) rfl rfl) ?_
    refine wpR_joinJ 3 (fun (_ : Unit) ρ => ρ 83 = Value.bool (x78 && (!l46.1)) ∧ ρ 1 = (Value.pointer (some (Addr.mk b9 0 none))) ∧ ρ 5 = (Value.pointer (some (Addr.mk b34 0 none))) ∧ ρ 6 = (Value.pointer (some (Addr.mk b35 0 none))) ∧ ρ 7 = (Value.pointer (some (Addr.mk b36 0 none))) ∧ ρ 10 = (Sl.v r47) ∧ ρ 77 = (Sl.v r47) ∧ True) (fun _ w => w21 = w) ?_ ?_
    · clear h
      rcases Bool.eq_false_or_eq_true (x78) with hc80 | hc80
      · skip
        refine wpR_val (v := (Value.bool l46.1)) (w' := w21) (wantG rfl rfl rfl hc80) rfl rfl (x_move (v := (Value.bool l46.1)) rfl e8) ?_
        refine wpR_val (v := (Value.bool (!l46.1))) (w' := w21) (wantG rfl rfl rfl hc80) rfl rfl (x_not rfl rfl) ?_
        refine wpR_val (v := (Value.bool (!l46.1))) (w' := w21) rfl rfl rfl (x_pickT (v := (Value.bool (!l46.1))) rfl rfl hc80 rfl) ?_
        refine wpR_nil ?_
        exact ⟨(), ⟨(by rw [hc80]; rfl), e1, e5, e6, e7, e10, rfl, trivial⟩, rfl⟩
      · skip
        refine wpR_pass (wantN rfl rfl rfl hc80) rfl rfl ?_
        refine wpR_pass (wantN rfl rfl rfl hc80) rfl rfl ?_
        refine wpR_val (v := (Value.bool false)) (w' := w21) rfl rfl rfl (x_pickF (v := (Value.bool false)) rfl rfl hc80 rfl) ?_
        refine wpR_nil ?_
        exact ⟨(), ⟨(by rw [hc80]; rfl), e1, e5, e6, e7, e10, rfl, trivial⟩, rfl⟩
    rintro _ ρ wj ⟨e83, e1, e5, e6, e7, e10, e77, -⟩ rfl
    obtain ⟨x81, q81, x82, q82, h⟩ := h
    refine wpR_val (v := (Value.agg #[(Value.int .i64 x81), (Value.int .i64 x82)])) (w' := w21) rfl rfl rfl (x_loadN [(Value.int .i64 x81), (Value.int .i64 x82)] rfl e5 SH_46 (CellsAt.out (CellsAt.cons q81 (CellsAt.cons q82 CellsAt.nil)))) ?_
    refine wpR_val (v := (Value.agg #[(Value.bool (x78 && (!l46.1))), (Value.int .i64 x81), (Value.int .i64 x82)])) (w' := w21) rfl rfl rfl (x_build (qs := [(0, (Value.bool (x78 && (!l46.1)))), (1, (Value.agg #[(Value.int .i64 x81), (Value.int .i64 x82)]))]) rfl (bl_cons e83 (bl_cons rfl bl_nil)) (BD_72_0_1 (x78 && (!l46.1)) x81 x82 _)) ?_
    refine wpR_val (v := (Value.pointer (some ((Addr.mk b9 0 none).add 4)))) (w' := w21) rfl rfl rfl (x_fieldAddr rfl e1 FA_24_4) ?_
    obtain ⟨x83, q83, h⟩ := h
    refine wpR_val (v := (Value.bool x83)) (w' := w21) rfl rfl rfl (x_load1 rfl rfl SH_4 q83) ?_
    refine wpR_val (v := (Value.agg #[(Value.int .i64 0), (Value.int .i64 1)])) (w' := w21) rfl rfl rfl (x_build (qs := [(0, (Value.int .i64 0)), (1, (Value.int .i64 1))]) rfl (by rfl) (BD_46_0_1 0 1 _)) ?_
    refine wpR_val (v := (Value.agg #[(Value.bool x83), (Value.int .i64 0), (Value.int .i64 1)])) (w' := w21) rfl rfl rfl (x_build (qs := [(0, (Value.bool x83)), (1, (Value.agg #[(Value.int .i64 0), (Value.int .i64 1)]))]) rfl (by rfl) (BD_72_0_1 x83 0 1 _)) ?_
    obtain ⟨x84, q84, x85, q85, h⟩ := h
    refine wpR_val (v := (Value.agg #[(Value.int .i64 x84), (Value.int .i64 x85)])) (w' := w21) rfl rfl rfl (x_loadN [(Value.int .i64 x84), (Value.int .i64 x85)] rfl e7 SH_46 (CellsAt.out (CellsAt.cons q84 (CellsAt.cons q85 CellsAt.nil)))) ?_
    refine wpR_val (v := (Value.agg #[(Value.bool true), (Value.int .i64 x84), (Value.int .i64 x85)])) (w' := w21) rfl rfl rfl (x_build (qs := [(0, (Value.bool true)), (1, (Value.agg #[(Value.int .i64 x84), (Value.int .i64 x85)]))]) rfl (by rfl) (BD_72_0_1 true x84 x85 _)) ?_
    obtain ⟨b86, hb86⟩ : ∃ u, u = w21.heap.size := ⟨_, rfl⟩
    obtain ⟨w22, hw86⟩ : ∃ u, u = w21.alloc (.cells #[(Value.bool (x78 && (!l46.1))), (Value.int .i64 x81), (Value.int .i64 x82), (Value.bool x83), (Value.int .i64 0), (Value.int .i64 1), (Value.bool true), (Value.int .i64 x84), (Value.int .i64 x85)] 72) := ⟨_, rfl⟩
    replace h := h b86 w22 hb86 hw86
    refine wpR_val (v := (Sl.v (⟨some ⟨b86, 0, none⟩, 3, 3⟩ : Sl))) (w' := w22) rfl rfl rfl ((x_buildSlice (qs := [(0, (Value.agg #[(Value.bool (x78 && (!l46.1))), (Value.int .i64 x81), (Value.int .i64 x82)])), (1, (Value.agg #[(Value.bool x83), (Value.int .i64 0), (Value.int .i64 1)])), (2, (Value.agg #[(Value.bool true), (Value.int .i64 x84), (Value.int .i64 x85)]))]) rfl (by rfl) (BS_85_3_0_1_2 (x78 && (!l46.1)) x81 x82 x83 0 1 true x84 x85)).trans (by rw [← hb86, ← hw86])) ?_
    refine wpR_enter rfl rfl rfl (x_call (vs := [(Sl.v (⟨some ⟨b86, 0, none⟩, 3, 3⟩ : Sl))]) rfl rfl (mapl_cons rfl mapl_nil) Try.func43 NN_43 NB_43) (Calls.mono h ?_)
    rintro _ w23 ⟨r87, rfl, h⟩
    refine ⟨_, rfl, ?_⟩
    obtain ⟨q88, z88, r88, h⟩ := h
    generalize hp88 : z88.add ((4 : Int).toNat * 2) = p88 at h
    refine wpR_val (v := (Value.pointer (some p88))) (w' := w23) rfl rfl rfl ((x_indexAddr (s := r47) rfl e77 rfl ES_25 q88 r88).trans (by rw [hp88])) ?_
    obtain ⟨q89, h⟩ := h
    obtain ⟨w24, hw89⟩ : ∃ u, u = setAll w23 p88 [(Value.int .i64 r87.1), (Value.int .i64 r87.2)] 0 := ⟨_, rfl⟩
    replace h := h w24 hw89
    refine wpR_skp (w' := w24) rfl rfl ((x_store (v := (Value.agg #[(Value.int .i64 r87.1), (Value.int .i64 r87.2)])) rfl rfl rfl SZ_46 (ones (by rfl)) q89).trans (by rw [hw89]; rfl)) ?_
    refine wpR_nil ?_
    refine wpC_seq ?_
    refine wpC_cut (fun ρ => ρ 1 = (Value.pointer (some (Addr.mk b9 0 none))) ∧ ρ 5 = (Value.pointer (some (Addr.mk b34 0 none))) ∧ ρ 6 = (Value.pointer (some (Addr.mk b35 0 none))) ∧ ρ 10 = (Sl.v r47) ∧ True) ⟨e1, e5, e6, e10, trivial⟩ ?_
    rintro ρ ⟨e1, e5, e6, e10, -⟩
    refine wpC_region ?_
    refine wpR_val (v := (Sl.v r47)) (w' := w24) rfl rfl rfl (x_move (v := (Sl.v r47)) rfl e10) ?_
    refine wpR_val (v := (Value.pointer (some ((Addr.mk b9 0 none).add 5)))) (w' := w24) rfl rfl rfl (x_fieldAddr rfl e1 FA_24_5) ?_
    obtain ⟨x90, q90, h⟩ := h
    refine wpR_val (v := (Value.int .i64 x90)) (w' := w24) rfl rfl rfl (x_load1 rfl rfl SH_3 q90) ?_
    refine wpR_val (v := (Value.bool (decide (x90 = 2)))) (w' := w24) rfl rfl rfl (x_eql rfl rfl rfl) ?_
    obtain ⟨x91, q91, x92, q92, h⟩ := h
    refine wpR_val (v := (Value.agg #[(Value.int .i64 x91), (Value.int .i64 x92)])) (w' := w24) rfl rfl rfl (x_loadN [(Value.int .i64 x91), (Value.int .i64 x92)] rfl e5 SH_46 (CellsAt.out (CellsAt.cons q91 (CellsAt.cons q92 CellsAt.nil)))) ?_
    refine wpR_val (v := (Value.agg #[(Value.bool (decide (x90 = 2))), (Value.int .i64 x91), (Value.int .i64 x92)])) (w' := w24) rfl rfl rfl (x_build (qs := [(0, (Value.bool (decide (x90 = 2)))), (1, (Value.agg #[(Value.int .i64 x91), (Value.int .i64 x92)]))]) rfl (by rfl) (BD_72_0_1 (decide (x90 = 2)) x91 x92 _)) ?_
    refine wpR_val (v := (Value.pointer (some ((Addr.mk b9 0 none).add 5)))) (w' := w24) rfl rfl rfl (x_fieldAddr rfl e1 FA_24_5) ?_
    obtain ⟨x93, q93, h⟩ := h
    refine wpR_val (v := (Value.int .i64 x93)) (w' := w24) rfl rfl rfl (x_load1 rfl rfl SH_3 q93) ?_
    refine wpR_val (v := (Value.bool (decide (x93 = 1)))) (w' := w24) rfl rfl rfl (x_eql rfl rfl rfl) ?_
    refine wpR_val (v := (Value.agg #[(Value.int .i64 2), (Value.int .i64 1)])) (w' := w24) rfl rfl rfl (x_build (qs := [(0, (Value.int .i64 2)), (1, (Value.int .i64 1))]) rfl (by rfl) (BD_46_0_1 2 1 _)) ?_
    refine wpR_val (v := (Value.agg #[(Value.bool (decide (x93 = 1))), (Value.int .i64 2), (Value.int .i64 1)])) (w' := w24) rfl rfl rfl (x_build (qs := [(0, (Value.bool (decide (x93 = 1)))), (1, (Value.agg #[(Value.int .i64 2), (Value.int .i64 1)]))]) rfl (by rfl) (BD_72_0_1 (decide (x93 = 1)) 2 1 _)) ?_
    obtain ⟨x94, q94, x95, q95, h⟩ := h
    refine wpR_val (v := (Value.agg #[(Value.int .i64 x94), (Value.int .i64 x95)])) (w' := w24) rfl rfl rfl (x_loadN [(Value.int .i64 x94), (Value.int .i64 x95)] rfl e6 SH_46 (CellsAt.out (CellsAt.cons q94 (CellsAt.cons q95 CellsAt.nil)))) ?_
    refine wpR_val (v := (Value.agg #[(Value.bool true), (Value.int .i64 x94), (Value.int .i64 x95)])) (w' := w24) rfl rfl rfl (x_build (qs := [(0, (Value.bool true)), (1, (Value.agg #[(Value.int .i64 x94), (Value.int .i64 x95)]))]) rfl (by rfl) (BD_72_0_1 true x94 x95 _)) ?_
    obtain ⟨b96, hb96⟩ : ∃ u, u = w24.heap.size := ⟨_, rfl⟩
    obtain ⟨w25, hw96⟩ : ∃ u, u = w24.alloc (.cells #[(Value.bool (decide (x90 = 2))), (Value.int .i64 x91), (Value.int .i64 x92), (Value.bool (decide (x93 = 1))), (Value.int .i64 2), (Value.int .i64 1), (Value.bool true), (Value.int .i64 x94), (Value.int .i64 x95)] 72) := ⟨_, rfl⟩
    replace h := h b96 w25 hb96 hw96
    refine wpR_val (v := (Sl.v (⟨some ⟨b96, 0, none⟩, 3, 3⟩ : Sl))) (w' := w25) rfl rfl rfl ((x_buildSlice (qs := [(0, (Value.agg #[(Value.bool (decide (x90 = 2))), (Value.int .i64 x91), (Value.int .i64 x92)])), (1, (Value.agg #[(Value.bool (decide (x93 = 1))), (Value.int .i64 2), (Value.int .i64 1)])), (2, (Value.agg #[(Value.bool true), (Value.int .i64 x94), (Value.int .i64 x95)]))]) rfl (by rfl) (BS_85_3_0_1_2 (decide (x90 = 2)) x91 x92 (decide (x93 = 1)) 2 1 true x94 x95)).trans (by rw [← hb96, ← hw96])) ?_
    refine wpR_enter rfl rfl rfl (x_call (vs := [(Sl.v (⟨some ⟨b96, 0, none⟩, 3, 3⟩ : Sl))]) rfl rfl (mapl_cons rfl mapl_nil) Try.func43 NN_43 NB_43) (Calls.mono h ?_)
    rintro _ w26 ⟨r97, rfl, h⟩
    refine ⟨_, rfl, ?_⟩
    obtain ⟨q98, z98, r98, h⟩ := h
    generalize hp98 : z98.add ((5 : Int).toNat * 2) = p98 at h
    refine wpR_val (v := (Value.pointer (some p98))) (w' := w26) rfl rfl rfl ((x_indexAddr (s := r47) rfl rfl rfl ES_25 q98 r98).trans (by rw [hp98])) ?_
    obtain ⟨q99, h⟩ := h
    obtain ⟨w27, hw99⟩ : ∃ u, u = setAll w26 p98 [(Value.int .i64 r97.1), (Value.int .i64 r97.2)] 0 := ⟨_, rfl⟩
    replace h := h w27 hw99
    refine wpR_skp (w' := w27) rfl rfl ((x_store (v := (Value.agg #[(Value.int .i64 r97.1), (Value.int .i64 r97.2)])) rfl rfl rfl SZ_46 (ones (by rfl)) q99).trans (by rw [hw99]; rfl)) ?_
    refine wpR_nil ?_
    refine wpC_seq ?_
    refine wpC_cut (fun ρ => ρ 1 = (Value.pointer (some (Addr.mk b9 0 none))) ∧ ρ 5 = (Value.pointer (some (Addr.mk b34 0 none))) ∧ ρ 6 = (Value.pointer (some (Addr.mk b35 0 none))) ∧ ρ 10 = (Sl.v r47) ∧ True) ⟨e1, e5, e6, e10, trivial⟩ ?_
    rintro ρ ⟨e1, e5, e6, e10, -⟩
    refine wpC_region ?_
    refine wpR_val (v := (Sl.v r47)) (w' := w27) rfl rfl rfl (x_move (v := (Sl.v r47)) rfl e10) ?_
    refine wpR_val (v := (Value.pointer (some ((Addr.mk b9 0 none).add 6)))) (w' := w27) rfl rfl rfl (x_fieldAddr rfl e1 FA_24_6) ?_
    obtain ⟨x100, q100, h⟩ := h
    refine wpR_val (v := (Value.bool x100)) (w' := w27) rfl rfl rfl (x_load1 rfl rfl SH_4 q100) ?_
    obtain ⟨x101, q101, x102, q102, h⟩ := h
    refine wpR_val (v := (Value.agg #[(Value.int .i64 x101), (Value.int .i64 x102)])) (w' := w27) rfl rfl rfl (x_loadN [(Value.int .i64 x101), (Value.int .i64 x102)] rfl e5 SH_46 (CellsAt.out (CellsAt.cons q101 (CellsAt.cons q102 CellsAt.nil)))) ?_
    refine wpR_val (v := (Value.agg #[(Value.bool x100), (Value.int .i64 x101), (Value.int .i64 x102)])) (w' := w27) rfl rfl rfl (x_build (qs := [(0, (Value.bool x100)), (1, (Value.agg #[(Value.int .i64 x101), (Value.int .i64 x102)]))]) rfl (by rfl) (BD_72_0_1 x100 x101 x102 _)) ?_
    obtain ⟨x103, q103, x104, q104, h⟩ := h
    refine wpR_val (v := (Value.agg #[(Value.int .i64 x103), (Value.int .i64 x104)])) (w' := w27) rfl rfl rfl (x_loadN [(Value.int .i64 x103), (Value.int .i64 x104)] rfl e6 SH_46 (CellsAt.out (CellsAt.cons q103 (CellsAt.cons q104 CellsAt.nil)))) ?_
    refine wpR_val (v := (Value.agg #[(Value.bool true), (Value.int .i64 x103), (Value.int .i64 x104)])) (w' := w27) rfl rfl rfl (x_build (qs := [(0, (Value.bool true)), (1, (Value.agg #[(Value.int .i64 x103), (Value.int .i64 x104)]))]) rfl (by rfl) (BD_72_0_1 true x103 x104 _)) ?_
    obtain ⟨b105, hb105⟩ : ∃ u, u = w27.heap.size := ⟨_, rfl⟩
    obtain ⟨w28, hw105⟩ : ∃ u, u = w27.alloc (.cells #[(Value.bool x100), (Value.int .i64 x101), (Value.int .i64 x102), (Value.bool true), (Value.int .i64 x103), (Value.int .i64 x104)] 72) := ⟨_, rfl⟩
    replace h := h b105 w28 hb105 hw105
    refine wpR_val (v := (Sl.v (⟨some ⟨b105, 0, none⟩, 2, 2⟩ : Sl))) (w' := w28) rfl rfl rfl ((x_buildSlice (qs := [(0, (Value.agg #[(Value.bool x100), (Value.int .i64 x101), (Value.int .i64 x102)])), (1, (Value.agg #[(Value.bool true), (Value.int .i64 x103), (Value.int .i64 x104)]))]) rfl (by rfl) (BS_85_2_0_1 x100 x101 x102 true x103 x104)).trans (by rw [← hb105, ← hw105])) ?_
    refine wpR_enter rfl rfl rfl (x_call (vs := [(Sl.v (⟨some ⟨b105, 0, none⟩, 2, 2⟩ : Sl))]) rfl rfl (mapl_cons rfl mapl_nil) Try.func43 NN_43 NB_43) (Calls.mono h ?_)
    rintro _ w29 ⟨r106, rfl, h⟩
    refine ⟨_, rfl, ?_⟩
    obtain ⟨q107, z107, r107, h⟩ := h
    generalize hp107 : z107.add ((6 : Int).toNat * 2) = p107 at h
    refine wpR_val (v := (Value.pointer (some p107))) (w' := w29) rfl rfl rfl ((x_indexAddr (s := r47) rfl rfl rfl ES_25 q107 r107).trans (by rw [hp107])) ?_
    obtain ⟨q108, h⟩ := h
    obtain ⟨w30, hw108⟩ : ∃ u, u = setAll w29 p107 [(Value.int .i64 r106.1), (Value.int .i64 r106.2)] 0 := ⟨_, rfl⟩
    replace h := h w30 hw108
    refine wpR_skp (w' := w30) rfl rfl ((x_store (v := (Value.agg #[(Value.int .i64 r106.1), (Value.int .i64 r106.2)])) rfl rfl rfl SZ_46 (ones (by rfl)) q108).trans (by rw [hw108]; rfl)) ?_
    refine wpR_nil ?_
    refine wpC_seq ?_
    refine wpC_cut (fun ρ => ρ 1 = (Value.pointer (some (Addr.mk b9 0 none))) ∧ ρ 5 = (Value.pointer (some (Addr.mk b34 0 none))) ∧ ρ 6 = (Value.pointer (some (Addr.mk b35 0 none))) ∧ ρ 10 = (Sl.v r47) ∧ True) ⟨e1, e5, e6, e10, trivial⟩ ?_
    rintro ρ ⟨e1, e5, e6, e10, -⟩
    refine wpC_region ?_
    refine wpR_val (v := (Sl.v r47)) (w' := w30) rfl rfl rfl (x_move (v := (Sl.v r47)) rfl e10) ?_
    refine wpR_val (v := (Value.pointer (some ((Addr.mk b9 0 none).add 7)))) (w' := w30) rfl rfl rfl (x_fieldAddr rfl e1 FA_24_7) ?_
    obtain ⟨x109, q109, h⟩ := h
    refine wpR_val (v := (Value.bool x109)) (w' := w30) rfl rfl rfl (x_load1 rfl rfl SH_4 q109) ?_
    obtain ⟨x110, q110, x111, q111, h⟩ := h
    refine wpR_val (v := (Value.agg #[(Value.int .i64 x110), (Value.int .i64 x111)])) (w' := w30) rfl rfl rfl (x_loadN [(Value.int .i64 x110), (Value.int .i64 x111)] rfl e5 SH_46 (CellsAt.out (CellsAt.cons q110 (CellsAt.cons q111 CellsAt.nil)))) ?_
    refine wpR_val (v := (Value.agg #[(Value.bool x109), (Value.int .i64 x110), (Value.int .i64 x111)])) (w' := w30) rfl rfl rfl (x_build (qs := [(0, (Value.bool x109)), (1, (Value.agg #[(Value.int .i64 x110), (Value.int .i64 x111)]))]) rfl (by rfl) (BD_72_0_1 x109 x110 x111 _)) ?_
    obtain ⟨x112, q112, x113, q113, h⟩ := h
    refine wpR_val (v := (Value.agg #[(Value.int .i64 x112), (Value.int .i64 x113)])) (w' := w30) rfl rfl rfl (x_loadN [(Value.int .i64 x112), (Value.int .i64 x113)] rfl e6 SH_46 (CellsAt.out (CellsAt.cons q112 (CellsAt.cons q113 CellsAt.nil)))) ?_
    refine wpR_val (v := (Value.agg #[(Value.bool true), (Value.int .i64 x112), (Value.int .i64 x113)])) (w' := w30) rfl rfl rfl (x_build (qs := [(0, (Value.bool true)), (1, (Value.agg #[(Value.int .i64 x112), (Value.int .i64 x113)]))]) rfl (by rfl) (BD_72_0_1 true x112 x113 _)) ?_
    obtain ⟨b114, hb114⟩ : ∃ u, u = w30.heap.size := ⟨_, rfl⟩
    obtain ⟨w31, hw114⟩ : ∃ u, u = w30.alloc (.cells #[(Value.bool x109), (Value.int .i64 x110), (Value.int .i64 x111), (Value.bool true), (Value.int .i64 x112), (Value.int .i64 x113)] 72) := ⟨_, rfl⟩
    replace h := h b114 w31 hb114 hw114
    refine wpR_val (v := (Sl.v (⟨some ⟨b114, 0, none⟩, 2, 2⟩ : Sl))) (w' := w31) rfl rfl rfl ((x_buildSlice (qs := [(0, (Value.agg #[(Value.bool x109), (Value.int .i64 x110), (Value.int .i64 x111)])), (1, (Value.agg #[(Value.bool true), (Value.int .i64 x112), (Value.int .i64 x113)]))]) rfl (by rfl) (BS_85_2_0_1 x109 x110 x111 true x112 x113)).trans (by rw [← hb114, ← hw114])) ?_
    refine wpR_enter rfl rfl rfl (x_call (vs := [(Sl.v (⟨some ⟨b114, 0, none⟩, 2, 2⟩ : Sl))]) rfl rfl (mapl_cons rfl mapl_nil) Try.func43 NN_43 NB_43) (Calls.mono h ?_)
    rintro _ w32 ⟨r115, rfl, h⟩
    refine ⟨_, rfl, ?_⟩
    obtain ⟨q116, z116, r116, h⟩ := h
    generalize hp116 : z116.add ((7 : Int).toNat * 2) = p116 at h
    refine wpR_val (v := (Value.pointer (some p116))) (w' := w32) rfl rfl rfl ((x_indexAddr (s := r47) rfl rfl rfl ES_25 q116 r116).trans (by rw [hp116])) ?_
    obtain ⟨q117, h⟩ := h
    obtain ⟨w33, hw117⟩ : ∃ u, u = setAll w32 p116 [(Value.int .i64 r115.1), (Value.int .i64 r115.2)] 0 := ⟨_, rfl⟩
    replace h := h w33 hw117
    refine wpR_skp (w' := w33) rfl rfl ((x_store (v := (Value.agg #[(Value.int .i64 r115.1), (Value.int .i64 r115.2)])) rfl rfl rfl SZ_46 (ones (by rfl)) q117).trans (by rw [hw117]; rfl)) ?_
    refine wpR_nil ?_
    refine wpC_seq ?_
    refine wpC_cut (fun ρ => ρ 1 = (Value.pointer (some (Addr.mk b9 0 none))) ∧ ρ 5 = (Value.pointer (some (Addr.mk b34 0 none))) ∧ ρ 6 = (Value.pointer (some (Addr.mk b35 0 none))) ∧ ρ 10 = (Sl.v r47) ∧ True) ⟨e1, e5, e6, e10, trivial⟩ ?_
    rintro ρ ⟨e1, e5, e6, e10, -⟩
    refine wpC_region ?_
    refine wpR_val (v := (Sl.v r47)) (w' := w33) rfl rfl rfl (x_move (v := (Sl.v r47)) rfl e10) ?_
    refine wpR_val (v := (Value.pointer (some ((Addr.mk b9 0 none).add 10)))) (w' := w33) rfl rfl rfl (x_fieldAddr rfl e1 FA_24_10) ?_
    obtain ⟨x118, q118, h⟩ := h
    refine wpR_val (v := (Value.int .i64 x118)) (w' := w33) rfl rfl rfl (x_load1 rfl rfl SH_3 q118) ?_
    refine wpR_val (v := (Value.bool (decide (x118 = 4)))) (w' := w33) rfl rfl rfl (x_eql rfl rfl rfl) ?_
    obtain ⟨x119, q119, x120, q120, h⟩ := h
    refine wpR_val (v := (Value.agg #[(Value.int .i64 x119), (Value.int .i64 x120)])) (w' := w33) rfl rfl rfl (x_loadN [(Value.int .i64 x119), (Value.int .i64 x120)] rfl e5 SH_46 (CellsAt.out (CellsAt.cons q119 (CellsAt.cons q120 CellsAt.nil)))) ?_
    refine wpR_val (v := (Value.agg #[(Value.bool (decide (x118 = 4))), (Value.int .i64 x119), (Value.int .i64 x120)])) (w' := w33) rfl rfl rfl (x_build (qs := [(0, (Value.bool (decide (x118 = 4)))), (1, (Value.agg #[(Value.int .i64 x119), (Value.int .i64 x120)]))]) rfl (by rfl) (BD_72_0_1 (decide (x118 = 4)) x119 x120 _)) ?_
    refine wpR_val (v := (Value.pointer (some ((Addr.mk b9 0 none).add 10)))) (w' := w33) rfl rfl rfl (x_fieldAddr rfl e1 FA_24_10) ?_
    obtain ⟨x121, q121, h⟩ := h
    refine wpR_val (v := (Value.int .i64 x121)) (w' := w33) rfl rfl rfl (x_load1 rfl rfl SH_3 q121) ?_
    refine wpR_val (v := (Value.bool (decide (0 < x121)))) (w' := w33) rfl rfl rfl (x_gtr rfl rfl rfl) ?_
    refine wpR_val (v := (Value.agg #[(Value.int .i64 4), (Value.int .i64 1)])) (w' := w33) rfl rfl rfl (x_build (qs := [(0, (Value.int .i64 4)), (1, (Value.int .i64 1))]) rfl (by rfl) (BD_46_0_1 4 1 _)) ?_
    refine wpR_val (v := (Value.agg #[(Value.bool (decide (0 < x121))), (Value.int .i64 4), (Value.int .i64 1)])) (w' := w33) rfl rfl rfl (x_build (qs := [(0, (Value.bool (decide (0 < x121)))), (1, (Value.agg #[(Value.int .i64 4), (Value.int .i64 1)]))]) rfl (by rfl) (BD_72_0_1 (decide (0 < x121)) 4 1 _)) ?_
    obtain ⟨x122, q122, x123, q123, h⟩ := h
    refine wpR_val (v := (Value.agg #[(Value.int .i64 x122), (Value.int .i64 x123)])) (w' := w33) rfl rfl rfl (x_loadN [(Value.int .i64 x122), (Value.int .i64 x123)] rfl e6 SH_46 (CellsAt.out (CellsAt.cons q122 (CellsAt.cons q123 CellsAt.nil)))) ?_
    refine wpR_val (v := (Value.agg #[(Value.bool true), (Value.int .i64 x122), (Value.int .i64 x123)])) (w' := w33) rfl rfl rfl (x_build (qs := [(0, (Value.bool true)), (1, (Value.agg #[(Value.int .i64 x122), (Value.int .i64 x123)]))]) rfl (by rfl) (BD_72_0_1 true x122 x123 _)) ?_
    obtain ⟨b124, hb124⟩ : ∃ u, u = w33.heap.size := ⟨_, rfl⟩
    obtain ⟨w34, hw124⟩ : ∃ u, u = w33.alloc (.cells #[(Value.bool (decide (x118 = 4))), (Value.int .i64 x119), (Value.int .i64 x120), (Value.bool (decide (0 < x121))), (Value.int .i64 4), (Value.int .i64 1), (Value.bool true), (Value.int .i64 x122), (Value.int .i64 x123)] 72) := ⟨_, rfl⟩
    replace h := h b124 w34 hb124 hw124
    refine wpR_val (v := (Sl.v (⟨some ⟨b124, 0, none⟩, 3, 3⟩ : Sl))) (w' := w34) rfl rfl rfl ((x_buildSlice (qs := [(0, (Value.agg #[(Value.bool (decide (x118 = 4))), (Value.int .i64 x119), (Value.int .i64 x120)])), (1, (Value.agg #[(Value.bool (decide (0 < x121))), (Value.int .i64 4), (Value.int .i64 1)])), (2, (Value.agg #[(Value.bool true), (Value.int .i64 x122), (Value.int .i64 x123)]))]) rfl (by rfl) (BS_85_3_0_1_2 (decide (x118 = 4)) x119 x120 (decide (0 < x121)) 4 1 true x122 x123)).trans (by rw [← hb124, ← hw124])) ?_
    refine wpR_enter rfl rfl rfl (x_call (vs := [(Sl.v (⟨some ⟨b124, 0, none⟩, 3, 3⟩ : Sl))]) rfl rfl (mapl_cons rfl mapl_nil) Try.func43 NN_43 NB_43) (Calls.mono h ?_)
    rintro _ w35 ⟨r125, rfl, h⟩
    refine ⟨_, rfl, ?_⟩
    obtain ⟨q126, z126, r126, h⟩ := h
    generalize hp126 : z126.add ((8 : Int).toNat * 2) = p126 at h
    refine wpR_val (v := (Value.pointer (some p126))) (w' := w35) rfl rfl rfl ((x_indexAddr (s := r47) rfl rfl rfl ES_25 q126 r126).trans (by rw [hp126])) ?_
    obtain ⟨q127, h⟩ := h
    obtain ⟨w36, hw127⟩ : ∃ u, u = setAll w35 p126 [(Value.int .i64 r125.1), (Value.int .i64 r125.2)] 0 := ⟨_, rfl⟩
    replace h := h w36 hw127
    refine wpR_skp (w' := w36) rfl rfl ((x_store (v := (Value.agg #[(Value.int .i64 r125.1), (Value.int .i64 r125.2)])) rfl rfl rfl SZ_46 (ones (by rfl)) q127).trans (by rw [hw127]; rfl)) ?_
    refine wpR_nil ?_
    refine wpC_seq ?_
    refine wpC_cut (fun ρ => ρ 10 = (Sl.v r47) ∧ True) ⟨e10, trivial⟩ ?_
    rintro ρ ⟨e10, -⟩
    refine wpC_region ?_
    refine wpR_val (v := (Sl.v r47)) (w' := w36) rfl rfl rfl (x_move (v := (Sl.v r47)) rfl e10) ?_
    refine wpR_val (v := (Sl.v r47)) (w' := w36) rfl rfl rfl (x_assign (v := (Sl.v r47)) rfl rfl) ?_
    refine wpR_val (v := (Value.int .i64 0)) (w' := w36) rfl rfl rfl (x_assign (v := (Value.int .i64 0)) rfl rfl) ?_
    refine wpR_nil ?_
    refine wpC_ret ?_
    exact ⟨.inl rfl, fun a ha => ⟨_, results_rep2 rfl ha rfl rfl, (r47, 0), rfl, h⟩⟩

/-- lingualaw20.sample -/
def F25  (w0 : World) (K : T23 → World → Prop) : Prop :=
  nw 24 (A23 (ByteArray.mk #[]) 0 0 0 false 0 false false 0 0 0 0 Sl.nil 0 0 0 0 false 0 0 0 0) w0 fun b9 w1 =>
  nw 9 #[(Value.string (ByteArray.mk #[112, 110, 103]))] w1 fun b10 w2 =>
  st (Addr.mk b9 0 none) (S23 (ByteArray.mk #[112]) 2 0 0 true 1 true false 100 3 2 1000 (⟨some ⟨b10, 0, none⟩, 1, 1⟩ : Sl) 0 0 0 0 false 1 0 1 0) w2 fun w3 =>
  L23 (Addr.mk b9 0 none) w3 fun x12 x13 x14 x15 x16 x17 x18 x19 x20 x21 x22 x23 x24 x25 x26 x27 x28 x29 x30 x31 x32 x33 =>
  K (x12, x13, x14, x15, x16, x17, x18, x19, x20, x21, x22, x23, x24, x25, x26, x27, x28, x29, x30, x31, x32, x33) w3
set_option maxRecDepth 100000 in
theorem D25  (w0 : World) (K : T23 → World → Prop) (h : F25  w0 K) : callC Try.prog 25 #[] E23 w0 K := by
  unfold F25 at h
  refine calls_of_wpC Try.func25 rfl 3 rfl (by simp) ?_
  intro ρ hρ
  clear hρ
  refine wpC_seq ?_
  refine wpC_region ?_
  obtain ⟨b9, hb9⟩ : ∃ u, u = w0.heap.size := ⟨_, rfl⟩
  obtain ⟨w1, hw9⟩ : ∃ u, u = w0.alloc (.cells (A23 (ByteArray.mk #[]) 0 0 0 false 0 false false 0 0 0 0 Sl.nil 0 0 0 0 false 0 0 0 0) 24) := ⟨_, rfl⟩
  replace h := h b9 w1 hb9 hw9
  refine wpR_val (v := (Value.pointer (some (Addr.mk b9 0 none)))) (w' := w1) rfl rfl rfl ((x_alloc rfl ZV_24).trans (by rw [hb9, hw9]; rfl)) ?_
  refine wpR_nil ?_
  refine wpC_seq ?_
  refine wpC_cut (fun ρ => ρ 0 = (Value.pointer (some (Addr.mk b9 0 none))) ∧ True) ⟨rfl, trivial⟩ ?_
  rintro ρ ⟨e0, -⟩
  refine wpC_region ?_
  obtain ⟨b10, hb10⟩ : ∃ u, u = w1.heap.size := ⟨_, rfl⟩
  obtain ⟨w2, hw10⟩ : ∃ u, u = w1.alloc (.cells #[(Value.string (ByteArray.mk #[112, 110, 103]))] 9) := ⟨_, rfl⟩
  replace h := h b10 w2 hb10 hw10
  refine wpR_val (v := (Sl.v (⟨some ⟨b10, 0, none⟩, 1, 1⟩ : Sl))) (w' := w2) rfl rfl rfl ((x_buildSlice (qs := [(0, (Value.string (ByteArray.mk #[112, 110, 103])))]) rfl (by rfl) (BS_22_1_0 (ByteArray.mk #[112, 110, 103]))).trans (by rw [← hb10, ← hw10])) ?_
  refine wpR_val (v := (V23 (ByteArray.mk #[112]) 2 0 0 true 1 true false 100 3 2 1000 (⟨some ⟨b10, 0, none⟩, 1, 1⟩ : Sl) 0 0 0 0 false 1 0 1 0)) (w' := w2) rfl rfl rfl (x_build (qs := [(0, (Value.string (ByteArray.mk #[112]))), (1, (Value.int .i64 2)), (4, (Value.bool true)), (5, (Value.int .i64 1)), (6, (Value.bool true)), (8, (Value.int .i64 100)), (9, (Value.int .i64 3)), (10, (Value.int .i64 2)), (11, (Value.int .i64 1000)), (12, (Sl.v (⟨some ⟨b10, 0, none⟩, 1, 1⟩ : Sl))), (18, (Value.int .i64 1)), (20, (Value.int .i64 1))]) rfl (by rfl) (BD_24_0_1_4_5_6_8_9_10_11_12_18_20 (ByteArray.mk #[112]) 2 true 1 true 100 3 2 1000 (⟨some ⟨b10, 0, none⟩, 1, 1⟩ : Sl) 1 1 _)) ?_
  obtain ⟨q11, h⟩ := h
  obtain ⟨w3, hw11⟩ : ∃ u, u = setAll w2 (Addr.mk b9 0 none) (S23 (ByteArray.mk #[112]) 2 0 0 true 1 true false 100 3 2 1000 (⟨some ⟨b10, 0, none⟩, 1, 1⟩ : Sl) 0 0 0 0 false 1 0 1 0) 0 := ⟨_, rfl⟩
  replace h := h w3 hw11
  refine wpR_skp (w' := w3) rfl rfl ((x_store (v := (V23 (ByteArray.mk #[112]) 2 0 0 true 1 true false 100 3 2 1000 (⟨some ⟨b10, 0, none⟩, 1, 1⟩ : Sl) 0 0 0 0 false 1 0 1 0)) rfl e0 rfl SZ_24 (ones (by rfl)) q11).trans (by rw [hw11]; rfl)) ?_
  refine wpR_nil ?_
  refine wpC_ret ?_
  obtain ⟨x12, q12, x13, q13, x14, q14, x15, q15, x16, q16, x17, q17, x18, q18, x19, q19, x20, q20, x21, q21, x22, q22, x23, q23, x24, q24, x25, q25, x26, q26, x27, q27, x28, q28, x29, q29, x30, q30, x31, q31, x32, q32, x33, q33, h⟩ := h
  exact ⟨.inl rfl, fun a ha => ⟨_, results_repC (S23 x12 x13 x14 x15 x16 x17 x18 x19 x20 x21 x22 x23 x24 x25 x26 x27 x28 x29 x30 x31 x32 x33) rfl ha e0 SH_24 (CellsAt.out (CellsAt.cons q12 (CellsAt.cons q13 (CellsAt.cons q14 (CellsAt.cons q15 (CellsAt.cons q16 (CellsAt.cons q17 (CellsAt.cons q18 (CellsAt.cons q19 (CellsAt.cons q20 (CellsAt.cons q21 (CellsAt.cons q22 (CellsAt.cons q23 (CellsAt.cons q24 (CellsAt.cons q25 (CellsAt.cons q26 (CellsAt.cons q27 (CellsAt.cons q28 (CellsAt.cons q29 (CellsAt.cons q30 (CellsAt.cons q31 (CellsAt.cons q32 (CellsAt.cons q33 CellsAt.nil))))))))))))))))))))))), (x12, x13, x14, x15, x16, x17, x18, x19, x20, x21, x22, x23, x24, x25, x26, x27, x28, x29, x30, x31, x32, x33), rfl, h⟩⟩

/-- loss.right -/
def F26 (p0 : Sl) (w0 : World) (K : Bool → World → Prop) : Prop :=
  jn (fun J9 => cnd (decide ((p0.len : Int) = 9))
    (
    callC Try.prog 49 #[(Sl.v p0), (Value.func (.func 48) #[] #[])] (fun (r : Bool) => (Value.bool r)) w0 fun r11 w1 =>
    J9 (!r11) w1
    )
    (
    J9 false w0
    ))
  fun c12 w2 =>
  K c12 w2
set_option maxRecDepth 100000 in
theorem D26 (p0 : Sl) (w0 : World) (K : Bool → World → Prop) (h : F26 p0 w0 K) : callC Try.prog 26 #[(Sl.v p0)] (fun (r : Bool) => (Value.bool r)) w0 K := by
  unfold F26 at h
  refine calls_of_wpC Try.func26 rfl 13 rfl (by simp) ?_
  intro ρ hρ
  have e0 : ρ 0 = (Sl.v p0) := hρ 0
  clear hρ
  refine wpC_seq ?_
  refine wpC_region ?_
  refine wpR_val (v := (Value.bool false)) (w' := w0) rfl rfl rfl (x_assign (v := (Value.bool false)) rfl rfl) ?_
  refine wpR_nil ?_
  refine wpC_seq ?_
  refine wpC_cut (fun ρ => ρ 0 = (Sl.v p0) ∧ True) ⟨e0, trivial⟩ ?_
  rintro ρ ⟨e0, -⟩
  refine wpC_region ?_
  refine wpR_val (v := (Value.func (.func 48) #[] #[])) (w' := w0) rfl rfl rfl (x_assign (v := (Value.func (.func 48) #[] #[])) rfl rfl) ?_
  refine wpR_nil ?_
  refine wpC_seq ?_
  refine wpC_cut (fun ρ => ρ 0 = (Sl.v p0) ∧ ρ 3 = (Value.func (.func 48) #[] #[]) ∧ True) ⟨e0, rfl, trivial⟩ ?_
  rintro ρ ⟨e0, e3, -⟩
  refine wpC_region ?_
  refine wpR_val (v := (Sl.v p0)) (w' := w0) rfl rfl rfl (x_move (v := (Sl.v p0)) rfl e0) ?_
  refine wpR_val (v := (Value.int .i64 (p0.len : Int))) (w' := w0) rfl rfl rfl (x_lenS (s := p0) rfl rfl isSliceT_25) ?_
  refine wpR_val (v := (Value.bool (decide ((p0.len : Int) = 9)))) (w' := w0) rfl rfl rfl (x_eql rfl rfl rfl) ?_
  refine wpR_val (v := (Value.bool (decide ((p0.len : Int) = 9)))) (w' := w0) rfl rfl rfl (x_move (v := (Value.bool (decide ((p0.len : Int) = 9)))) rfl rfl) ?_
  obtain ⟨J9, h, hk⟩ := h
  refine wpR_joinJ 5 (fun x ρ => ρ 12 = Value.bool x ∧ True) (J9) ?_ ?_
  · clear hk
    rcases Bool.eq_false_or_eq_true (decide ((p0.len : Int) = 9)) with hc10 | hc10
    · replace h := h.1 hc10
      refine wpR_val (v := (Sl.v p0)) (w' := w0) (wantG rfl rfl rfl hc10) rfl rfl (x_move (v := (Sl.v p0)) rfl e0) ?_
      refine wpR_val (v := (Value.func (.func 48) #[] #[])) (w' := w0) (wantG rfl rfl rfl hc10) rfl rfl (x_move (v := (Value.func (.func 48) #[] #[])) rfl e3) ?_
      refine wpR_enter (wantG rfl rfl rfl hc10) rfl rfl (x_call (vs := [(Sl.v p0), (Value.func (.func 48) #[] #[])]) rfl rfl (mapl_cons rfl (mapl_cons rfl mapl_nil)) Try.func49 NN_49 NB_49) (Calls.mono h ?_)
      rintro _ w1 ⟨r11, rfl, h⟩
      refine ⟨_, rfl, ?_⟩
      refine wpR_val (v := (Value.bool (!r11))) (w' := w1) (wantG rfl rfl rfl hc10) rfl rfl (x_not rfl rfl) ?_
      refine wpR_val (v := (Value.bool (!r11))) (w' := w1) rfl rfl rfl (x_pickT (v := (Value.bool (!r11))) rfl rfl hc10 rfl) ?_
      refine wpR_nil ?_
      exact ⟨!r11, ⟨rfl, trivial⟩, h⟩
    · replace h := h.2 hc10
      refine wpR_pass (wantN rfl rfl rfl hc10) rfl rfl ?_
      refine wpR_pass (wantN rfl rfl rfl hc10) rfl rfl ?_
      refine wpR_pass (wantN rfl rfl rfl hc10) rfl rfl ?_
      refine wpR_pass (wantN rfl rfl rfl hc10) rfl rfl ?_
      refine wpR_val (v := (Value.bool false)) (w' := w0) rfl rfl rfl (x_pickF (v := (Value.bool false)) rfl rfl hc10 rfl) ?_
      refine wpR_nil ?_
      exact ⟨false, ⟨rfl, trivial⟩, h⟩
  clear h
  rintro c12 ρ w2 ⟨e12, -⟩ h
  replace h := hk c12 w2 h
  clear hk
  refine wpR_val (v := (Value.bool c12)) (w' := w2) rfl rfl rfl (x_assign (v := (Value.bool c12)) rfl e12) ?_
  refine wpR_nil ?_
  refine wpC_ret ?_
  exact ⟨.inl rfl, fun a ha => ⟨_, results_rep1 rfl ha rfl, c12, rfl, h⟩⟩

/-- loss.options -/
def F29 (p0_0 : ByteArray) (p0_1 : Int) (p0_2 : Int) (p0_3 : Int) (p0_4 : Bool) (p0_5 : Int) (p0_6 : Bool) (p0_7 : Bool) (p0_8 : Int) (p0_9 : Int) (p0_10 : Int) (p0_11 : Int) (p0_12 : Sl) (p0_13 : Int) (p0_14 : Int) (p0_15 : Int) (p0_16 : Int) (p0_17 : Bool) (p0_18 : Int) (p0_19 : Int) (p0_20 : Int) (p0_21 : Int) (p1 : Int) (w0 : World) (K : Sl → World → Prop) : Prop :=
  nw 24 (A23 p0_0 p0_1 p0_2 p0_3 p0_4 p0_5 p0_6 p0_7 p0_8 p0_9 p0_10 p0_11 p0_12 p0_13 p0_14 p0_15 p0_16 p0_17 p0_18 p0_19 p0_20 p0_21) w0 fun b9 w1 =>
  ld (Value.int .i64) ((Addr.mk b9 0 none).add 1) w1 fun x10 =>
  jp (fun J11 => cnd (decide (x10 = 2))
    (
    ld (Value.int .i64) ((Addr.mk b9 0 none).add 2) w1 fun x13 =>
    J11 (decide (x13 = 0))
    )
    (
    J11 false
    ))
  fun c14 =>
  nw 46 #[(Value.int .i64 0), (Value.int .i64 0)] w1 fun b15 w2 =>
  st (Addr.mk b15 0 none) [(Value.int .i64 0), (Value.int .i64 0)] w2 fun w3 =>
  cnd (decide (p1 = 1))
    (
    ld (Value.int .i64) ((Addr.mk b9 0 none).add 9) w3 fun x18 =>
    jp (fun J19 => cnd (decide (2 ≤ x18))
      (
      ld (Value.int .i64) ((Addr.mk b9 0 none).add 8) w3 fun x21 =>
      ld (Value.int .i64) ((Addr.mk b9 0 none).add 9) w3 fun x22 =>
      J19 (decide (4400 ≤ (IntKind.i64.wrap (x21 * x22))))
      )
      (
      J19 false
      ))
    fun c23 =>
    ld (Value.int .i64) ((Addr.mk b9 0 none).add 9) w3 fun x24 =>
    nw 55 #[(Value.int .i64 1), (Value.int .i64 1), (Value.bool c23), (Value.int .i64 4), (Value.int .i64 1), (Value.bool (decide (2 ≤ x24))), (Value.int .i64 4), (Value.int .i64 0), (Value.bool true)] w3 fun b25 w4 =>
    K (⟨some ⟨b25, 0, none⟩, 3, 3⟩ : Sl) w4
    )
    (
    cnd (decide (p1 = 2))
      (
      ld (Value.int .i64) ((Addr.mk b15 0 none).add 0) w3 fun x27 =>
      ld (Value.int .i64) ((Addr.mk b15 0 none).add 1) w3 fun x28 =>
      nw 55 #[(Value.int .i64 x27), (Value.int .i64 x28), (Value.bool c14), (Value.int .i64 3), (Value.int .i64 2), (Value.bool true)] w3 fun b29 w5 =>
      K (⟨some ⟨b29, 0, none⟩, 2, 2⟩ : Sl) w5
      )
      (
      cnd (decide (p1 = 3))
        (
        ld (Value.int .i64) ((Addr.mk b15 0 none).add 0) w3 fun x31 =>
        ld (Value.int .i64) ((Addr.mk b15 0 none).add 1) w3 fun x32 =>
        ld (Value.int .i64) ((Addr.mk b9 0 none).add 3) w3 fun x33 =>
        nw 55 #[(Value.int .i64 x31), (Value.int .i64 x32), (Value.bool (!decide (x33 = 0))), (Value.int .i64 2), (Value.int .i64 0), (Value.bool c14), (Value.int .i64 3), (Value.int .i64 2), (Value.bool true)] w3 fun b34 w6 =>
        K (⟨some ⟨b34, 0, none⟩, 3, 3⟩ : Sl) w6
        )
        (
        cnd (decide (p1 = 4))
          (
          ld (Value.int .i64) ((Addr.mk b15 0 none).add 0) w3 fun x36 =>
          ld (Value.int .i64) ((Addr.mk b15 0 none).add 1) w3 fun x37 =>
          ld Value.bool ((Addr.mk b9 0 none).add 4) w3 fun x38 =>
          jp (fun J39 => cnd (x38)
            (
            ld (Value.int .i64) ((Addr.mk b9 0 none).add 9) w3 fun x41 =>
            J39 (decide (x41 = 1))
            )
            (
            J39 false
            ))
          fun c42 =>
          ld Value.bool ((Addr.mk b9 0 none).add 4) w3 fun x43 =>
          nw 55 #[(Value.int .i64 x36), (Value.int .i64 x37), (Value.bool c42), (Value.int .i64 0), (Value.int .i64 1), (Value.bool x43), (Value.int .i64 3), (Value.int .i64 2), (Value.bool true)] w3 fun b44 w7 =>
          K (⟨some ⟨b44, 0, none⟩, 3, 3⟩ : Sl) w7
          )
          (
          cnd (decide (p1 = 5))
            (
            ld (Value.int .i64) ((Addr.mk b15 0 none).add 0) w3 fun x46 =>
            ld (Value.int .i64) ((Addr.mk b15 0 none).add 1) w3 fun x47 =>
            ld (Value.int .i64) ((Addr.mk b9 0 none).add 5) w3 fun x48 =>
            ld (Value.int .i64) ((Addr.mk b9 0 none).add 5) w3 fun x49 =>
            nw 55 #[(Value.int .i64 x46), (Value.int .i64 x47), (Value.bool (decide (x48 = 2))), (Value.int .i64 2), (Value.int .i64 1), (Value.bool (decide (x49 = 1))), (Value.int .i64 2), (Value.int .i64 2), (Value.bool true)] w3 fun b50 w8 =>
            K (⟨some ⟨b50, 0, none⟩, 3, 3⟩ : Sl) w8
            )
            (
            cnd (decide (p1 = 6))
              (
              ld (Value.int .i64) ((Addr.mk b15 0 none).add 0) w3 fun x52 =>
              ld (Value.int .i64) ((Addr.mk b15 0 none).add 1) w3 fun x53 =>
              ld Value.bool ((Addr.mk b9 0 none).add 6) w3 fun x54 =>
              nw 55 #[(Value.int .i64 x52), (Value.int .i64 x53), (Value.bool x54), (Value.int .i64 2), (Value.int .i64 2), (Value.bool true)] w3 fun b55 w9 =>
              K (⟨some ⟨b55, 0, none⟩, 2, 2⟩ : Sl) w9
              )
              (
              cnd (decide (p1 = 7))
                (
                ld (Value.int .i64) ((Addr.mk b15 0 none).add 0) w3 fun x57 =>
                ld (Value.int .i64) ((Addr.mk b15 0 none).add 1) w3 fun x58 =>
                ld Value.bool ((Addr.mk b9 0 none).add 7) w3 fun x59 =>
                nw 55 #[(Value.int .i64 x57), (Value.int .i64 x58), (Value.bool x59), (Value.int .i64 2), (Value.int .i64 2), (Value.bool true)] w3 fun b60 w10 =>
                K (⟨some ⟨b60, 0, none⟩, 2, 2⟩ : Sl) w10
                )
                (
                cnd (decide (p1 = 8))
                  (
                  ld (Value.int .i64) ((Addr.mk b15 0 none).add 0) w3 fun x62 =>
                  ld (Value.int .i64) ((Addr.mk b15 0 none).add 1) w3 fun x63 =>
                  ld (Value.int .i64) ((Addr.mk b9 0 none).add 10) w3 fun x64 =>
                  ld (Value.int .i64) ((Addr.mk b9 0 none).add 10) w3 fun x65 =>
                  nw 55 #[(Value.int .i64 x62), (Value.int .i64 x63), (Value.bool (decide (x64 = 4))), (Value.int .i64 4), (Value.int .i64 1), (Value.bool (decide (1 ≤ x65))), (Value.int .i64 2), (Value.int .i64 2), (Value.bool true)] w3 fun b66 w11 =>
                  K (⟨some ⟨b66, 0, none⟩, 3, 3⟩ : Sl) w11
                  )
                  (
                  ld (Value.int .i64) ((Addr.mk b15 0 none).add 0) w3 fun x67 =>
                  ld (Value.int .i64) ((Addr.mk b15 0 none).add 1) w3 fun x68 =>
                  nw 55 #[(Value.int .i64 x67), (Value.int .i64 x68), (Value.bool true)] w3 fun b69 w12 =>
                  K (⟨some ⟨b69, 0, none⟩, 1, 1⟩ : Sl) w12
                  )
                )
              )
            )
          )
        )
      )
    )
set_option maxRecDepth 100000 in
theorem D29 (p0_0 : ByteArray) (p0_1 : Int) (p0_2 : Int) (p0_3 : Int) (p0_4 : Bool) (p0_5 : Int) (p0_6 : Bool) (p0_7 : Bool) (p0_8 : Int) (p0_9 : Int) (p0_10 : Int) (p0_11 : Int) (p0_12 : Sl) (p0_13 : Int) (p0_14 : Int) (p0_15 : Int) (p0_16 : Int) (p0_17 : Bool) (p0_18 : Int) (p0_19 : Int) (p0_20 : Int) (p0_21 : Int) (p1 : Int) (w0 : World) (K : Sl → World → Prop) (h : F29 p0_0 p0_1 p0_2 p0_3 p0_4 p0_5 p0_6 p0_7 p0_8 p0_9 p0_10 p0_11 p0_12 p0_13 p0_14 p0_15 p0_16 p0_17 p0_18 p0_19 p0_20 p0_21 p1 w0 K) : callC Try.prog 29 #[(V23 p0_0 p0_1 p0_2 p0_3 p0_4 p0_5 p0_6 p0_7 p0_8 p0_9 p0_10 p0_11 p0_12 p0_13 p0_14 p0_15 p0_16 p0_17 p0_18 p0_19 p0_20 p0_21), (Value.int .i64 p1)] (fun (r : Sl) => (Sl.v r)) w0 K := by
  unfold F29 at h
  refine calls_of_wpC Try.func29 rfl 144 rfl (by simp) ?_
  intro ρ hρ
  have e0 : ρ 0 = (V23 p0_0 p0_1 p0_2 p0_3 p0_4 p0_5 p0_6 p0_7 p0_8 p0_9 p0_10 p0_11 p0_12 p0_13 p0_14 p0_15 p0_16 p0_17 p0_18 p0_19 p0_20 p0_21) := hρ 0
  have e1 : ρ 1 = (Value.int .i64 p1) := hρ 1
  clear hρ
  refine wpC_seq ?_
  refine wpC_region ?_
  obtain ⟨b9, hb9⟩ : ∃ u, u = w0.heap.size := ⟨_, rfl⟩
  obtain ⟨w1, hw9⟩ : ∃ u, u = w0.alloc (.cells (A23 p0_0 p0_1 p0_2 p0_3 p0_4 p0_5 p0_6 p0_7 p0_8 p0_9 p0_10 p0_11 p0_12 p0_13 p0_14 p0_15 p0_16 p0_17 p0_18 p0_19 p0_20 p0_21) 24) := ⟨_, rfl⟩
  replace h := h b9 w1 hb9 hw9
  refine wpR_val (v := (Value.pointer (some (Addr.mk b9 0 none)))) (w' := w1) rfl rfl rfl ((x_box (v := (V23 p0_0 p0_1 p0_2 p0_3 p0_4 p0_5 p0_6 p0_7 p0_8 p0_9 p0_10 p0_11 p0_12 p0_13 p0_14 p0_15 p0_16 p0_17 p0_18 p0_19 p0_20 p0_21)) rfl e0).trans (by rw [hb9, hw9]; rfl)) ?_
  refine wpR_val (v := (Sl.v Sl.nil)) (w' := w1) rfl rfl rfl (x_assign (v := (Sl.v Sl.nil)) rfl rfl) ?_
  refine wpR_nil ?_
  refine wpC_seq ?_
  refine wpC_cut (fun ρ => ρ 1 = (Value.int .i64 p1) ∧ ρ 2 = (Value.pointer (some (Addr.mk b9 0 none))) ∧ True) ⟨e1, rfl, trivial⟩ ?_
  rintro ρ ⟨e1, e2, -⟩
  refine wpC_region ?_
  refine wpR_val (v := (Value.pointer (some ((Addr.mk b9 0 none).add 1)))) (w' := w1) rfl rfl rfl (x_fieldAddr rfl e2 FA_24_1) ?_
  obtain ⟨x10, q10, h⟩ := h
  refine wpR_val (v := (Value.int .i64 x10)) (w' := w1) rfl rfl rfl (x_load1 rfl rfl SH_3 q10) ?_
  refine wpR_val (v := (Value.bool (decide (x10 = 2)))) (w' := w1) rfl rfl rfl (x_eql rfl rfl rfl) ?_
  refine wpR_val (v := (Value.bool (decide (x10 = 2)))) (w' := w1) rfl rfl rfl (x_move (v := (Value.bool (decide (x10 = 2)))) rfl rfl) ?_
  obtain ⟨J11, h, hk⟩ := h
  refine wpR_joinJ 4 (fun x ρ => ρ 16 = Value.bool x ∧ ρ 1 = (Value.int .i64 p1) ∧ ρ 2 = (Value.pointer (some (Addr.mk b9 0 none))) ∧ True) (fun x w => J11 x ∧ w1 = w) ?_ ?_
  · clear hk
    rcases Bool.eq_false_or_eq_true (decide (x10 = 2)) with hc12 | hc12
    · replace h := h.1 hc12
      refine wpR_val (v := (Value.pointer (some ((Addr.mk b9 0 none).add 2)))) (w' := w1) (wantG rfl rfl rfl hc12) rfl rfl (x_fieldAddr rfl e2 FA_24_2) ?_
      obtain ⟨x13, q13, h⟩ := h
      refine wpR_val (v := (Value.int .i64 x13)) (w' := w1) (wantG rfl rfl rfl hc12) rfl rfl (x_load1 rfl rfl SH_3 q13) ?_
      refine wpR_val (v := (Value.bool (decide (x13 = 0)))) (w' := w1) (wantG rfl rfl rfl hc12) rfl rfl (x_eql rfl rfl rfl) ?_
      refine wpR_val (v := (Value.bool (decide (x13 = 0)))) (w' := w1) rfl rfl rfl (x_pickT (v := (Value.bool (decide (x13 = 0)))) rfl rfl hc12 rfl) ?_
      refine wpR_nil ?_
      exact ⟨decide (x13 = 0), ⟨rfl, e1, e2, trivial⟩, h, rfl⟩
    · replace h := h.2 hc12
      refine wpR_pass (wantN rfl rfl rfl hc12) rfl rfl ?_
      refine wpR_pass (wantN rfl rfl rfl hc12) rfl rfl ?_
      refine wpR_pass (wantN rfl rfl rfl hc12) rfl rfl ?_
      refine wpR_val (v := (Value.bool false)) (w' := w1) rfl rfl rfl (x_pickF (v := (Value.bool false)) rfl rfl hc12 rfl) ?_
      refine wpR_nil ?_
      exact ⟨false, ⟨rfl, e1, e2, trivial⟩, h, rfl⟩
  clear h
  rintro c14 ρ wj ⟨e16, e1, e2, -⟩ ⟨h, rfl⟩
  replace h := hk c14 h
  clear hk
  refine wpR_val (v := (Value.bool c14)) (w' := w1) rfl rfl rfl (x_assign (v := (Value.bool c14)) rfl e16) ?_
  refine wpR_nil ?_
  refine wpC_seq ?_
  refine wpC_cut (fun ρ => ρ 1 = (Value.int .i64 p1) ∧ ρ 2 = (Value.pointer (some (Addr.mk b9 0 none))) ∧ ρ 5 = (Value.bool c14) ∧ True) ⟨e1, e2, rfl, trivial⟩ ?_
  rintro ρ ⟨e1, e2, e5, -⟩
  refine wpC_region ?_
  refine wpR_val (v := (Value.agg #[(Value.int .i64 0), (Value.int .i64 0)])) (w' := w1) rfl rfl rfl (x_build (qs := [(0, (Value.int .i64 0)), (1, (Value.int .i64 0))]) rfl (by rfl) (BD_46_0_1 0 0 _)) ?_
  obtain ⟨b15, hb15⟩ : ∃ u, u = w1.heap.size := ⟨_, rfl⟩
  obtain ⟨w2, hw15⟩ : ∃ u, u = w1.alloc (.cells #[(Value.int .i64 0), (Value.int .i64 0)] 46) := ⟨_, rfl⟩
  replace h := h b15 w2 hb15 hw15
  refine wpR_val (v := (Value.pointer (some (Addr.mk b15 0 none)))) (w' := w2) rfl rfl rfl ((x_alloc rfl ZV_46).trans (by rw [hb15, hw15]; rfl)) ?_
  obtain ⟨q16, h⟩ := h
  obtain ⟨w3, hw16⟩ : ∃ u, u = setAll w2 (Addr.mk b15 0 none) [(Value.int .i64 0), (Value.int .i64 0)] 0 := ⟨_, rfl⟩
  replace h := h w3 hw16
  refine wpR_skp (w' := w3) rfl rfl ((x_store (v := (Value.agg #[(Value.int .i64 0), (Value.int .i64 0)])) rfl rfl rfl SZ_46 (ones (by rfl)) q16).trans (by rw [hw16]; rfl)) ?_
  refine wpR_val (v := (Value.int .i64 1)) (w' := w3) rfl rfl rfl (x_assign (v := (Value.int .i64 1)) rfl rfl) ?_
  refine wpR_val (v := (Value.int .i64 2)) (w' := w3) rfl rfl rfl (x_assign (v := (Value.int .i64 2)) rfl rfl) ?_
  refine wpR_nil ?_
  refine wpC_seq ?_
  refine wpC_seq ?_
  refine wpC_cut (fun ρ => ρ 1 = (Value.int .i64 p1) ∧ ρ 2 = (Value.pointer (some (Addr.mk b9 0 none))) ∧ ρ 5 = (Value.bool c14) ∧ ρ 6 = (Value.pointer (some (Addr.mk b15 0 none))) ∧ ρ 7 = (Value.int .i64 1) ∧ ρ 8 = (Value.int .i64 2) ∧ True) ⟨e1, e2, e5, rfl, rfl, rfl, trivial⟩ ?_
  rintro ρ ⟨e1, e2, e5, e6, e7, e8, -⟩
  refine wpC_region ?_
  refine wpR_val (v := (Value.int .i64 p1)) (w' := w3) rfl rfl rfl (x_move (v := (Value.int .i64 p1)) rfl e1) ?_
  refine wpR_nil ?_
  refine wpC_block ?_
  refine wpC_seq ?_
  refine wpC_cut (fun ρ => ρ 2 = (Value.pointer (some (Addr.mk b9 0 none))) ∧ ρ 5 = (Value.bool c14) ∧ ρ 6 = (Value.pointer (some (Addr.mk b15 0 none))) ∧ ρ 7 = (Value.int .i64 1) ∧ ρ 8 = (Value.int .i64 2) ∧ ρ 18 = (Value.int .i64 p1) ∧ True) ⟨e2, e5, e6, e7, e8, rfl, trivial⟩ ?_
  rintro ρ ⟨e2, e5, e6, e7, e8, e18, -⟩
  refine wpC_region ?_
  refine wpR_val (v := (Value.bool (decide (p1 = 1)))) (w' := w3) rfl rfl rfl (x_eql rfl e18 rfl) ?_
  refine wpR_val (v := (Value.bool (decide (p1 = 1)))) (w' := w3) rfl rfl rfl (x_assign (v := (Value.bool (decide (p1 = 1)))) rfl rfl) ?_
  refine wpR_nil ?_
  refine wpC_cond (b := decide (p1 = 1)) rfl (fun hc17 => ?_) (fun hc17 => ?_)
  · replace h := h.1 hc17
    refine wpC_seq ?_
    refine wpC_cut (fun ρ => ρ 2 = (Value.pointer (some (Addr.mk b9 0 none))) ∧ ρ 7 = (Value.int .i64 1) ∧ True) ⟨e2, e7, trivial⟩ ?_
    rintro ρ ⟨e2, e7, -⟩
    refine wpC_region ?_
    refine wpR_val (v := (Value.int .i64 1)) (w' := w3) rfl rfl rfl (x_move (v := (Value.int .i64 1)) rfl e7) ?_
    refine wpR_val (v := (Value.agg #[(Value.int .i64 1), (Value.int .i64 1)])) (w' := w3) rfl rfl rfl (x_build (qs := [(0, (Value.int .i64 1)), (1, (Value.int .i64 1))]) rfl (by rfl) (BD_46_0_1 1 1 _)) ?_
    refine wpR_val (v := (Value.pointer (some ((Addr.mk b9 0 none).add 9)))) (w' := w3) rfl rfl rfl (x_fieldAddr rfl e2 FA_24_9) ?_
    obtain ⟨x18, q18, h⟩ := h
    refine wpR_val (v := (Value.int .i64 x18)) (w' := w3) rfl rfl rfl (x_load1 rfl rfl SH_3 q18) ?_
    refine wpR_val (v := (Value.bool (decide (2 ≤ x18)))) (w' := w3) rfl rfl rfl (x_geq rfl rfl rfl) ?_
    refine wpR_val (v := (Value.bool (decide (2 ≤ x18)))) (w' := w3) rfl rfl rfl (x_move (v := (Value.bool (decide (2 ≤ x18)))) rfl rfl) ?_
    obtain ⟨J19, h, hk⟩ := h
    refine wpR_joinJ 7 (fun x ρ => ρ 33 = Value.bool x ∧ ρ 2 = (Value.pointer (some (Addr.mk b9 0 none))) ∧ ρ 7 = (Value.int .i64 1) ∧ ρ 22 = (Value.agg #[(Value.int .i64 1), (Value.int .i64 1)]) ∧ True) (fun x w => J19 x ∧ w3 = w) ?_ ?_
    · clear hk
      rcases Bool.eq_false_or_eq_true (decide (2 ≤ x18)) with hc20 | hc20
      · replace h := h.1 hc20
        refine wpR_val (v := (Value.pointer (some ((Addr.mk b9 0 none).add 8)))) (w' := w3) (wantG rfl rfl rfl hc20) rfl rfl (x_fieldAddr rfl e2 FA_24_8) ?_
        obtain ⟨x21, q21, h⟩ := h
        refine wpR_val (v := (Value.int .i64 x21)) (w' := w3) (wantG rfl rfl rfl hc20) rfl rfl (x_load1 rfl rfl SH_3 q21) ?_
        refine wpR_val (v := (Value.pointer (some ((Addr.mk b9 0 none).add 9)))) (w' := w3) (wantG rfl rfl rfl hc20) rfl rfl (x_fieldAddr rfl e2 FA_24_9) ?_
        obtain ⟨x22, q22, h⟩ := h
        refine wpR_val (v := (Value.int .i64 x22)) (w' := w3) (wantG rfl rfl rfl hc20) rfl rfl (x_load1 rfl rfl SH_3 q22) ?_
        refine wpR_val (v := (Value.int .i64 (IntKind.i64.wrap (x21 * x22)))) (w' := w3) (wantG rfl rfl rfl hc20) rfl rfl (x_mul rfl rfl rfl) ?_
        refine wpR_val (v := (Value.bool (decide (4400 ≤ (IntKind.i64.wrap (x21 * x22)))))) (w' := w3) (wantG rfl rfl rfl hc20) rfl rfl (x_geq rfl rfl rfl) ?_
        refine wpR_val (v := (Value.bool (decide (4400 ≤ (IntKind.i64.wrap (x21 * x22)))))) (w' := w3) rfl rfl rfl (x_pickT (v := (Value.bool (decide (4400 ≤ (IntKind.i64.wrap (x21 * x22)))))) rfl rfl hc20 rfl) ?_
        refine wpR_nil ?_
        exact ⟨decide (4400 ≤ (IntKind.i64.wrap (x21 * x22))), ⟨rfl, e2, e7, rfl, trivial⟩, h, rfl⟩
      · replace h := h.2 hc20
        refine wpR_pass (wantN rfl rfl rfl hc20) rfl rfl ?_
        refine wpR_pass (wantN rfl rfl rfl hc20) rfl rfl ?_
        refine wpR_pass (wantN rfl rfl rfl hc20) rfl rfl ?_
        refine wpR_pass (wantN rfl rfl rfl hc20) rfl rfl ?_
        refine wpR_pass (wantN rfl rfl rfl hc20) rfl rfl ?_
        refine wpR_pass (wantN rfl rfl rfl hc20) rfl rfl ?_
        refine wpR_val (v := (Value.bool false)) (w' := w3) rfl rfl rfl (x_pickF (v := (Value.bool false)) rfl rfl hc20 rfl) ?_
        refine wpR_nil ?_
        exact ⟨false, ⟨rfl, e2, e7, rfl, trivial⟩, h, rfl⟩
    clear h
    rintro c23 ρ wj ⟨e33, e2, e7, e22, -⟩ ⟨h, rfl⟩
    replace h := hk c23 h
    clear hk
    refine wpR_val (v := (Value.agg #[(Value.int .i64 1), (Value.int .i64 1), (Value.bool c23)])) (w' := w3) rfl rfl rfl (x_build (qs := [(0, (Value.agg #[(Value.int .i64 1), (Value.int .i64 1)])), (1, (Value.bool c23))]) rfl (bl_cons e22 (bl_cons e33 bl_nil)) (BD_55_0_1 1 1 c23 _)) ?_
    refine wpR_val (v := (Value.int .i64 1)) (w' := w3) rfl rfl rfl (x_move (v := (Value.int .i64 1)) rfl e7) ?_
    refine wpR_val (v := (Value.agg #[(Value.int .i64 4), (Value.int .i64 1)])) (w' := w3) rfl rfl rfl (x_build (qs := [(0, (Value.int .i64 4)), (1, (Value.int .i64 1))]) rfl (by rfl) (BD_46_0_1 4 1 _)) ?_
    refine wpR_val (v := (Value.pointer (some ((Addr.mk b9 0 none).add 9)))) (w' := w3) rfl rfl rfl (x_fieldAddr rfl e2 FA_24_9) ?_
    obtain ⟨x24, q24, h⟩ := h
    refine wpR_val (v := (Value.int .i64 x24)) (w' := w3) rfl rfl rfl (x_load1 rfl rfl SH_3 q24) ?_
    refine wpR_val (v := (Value.bool (decide (2 ≤ x24)))) (w' := w3) rfl rfl rfl (x_geq rfl rfl rfl) ?_
    refine wpR_val (v := (Value.agg #[(Value.int .i64 4), (Value.int .i64 1), (Value.bool (decide (2 ≤ x24)))])) (w' := w3) rfl rfl rfl (x_build (qs := [(0, (Value.agg #[(Value.int .i64 4), (Value.int .i64 1)])), (1, (Value.bool (decide (2 ≤ x24))))]) rfl (by rfl) (BD_55_0_1 4 1 (decide (2 ≤ x24)) _)) ?_
    refine wpR_val (v := (Value.agg #[(Value.int .i64 4), (Value.int .i64 0)])) (w' := w3) rfl rfl rfl (x_build (qs := [(0, (Value.int .i64 4)), (1, (Value.int .i64 0))]) rfl (by rfl) (BD_46_0_1 4 0 _)) ?_
    refine wpR_val (v := (Value.agg #[(Value.int .i64 4), (Value.int .i64 0), (Value.bool true)])) (w' := w3) rfl rfl rfl (x_build (qs := [(0, (Value.agg #[(Value.int .i64 4), (Value.int .i64 0)])), (1, (Value.bool true))]) rfl (by rfl) (BD_55_0_1 4 0 true _)) ?_
    obtain ⟨b25, hb25⟩ : ∃ u, u = w3.heap.size := ⟨_, rfl⟩
    obtain ⟨w4, hw25⟩ : ∃ u, u = w3.alloc (.cells #[(Value.int .i64 1), (Value.int .i64 1), (Value.bool c23), (Value.int .i64 4), (Value.int .i64 1), (Value.bool (decide (2 ≤ x24))), (Value.int .i64 4), (Value.int .i64 0), (Value.bool true)] 55) := ⟨_, rfl⟩
    replace h := h b25 w4 hb25 hw25
    refine wpR_val (v := (Sl.v (⟨some ⟨b25, 0, none⟩, 3, 3⟩ : Sl))) (w' := w4) rfl rfl rfl ((x_buildSlice (qs := [(0, (Value.agg #[(Value.int .i64 1), (Value.int .i64 1), (Value.bool c23)])), (1, (Value.agg #[(Value.int .i64 4), (Value.int .i64 1), (Value.bool (decide (2 ≤ x24)))])), (2, (Value.agg #[(Value.int .i64 4), (Value.int .i64 0), (Value.bool true)]))]) rfl (by rfl) (BS_51_3_0_1_2 1 1 c23 4 1 (decide (2 ≤ x24)) 4 0 true)).trans (by rw [← hb25, ← hw25])) ?_
    refine wpR_val (v := (Sl.v (⟨some ⟨b25, 0, none⟩, 3, 3⟩ : Sl))) (w' := w4) rfl rfl rfl (x_assign (v := (Sl.v (⟨some ⟨b25, 0, none⟩, 3, 3⟩ : Sl))) rfl rfl) ?_
    refine wpR_nil ?_
    refine wpC_ret ?_
    exact ⟨.inl rfl, fun a ha => ⟨_, results_rep1 rfl ha rfl, (⟨some ⟨b25, 0, none⟩, 3, 3⟩ : Sl), rfl, h⟩⟩
  · replace h := h.2 hc17
    refine wpC_seq ?_
    refine wpC_cut (fun ρ => ρ 2 = (Value.pointer (some (Addr.mk b9 0 none))) ∧ ρ 5 = (Value.bool c14) ∧ ρ 6 = (Value.pointer (some (Addr.mk b15 0 none))) ∧ ρ 7 = (Value.int .i64 1) ∧ ρ 8 = (Value.int .i64 2) ∧ ρ 18 = (Value.int .i64 p1) ∧ True) ⟨e2, e5, e6, e7, e8, e18, trivial⟩ ?_
    rintro ρ ⟨e2, e5, e6, e7, e8, e18, -⟩
    refine wpC_region ?_
    refine wpR_val (v := (Value.bool (decide (p1 = 2)))) (w' := w3) rfl rfl rfl (x_eql rfl e18 rfl) ?_
    refine wpR_val (v := (Value.bool (decide (p1 = 2)))) (w' := w3) rfl rfl rfl (x_assign (v := (Value.bool (decide (p1 = 2)))) rfl rfl) ?_
    refine wpR_nil ?_
    refine wpC_cond (b := decide (p1 = 2)) rfl (fun hc26 => ?_) (fun hc26 => ?_)
    · replace h := h.1 hc26
      refine wpC_seq ?_
      refine wpC_cut (fun ρ => ρ 5 = (Value.bool c14) ∧ ρ 6 = (Value.pointer (some (Addr.mk b15 0 none))) ∧ ρ 8 = (Value.int .i64 2) ∧ True) ⟨e5, e6, e8, trivial⟩ ?_
      rintro ρ ⟨e5, e6, e8, -⟩
      refine wpC_region ?_
      obtain ⟨x27, q27, x28, q28, h⟩ := h
      refine wpR_val (v := (Value.agg #[(Value.int .i64 x27), (Value.int .i64 x28)])) (w' := w3) rfl rfl rfl (x_loadN [(Value.int .i64 x27), (Value.int .i64 x28)] rfl e6 SH_46 (CellsAt.out (CellsAt.cons q27 (CellsAt.cons q28 CellsAt.nil)))) ?_
      refine wpR_val (v := (Value.bool c14)) (w' := w3) rfl rfl rfl (x_move (v := (Value.bool c14)) rfl e5) ?_
      refine wpR_val (v := (Value.agg #[(Value.int .i64 x27), (Value.int .i64 x28), (Value.bool c14)])) (w' := w3) rfl rfl rfl (x_build (qs := [(0, (Value.agg #[(Value.int .i64 x27), (Value.int .i64 x28)])), (1, (Value.bool c14))]) rfl (by rfl) (BD_55_0_1 x27 x28 c14 _)) ?_
      refine wpR_val (v := (Value.int .i64 2)) (w' := w3) rfl rfl rfl (x_move (v := (Value.int .i64 2)) rfl e8) ?_
      refine wpR_val (v := (Value.agg #[(Value.int .i64 3), (Value.int .i64 2)])) (w' := w3) rfl rfl rfl (x_build (qs := [(0, (Value.int .i64 3)), (1, (Value.int .i64 2))]) rfl (by rfl) (BD_46_0_1 3 2 _)) ?_
      refine wpR_val (v := (Value.agg #[(Value.int .i64 3), (Value.int .i64 2), (Value.bool true)])) (w' := w3) rfl rfl rfl (x_build (qs := [(0, (Value.agg #[(Value.int .i64 3), (Value.int .i64 2)])), (1, (Value.bool true))]) rfl (by rfl) (BD_55_0_1 3 2 true _)) ?_
      obtain ⟨b29, hb29⟩ : ∃ u, u = w3.heap.size := ⟨_, rfl⟩
      obtain ⟨w5, hw29⟩ : ∃ u, u = w3.alloc (.cells #[(Value.int .i64 x27), (Value.int .i64 x28), (Value.bool c14), (Value.int .i64 3), (Value.int .i64 2), (Value.bool true)] 55) := ⟨_, rfl⟩
      replace h := h b29 w5 hb29 hw29
      refine wpR_val (v := (Sl.v (⟨some ⟨b29, 0, none⟩, 2, 2⟩ : Sl))) (w' := w5) rfl rfl rfl ((x_buildSlice (qs := [(0, (Value.agg #[(Value.int .i64 x27), (Value.int .i64 x28), (Value.bool c14)])), (1, (Value.agg #[(Value.int .i64 3), (Value.int .i64 2), (Value.bool true)]))]) rfl (by rfl) (BS_51_2_0_1 x27 x28 c14 3 2 true)).trans (by rw [← hb29, ← hw29])) ?_
      refine wpR_val (v := (Sl.v (⟨some ⟨b29, 0, none⟩, 2, 2⟩ : Sl))) (w' := w5) rfl rfl rfl (x_assign (v := (Sl.v (⟨some ⟨b29, 0, none⟩, 2, 2⟩ : Sl))) rfl rfl) ?_
      refine wpR_nil ?_
      refine wpC_ret ?_
      exact ⟨.inl rfl, fun a ha => ⟨_, results_rep1 rfl ha rfl, (⟨some ⟨b29, 0, none⟩, 2, 2⟩ : Sl), rfl, h⟩⟩
    · replace h := h.2 hc26
      refine wpC_seq ?_
      refine wpC_cut (fun ρ => ρ 2 = (Value.pointer (some (Addr.mk b9 0 none))) ∧ ρ 5 = (Value.bool c14) ∧ ρ 6 = (Value.pointer (some (Addr.mk b15 0 none))) ∧ ρ 7 = (Value.int .i64 1) ∧ ρ 8 = (Value.int .i64 2) ∧ ρ 18 = (Value.int .i64 p1) ∧ True) ⟨e2, e5, e6, e7, e8, e18, trivial⟩ ?_
      rintro ρ ⟨e2, e5, e6, e7, e8, e18, -⟩
      refine wpC_region ?_
      refine wpR_val (v := (Value.bool (decide (p1 = 3)))) (w' := w3) rfl rfl rfl (x_eql rfl e18 rfl) ?_
      refine wpR_val (v := (Value.bool (decide (p1 = 3)))) (w' := w3) rfl rfl rfl (x_assign (v := (Value.bool (decide (p1 = 3)))) rfl rfl) ?_
      refine wpR_nil ?_
      refine wpC_cond (b := decide (p1 = 3)) rfl (fun hc30 => ?_) (fun hc30 => ?_)
      · replace h := h.1 hc30
        refine wpC_seq ?_
        refine wpC_cut (fun ρ => ρ 2 = (Value.pointer (some (Addr.mk b9 0 none))) ∧ ρ 5 = (Value.bool c14) ∧ ρ 6 = (Value.pointer (some (Addr.mk b15 0 none))) ∧ ρ 8 = (Value.int .i64 2) ∧ True) ⟨e2, e5, e6, e8, trivial⟩ ?_
        rintro ρ ⟨e2, e5, e6, e8, -⟩
        refine wpC_region ?_
        obtain ⟨x31, q31, x32, q32, h⟩ := h
        refine wpR_val (v := (Value.agg #[(Value.int .i64 x31), (Value.int .i64 x32)])) (w' := w3) rfl rfl rfl (x_loadN [(Value.int .i64 x31), (Value.int .i64 x32)] rfl e6 SH_46 (CellsAt.out (CellsAt.cons q31 (CellsAt.cons q32 CellsAt.nil)))) ?_
        refine wpR_val (v := (Value.pointer (some ((Addr.mk b9 0 none).add 3)))) (w' := w3) rfl rfl rfl (x_fieldAddr rfl e2 FA_24_3) ?_
        obtain ⟨x33, q33, h⟩ := h
        refine wpR_val (v := (Value.int .i64 x33)) (w' := w3) rfl rfl rfl (x_load1 rfl rfl SH_3 q33) ?_
        refine wpR_val (v := (Value.bool (!decide (x33 = 0)))) (w' := w3) rfl rfl rfl (x_neq rfl rfl rfl) ?_
        refine wpR_val (v := (Value.agg #[(Value.int .i64 x31), (Value.int .i64 x32), (Value.bool (!decide (x33 = 0)))])) (w' := w3) rfl rfl rfl (x_build (qs := [(0, (Value.agg #[(Value.int .i64 x31), (Value.int .i64 x32)])), (1, (Value.bool (!decide (x33 = 0))))]) rfl (by rfl) (BD_55_0_1 x31 x32 (!decide (x33 = 0)) _)) ?_
        refine wpR_val (v := (Value.agg #[(Value.int .i64 2), (Value.int .i64 0)])) (w' := w3) rfl rfl rfl (x_build (qs := [(0, (Value.int .i64 2)), (1, (Value.int .i64 0))]) rfl (by rfl) (BD_46_0_1 2 0 _)) ?_
        refine wpR_val (v := (Value.bool c14)) (w' := w3) rfl rfl rfl (x_move (v := (Value.bool c14)) rfl e5) ?_
        refine wpR_val (v := (Value.agg #[(Value.int .i64 2), (Value.int .i64 0), (Value.bool c14)])) (w' := w3) rfl rfl rfl (x_build (qs := [(0, (Value.agg #[(Value.int .i64 2), (Value.int .i64 0)])), (1, (Value.bool c14))]) rfl (by rfl) (BD_55_0_1 2 0 c14 _)) ?_
        refine wpR_val (v := (Value.int .i64 2)) (w' := w3) rfl rfl rfl (x_move (v := (Value.int .i64 2)) rfl e8) ?_
        refine wpR_val (v := (Value.agg #[(Value.int .i64 3), (Value.int .i64 2)])) (w' := w3) rfl rfl rfl (x_build (qs := [(0, (Value.int .i64 3)), (1, (Value.int .i64 2))]) rfl (by rfl) (BD_46_0_1 3 2 _)) ?_
        refine wpR_val (v := (Value.agg #[(Value.int .i64 3), (Value.int .i64 2), (Value.bool true)])) (w' := w3) rfl rfl rfl (x_build (qs := [(0, (Value.agg #[(Value.int .i64 3), (Value.int .i64 2)])), (1, (Value.bool true))]) rfl (by rfl) (BD_55_0_1 3 2 true _)) ?_
        obtain ⟨b34, hb34⟩ : ∃ u, u = w3.heap.size := ⟨_, rfl⟩
        obtain ⟨w6, hw34⟩ : ∃ u, u = w3.alloc (.cells #[(Value.int .i64 x31), (Value.int .i64 x32), (Value.bool (!decide (x33 = 0))), (Value.int .i64 2), (Value.int .i64 0), (Value.bool c14), (Value.int .i64 3), (Value.int .i64 2), (Value.bool true)] 55) := ⟨_, rfl⟩
        replace h := h b34 w6 hb34 hw34
        refine wpR_val (v := (Sl.v (⟨some ⟨b34, 0, none⟩, 3, 3⟩ : Sl))) (w' := w6) rfl rfl rfl ((x_buildSlice (qs := [(0, (Value.agg #[(Value.int .i64 x31), (Value.int .i64 x32), (Value.bool (!decide (x33 = 0)))])), (1, (Value.agg #[(Value.int .i64 2), (Value.int .i64 0), (Value.bool c14)])), (2, (Value.agg #[(Value.int .i64 3), (Value.int .i64 2), (Value.bool true)]))]) rfl (by rfl) (BS_51_3_0_1_2 x31 x32 (!decide (x33 = 0)) 2 0 c14 3 2 true)).trans (by rw [← hb34, ← hw34])) ?_
        refine wpR_val (v := (Sl.v (⟨some ⟨b34, 0, none⟩, 3, 3⟩ : Sl))) (w' := w6) rfl rfl rfl (x_assign (v := (Sl.v (⟨some ⟨b34, 0, none⟩, 3, 3⟩ : Sl))) rfl rfl) ?_
        refine wpR_nil ?_
        refine wpC_ret ?_
        exact ⟨.inl rfl, fun a ha => ⟨_, results_rep1 rfl ha rfl, (⟨some ⟨b34, 0, none⟩, 3, 3⟩ : Sl), rfl, h⟩⟩
      · replace h := h.2 hc30
        refine wpC_seq ?_
        refine wpC_cut (fun ρ => ρ 2 = (Value.pointer (some (Addr.mk b9 0 none))) ∧ ρ 6 = (Value.pointer (some (Addr.mk b15 0 none))) ∧ ρ 7 = (Value.int .i64 1) ∧ ρ 8 = (Value.int .i64 2) ∧ ρ 18 = (Value.int .i64 p1) ∧ True) ⟨e2, e6, e7, e8, e18, trivial⟩ ?_
        rintro ρ ⟨e2, e6, e7, e8, e18, -⟩
        refine wpC_region ?_
        refine wpR_val (v := (Value.bool (decide (p1 = 4)))) (w' := w3) rfl rfl rfl (x_eql rfl e18 rfl) ?_
        refine wpR_val (v := (Value.bool (decide (p1 = 4)))) (w' := w3) rfl rfl rfl (x_assign (v := (Value.bool (decide (p1 = 4)))) rfl rfl) ?_
        refine wpR_nil ?_
        refine wpC_cond (b := decide (p1 = 4)) rfl (fun hc35 => ?_) (fun hc35 => ?_)
        · replace h := h.1 hc35
          refine wpC_seq ?_
          refine wpC_cut (fun ρ => ρ 2 = (Value.pointer (some (Addr.mk b9 0 none))) ∧ ρ 6 = (Value.pointer (some (Addr.mk b15 0 none))) ∧ ρ 7 = (Value.int .i64 1) ∧ ρ 8 = (Value.int .i64 2) ∧ True) ⟨e2, e6, e7, e8, trivial⟩ ?_
          rintro ρ ⟨e2, e6, e7, e8, -⟩
          refine wpC_region ?_
          obtain ⟨x36, q36, x37, q37, h⟩ := h
          refine wpR_val (v := (Value.agg #[(Value.int .i64 x36), (Value.int .i64 x37)])) (w' := w3) rfl rfl rfl (x_loadN [(Value.int .i64 x36), (Value.int .i64 x37)] rfl e6 SH_46 (CellsAt.out (CellsAt.cons q36 (CellsAt.cons q37 CellsAt.nil)))) ?_
          refine wpR_val (v := (Value.pointer (some ((Addr.mk b9 0 none).add 4)))) (w' := w3) rfl rfl rfl (x_fieldAddr rfl e2 FA_24_4) ?_
          obtain ⟨x38, q38, h⟩ := h
          refine wpR_val (v := (Value.bool x38)) (w' := w3) rfl rfl rfl (x_load1 rfl rfl SH_4 q38) ?_
          refine wpR_val (v := (Value.bool x38)) (w' := w3) rfl rfl rfl (x_move (v := (Value.bool x38)) rfl rfl) ?_
          obtain ⟨J39, h, hk⟩ := h
          refine wpR_joinJ 4 (fun x ρ => ρ 76 = Value.bool x ∧ ρ 2 = (Value.pointer (some (Addr.mk b9 0 none))) ∧ ρ 7 = (Value.int .i64 1) ∧ ρ 8 = (Value.int .i64 2) ∧ ρ 69 = (Value.agg #[(Value.int .i64 x36), (Value.int .i64 x37)]) ∧ True) (fun x w => J39 x ∧ w3 = w) ?_ ?_
          · clear hk
            rcases Bool.eq_false_or_eq_true (x38) with hc40 | hc40
            · replace h := h.1 hc40
              refine wpR_val (v := (Value.pointer (some ((Addr.mk b9 0 none).add 9)))) (w' := w3) (wantG rfl rfl rfl hc40) rfl rfl (x_fieldAddr rfl e2 FA_24_9) ?_
              obtain ⟨x41, q41, h⟩ := h
              refine wpR_val (v := (Value.int .i64 x41)) (w' := w3) (wantG rfl rfl rfl hc40) rfl rfl (x_load1 rfl rfl SH_3 q41) ?_
              refine wpR_val (v := (Value.bool (decide (x41 = 1)))) (w' := w3) (wantG rfl rfl rfl hc40) rfl rfl (x_eql rfl rfl rfl) ?_
              refine wpR_val (v := (Value.bool (decide (x41 = 1)))) (w' := w3) rfl rfl rfl (x_pickT (v := (Value.bool (decide (x41 = 1)))) rfl rfl hc40 rfl) ?_
              refine wpR_nil ?_
              exact ⟨decide (x41 = 1), ⟨rfl, e2, e7, e8, rfl, trivial⟩, h, rfl⟩
            · replace h := h.2 hc40
              refine wpR_pass (wantN rfl rfl rfl hc40) rfl rfl ?_
              refine wpR_pass (wantN rfl rfl rfl hc40) rfl rfl ?_
              refine wpR_pass (wantN rfl rfl rfl hc40) rfl rfl ?_
              refine wpR_val (v := (Value.bool false)) (w' := w3) rfl rfl rfl (x_pickF (v := (Value.bool false)) rfl rfl hc40 rfl) ?_
              refine wpR_nil ?_
              exact ⟨false, ⟨rfl, e2, e7, e8, rfl, trivial⟩, h, rfl⟩
          clear h
          rintro c42 ρ wj ⟨e76, e2, e7, e8, e69, -⟩ ⟨h, rfl⟩
          replace h := hk c42 h
          clear hk
          refine wpR_val (v := (Value.agg #[(Value.int .i64 x36), (Value.int .i64 x37), (Value.bool c42)])) (w' := w3) rfl rfl rfl (x_build (qs := [(0, (Value.agg #[(Value.int .i64 x36), (Value.int .i64 x37)])), (1, (Value.bool c42))]) rfl (bl_cons e69 (bl_cons e76 bl_nil)) (BD_55_0_1 x36 x37 c42 _)) ?_
          refine wpR_val (v := (Value.int .i64 1)) (w' := w3) rfl rfl rfl (x_move (v := (Value.int .i64 1)) rfl e7) ?_
          refine wpR_val (v := (Value.agg #[(Value.int .i64 0), (Value.int .i64 1)])) (w' := w3) rfl rfl rfl (x_build (qs := [(0, (Value.int .i64 0)), (1, (Value.int .i64 1))]) rfl (by rfl) (BD_46_0_1 0 1 _)) ?_
          refine wpR_val (v := (Value.pointer (some ((Addr.mk b9 0 none).add 4)))) (w' := w3) rfl rfl rfl (x_fieldAddr rfl e2 FA_24_4) ?_
          obtain ⟨x43, q43, h⟩ := h
          refine wpR_val (v := (Value.bool x43)) (w' := w3) rfl rfl rfl (x_load1 rfl rfl SH_4 q43) ?_
          refine wpR_val (v := (Value.agg #[(Value.int .i64 0), (Value.int .i64 1), (Value.bool x43)])) (w' := w3) rfl rfl rfl (x_build (qs := [(0, (Value.agg #[(Value.int .i64 0), (Value.int .i64 1)])), (1, (Value.bool x43))]) rfl (by rfl) (BD_55_0_1 0 1 x43 _)) ?_
          refine wpR_val (v := (Value.int .i64 2)) (w' := w3) rfl rfl rfl (x_move (v := (Value.int .i64 2)) rfl e8) ?_
          refine wpR_val (v := (Value.agg #[(Value.int .i64 3), (Value.int .i64 2)])) (w' := w3) rfl rfl rfl (x_build (qs := [(0, (Value.int .i64 3)), (1, (Value.int .i64 2))]) rfl (by rfl) (BD_46_0_1 3 2 _)) ?_
          refine wpR_val (v := (Value.agg #[(Value.int .i64 3), (Value.int .i64 2), (Value.bool true)])) (w' := w3) rfl rfl rfl (x_build (qs := [(0, (Value.agg #[(Value.int .i64 3), (Value.int .i64 2)])), (1, (Value.bool true))]) rfl (by rfl) (BD_55_0_1 3 2 true _)) ?_
          obtain ⟨b44, hb44⟩ : ∃ u, u = w3.heap.size := ⟨_, rfl⟩
          obtain ⟨w7, hw44⟩ : ∃ u, u = w3.alloc (.cells #[(Value.int .i64 x36), (Value.int .i64 x37), (Value.bool c42), (Value.int .i64 0), (Value.int .i64 1), (Value.bool x43), (Value.int .i64 3), (Value.int .i64 2), (Value.bool true)] 55) := ⟨_, rfl⟩
          replace h := h b44 w7 hb44 hw44
          refine wpR_val (v := (Sl.v (⟨some ⟨b44, 0, none⟩, 3, 3⟩ : Sl))) (w' := w7) rfl rfl rfl ((x_buildSlice (qs := [(0, (Value.agg #[(Value.int .i64 x36), (Value.int .i64 x37), (Value.bool c42)])), (1, (Value.agg #[(Value.int .i64 0), (Value.int .i64 1), (Value.bool x43)])), (2, (Value.agg #[(Value.int .i64 3), (Value.int .i64 2), (Value.bool true)]))]) rfl (by rfl) (BS_51_3_0_1_2 x36 x37 c42 0 1 x43 3 2 true)).trans (by rw [← hb44, ← hw44])) ?_
          refine wpR_val (v := (Sl.v (⟨some ⟨b44, 0, none⟩, 3, 3⟩ : Sl))) (w' := w7) rfl rfl rfl (x_assign (v := (Sl.v (⟨some ⟨b44, 0, none⟩, 3, 3⟩ : Sl))) rfl rfl) ?_
          refine wpR_nil ?_
          refine wpC_ret ?_
          exact ⟨.inl rfl, fun a ha => ⟨_, results_rep1 rfl ha rfl, (⟨some ⟨b44, 0, none⟩, 3, 3⟩ : Sl), rfl, h⟩⟩
        · replace h := h.2 hc35
          refine wpC_seq ?_
          refine wpC_cut (fun ρ => ρ 2 = (Value.pointer (some (Addr.mk b9 0 none))) ∧ ρ 6 = (Value.pointer (some (Addr.mk b15 0 none))) ∧ ρ 7 = (Value.int .i64 1) ∧ ρ 8 = (Value.int .i64 2) ∧ ρ 18 = (Value.int .i64 p1) ∧ True) ⟨e2, e6, e7, e8, e18, trivial⟩ ?_
          rintro ρ ⟨e2, e6, e7, e8, e18, -⟩
          refine wpC_region ?_
          refine wpR_val (v := (Value.bool (decide (p1 = 5)))) (w' := w3) rfl rfl rfl (x_eql rfl e18 rfl) ?_
          refine wpR_val (v := (Value.bool (decide (p1 = 5)))) (w' := w3) rfl rfl rfl (x_assign (v := (Value.bool (decide (p1 = 5)))) rfl rfl) ?_
          refine wpR_nil ?_
          refine wpC_cond (b := decide (p1 = 5)) rfl (fun hc45 => ?_) (fun hc45 => ?_)
          · replace h := h.1 hc45
            refine wpC_seq ?_
            refine wpC_cut (fun ρ => ρ 2 = (Value.pointer (some (Addr.mk b9 0 none))) ∧ ρ 6 = (Value.pointer (some (Addr.mk b15 0 none))) ∧ ρ 7 = (Value.int .i64 1) ∧ ρ 8 = (Value.int .i64 2) ∧ True) ⟨e2, e6, e7, e8, trivial⟩ ?_
            rintro ρ ⟨e2, e6, e7, e8, -⟩
            refine wpC_region ?_
            obtain ⟨x46, q46, x47, q47, h⟩ := h
            refine wpR_val (v := (Value.agg #[(Value.int .i64 x46), (Value.int .i64 x47)])) (w' := w3) rfl rfl rfl (x_loadN [(Value.int .i64 x46), (Value.int .i64 x47)] rfl e6 SH_46 (CellsAt.out (CellsAt.cons q46 (CellsAt.cons q47 CellsAt.nil)))) ?_
            refine wpR_val (v := (Value.pointer (some ((Addr.mk b9 0 none).add 5)))) (w' := w3) rfl rfl rfl (x_fieldAddr rfl e2 FA_24_5) ?_
            obtain ⟨x48, q48, h⟩ := h
            refine wpR_val (v := (Value.int .i64 x48)) (w' := w3) rfl rfl rfl (x_load1 rfl rfl SH_3 q48) ?_
            refine wpR_val (v := (Value.bool (decide (x48 = 2)))) (w' := w3) rfl rfl rfl (x_eql rfl rfl rfl) ?_
            refine wpR_val (v := (Value.agg #[(Value.int .i64 x46), (Value.int .i64 x47), (Value.bool (decide (x48 = 2)))])) (w' := w3) rfl rfl rfl (x_build (qs := [(0, (Value.agg #[(Value.int .i64 x46), (Value.int .i64 x47)])), (1, (Value.bool (decide (x48 = 2))))]) rfl (by rfl) (BD_55_0_1 x46 x47 (decide (x48 = 2)) _)) ?_
            refine wpR_val (v := (Value.int .i64 1)) (w' := w3) rfl rfl rfl (x_move (v := (Value.int .i64 1)) rfl e7) ?_
            refine wpR_val (v := (Value.agg #[(Value.int .i64 2), (Value.int .i64 1)])) (w' := w3) rfl rfl rfl (x_build (qs := [(0, (Value.int .i64 2)), (1, (Value.int .i64 1))]) rfl (by rfl) (BD_46_0_1 2 1 _)) ?_
            refine wpR_val (v := (Value.pointer (some ((Addr.mk b9 0 none).add 5)))) (w' := w3) rfl rfl rfl (x_fieldAddr rfl e2 FA_24_5) ?_
            obtain ⟨x49, q49, h⟩ := h
            refine wpR_val (v := (Value.int .i64 x49)) (w' := w3) rfl rfl rfl (x_load1 rfl rfl SH_3 q49) ?_
            refine wpR_val (v := (Value.bool (decide (x49 = 1)))) (w' := w3) rfl rfl rfl (x_eql rfl rfl rfl) ?_
            refine wpR_val (v := (Value.agg #[(Value.int .i64 2), (Value.int .i64 1), (Value.bool (decide (x49 = 1)))])) (w' := w3) rfl rfl rfl (x_build (qs := [(0, (Value.agg #[(Value.int .i64 2), (Value.int .i64 1)])), (1, (Value.bool (decide (x49 = 1))))]) rfl (by rfl) (BD_55_0_1 2 1 (decide (x49 = 1)) _)) ?_
            refine wpR_val (v := (Value.int .i64 2)) (w' := w3) rfl rfl rfl (x_move (v := (Value.int .i64 2)) rfl e8) ?_
            refine wpR_val (v := (Value.agg #[(Value.int .i64 2), (Value.int .i64 2)])) (w' := w3) rfl rfl rfl (x_build (qs := [(0, (Value.int .i64 2)), (1, (Value.int .i64 2))]) rfl (by rfl) (BD_46_0_1 2 2 _)) ?_
            refine wpR_val (v := (Value.agg #[(Value.int .i64 2), (Value.int .i64 2), (Value.bool true)])) (w' := w3) rfl rfl rfl (x_build (qs := [(0, (Value.agg #[(Value.int .i64 2), (Value.int .i64 2)])), (1, (Value.bool true))]) rfl (by rfl) (BD_55_0_1 2 2 true _)) ?_
            obtain ⟨b50, hb50⟩ : ∃ u, u = w3.heap.size := ⟨_, rfl⟩
            obtain ⟨w8, hw50⟩ : ∃ u, u = w3.alloc (.cells #[(Value.int .i64 x46), (Value.int .i64 x47), (Value.bool (decide (x48 = 2))), (Value.int .i64 2), (Value.int .i64 1), (Value.bool (decide (x49 = 1))), (Value.int .i64 2), (Value.int .i64 2), (Value.bool true)] 55) := ⟨_, rfl⟩
            replace h := h b50 w8 hb50 hw50
            refine wpR_val (v := (Sl.v (⟨some ⟨b50, 0, none⟩, 3, 3⟩ : Sl))) (w' := w8) rfl rfl rfl ((x_buildSlice (qs := [(0, (Value.agg #[(Value.int .i64 x46), (Value.int .i64 x47), (Value.bool (decide (x48 = 2)))])), (1, (Value.agg #[(Value.int .i64 2), (Value.int .i64 1), (Value.bool (decide (x49 = 1)))])), (2, (Value.agg #[(Value.int .i64 2), (Value.int .i64 2), (Value.bool true)]))]) rfl (by rfl) (BS_51_3_0_1_2 x46 x47 (decide (x48 = 2)) 2 1 (decide (x49 = 1)) 2 2 true)).trans (by rw [← hb50, ← hw50])) ?_
            refine wpR_val (v := (Sl.v (⟨some ⟨b50, 0, none⟩, 3, 3⟩ : Sl))) (w' := w8) rfl rfl rfl (x_assign (v := (Sl.v (⟨some ⟨b50, 0, none⟩, 3, 3⟩ : Sl))) rfl rfl) ?_
            refine wpR_nil ?_
            refine wpC_ret ?_
            exact ⟨.inl rfl, fun a ha => ⟨_, results_rep1 rfl ha rfl, (⟨some ⟨b50, 0, none⟩, 3, 3⟩ : Sl), rfl, h⟩⟩
          · replace h := h.2 hc45
            refine wpC_seq ?_
            refine wpC_cut (fun ρ => ρ 2 = (Value.pointer (some (Addr.mk b9 0 none))) ∧ ρ 6 = (Value.pointer (some (Addr.mk b15 0 none))) ∧ ρ 7 = (Value.int .i64 1) ∧ ρ 8 = (Value.int .i64 2) ∧ ρ 18 = (Value.int .i64 p1) ∧ True) ⟨e2, e6, e7, e8, e18, trivial⟩ ?_
            rintro ρ ⟨e2, e6, e7, e8, e18, -⟩
            refine wpC_region ?_
            refine wpR_val (v := (Value.bool (decide (p1 = 6)))) (w' := w3) rfl rfl rfl (x_eql rfl e18 rfl) ?_
            refine wpR_val (v := (Value.bool (decide (p1 = 6)))) (w' := w3) rfl rfl rfl (x_assign (v := (Value.bool (decide (p1 = 6)))) rfl rfl) ?_
            refine wpR_nil ?_
            refine wpC_cond (b := decide (p1 = 6)) rfl (fun hc51 => ?_) (fun hc51 => ?_)
            · replace h := h.1 hc51
              refine wpC_seq ?_
              refine wpC_cut (fun ρ => ρ 2 = (Value.pointer (some (Addr.mk b9 0 none))) ∧ ρ 6 = (Value.pointer (some (Addr.mk b15 0 none))) ∧ ρ 8 = (Value.int .i64 2) ∧ True) ⟨e2, e6, e8, trivial⟩ ?_
              rintro ρ ⟨e2, e6, e8, -⟩
              refine wpC_region ?_
              obtain ⟨x52, q52, x53, q53, h⟩ := h
              refine wpR_val (v := (Value.agg #[(Value.int .i64 x52), (Value.int .i64 x53)])) (w' := w3) rfl rfl rfl (x_loadN [(Value.int .i64 x52), (Value.int .i64 x53)] rfl e6 SH_46 (CellsAt.out (CellsAt.cons q52 (CellsAt.cons q53 CellsAt.nil)))) ?_
              refine wpR_val (v := (Value.pointer (some ((Addr.mk b9 0 none).add 6)))) (w' := w3) rfl rfl rfl (x_fieldAddr rfl e2 FA_24_6) ?_
              obtain ⟨x54, q54, h⟩ := h
              refine wpR_val (v := (Value.bool x54)) (w' := w3) rfl rfl rfl (x_load1 rfl rfl SH_4 q54) ?_
              refine wpR_val (v := (Value.agg #[(Value.int .i64 x52), (Value.int .i64 x53), (Value.bool x54)])) (w' := w3) rfl rfl rfl (x_build (qs := [(0, (Value.agg #[(Value.int .i64 x52), (Value.int .i64 x53)])), (1, (Value.bool x54))]) rfl (by rfl) (BD_55_0_1 x52 x53 x54 _)) ?_
              refine wpR_val (v := (Value.int .i64 2)) (w' := w3) rfl rfl rfl (x_move (v := (Value.int .i64 2)) rfl e8) ?_
              refine wpR_val (v := (Value.agg #[(Value.int .i64 2), (Value.int .i64 2)])) (w' := w3) rfl rfl rfl (x_build (qs := [(0, (Value.int .i64 2)), (1, (Value.int .i64 2))]) rfl (by rfl) (BD_46_0_1 2 2 _)) ?_
              refine wpR_val (v := (Value.agg #[(Value.int .i64 2), (Value.int .i64 2), (Value.bool true)])) (w' := w3) rfl rfl rfl (x_build (qs := [(0, (Value.agg #[(Value.int .i64 2), (Value.int .i64 2)])), (1, (Value.bool true))]) rfl (by rfl) (BD_55_0_1 2 2 true _)) ?_
              obtain ⟨b55, hb55⟩ : ∃ u, u = w3.heap.size := ⟨_, rfl⟩
              obtain ⟨w9, hw55⟩ : ∃ u, u = w3.alloc (.cells #[(Value.int .i64 x52), (Value.int .i64 x53), (Value.bool x54), (Value.int .i64 2), (Value.int .i64 2), (Value.bool true)] 55) := ⟨_, rfl⟩
              replace h := h b55 w9 hb55 hw55
              refine wpR_val (v := (Sl.v (⟨some ⟨b55, 0, none⟩, 2, 2⟩ : Sl))) (w' := w9) rfl rfl rfl ((x_buildSlice (qs := [(0, (Value.agg #[(Value.int .i64 x52), (Value.int .i64 x53), (Value.bool x54)])), (1, (Value.agg #[(Value.int .i64 2), (Value.int .i64 2), (Value.bool true)]))]) rfl (by rfl) (BS_51_2_0_1 x52 x53 x54 2 2 true)).trans (by rw [← hb55, ← hw55])) ?_
              refine wpR_val (v := (Sl.v (⟨some ⟨b55, 0, none⟩, 2, 2⟩ : Sl))) (w' := w9) rfl rfl rfl (x_assign (v := (Sl.v (⟨some ⟨b55, 0, none⟩, 2, 2⟩ : Sl))) rfl rfl) ?_
              refine wpR_nil ?_
              refine wpC_ret ?_
              exact ⟨.inl rfl, fun a ha => ⟨_, results_rep1 rfl ha rfl, (⟨some ⟨b55, 0, none⟩, 2, 2⟩ : Sl), rfl, h⟩⟩
            · replace h := h.2 hc51
              refine wpC_seq ?_
              refine wpC_cut (fun ρ => ρ 2 = (Value.pointer (some (Addr.mk b9 0 none))) ∧ ρ 6 = (Value.pointer (some (Addr.mk b15 0 none))) ∧ ρ 7 = (Value.int .i64 1) ∧ ρ 8 = (Value.int .i64 2) ∧ ρ 18 = (Value.int .i64 p1) ∧ True) ⟨e2, e6, e7, e8, e18, trivial⟩ ?_
              rintro ρ ⟨e2, e6, e7, e8, e18, -⟩
              refine wpC_region ?_
              refine wpR_val (v := (Value.bool (decide (p1 = 7)))) (w' := w3) rfl rfl rfl (x_eql rfl e18 rfl) ?_
              refine wpR_val (v := (Value.bool (decide (p1 = 7)))) (w' := w3) rfl rfl rfl (x_assign (v := (Value.bool (decide (p1 = 7)))) rfl rfl) ?_
              refine wpR_nil ?_
              refine wpC_cond (b := decide (p1 = 7)) rfl (fun hc56 => ?_) (fun hc56 => ?_)
              · replace h := h.1 hc56
                refine wpC_seq ?_
                refine wpC_cut (fun ρ => ρ 2 = (Value.pointer (some (Addr.mk b9 0 none))) ∧ ρ 6 = (Value.pointer (some (Addr.mk b15 0 none))) ∧ ρ 8 = (Value.int .i64 2) ∧ True) ⟨e2, e6, e8, trivial⟩ ?_
                rintro ρ ⟨e2, e6, e8, -⟩
                refine wpC_region ?_
                obtain ⟨x57, q57, x58, q58, h⟩ := h
                refine wpR_val (v := (Value.agg #[(Value.int .i64 x57), (Value.int .i64 x58)])) (w' := w3) rfl rfl rfl (x_loadN [(Value.int .i64 x57), (Value.int .i64 x58)] rfl e6 SH_46 (CellsAt.out (CellsAt.cons q57 (CellsAt.cons q58 CellsAt.nil)))) ?_
                refine wpR_val (v := (Value.pointer (some ((Addr.mk b9 0 none).add 7)))) (w' := w3) rfl rfl rfl (x_fieldAddr rfl e2 FA_24_7) ?_
                obtain ⟨x59, q59, h⟩ := h
                refine wpR_val (v := (Value.bool x59)) (w' := w3) rfl rfl rfl (x_load1 rfl rfl SH_4 q59) ?_
                refine wpR_val (v := (Value.agg #[(Value.int .i64 x57), (Value.int .i64 x58), (Value.bool x59)])) (w' := w3) rfl rfl rfl (x_build (qs := [(0, (Value.agg #[(Value.int .i64 x57), (Value.int .i64 x58)])), (1, (Value.bool x59))]) rfl (by rfl) (BD_55_0_1 x57 x58 x59 _)) ?_
                refine wpR_val (v := (Value.int .i64 2)) (w' := w3) rfl rfl rfl (x_move (v := (Value.int .i64 2)) rfl e8) ?_
                refine wpR_val (v := (Value.agg #[(Value.int .i64 2), (Value.int .i64 2)])) (w' := w3) rfl rfl rfl (x_build (qs := [(0, (Value.int .i64 2)), (1, (Value.int .i64 2))]) rfl (by rfl) (BD_46_0_1 2 2 _)) ?_
                refine wpR_val (v := (Value.agg #[(Value.int .i64 2), (Value.int .i64 2), (Value.bool true)])) (w' := w3) rfl rfl rfl (x_build (qs := [(0, (Value.agg #[(Value.int .i64 2), (Value.int .i64 2)])), (1, (Value.bool true))]) rfl (by rfl) (BD_55_0_1 2 2 true _)) ?_
                obtain ⟨b60, hb60⟩ : ∃ u, u = w3.heap.size := ⟨_, rfl⟩
                obtain ⟨w10, hw60⟩ : ∃ u, u = w3.alloc (.cells #[(Value.int .i64 x57), (Value.int .i64 x58), (Value.bool x59), (Value.int .i64 2), (Value.int .i64 2), (Value.bool true)] 55) := ⟨_, rfl⟩
                replace h := h b60 w10 hb60 hw60
                refine wpR_val (v := (Sl.v (⟨some ⟨b60, 0, none⟩, 2, 2⟩ : Sl))) (w' := w10) rfl rfl rfl ((x_buildSlice (qs := [(0, (Value.agg #[(Value.int .i64 x57), (Value.int .i64 x58), (Value.bool x59)])), (1, (Value.agg #[(Value.int .i64 2), (Value.int .i64 2), (Value.bool true)]))]) rfl (by rfl) (BS_51_2_0_1 x57 x58 x59 2 2 true)).trans (by rw [← hb60, ← hw60])) ?_
                refine wpR_val (v := (Sl.v (⟨some ⟨b60, 0, none⟩, 2, 2⟩ : Sl))) (w' := w10) rfl rfl rfl (x_assign (v := (Sl.v (⟨some ⟨b60, 0, none⟩, 2, 2⟩ : Sl))) rfl rfl) ?_
                refine wpR_nil ?_
                refine wpC_ret ?_
                exact ⟨.inl rfl, fun a ha => ⟨_, results_rep1 rfl ha rfl, (⟨some ⟨b60, 0, none⟩, 2, 2⟩ : Sl), rfl, h⟩⟩
              · replace h := h.2 hc56
                refine wpC_seq ?_
                refine wpC_cut (fun ρ => ρ 2 = (Value.pointer (some (Addr.mk b9 0 none))) ∧ ρ 6 = (Value.pointer (some (Addr.mk b15 0 none))) ∧ ρ 7 = (Value.int .i64 1) ∧ ρ 8 = (Value.int .i64 2) ∧ ρ 18 = (Value.int .i64 p1) ∧ True) ⟨e2, e6, e7, e8, e18, trivial⟩ ?_
                rintro ρ ⟨e2, e6, e7, e8, e18, -⟩
                refine wpC_region ?_
                refine wpR_val (v := (Value.bool (decide (p1 = 8)))) (w' := w3) rfl rfl rfl (x_eql rfl e18 rfl) ?_
                refine wpR_val (v := (Value.bool (decide (p1 = 8)))) (w' := w3) rfl rfl rfl (x_assign (v := (Value.bool (decide (p1 = 8)))) rfl rfl) ?_
                refine wpR_nil ?_
                refine wpC_cond (b := decide (p1 = 8)) rfl (fun hc61 => ?_) (fun hc61 => ?_)
                · replace h := h.1 hc61
                  refine wpC_seq ?_
                  refine wpC_cut (fun ρ => ρ 2 = (Value.pointer (some (Addr.mk b9 0 none))) ∧ ρ 6 = (Value.pointer (some (Addr.mk b15 0 none))) ∧ ρ 7 = (Value.int .i64 1) ∧ ρ 8 = (Value.int .i64 2) ∧ True) ⟨e2, e6, e7, e8, trivial⟩ ?_
                  rintro ρ ⟨e2, e6, e7, e8, -⟩
                  refine wpC_region ?_
                  obtain ⟨x62, q62, x63, q63, h⟩ := h
                  refine wpR_val (v := (Value.agg #[(Value.int .i64 x62), (Value.int .i64 x63)])) (w' := w3) rfl rfl rfl (x_loadN [(Value.int .i64 x62), (Value.int .i64 x63)] rfl e6 SH_46 (CellsAt.out (CellsAt.cons q62 (CellsAt.cons q63 CellsAt.nil)))) ?_
                  refine wpR_val (v := (Value.pointer (some ((Addr.mk b9 0 none).add 10)))) (w' := w3) rfl rfl rfl (x_fieldAddr rfl e2 FA_24_10) ?_
                  obtain ⟨x64, q64, h⟩ := h
                  refine wpR_val (v := (Value.int .i64 x64)) (w' := w3) rfl rfl rfl (x_load1 rfl rfl SH_3 q64) ?_
                  refine wpR_val (v := (Value.bool (decide (x64 = 4)))) (w' := w3) rfl rfl rfl (x_eql rfl rfl rfl) ?_
                  refine wpR_val (v := (Value.agg #[(Value.int .i64 x62), (Value.int .i64 x63), (Value.bool (decide (x64 = 4)))])) (w' := w3) rfl rfl rfl (x_build (qs := [(0, (Value.agg #[(Value.int .i64 x62), (Value.int .i64 x63)])), (1, (Value.bool (decide (x64 = 4))))]) rfl (by rfl) (BD_55_0_1 x62 x63 (decide (x64 = 4)) _)) ?_
                  refine wpR_val (v := (Value.int .i64 1)) (w' := w3) rfl rfl rfl (x_move (v := (Value.int .i64 1)) rfl e7) ?_
                  refine wpR_val (v := (Value.agg #[(Value.int .i64 4), (Value.int .i64 1)])) (w' := w3) rfl rfl rfl (x_build (qs := [(0, (Value.int .i64 4)), (1, (Value.int .i64 1))]) rfl (by rfl) (BD_46_0_1 4 1 _)) ?_
                  refine wpR_val (v := (Value.pointer (some ((Addr.mk b9 0 none).add 10)))) (w' := w3) rfl rfl rfl (x_fieldAddr rfl e2 FA_24_10) ?_
                  obtain ⟨x65, q65, h⟩ := h
                  refine wpR_val (v := (Value.int .i64 x65)) (w' := w3) rfl rfl rfl (x_load1 rfl rfl SH_3 q65) ?_
                  refine wpR_val (v := (Value.bool (decide (1 ≤ x65)))) (w' := w3) rfl rfl rfl (x_geq rfl rfl rfl) ?_
                  refine wpR_val (v := (Value.agg #[(Value.int .i64 4), (Value.int .i64 1), (Value.bool (decide (1 ≤ x65)))])) (w' := w3) rfl rfl rfl (x_build (qs := [(0, (Value.agg #[(Value.int .i64 4), (Value.int .i64 1)])), (1, (Value.bool (decide (1 ≤ x65))))]) rfl (by rfl) (BD_55_0_1 4 1 (decide (1 ≤ x65)) _)) ?_
                  refine wpR_val (v := (Value.int .i64 2)) (w' := w3) rfl rfl rfl (x_move (v := (Value.int .i64 2)) rfl e8) ?_
                  refine wpR_val (v := (Value.agg #[(Value.int .i64 2), (Value.int .i64 2)])) (w' := w3) rfl rfl rfl (x_build (qs := [(0, (Value.int .i64 2)), (1, (Value.int .i64 2))]) rfl (by rfl) (BD_46_0_1 2 2 _)) ?_
                  refine wpR_val (v := (Value.agg #[(Value.int .i64 2), (Value.int .i64 2), (Value.bool true)])) (w' := w3) rfl rfl rfl (x_build (qs := [(0, (Value.agg #[(Value.int .i64 2), (Value.int .i64 2)])), (1, (Value.bool true))]) rfl (by rfl) (BD_55_0_1 2 2 true _)) ?_
                  obtain ⟨b66, hb66⟩ : ∃ u, u = w3.heap.size := ⟨_, rfl⟩
                  obtain ⟨w11, hw66⟩ : ∃ u, u = w3.alloc (.cells #[(Value.int .i64 x62), (Value.int .i64 x63), (Value.bool (decide (x64 = 4))), (Value.int .i64 4), (Value.int .i64 1), (Value.bool (decide (1 ≤ x65))), (Value.int .i64 2), (Value.int .i64 2), (Value.bool true)] 55) := ⟨_, rfl⟩
                  replace h := h b66 w11 hb66 hw66
                  refine wpR_val (v := (Sl.v (⟨some ⟨b66, 0, none⟩, 3, 3⟩ : Sl))) (w' := w11) rfl rfl rfl ((x_buildSlice (qs := [(0, (Value.agg #[(Value.int .i64 x62), (Value.int .i64 x63), (Value.bool (decide (x64 = 4)))])), (1, (Value.agg #[(Value.int .i64 4), (Value.int .i64 1), (Value.bool (decide (1 ≤ x65)))])), (2, (Value.agg #[(Value.int .i64 2), (Value.int .i64 2), (Value.bool true)]))]) rfl (by rfl) (BS_51_3_0_1_2 x62 x63 (decide (x64 = 4)) 4 1 (decide (1 ≤ x65)) 2 2 true)).trans (by rw [← hb66, ← hw66])) ?_
                  refine wpR_val (v := (Sl.v (⟨some ⟨b66, 0, none⟩, 3, 3⟩ : Sl))) (w' := w11) rfl rfl rfl (x_assign (v := (Sl.v (⟨some ⟨b66, 0, none⟩, 3, 3⟩ : Sl))) rfl rfl) ?_
                  refine wpR_nil ?_
                  refine wpC_ret ?_
                  exact ⟨.inl rfl, fun a ha => ⟨_, results_rep1 rfl ha rfl, (⟨some ⟨b66, 0, none⟩, 3, 3⟩ : Sl), rfl, h⟩⟩
                · replace h := h.2 hc61
                  refine wpC_skip ?_
                  refine wpC_seq ?_
                  refine wpC_cut (fun ρ => ρ 6 = (Value.pointer (some (Addr.mk b15 0 none))) ∧ True) ⟨e6, trivial⟩ ?_
                  rintro ρ ⟨e6, -⟩
                  refine wpC_region ?_
                  obtain ⟨x67, q67, x68, q68, h⟩ := h
                  refine wpR_val (v := (Value.agg #[(Value.int .i64 x67), (Value.int .i64 x68)])) (w' := w3) rfl rfl rfl (x_loadN [(Value.int .i64 x67), (Value.int .i64 x68)] rfl e6 SH_46 (CellsAt.out (CellsAt.cons q67 (CellsAt.cons q68 CellsAt.nil)))) ?_
                  refine wpR_val (v := (Value.agg #[(Value.int .i64 x67), (Value.int .i64 x68), (Value.bool true)])) (w' := w3) rfl rfl rfl (x_build (qs := [(0, (Value.agg #[(Value.int .i64 x67), (Value.int .i64 x68)])), (1, (Value.bool true))]) rfl (by rfl) (BD_55_0_1 x67 x68 true _)) ?_
                  obtain ⟨b69, hb69⟩ : ∃ u, u = w3.heap.size := ⟨_, rfl⟩
                  obtain ⟨w12, hw69⟩ : ∃ u, u = w3.alloc (.cells #[(Value.int .i64 x67), (Value.int .i64 x68), (Value.bool true)] 55) := ⟨_, rfl⟩
                  replace h := h b69 w12 hb69 hw69
                  refine wpR_val (v := (Sl.v (⟨some ⟨b69, 0, none⟩, 1, 1⟩ : Sl))) (w' := w12) rfl rfl rfl ((x_buildSlice (qs := [(0, (Value.agg #[(Value.int .i64 x67), (Value.int .i64 x68), (Value.bool true)]))]) rfl (by rfl) (BS_51_1_0 x67 x68 true)).trans (by rw [← hb69, ← hw69])) ?_
                  refine wpR_val (v := (Sl.v (⟨some ⟨b69, 0, none⟩, 1, 1⟩ : Sl))) (w' := w12) rfl rfl rfl (x_assign (v := (Sl.v (⟨some ⟨b69, 0, none⟩, 1, 1⟩ : Sl))) rfl rfl) ?_
                  refine wpR_nil ?_
                  refine wpC_ret ?_
                  exact ⟨.inl rfl, fun a ha => ⟨_, results_rep1 rfl ha rfl, (⟨some ⟨b69, 0, none⟩, 1, 1⟩ : Sl), rfl, h⟩⟩

/-- slices.Contains[[]loss.option,loss.option] -/
def F30 (p0 : Sl) (p1_0 : Int) (p1_1 : Int) (p1_2 : Bool) (w0 : World) (K : Bool → World → Prop) : Prop :=
  nw 55 #[(Value.int .i64 p1_0), (Value.int .i64 p1_1), (Value.bool p1_2)] w0 fun b9 w1 =>
  ld (Value.int .i64) ((Addr.mk b9 0 none).add 0) w1 fun x10 =>
  ld (Value.int .i64) ((Addr.mk b9 0 none).add 1) w1 fun x11 =>
  ld Value.bool ((Addr.mk b9 0 none).add 2) w1 fun x12 =>
  callC Try.prog 51 #[(Sl.v p0), (Value.agg #[(Value.int .i64 x10), (Value.int .i64 x11), (Value.bool x12)])] (fun (r : Int) => (Value.int .i64 r)) w1 fun r13 w2 =>
  K (decide (0 ≤ r13)) w2
set_option maxRecDepth 100000 in
theorem D30 (p0 : Sl) (p1_0 : Int) (p1_1 : Int) (p1_2 : Bool) (w0 : World) (K : Bool → World → Prop) (h : F30 p0 p1_0 p1_1 p1_2 w0 K) : callC Try.prog 30 #[(Sl.v p0), (Value.agg #[(Value.int .i64 p1_0), (Value.int .i64 p1_1), (Value.bool p1_2)])] (fun (r : Bool) => (Value.bool r)) w0 K := by
  unfold F30 at h
  refine calls_of_wpC Try.func30 rfl 9 rfl (by simp) ?_
  intro ρ hρ
  have e0 : ρ 0 = (Sl.v p0) := hρ 0
  have e1 : ρ 1 = (Value.agg #[(Value.int .i64 p1_0), (Value.int .i64 p1_1), (Value.bool p1_2)]) := hρ 1
  clear hρ
  refine wpC_seq ?_
  refine wpC_region ?_
  obtain ⟨b9, hb9⟩ : ∃ u, u = w0.heap.size := ⟨_, rfl⟩
  obtain ⟨w1, hw9⟩ : ∃ u, u = w0.alloc (.cells #[(Value.int .i64 p1_0), (Value.int .i64 p1_1), (Value.bool p1_2)] 55) := ⟨_, rfl⟩
  replace h := h b9 w1 hb9 hw9
  refine wpR_val (v := (Value.pointer (some (Addr.mk b9 0 none)))) (w' := w1) rfl rfl rfl ((x_box (v := (Value.agg #[(Value.int .i64 p1_0), (Value.int .i64 p1_1), (Value.bool p1_2)])) rfl e1).trans (by rw [hb9, hw9]; rfl)) ?_
  refine wpR_val (v := (Value.bool false)) (w' := w1) rfl rfl rfl (x_assign (v := (Value.bool false)) rfl rfl) ?_
  refine wpR_nil ?_
  refine wpC_seq ?_
  refine wpC_cut (fun ρ => ρ 0 = (Sl.v p0) ∧ ρ 3 = (Value.pointer (some (Addr.mk b9 0 none))) ∧ True) ⟨e0, rfl, trivial⟩ ?_
  rintro ρ ⟨e0, e3, -⟩
  refine wpC_region ?_
  refine wpR_val (v := (Sl.v p0)) (w' := w1) rfl rfl rfl (x_move (v := (Sl.v p0)) rfl e0) ?_
  obtain ⟨x10, q10, x11, q11, x12, q12, h⟩ := h
  refine wpR_val (v := (Value.agg #[(Value.int .i64 x10), (Value.int .i64 x11), (Value.bool x12)])) (w' := w1) rfl rfl rfl (x_loadN [(Value.int .i64 x10), (Value.int .i64 x11), (Value.bool x12)] rfl e3 SH_55 (CellsAt.out (CellsAt.cons q10 (CellsAt.cons q11 (CellsAt.cons q12 CellsAt.nil))))) ?_
  refine wpR_enter rfl rfl rfl (x_call (vs := [(Sl.v p0), (Value.agg #[(Value.int .i64 x10), (Value.int .i64 x11), (Value.bool x12)])]) rfl rfl (mapl_cons rfl (mapl_cons rfl mapl_nil)) Try.func51 NN_51 NB_51) (Calls.mono h ?_)
  rintro _ w2 ⟨r13, rfl, h⟩
  refine ⟨_, rfl, ?_⟩
  refine wpR_val (v := (Value.bool (decide (0 ≤ r13)))) (w' := w2) rfl rfl rfl (x_geq rfl rfl rfl) ?_
  refine wpR_val (v := (Value.bool (decide (0 ≤ r13)))) (w' := w2) rfl rfl rfl (x_assign (v := (Value.bool (decide (0 ≤ r13)))) rfl rfl) ?_
  refine wpR_nil ?_
  refine wpC_ret ?_
  exact ⟨.inl rfl, fun a ha => ⟨_, results_rep1 rfl ha rfl, decide (0 ≤ r13), rfl, h⟩⟩

/-- slices.IndexFunc[[]loss.option,loss.option] -/
def F31 (p0 : Sl) (p1 : Value) (w0 : World) (K : Int → World → Prop) : Prop :=
  lp (fun (next9 : Int → World → Prop) l9 w1 =>
    cnd (decide (l9 < (p0.len : Int)))
      (
      ix p0 l9 3 fun p11 =>
      ld (Value.int .i64) (p11.add 0) w1 fun x12 =>
      ld (Value.int .i64) (p11.add 1) w1 fun x13 =>
      ld Value.bool (p11.add 2) w1 fun x14 =>
      cv Try.prog p1 [(Value.agg #[(Value.int .i64 x12), (Value.int .i64 x13), (Value.bool x14)])] (fun (r : Bool) => (Value.bool r)) w1 fun r15 w2 =>
      cnd (r15)
        (
        K l9 w2
        )
        (
        next9 (IntKind.i64.wrap (l9 + 1)) w2
        )
      )
      (
      K (-1) w1
      )
  ) 0 w0
set_option maxRecDepth 100000 in
theorem D31 (p0 : Sl) (p1 : Value) (w0 : World) (K : Int → World → Prop) (h : F31 p0 p1 w0 K) : callC Try.prog 31 #[(Sl.v p0), p1] (fun (r : Int) => (Value.int .i64 r)) w0 K := by
  unfold F31 at h
  refine calls_of_wpC Try.func31 rfl 19 rfl (by simp) ?_
  intro ρ hρ
  have e0 : ρ 0 = (Sl.v p0) := hρ 0
  have e1 : ρ 1 = p1 := hρ 1
  clear hρ
  refine wpC_seq ?_
  refine wpC_region ?_
  refine wpR_val (v := (Value.int .i64 0)) (w' := w0) rfl rfl rfl (x_assign (v := (Value.int .i64 0)) rfl rfl) ?_
  refine wpR_nil ?_
  refine wpC_seq ?_
  refine wpC_seq ?_
  refine wpC_cut (fun ρ => ρ 0 = (Sl.v p0) ∧ ρ 1 = p1 ∧ True) ⟨e0, e1, trivial⟩ ?_
  rintro ρ ⟨e0, e1, -⟩
  refine wpC_region ?_
  refine wpR_val (v := (Sl.v p0)) (w' := w0) rfl rfl rfl (x_move (v := (Sl.v p0)) rfl e0) ?_
  refine wpR_val (v := (Value.int .i64 (p0.len : Int))) (w' := w0) rfl rfl rfl (x_lenS (s := p0) rfl rfl isSliceT_51) ?_
  refine wpR_val (v := (Value.int .i64 0)) (w' := w0) rfl rfl rfl (x_move (v := (Value.int .i64 0)) rfl rfl) ?_
  refine wpR_nil ?_
  refine wpC_block ?_
  obtain ⟨I9, μ9, hI9, hr9⟩ := h
  refine wpC_loop (fun (x : Int) ρ => ρ 8 = (Value.int .i64 x) ∧ ρ 0 = (Sl.v p0) ∧ ρ 1 = p1 ∧ ρ 7 = (Value.int .i64 (p0.len : Int)) ∧ True) I9 μ9 0 ⟨rfl, e0, e1, rfl, trivial⟩ hI9 ?_
  rintro l9 ρ w1 ⟨e8, e0, e1, e7, -⟩ h
  replace h := hr9 l9 w1 h
  clear hr9 hI9
  refine wpC_seq ?_
  refine wpC_region ?_
  refine wpR_val (v := (Value.bool (decide (l9 < (p0.len : Int))))) (w' := w1) rfl rfl rfl (x_lss rfl e8 e7) ?_
  refine wpR_nil ?_
  refine wpC_seq ?_
  refine wpC_cond (b := decide (l9 < (p0.len : Int))) rfl (fun hc10 => ?_) (fun hc10 => ?_)
  · replace h := h.1 hc10
    refine wpC_skip ?_
    refine wpC_seq ?_
    refine wpC_block ?_
    refine wpC_seq ?_
    refine wpC_cut (fun ρ => ρ 0 = (Sl.v p0) ∧ ρ 1 = p1 ∧ ρ 7 = (Value.int .i64 (p0.len : Int)) ∧ ρ 8 = (Value.int .i64 l9) ∧ True) ⟨e0, e1, e7, e8, trivial⟩ ?_
    rintro ρ ⟨e0, e1, e7, e8, -⟩
    refine wpC_region ?_
    refine wpR_val (v := (Value.int .i64 l9)) (w' := w1) rfl rfl rfl (x_move (v := (Value.int .i64 l9)) rfl e8) ?_
    refine wpR_val (v := (Value.int .i64 l9)) (w' := w1) rfl rfl rfl (x_assign (v := (Value.int .i64 l9)) rfl rfl) ?_
    refine wpR_nil ?_
    refine wpC_seq ?_
    refine wpC_cut (fun ρ => ρ 0 = (Sl.v p0) ∧ ρ 1 = p1 ∧ ρ 5 = (Value.int .i64 l9) ∧ ρ 7 = (Value.int .i64 (p0.len : Int)) ∧ ρ 8 = (Value.int .i64 l9) ∧ True) ⟨e0, e1, rfl, e7, e8, trivial⟩ ?_
    rintro ρ ⟨e0, e1, e5, e7, e8, -⟩
    refine wpC_region ?_
    refine wpR_val (v := p1) (w' := w1) rfl rfl rfl (x_move (v := p1) rfl e1) ?_
    refine wpR_val (v := (Sl.v p0)) (w' := w1) rfl rfl rfl (x_move (v := (Sl.v p0)) rfl e0) ?_
    refine wpR_val (v := (Value.int .i64 l9)) (w' := w1) rfl rfl rfl (x_move (v := (Value.int .i64 l9)) rfl e5) ?_
    obtain ⟨q11, z11, r11, h⟩ := h
    generalize hp11 : z11.add ((l9 : Int).toNat * 3) = p11 at h
    refine wpR_val (v := (Value.pointer (some p11))) (w' := w1) rfl rfl rfl ((x_indexAddr (s := p0) rfl rfl rfl ES_51 q11 r11).trans (by rw [hp11])) ?_
    obtain ⟨x12, q12, x13, q13, x14, q14, h⟩ := h
    refine wpR_val (v := (Value.agg #[(Value.int .i64 x12), (Value.int .i64 x13), (Value.bool x14)])) (w' := w1) rfl rfl rfl (x_loadN [(Value.int .i64 x12), (Value.int .i64 x13), (Value.bool x14)] rfl rfl SH_55 (CellsAt.out (CellsAt.cons q12 (CellsAt.cons q13 (CellsAt.cons q14 CellsAt.nil))))) ?_
    obtain ⟨f15, fi15, ca15, fn15, qv15, qf15, qn15, qb15, h⟩ := h
    refine wpR_enter rfl rfl rfl (x_callv (vs := [(Value.agg #[(Value.int .i64 x12), (Value.int .i64 x13), (Value.bool x14)])]) rfl ((show _ = p1 from rfl).trans qv15) (mapl_cons rfl mapl_nil) qf15 qn15 qb15) (Calls.mono h ?_)
    rintro _ w2 ⟨r15, rfl, h⟩
    refine ⟨_, rfl, ?_⟩
    refine wpR_nil ?_
    refine wpC_cond (b := r15) rfl (fun hc16 => ?_) (fun hc16 => ?_)
    · replace h := h.1 hc16
      refine wpC_seq ?_
      refine wpC_cut (fun ρ => ρ 5 = (Value.int .i64 l9) ∧ True) ⟨e5, trivial⟩ ?_
      rintro ρ ⟨e5, -⟩
      refine wpC_region ?_
      refine wpR_val (v := (Value.int .i64 l9)) (w' := w2) rfl rfl rfl (x_move (v := (Value.int .i64 l9)) rfl e5) ?_
      refine wpR_val (v := (Value.int .i64 l9)) (w' := w2) rfl rfl rfl (x_assign (v := (Value.int .i64 l9)) rfl rfl) ?_
      refine wpR_nil ?_
      refine wpC_ret ?_
      exact ⟨.inl rfl, fun a ha => ⟨_, results_rep1 rfl ha rfl, l9, rfl, h⟩⟩
    · replace h := h.2 hc16
      refine wpC_skip ?_
      refine wpC_cut (fun ρ => ρ 0 = (Sl.v p0) ∧ ρ 1 = p1 ∧ ρ 7 = (Value.int .i64 (p0.len : Int)) ∧ ρ 8 = (Value.int .i64 l9) ∧ True) ⟨e0, e1, e7, e8, trivial⟩ ?_
      rintro ρ ⟨e0, e1, e7, e8, -⟩
      refine wpC_region ?_
      refine wpR_val (v := (Value.int .i64 (IntKind.i64.wrap (l9 + 1)))) (w' := w2) rfl rfl rfl (x_add rfl e8 rfl) ?_
      refine wpR_val (v := (Value.int .i64 (IntKind.i64.wrap (l9 + 1)))) (w' := w2) rfl rfl rfl (x_move (v := (Value.int .i64 (IntKind.i64.wrap (l9 + 1)))) rfl rfl) ?_
      refine wpR_nil ?_
      exact ⟨IntKind.i64.wrap (l9 + 1), ⟨rfl, e0, e1, e7, trivial⟩, h⟩
  · replace h := h.2 hc10
    refine wpC_exit ?_
    refine wpC_seq ?_
    refine wpC_cut (fun ρ => True) trivial ?_
    rintro ρ -
    refine wpC_region ?_
    refine wpR_val (v := (Value.int .i64 (-1))) (w' := w1) rfl rfl rfl (x_assign (v := (Value.int .i64 (-1))) rfl rfl) ?_
    refine wpR_nil ?_
    refine wpC_ret ?_
    exact ⟨.inl rfl, fun a ha => ⟨_, results_rep1 rfl ha rfl, (-1), rfl, h⟩⟩

/-- loss.Check$1 -/
def F32 (p0_0 : Int) (p0_1 : Int) (p0_2 : Bool) (w0 : World) (K : Bool → World → Prop) : Prop :=
  nw 55 #[(Value.int .i64 p0_0), (Value.int .i64 p0_1), (Value.bool p0_2)] w0 fun b9 w1 =>
  ld Value.bool ((Addr.mk b9 0 none).add 2) w1 fun x10 =>
  K x10 w1
set_option maxRecDepth 100000 in
theorem D32 (p0_0 : Int) (p0_1 : Int) (p0_2 : Bool) (w0 : World) (K : Bool → World → Prop) (h : F32 p0_0 p0_1 p0_2 w0 K) : callC Try.prog 32 #[(Value.agg #[(Value.int .i64 p0_0), (Value.int .i64 p0_1), (Value.bool p0_2)])] (fun (r : Bool) => (Value.bool r)) w0 K := by
  unfold F32 at h
  refine calls_of_wpC Try.func32 rfl 5 rfl (by simp) ?_
  intro ρ hρ
  have e0 : ρ 0 = (Value.agg #[(Value.int .i64 p0_0), (Value.int .i64 p0_1), (Value.bool p0_2)]) := hρ 0
  clear hρ
  refine wpC_seq ?_
  refine wpC_region ?_
  obtain ⟨b9, hb9⟩ : ∃ u, u = w0.heap.size := ⟨_, rfl⟩
  obtain ⟨w1, hw9⟩ : ∃ u, u = w0.alloc (.cells #[(Value.int .i64 p0_0), (Value.int .i64 p0_1), (Value.bool p0_2)] 55) := ⟨_, rfl⟩
  replace h := h b9 w1 hb9 hw9
  refine wpR_val (v := (Value.pointer (some (Addr.mk b9 0 none)))) (w' := w1) rfl rfl rfl ((x_box (v := (Value.agg #[(Value.int .i64 p0_0), (Value.int .i64 p0_1), (Value.bool p0_2)])) rfl e0).trans (by rw [hb9, hw9]; rfl)) ?_
  refine wpR_val (v := (Value.bool false)) (w' := w1) rfl rfl rfl (x_assign (v := (Value.bool false)) rfl rfl) ?_
  refine wpR_nil ?_
  refine wpC_seq ?_
  refine wpC_cut (fun ρ => ρ 1 = (Value.pointer (some (Addr.mk b9 0 none))) ∧ True) ⟨rfl, trivial⟩ ?_
  rintro ρ ⟨e1, -⟩
  refine wpC_region ?_
  refine wpR_val (v := (Value.pointer (some ((Addr.mk b9 0 none).add 2)))) (w' := w1) rfl rfl rfl (x_fieldAddr rfl e1 FA_55_1) ?_
  obtain ⟨x10, q10, h⟩ := h
  refine wpR_val (v := (Value.bool x10)) (w' := w1) rfl rfl rfl (x_load1 rfl rfl SH_4 q10) ?_
  refine wpR_val (v := (Value.bool x10)) (w' := w1) rfl rfl rfl (x_assign (v := (Value.bool x10)) rfl rfl) ?_
  refine wpR_nil ?_
  refine wpC_ret ?_
  exact ⟨.inl rfl, fun a ha => ⟨_, results_rep1 rfl ha rfl, x10, rfl, h⟩⟩

/-- slices.Equal[[]api.Loss,api.Loss] -/
def F33 (p0 : Sl) (p1 : Sl) (w0 : World) (K : Bool → World → Prop) : Prop :=
  cnd (!decide ((p0.len : Int) = (p1.len : Int)))
    (
    K false w0
    )
    (
    lp (fun (next10 : Int → World → Prop) l10 w1 =>
      cnd (decide (l10 < (p0.len : Int)))
        (
        jn (fun (J13 : Bool → World → Prop) => tk w1 fun w2 =>
          ix p0 l10 3 fun p14 =>
          ld (Value.int .i64) (p14.add 0) w2 fun x15 =>
          ld (Value.int .i64) (p14.add 1) w2 fun x16 =>
          ld (Value.int .i64) (p14.add 2) w2 fun x17 =>
          ix p1 l10 3 fun p18 =>
          ld (Value.int .i64) (p18.add 0) w2 fun x19 =>
          ld (Value.int .i64) (p18.add 1) w2 fun x20 =>
          ld (Value.int .i64) (p18.add 2) w2 fun x21 =>
          J13 (!(decide (x15 = x19) && (decide (x16 = x20) && (decide (x17 = x21) && true)))) w2
        )
        fun l22 w3 =>
        cnd (l22)
          (
          K false w3
          )
          (
          next10 (IntKind.i64.wrap (l10 + 1)) w3
          )
        )
        (
        K true w1
        )
    ) 0 w0
    )
set_option maxRecDepth 100000 in
theorem D33 (p0 : Sl) (p1 : Sl) (w0 : World) (K : Bool → World → Prop) (h : F33 p0 p1 w0 K) : callC Try.prog 33 #[(Sl.v p0), (Sl.v p1)] (fun (r : Bool) => (Value.bool r)) w0 K := by
  unfold F33 at h
  refine calls_of_wpC Try.func33 rfl 26 rfl (by simp) ?_
  intro ρ hρ
  have e0 : ρ 0 = (Sl.v p0) := hρ 0
  have e1 : ρ 1 = (Sl.v p1) := hρ 1
  clear hρ
  refine wpC_seq ?_
  refine wpC_region ?_
  refine wpR_val (v := (Value.bool false)) (w' := w0) rfl rfl rfl (x_assign (v := (Value.bool false)) rfl rfl) ?_
  refine wpR_nil ?_
  refine wpC_seq ?_
  refine wpC_seq ?_
  refine wpC_cut (fun ρ => ρ 0 = (Sl.v p0) ∧ ρ 1 = (Sl.v p1) ∧ True) ⟨e0, e1, trivial⟩ ?_
  rintro ρ ⟨e0, e1, -⟩
  refine wpC_region ?_
  refine wpR_val (v := (Sl.v p0)) (w' := w0) rfl rfl rfl (x_move (v := (Sl.v p0)) rfl e0) ?_
  refine wpR_val (v := (Value.int .i64 (p0.len : Int))) (w' := w0) rfl rfl rfl (x_lenS (s := p0) rfl rfl isSliceT_26) ?_
  refine wpR_val (v := (Sl.v p1)) (w' := w0) rfl rfl rfl (x_move (v := (Sl.v p1)) rfl e1) ?_
  refine wpR_val (v := (Value.int .i64 (p1.len : Int))) (w' := w0) rfl rfl rfl (x_lenS (s := p1) rfl rfl isSliceT_26) ?_
  refine wpR_val (v := (Value.bool (!decide ((p0.len : Int) = (p1.len : Int))))) (w' := w0) rfl rfl rfl (x_neq rfl rfl rfl) ?_
  refine wpR_nil ?_
  refine wpC_cond (b := !decide ((p0.len : Int) = (p1.len : Int))) rfl (fun hc9 => ?_) (fun hc9 => ?_)
  · replace h := h.1 hc9
    refine wpC_seq ?_
    refine wpC_cut (fun ρ => True) trivial ?_
    rintro ρ -
    refine wpC_region ?_
    refine wpR_val (v := (Value.bool false)) (w' := w0) rfl rfl rfl (x_assign (v := (Value.bool false)) rfl rfl) ?_
    refine wpR_nil ?_
    refine wpC_ret ?_
    exact ⟨.inl rfl, fun a ha => ⟨_, results_rep1 rfl ha rfl, false, rfl, h⟩⟩
  · replace h := h.2 hc9
    refine wpC_skip ?_
    refine wpC_seq ?_
    refine wpC_seq ?_
    refine wpC_cut (fun ρ => ρ 0 = (Sl.v p0) ∧ ρ 1 = (Sl.v p1) ∧ True) ⟨e0, e1, trivial⟩ ?_
    rintro ρ ⟨e0, e1, -⟩
    refine wpC_region ?_
    refine wpR_val (v := (Sl.v p0)) (w' := w0) rfl rfl rfl (x_move (v := (Sl.v p0)) rfl e0) ?_
    refine wpR_val (v := (Value.int .i64 (p0.len : Int))) (w' := w0) rfl rfl rfl (x_lenS (s := p0) rfl rfl isSliceT_26) ?_
    refine wpR_val (v := (Value.int .i64 0)) (w' := w0) rfl rfl rfl (x_move (v := (Value.int .i64 0)) rfl rfl) ?_
    refine wpR_nil ?_
    refine wpC_block ?_
    obtain ⟨I10, μ10, hI10, hr10⟩ := h
    refine wpC_loop (fun (x : Int) ρ => ρ 13 = (Value.int .i64 x) ∧ ρ 0 = (Sl.v p0) ∧ ρ 1 = (Sl.v p1) ∧ ρ 12 = (Value.int .i64 (p0.len : Int)) ∧ True) I10 μ10 0 ⟨rfl, e0, e1, rfl, trivial⟩ hI10 ?_
    rintro l10 ρ w1 ⟨e13, e0, e1, e12, -⟩ h
    replace h := hr10 l10 w1 h
    clear hr10 hI10
    refine wpC_seq ?_
    refine wpC_region ?_
    refine wpR_val (v := (Value.bool (decide (l10 < (p0.len : Int))))) (w' := w1) rfl rfl rfl (x_lss rfl e13 e12) ?_
    refine wpR_nil ?_
    refine wpC_seq ?_
    refine wpC_cond (b := decide (l10 < (p0.len : Int))) rfl (fun hc11 => ?_) (fun hc11 => ?_)
    · replace h := h.1 hc11
      refine wpC_skip ?_
      refine wpC_seq ?_
      refine wpC_block ?_
      refine wpC_seq ?_
      refine wpC_cut (fun ρ => ρ 0 = (Sl.v p0) ∧ ρ 1 = (Sl.v p1) ∧ ρ 12 = (Value.int .i64 (p0.len : Int)) ∧ ρ 13 = (Value.int .i64 l10) ∧ True) ⟨e0, e1, e12, e13, trivial⟩ ?_
      rintro ρ ⟨e0, e1, e12, e13, -⟩
      refine wpC_region ?_
      refine wpR_val (v := (Value.int .i64 l10)) (w' := w1) rfl rfl rfl (x_move (v := (Value.int .i64 l10)) rfl e13) ?_
      refine wpR_val (v := (Value.int .i64 l10)) (w' := w1) rfl rfl rfl (x_assign (v := (Value.int .i64 l10)) rfl rfl) ?_
      refine wpR_nil ?_
      refine wpC_seq ?_
      refine wpC_cut (fun ρ => ρ 0 = (Sl.v p0) ∧ ρ 1 = (Sl.v p1) ∧ ρ 5 = (Value.int .i64 l10) ∧ ρ 12 = (Value.int .i64 (p0.len : Int)) ∧ ρ 13 = (Value.int .i64 l10) ∧ True) ⟨e0, e1, rfl, e12, e13, trivial⟩ ?_
      rintro ρ ⟨e0, e1, e5, e12, e13, -⟩
      obtain ⟨J13, h, hk⟩ := h
      refine wpC_drawJ (by kernel_rfl) (fun (x : Bool) ρ => ρ 24 = (Value.bool x) ∧ ρ 0 = (Sl.v p0) ∧ ρ 1 = (Sl.v p1) ∧ ρ 12 = (Value.int .i64 (p0.len : Int)) ∧ ρ 13 = (Value.int .i64 l10) ∧ True) J13 ?_ ?_
      · clear hk
        unfold tk at h
        generalize w1.drew = w2 at h ⊢
        refine wpD_take (v := (Sl.v p0)) 0 (fun _ => True) rfl (by kernel_rfl) (by kernel_rfl) (by kernel_rfl) rfl rfl rfl trivial (fun w _ => (x_move (v := (Sl.v p0)) rfl e0)) ?_
        refine wpD_take (v := (Value.int .i64 l10)) 1 (fun _ => True) rfl (by kernel_rfl) (by kernel_rfl) (by kernel_rfl) rfl rfl rfl trivial (fun w _ => (x_move (v := (Value.int .i64 l10)) rfl e5)) ?_
        obtain ⟨q14, z14, r14, h⟩ := h
        generalize hp14 : z14.add ((l10 : Int).toNat * 3) = p14 at h
        refine wpD_take (v := (Value.pointer (some p14))) 2 (fun _ => True) rfl (by kernel_rfl) (by kernel_rfl) (by kernel_rfl) rfl rfl rfl trivial (fun w _ => ((x_indexAddr (s := p0) rfl rfl rfl ES_26 q14 r14).trans (by rw [hp14]))) ?_
        obtain ⟨x15, q15, x16, q16, x17, q17, h⟩ := h
        refine wpD_take (v := (Value.agg #[(Value.int .i64 x15), (Value.int .i64 x16), (Value.int .i64 x17)])) 3 (fun w => w.cell? (p14.add 0) = some (Value.int .i64 x15) ∧ w.cell? (p14.add 1) = some (Value.int .i64 x16) ∧ w.cell? (p14.add 2) = some (Value.int .i64 x17)) rfl (by kernel_rfl) (by kernel_rfl) (by kernel_rfl) rfl rfl rfl ⟨q15, q16, q17⟩ (fun w ⟨q15, q16, q17⟩ => (x_loadN [(Value.int .i64 x15), (Value.int .i64 x16), (Value.int .i64 x17)] rfl rfl SH_44 (CellsAt.out (CellsAt.cons q15 (CellsAt.cons q16 (CellsAt.cons q17 CellsAt.nil)))))) ?_
        refine wpD_take (v := (Sl.v p1)) 4 (fun _ => True) rfl (by kernel_rfl) (by kernel_rfl) (by kernel_rfl) rfl rfl rfl trivial (fun w _ => (x_move (v := (Sl.v p1)) rfl e1)) ?_
        refine wpD_take (v := (Value.int .i64 l10)) 5 (fun _ => True) rfl (by kernel_rfl) (by kernel_rfl) (by kernel_rfl) rfl rfl rfl trivial (fun w _ => (x_move (v := (Value.int .i64 l10)) rfl e5)) ?_
        obtain ⟨q18, z18, r18, h⟩ := h
        generalize hp18 : z18.add ((l10 : Int).toNat * 3) = p18 at h
        refine wpD_take (v := (Value.pointer (some p18))) 6 (fun _ => True) rfl (by kernel_rfl) (by kernel_rfl) (by kernel_rfl) rfl rfl rfl trivial (fun w _ => ((x_indexAddr (s := p1) rfl rfl rfl ES_26 q18 r18).trans (by rw [hp18]))) ?_
        obtain ⟨x19, q19, x20, q20, x21, q21, h⟩ := h
        refine wpD_take (v := (Value.agg #[(Value.int .i64 x19), (Value.int .i64 x20), (Value.int .i64 x21)])) 7 (fun w => w.cell? (p18.add 0) = some (Value.int .i64 x19) ∧ w.cell? (p18.add 1) = some (Value.int .i64 x20) ∧ w.cell? (p18.add 2) = some (Value.int .i64 x21)) rfl (by kernel_rfl) (by kernel_rfl) (by kernel_rfl) rfl rfl rfl ⟨q19, q20, q21⟩ (fun w ⟨q19, q20, q21⟩ => (x_loadN [(Value.int .i64 x19), (Value.int .i64 x20), (Value.int .i64 x21)] rfl rfl SH_44 (CellsAt.out (CellsAt.cons q19 (CellsAt.cons q20 (CellsAt.cons q21 CellsAt.nil)))))) ?_
        refine wpD_take (v := (Value.bool (!(decide (x15 = x19) && (decide (x16 = x20) && (decide (x17 = x21) && true)))))) 8 (fun _ => True) rfl (by kernel_rfl) (by kernel_rfl) (by kernel_rfl) rfl rfl rfl trivial (fun w _ => (x_neqA rfl rfl rfl EQ1_44 EQ2_44 EQ3_44 (EQ_44 x15 x16 x17 x19 x20 x21))) ?_
        exact wpD_done (by kernel_rfl) ⟨!(decide (x15 = x19) && (decide (x16 = x20) && (decide (x17 = x21) && true))), ⟨rfl, e0, e1, e12, e13, trivial⟩, h⟩
      clear h
      rintro l22 ρ w3 ⟨e24, e0, e1, e12, e13, -⟩ h
      replace h := hk l22 w3 h
      clear hk
      refine wpC_cond (b := l22) e24 (fun hc23 => ?_) (fun hc23 => ?_)
      · replace h := h.1 hc23
        refine wpC_seq ?_
        refine wpC_region ?_
        refine wpR_val (v := (Value.bool false)) (w' := w3) rfl rfl rfl (x_assign (v := (Value.bool false)) rfl rfl) ?_
        refine wpR_nil ?_
        refine wpC_ret ?_
        exact ⟨.inl rfl, fun a ha => ⟨_, results_rep1 rfl ha rfl, false, rfl, h⟩⟩
      · replace h := h.2 hc23
        refine wpC_skip ?_
        refine wpC_region ?_
        refine wpR_val (v := (Value.int .i64 (IntKind.i64.wrap (l10 + 1)))) (w' := w3) rfl rfl rfl (x_add rfl e13 rfl) ?_
        refine wpR_val (v := (Value.int .i64 (IntKind.i64.wrap (l10 + 1)))) (w' := w3) rfl rfl rfl (x_move (v := (Value.int .i64 (IntKind.i64.wrap (l10 + 1)))) rfl rfl) ?_
        refine wpR_nil ?_
        exact ⟨IntKind.i64.wrap (l10 + 1), ⟨rfl, e0, e1, e12, trivial⟩, h⟩
    · replace h := h.2 hc11
      refine wpC_exit ?_
      refine wpC_seq ?_
      refine wpC_cut (fun ρ => True) trivial ?_
      rintro ρ -
      refine wpC_region ?_
      refine wpR_val (v := (Value.bool true)) (w' := w1) rfl rfl rfl (x_assign (v := (Value.bool true)) rfl rfl) ?_
      refine wpR_nil ?_
      refine wpC_ret ?_
      exact ⟨.inl rfl, fun a ha => ⟨_, results_rep1 rfl ha rfl, true, rfl, h⟩⟩


end Go.Proofs.Ytnoahloppffndaa
