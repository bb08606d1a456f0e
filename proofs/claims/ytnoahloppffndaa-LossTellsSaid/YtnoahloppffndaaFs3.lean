import Derived.Test.YtnoahloppffndaaRows
import Derived.Test.YtnoahloppffndaaFs1
import Derived.Test.YtnoahloppffndaaDecRaw
namespace Go.Proofs.Ytnoahloppffndaa
open Go.Dec
set_option maxHeartbeats 400000
set_option maxRecDepth 100000

/-- ways.Compile -/
def F18 (p0_0 : ByteArray) (p0_1 : Int) (p0_2 : Int) (p0_3 : Int) (p0_4 : Bool) (p0_5 : Int) (p0_6 : Bool) (p0_7 : Bool) (p0_8 : Int) (p0_9 : Int) (p0_10 : Int) (p0_11 : Int) (p0_12 : Sl) (p0_13 : Int) (p0_14 : Int) (p0_15 : Int) (p0_16 : Int) (p0_17 : Bool) (p0_18 : Int) (p0_19 : Int) (p0_20 : Int) (p0_21 : Int) (w0 : World) (K : (Sl × Int) → World → Prop) : Prop :=
  nw 24 (A23 p0_0 p0_1 p0_2 p0_3 p0_4 p0_5 p0_6 p0_7 p0_8 p0_9 p0_10 p0_11 p0_12 p0_13 p0_14 p0_15 p0_16 p0_17 p0_18 p0_19 p0_20 p0_21) w0 fun b9 w1 =>
  L23 (Addr.mk b9 0 none) w1 fun x10 x11 x12 x13 x14 x15 x16 x17 x18 x19 x20 x21 x22 x23 x24 x25 x26 x27 x28 x29 x30 x31 =>
  callC Try.prog 17 #[(V23 x10 x11 x12 x13 x14 x15 x16 x17 x18 x19 x20 x21 x22 x23 x24 x25 x26 x27 x28 x29 x30 x31)] (fun (r : Int) => (Value.int .i64 r)) w1 fun r32 w2 =>
  cnd (!decide (r32 = 0))
    (
    K (Sl.nil, r32) w2
    )
    (
    nw 46 #[(Value.int .i64 0), (Value.int .i64 0)] w2 fun b34 w3 =>
    nw 46 #[(Value.int .i64 0), (Value.int .i64 0)] w3 fun b35 w4 =>
    nw 46 #[(Value.int .i64 0), (Value.int .i64 0)] w4 fun b36 w5 =>
    st (Addr.mk b34 0 none) [(Value.int .i64 0), (Value.int .i64 0)] w5 fun w6 =>
    st (Addr.mk b35 0 none) [(Value.int .i64 2), (Value.int .i64 2)] w6 fun w7 =>
    st (Addr.mk b36 0 none) [(Value.int .i64 3), (Value.int .i64 2)] w7 fun w8 =>
    jn (fun (J41 : (Bool × Bool) → World → Prop) => tk w8 fun w9 =>
      ld (Value.int .i64) ((Addr.mk b9 0 none).add 9) w9 fun x42 =>
      ld (Value.int .i64) ((Addr.mk b9 0 none).add 1) w9 fun x43 =>
      cnd (decide (x43 = 2))
        (
        ld (Value.int .i64) ((Addr.mk b9 0 none).add 2) w9 fun x45 =>
        J41 (decide (1 < x42), decide (x45 = 0)) w9
        )
        (
        J41 (decide (1 < x42), false) w9
        )
    )
    fun l46 w10 =>
    rn Try.prog (Instr.makeSlice 25 (Value.int .i64 9) (Value.int .i64 9)) (fun (r : Sl) => (Sl.v r)) w10 fun r47 w11 =>
    ld (Value.int .i64) ((Addr.mk b34 0 none).add 0) w11 fun x48 =>
    ld (Value.int .i64) ((Addr.mk b34 0 none).add 1) w11 fun x49 =>
    ix r47 0 2 fun p50 =>
    st p50 [(Value.int .i64 x48), (Value.int .i64 x49)] w11 fun w12 =>
    jp (fun J52 => cnd (l46.1)
      (
      ld (Value.int .i64) ((Addr.mk b9 0 none).add 8) w12 fun x54 =>
      ld (Value.int .i64) ((Addr.mk b9 0 none).add 9) w12 fun x55 =>
      J52 (decide (4400 ≤ (IntKind.i64.wrap (x54 * x55))))
      )
      (
      J52 false
      ))
    fun c56 =>
    nw 72 #[(Value.bool c56), (Value.int .i64 1), (Value.int .i64 1), (Value.bool l46.1), (Value.int .i64 4), (Value.int .i64 1), (Value.bool true), (Value.int .i64 4), (Value.int .i64 0)] w12 fun b57 w13 =>
    callC Try.prog 43 #[(Sl.v (⟨some ⟨b57, 0, none⟩, 3, 3⟩ : Sl))] (fun (r : Int × Int) => (Value.agg #[(Value.int .i64 r.1), (Value.int .i64 r.2)])) w13 fun r58 w14 =>
    ix r47 1 2 fun p59 =>
    st p59 [(Value.int .i64 r58.1), (Value.int .i64 r58.2)] w14 fun w15 =>
    ld (Value.int .i64) ((Addr.mk b34 0 none).add 0) w15 fun x61 =>
    ld (Value.int .i64) ((Addr.mk b34 0 none).add 1) w15 fun x62 =>
    ld (Value.int .i64) ((Addr.mk b36 0 none).add 0) w15 fun x63 =>
    ld (Value.int .i64) ((Addr.mk b36 0 none).add 1) w15 fun x64 =>
    nw 72 #[(Value.bool l46.2), (Value.int .i64 x61), (Value.int .i64 x62), (Value.bool true), (Value.int .i64 x63), (Value.int .i64 x64)] w15 fun b65 w16 =>
    callC Try.prog 43 #[(Sl.v (⟨some ⟨b65, 0, none⟩, 2, 2⟩ : Sl))] (fun (r : Int × Int) => (Value.agg #[(Value.int .i64 r.1), (Value.int .i64 r.2)])) w16 fun r66 w17 =>
    ix r47 2 2 fun p67 =>
    st p67 [(Value.int .i64 r66.1), (Value.int .i64 r66.2)] w17 fun w18 =>
    ld (Value.int .i64) ((Addr.mk b9 0 none).add 3) w18 fun x69 =>
    ld (Value.int .i64) ((Addr.mk b34 0 none).add 0) w18 fun x70 =>
    ld (Value.int .i64) ((Addr.mk b34 0 none).add 1) w18 fun x71 =>
    ld (Value.int .i64) ((Addr.mk b36 0 none).add 0) w18 fun x72 =>
    ld (Value.int .i64) ((Addr.mk b36 0 none).add 1) w18 fun x73 =>
    nw 72 #[(Value.bool (!decide (x69 = 0))), (Value.int .i64 x70), (Value.int .i64 x71), (Value.bool l46.2), (Value.int .i64 2), (Value.int .i64 0), (Value.bool true), (Value.int .i64 x72), (Value.int .i64 x73)] w18 fun b74 w19 =>
    callC Try.prog 43 #[(Sl.v (⟨some ⟨b74, 0, none⟩, 3, 3⟩ : Sl))] (fun (r : Int × Int) => (Value.agg #[(Value.int .i64 r.1), (Value.int .i64 r.2)])) w19 fun r75 w20 =>
    ix r47 3 2 fun p76 =>
    st p76 [(Value.int .i64 r75.1), (Value.int .i64 r75.2)] w20 fun w21 =>
    ld Value.bool ((Addr.mk b9 0 none).add 4) w21 fun x78 =>
    ld (Value.int .i64) ((Addr.mk b34 0 none).add 0) w21 fun x81 =>
    ld (Value.int .i64) ((Addr.mk b34 0 none).add 1) w21 fun x82 =>
    ld Value.bool ((Addr.mk b9 0 none).add 4) w21 fun x83 =>
    ld (Value.int .i64) ((Addr.mk b36 0 none).add 0) w21 fun x84 =>
    ld (Value.int .i64) ((Addr.mk b36 0 none).add 1) w21 fun x85 =>
    nw 72 #[(Value.bool (x78 && (!l46.1))), (Value.int .i64 x81), (Value.int .i64 x82), (Value.bool x83), (Value.int .i64 0), (Value.int .i64 1), (Value.bool true), (Value.int .i64 x84), (Value.int .i64 x85)] w21 fun b86 w22 =>
    callC Try.prog 43 #[(Sl.v (⟨some ⟨b86, 0, none⟩, 3, 3⟩ : Sl))] (fun (r : Int × Int) => (Value.agg #[(Value.int .i64 r.1), (Value.int .i64 r.2)])) w22 fun r87 w23 =>
    ix r47 4 2 fun p88 =>
    st p88 [(Value.int .i64 r87.1), (Value.int .i64 r87.2)] w23 fun w24 =>
    ld (Value.int .i64) ((Addr.mk b9 0 none).add 5) w24 fun x90 =>
    ld (Value.int .i64) ((Addr.mk b34 0 none).add 0) w24 fun x91 =>
    ld (Value.int .i64) ((Addr.mk b34 0 none).add 1) w24 fun x92 =>
    ld (Value.int .i64) ((Addr.mk b9 0 none).add 5) w24 fun x93 =>
    ld (Value.int .i64) ((Addr.mk b35 0 none).add 0) w24 fun x94 =>
    ld (Value.int .i64) ((Addr.mk b35 0 none).add 1) w24 fun x95 =>
    nw 72 #[(Value.bool (decide (x90 = 2))), (Value.int .i64 x91), (Value.int .i64 x92), (Value.bool (decide (x93 = 1))), (Value.int .i64 2), (Value.int .i64 1), (Value.bool true), (Value.int .i64 x94), (Value.int .i64 x95)] w24 fun b96 w25 =>
    callC Try.prog 43 #[(Sl.v (⟨some ⟨b96, 0, none⟩, 3, 3⟩ : Sl))] (fun (r : Int × Int) => (Value.agg #[(Value.int .i64 r.1), (Value.int .i64 r.2)])) w25 fun r97 w26 =>
    ix r47 5 2 fun p98 =>
    st p98 [(Value.int .i64 r97.1), (Value.int .i64 r97.2)] w26 fun w27 =>
    ld Value.bool ((Addr.mk b9 0 none).add 6) w27 fun x100 =>
    ld (Value.int .i64) ((Addr.mk b34 0 none).add 0) w27 fun x101 =>
    ld (Value.int .i64) ((Addr.mk b34 0 none).add 1) w27 fun x102 =>
    ld (Value.int .i64) ((Addr.mk b35 0 none).add 0) w27 fun x103 =>
    ld (Value.int .i64) ((Addr.mk b35 0 none).add 1) w27 fun x104 =>
    nw 72 #[(Value.bool x100), (Value.int .i64 x101), (Value.int .i64 x102), (Value.bool true), (Value.int .i64 x103), (Value.int .i64 x104)] w27 fun b105 w28 =>
    callC Try.prog 43 #[(Sl.v (⟨some ⟨b105, 0, none⟩, 2, 2⟩ : Sl))] (fun (r : Int × Int) => (Value.agg #[(Value.int .i64 r.1), (Value.int .i64 r.2)])) w28 fun r106 w29 =>
    ix r47 6 2 fun p107 =>
    st p107 [(Value.int .i64 r106.1), (Value.int .i64 r106.2)] w29 fun w30 =>
    ld Value.bool ((Addr.mk b9 0 none).add 7) w30 fun x109 =>
    ld (Value.int .i64) ((Addr.mk b34 0 none).add 0) w30 fun x110 =>
    ld (Value.int .i64) ((Addr.mk b34 0 none).add 1) w30 fun x111 =>
    ld (Value.int .i64) ((Addr.mk b35 0 none).add 0) w30 fun x112 =>
    ld (Value.int .i64) ((Addr.mk b35 0 none).add 1) w30 fun x113 =>
    nw 72 #[(Value.bool x109), (Value.int .i64 x110), (Value.int .i64 x111), (Value.bool true), (Value.int .i64 x112), (Value.int .i64 x113)] w30 fun b114 w31 =>
    callC Try.prog 43 #[(Sl.v (⟨some ⟨b114, 0, none⟩, 2, 2⟩ : Sl))] (fun (r : Int × Int) => (Value.agg #[(Value.int .i64 r.1), (Value.int .i64 r.2)])) w31 fun r115 w32 =>
    ix r47 7 2 fun p116 =>
    st p116 [(Value.int .i64 r115.1), (Value.int .i64 r115.2)] w32 fun w33 =>
    ld (Value.int .i64) ((Addr.mk b9 0 none).add 10) w33 fun x118 =>
    ld (Value.int .i64) ((Addr.mk b34 0 none).add 0) w33 fun x119 =>
    ld (Value.int .i64) ((Addr.mk b34 0 none).add 1) w33 fun x120 =>
    ld (Value.int .i64) ((Addr.mk b9 0 none).add 10) w33 fun x121 =>
    ld (Value.int .i64) ((Addr.mk b35 0 none).add 0) w33 fun x122 =>
    ld (Value.int .i64) ((Addr.mk b35 0 none).add 1) w33 fun x123 =>
    nw 72 #[(Value.bool (decide (x118 = 4))), (Value.int .i64 x119), (Value.int .i64 x120), (Value.bool (decide (0 < x121))), (Value.int .i64 4), (Value.int .i64 1), (Value.bool true), (Value.int .i64 x122), (Value.int .i64 x123)] w33 fun b124 w34 =>
    callC Try.prog 43 #[(Sl.v (⟨some ⟨b124, 0, none⟩, 3, 3⟩ : Sl))] (fun (r : Int × Int) => (Value.agg #[(Value.int .i64 r.1), (Value.int .i64 r.2)])) w34 fun r125 w35 =>
    ix r47 8 2 fun p126 =>
    st p126 [(Value.int .i64 r125.1), (Value.int .i64 r125.2)] w35 fun w36 =>
    K (r47, 0) w36
    )
set_option maxRecDepth 100000 in
theorem D18 (p0_0 : ByteArray) (p0_1 : Int) (p0_2 : Int) (p0_3 : Int) (p0_4 : Bool) (p0_5 : Int) (p0_6 : Bool) (p0_7 : Bool) (p0_8 : Int) (p0_9 : Int) (p0_10 : Int) (p0_11 : Int) (p0_12 : Sl) (p0_13 : Int) (p0_14 : Int) (p0_15 : Int) (p0_16 : Int) (p0_17 : Bool) (p0_18 : Int) (p0_19 : Int) (p0_20 : Int) (p0_21 : Int) (w0 : World) (K : (Sl × Int) → World → Prop) (h : F18 p0_0 p0_1 p0_2 p0_3 p0_4 p0_5 p0_6 p0_7 p0_8 p0_9 p0_10 p0_11 p0_12 p0_13 p0_14 p0_15 p0_16 p0_17 p0_18 p0_19 p0_20 p0_21 w0 K) : callC Try.prog 18 #[(V23 p0_0 p0_1 p0_2 p0_3 p0_4 p0_5 p0_6 p0_7 p0_8 p0_9 p0_10 p0_11 p0_12 p0_13 p0_14 p0_15 p0_16 p0_17 p0_18 p0_19 p0_20 p0_21)] (fun (r : Sl × Int) => (Value.tuple #[(Sl.v r.1), (Value.int .i64 r.2)])) w0 K := by
  unfold F18 at h
  refine calls_of_wpC Try.func18 rfl 148 rfl (by simp) ?_
  intro ρ hρ
  have e0 : ρ 0 = (V23 p0_0 p0_1 p0_2 p0_3 p0_4 p0_5 p0_6 p0_7 p0_8 p0_9 p0_10 p0_11 p0_12 p0_13 p0_14 p0_15 p0_16 p0_17 p0_18 p0_19 p0_20 p0_21) := hρ 0
  clear hρ
  refine wpC_seq ?_
  refine wpC_region ?_
  obtain ⟨b9, hb9⟩ : ∃ u, u = w0.heap.size := ⟨_, rfl⟩
  obtain ⟨w1, hw9⟩ : ∃ u, u = w0.alloc (.cells (A23 p0_0 p0_1 p0_2 p0_3 p0_4 p0_5 p0_6 p0_7 p0_8 p0_9 p0_10 p0_11 p0_12 p0_13 p0_14 p0_15 p0_16 p0_17 p0_18 p0_19 p0_20 p0_21) 24) := ⟨_, rfl⟩
  replace h := h b9 w1 hb9 hw9
  refine wpR_val (v := (Value.pointer (some (Addr.mk b9 0 none)))) (w' := w1) rfl rfl rfl ((x_box (v := (V23 p0_0 p0_1 p0_2 p0_3 p0_4 p0_5 p0_6 p0_7 p0_8 p0_9 p0_10 p0_11 p0_12 p0_13 p0_14 p0_15 p0_16 p0_17 p0_18 p0_19 p0_20 p0_21)) rfl e0).trans (by rw [hb9, hw9]; rfl)) ?_
  refine wpR_val (v := (Sl.v Sl.nil)) (w' := w1) rfl rfl rfl (x_assign (v := (Sl.v Sl.nil)) rfl rfl) ?_
  refine wpR_val (v := (Value.int .i64 0)) (w' := w1) rfl rfl rfl (x_assign (v := (Value.int .i64 0)) rfl rfl) ?_
  refine wpR_nil ?_
  refine wpC_seq ?_
  refine wpC_seq ?_
  refine wpC_cut (fun ρ => ρ 1 = (Value.pointer (some (Addr.mk b9 0 none))) ∧ True) ⟨rfl, trivial⟩ ?_
  rintro ρ ⟨e1, -⟩
  refine wpC_region ?_
  obtain ⟨x10, q10, x11, q11, x12, q12, x13, q13, x14, q14, x15, q15, x16, q16, x17, q17, x18, q18, x19, q19, x20, q20, x21, q21, x22, q22, x23, q23, x24, q24, x25, q25, x26, q26, x27, q27, x28, q28, x29, q29, x30, q30, x31, q31, h⟩ := h
  refine wpR_val (v := (V23 x10 x11 x12 x13 x14 x15 x16 x17 x18 x19 x20 x21 x22 x23 x24 x25 x26 x27 x28 x29 x30 x31)) (w' := w1) rfl rfl rfl (x_loadN (S23 x10 x11 x12 x13 x14 x15 x16 x17 x18 x19 x20 x21 x22 x23 x24 x25 x26 x27 x28 x29 x30 x31) rfl e1 SH_24 (K23 ⟨q10, q11, q12, q13, q14, q15, q16, q17, q18, q19, q20, q21, q22, q23, q24, q25, q26, q27, q28, q29, q30, q31⟩)) ?_
  refine wpR_enter rfl rfl rfl (x_call (vs := [(V23 x10 x11 x12 x13 x14 x15 x16 x17 x18 x19 x20 x21 x22 x23 x24 x25 x26 x27 x28 x29 x30 x31)]) rfl rfl (mapl_cons rfl mapl_nil) Try.func17 NN_17 NB_17) (Calls.mono h ?_)
  rintro _ w2 ⟨r32, rfl, h⟩
  refine ⟨_, rfl, ?_⟩
  refine wpR_val (v := (Value.int .i64 r32)) (w' := w2) rfl rfl rfl (x_assign (v := (Value.int .i64 r32)) rfl rfl) ?_
  refine wpR_nil ?_
  refine wpC_seq ?_
  refine wpC_cut (fun ρ => ρ 1 = (Value.pointer (some (Addr.mk b9 0 none))) ∧ ρ 4 = (Value.int .i64 r32) ∧ True) ⟨e1, rfl, trivial⟩ ?_
  rintro ρ ⟨e1, e4, -⟩
  refine wpC_region ?_
  refine wpR_val (v := (Value.int .i64 r32)) (w' := w2) rfl rfl rfl (x_move (v := (Value.int .i64 r32)) rfl e4) ?_
  refine wpR_val (v := (Value.bool (!decide (r32 = 0)))) (w' := w2) rfl rfl rfl (x_neq rfl rfl rfl) ?_
  refine wpR_nil ?_
  refine wpC_cond (b := !decide (r32 = 0)) rfl (fun hc33 => ?_) (fun hc33 => ?_)
  · replace h := h.1 hc33
    refine wpC_seq ?_
    refine wpC_cut (fun ρ => ρ 4 = (Value.int .i64 r32) ∧ True) ⟨e4, trivial⟩ ?_
    rintro ρ ⟨e4, -⟩
    refine wpC_region ?_
    refine wpR_val (v := (Value.int .i64 r32)) (w' := w2) rfl rfl rfl (x_move (v := (Value.int .i64 r32)) rfl e4) ?_
    refine wpR_val (v := (Sl.v Sl.nil)) (w' := w2) rfl rfl rfl (x_assign (v := (Sl.v Sl.nil)) rfl rfl) ?_
    refine wpR_val (v := (Value.int .i64 r32)) (w' := w2) rfl rfl rfl (x_assign (v := (Value.int .i64 r32)) rfl rfl) ?_
    refine wpR_nil ?_
    refine wpC_ret ?_
    exact ⟨.inl rfl, fun a ha => ⟨_, results_rep2 rfl ha rfl rfl, (Sl.nil, r32), rfl, h⟩⟩
  · replace h := h.2 hc33
    refine wpC_skip ?_
    refine wpC_seq ?_
    refine wpC_cut (fun ρ => ρ 1 = (Value.pointer (some (Addr.mk b9 0 none))) ∧ True) ⟨e1, trivial⟩ ?_
    rintro ρ ⟨e1, -⟩
    refine wpC_region ?_
    refine wpR_val (v := (Value.agg #[(Value.int .i64 0), (Value.int .i64 0)])) (w' := w2) rfl rfl rfl (x_build (qs := [(0, (Value.int .i64 0)), (1, (Value.int .i64 0))]) rfl (by rfl) (BD_46_0_1 0 0 _)) ?_
    refine wpR_val (v := (Value.agg #[(Value.int .i64 2), (Value.int .i64 2)])) (w' := w2) rfl rfl rfl (x_build (qs := [(0, (Value.int .i64 2)), (1, (Value.int .i64 2))]) rfl (by rfl) (BD_46_0_1 2 2 _)) ?_
    refine wpR_val (v := (Value.agg #[(Value.int .i64 3), (Value.int .i64 2)])) (w' := w2) rfl rfl rfl (x_build (qs := [(0, (Value.int .i64 3)), (1, (Value.int .i64 2))]) rfl (by rfl) (BD_46_0_1 3 2 _)) ?_
    obtain ⟨b34, hb34⟩ : ∃ u, u = w2.heap.size := ⟨_, rfl⟩
    obtain ⟨w3, hw34⟩ : ∃ u, u = w2.alloc (.cells #[(Value.int .i64 0), (Value.int .i64 0)] 46) := ⟨_, rfl⟩
    replace h := h b34 w3 hb34 hw34
    refine wpR_val (v := (Value.pointer (some (Addr.mk b34 0 none)))) (w' := w3) rfl rfl rfl ((x_alloc rfl ZV_46).trans (by rw [hb34, hw34]; rfl)) ?_
    obtain ⟨b35, hb35⟩ : ∃ u, u = w3.heap.size := ⟨_, rfl⟩
    obtain ⟨w4, hw35⟩ : ∃ u, u = w3.alloc (.cells #[(Value.int .i64 0), (Value.int .i64 0)] 46) := ⟨_, rfl⟩
    replace h := h b35 w4 hb35 hw35
    refine wpR_val (v := (Value.pointer (some (Addr.mk b35 0 none)))) (w' := w4) rfl rfl rfl ((x_alloc rfl ZV_46).trans (by rw [hb35, hw35]; rfl)) ?_
    obtain ⟨b36, hb36⟩ : ∃ u, u = w4.heap.size := ⟨_, rfl⟩
    obtain ⟨w5, hw36⟩ : ∃ u, u = w4.alloc (.cells #[(Value.int .i64 0), (Value.int .i64 0)] 46) := ⟨_, rfl⟩
    replace h := h b36 w5 hb36 hw36
    refine wpR_val (v := (Value.pointer (some (Addr.mk b36 0 none)))) (w' := w5) rfl rfl rfl ((x_alloc rfl ZV_46).trans (by rw [hb36, hw36]; rfl)) ?_
    obtain ⟨q37, h⟩ := h
    obtain ⟨w6, hw37⟩ : ∃ u, u = setAll w5 (Addr.mk b34 0 none) [(Value.int .i64 0), (Value.int .i64 0)] 0 := ⟨_, rfl⟩
    replace h := h w6 hw37
    refine wpR_skp (w' := w6) rfl rfl ((x_store (v := (Value.agg #[(Value.int .i64 0), (Value.int .i64 0)])) rfl rfl rfl SZ_46 (ones (by rfl)) q37).trans (by rw [hw37]; rfl)) ?_
    obtain ⟨q38, h⟩ := h
    obtain ⟨w7, hw38⟩ : ∃ u, u = setAll w6 (Addr.mk b35 0 none) [(Value.int .i64 2), (Value.int .i64 2)] 0 := ⟨_, rfl⟩
    replace h := h w7 hw38
    refine wpR_skp (w' := w7) rfl rfl ((x_store (v := (Value.agg #[(Value.int .i64 2), (Value.int .i64 2)])) rfl rfl rfl SZ_46 (ones (by rfl)) q38).trans (by rw [hw38]; rfl)) ?_
    obtain ⟨q39, h⟩ := h
    obtain ⟨w8, hw39⟩ : ∃ u, u = setAll w7 (Addr.mk b36 0 none) [(Value.int .i64 3), (Value.int .i64 2)] 0 := ⟨_, rfl⟩
    replace h := h w8 hw39
    refine wpR_skp (w' := w8) rfl rfl ((x_store (v := (Value.agg #[(Value.int .i64 3), (Value.int .i64 2)])) rfl rfl rfl SZ_46 (ones (by rfl)) q39).trans (by rw [hw39]; rfl)) ?_
    refine wpR_nil ?_
    refine wpC_seq ?_
    refine wpC_cut (fun ρ => ρ 1 = (Value.pointer (some (Addr.mk b9 0 none))) ∧ ρ 5 = (Value.pointer (some (Addr.mk b34 0 none))) ∧ ρ 6 = (Value.pointer (some (Addr.mk b35 0 none))) ∧ ρ 7 = (Value.pointer (some (Addr.mk b36 0 none))) ∧ True) ⟨e1, rfl, rfl, rfl, trivial⟩ ?_
    rintro ρ ⟨e1, e5, e6, e7, -⟩
    obtain ⟨J41, h, hk⟩ := h
    refine wpC_drawJ (by kernel_rfl) (fun (x : Bool × Bool) ρ => ρ 8 = (Value.bool x.1) ∧ ρ 9 = (Value.bool x.2) ∧ ρ 1 = (Value.pointer (some (Addr.mk b9 0 none))) ∧ ρ 5 = (Value.pointer (some (Addr.mk b34 0 none))) ∧ ρ 6 = (Value.pointer (some (Addr.mk b35 0 none))) ∧ ρ 7 = (Value.pointer (some (Addr.mk b36 0 none))) ∧ True) J41 ?_ ?_
    · clear hk
      unfold tk at h
      generalize w8.drew = w9 at h ⊢
      refine wpD_take (v := (Value.pointer (some ((Addr.mk b9 0 none).add 9)))) 0 (fun _ => True) rfl (by kernel_rfl) (by kernel_rfl) (by kernel_rfl) rfl rfl rfl trivial (fun w _ => (x_fieldAddr rfl e1 FA_24_9)) ?_
      obtain ⟨x42, q42, h⟩ := h
      refine wpD_take (v := (Value.int .i64 x42)) 1 (fun w => w.cell? ((Addr.mk b9 0 none).add 9) = some (Value.int .i64 x42)) rfl (by kernel_rfl) (by kernel_rfl) (by kernel_rfl) rfl rfl rfl q42 (fun w q42 => (x_load1 rfl rfl SH_3 q42)) ?_
      refine wpD_take (v := (Value.bool (decide (1 < x42)))) 2 (fun _ => True) rfl (by kernel_rfl) (by kernel_rfl) (by kernel_rfl) rfl rfl rfl trivial (fun w _ => (x_gtr rfl rfl rfl)) ?_
      refine wpD_take (v := (Value.pointer (some ((Addr.mk b9 0 none).add 1)))) 3 (fun _ => True) rfl (by kernel_rfl) (by kernel_rfl) (by kernel_rfl) rfl rfl rfl trivial (fun w _ => (x_fieldAddr rfl e1 FA_24_1)) ?_
      obtain ⟨x43, q43, h⟩ := h
      refine wpD_take (v := (Value.int .i64 x43)) 4 (fun w => w.cell? ((Addr.mk b9 0 none).add 1) = some (Value.int .i64 x43)) rfl (by kernel_rfl) (by kernel_rfl) (by kernel_rfl) rfl rfl rfl q43 (fun w q43 => (x_load1 rfl rfl SH_3 q43)) ?_
      refine wpD_take (v := (Value.bool (decide (x43 = 2)))) 5 (fun _ => True) rfl (by kernel_rfl) (by kernel_rfl) (by kernel_rfl) rfl rfl rfl trivial (fun w _ => (x_eql rfl rfl rfl)) ?_
      refine wpD_take (v := (Value.bool (decide (x43 = 2)))) 6 (fun _ => True) rfl (by kernel_rfl) (by kernel_rfl) (by kernel_rfl) rfl rfl rfl trivial (fun w _ => (x_move (v := (Value.bool (decide (x43 = 2)))) rfl rfl)) ?_
      rcases Bool.eq_false_or_eq_true (decide (x43 = 2)) with hc44 | hc44
      · replace h := h.1 hc44
        refine wpD_take (v := (Value.pointer (some ((Addr.mk b9 0 none).add 2)))) 7 (fun _ => True) rfl (by kernel_rfl) (by kernel_rfl) (by kernel_rfl) (wantG rfl rfl rfl hc44) rfl rfl trivial (fun w _ => (x_fieldAddr rfl e1 FA_24_2)) ?_
        obtain ⟨x45, q45, h⟩ := h
        refine wpD_take (v := (Value.int .i64 x45)) 8 (fun w => w.cell? ((Addr.mk b9 0 none).add 2) = some (Value.int .i64 x45)) rfl (by kernel_rfl) (by kernel_rfl) (by kernel_rfl) (wantG rfl rfl rfl hc44) rfl rfl q45 (fun w q45 => (x_load1 rfl rfl SH_3 q45)) ?_
        refine wpD_take (v := (Value.bool (decide (x45 = 0)))) 9 (fun _ => True) rfl (by kernel_rfl) (by kernel_rfl) (by kernel_rfl) (wantG rfl rfl rfl hc44) rfl rfl trivial (fun w _ => (x_eql rfl rfl rfl)) ?_
        refine wpD_take (v := (Value.bool (decide (x45 = 0)))) 10 (fun _ => True) rfl (by kernel_rfl) (by kernel_rfl) (by kernel_rfl) rfl rfl rfl trivial (fun w _ => (x_pickT (v := (Value.bool (decide (x45 = 0)))) rfl rfl hc44 rfl)) ?_
        refine wpD_take (v := (Value.bool (decide (1 < x42)))) 11 (fun _ => True) rfl (by kernel_rfl) (by kernel_rfl) (by kernel_rfl) rfl rfl rfl trivial (fun w _ => (x_assign (v := (Value.bool (decide (1 < x42)))) rfl rfl)) ?_
        refine wpD_take (v := (Value.bool (decide (x45 = 0)))) 12 (fun _ => True) rfl (by kernel_rfl) (by kernel_rfl) (by kernel_rfl) rfl rfl rfl trivial (fun w _ => (x_assign (v := (Value.bool (decide (x45 = 0)))) rfl rfl)) ?_
        exact wpD_done (by kernel_rfl) ⟨(decide (1 < x42), decide (x45 = 0)), ⟨rfl, rfl, e1, e5, e6, e7, trivial⟩, h⟩
      · replace h := h.2 hc44
        refine wpD_pass 7 rfl (by kernel_rfl) (by kernel_rfl) (by kernel_rfl) (wantN rfl rfl rfl hc44) rfl rfl ?_
        refine wpD_pass 8 rfl (by kernel_rfl) (by kernel_rfl) (by kernel_rfl) (wantN rfl rfl rfl hc44) rfl rfl ?_
        refine wpD_pass 9 rfl (by kernel_rfl) (by kernel_rfl) (by kernel_rfl) (wantN rfl rfl rfl hc44) rfl rfl ?_
        refine wpD_take (v := (Value.bool false)) 10 (fun _ => True) rfl (by kernel_rfl) (by kernel_rfl) (by kernel_rfl) rfl rfl rfl trivial (fun w _ => (x_pickF (v := (Value.bool false)) rfl rfl hc44 rfl)) ?_
        refine wpD_take (v := (Value.bool (decide (1 < x42)))) 11 (fun _ => True) rfl (by kernel_rfl) (by kernel_rfl) (by kernel_rfl) rfl rfl rfl trivial (fun w _ => (x_assign (v := (Value.bool (decide (1 < x42)))) rfl rfl)) ?_
        refine wpD_take (v := (Value.bool false)) 12 (fun _ => True) rfl (by kernel_rfl) (by kernel_rfl) (by kernel_rfl) rfl rfl rfl trivial (fun w _ => (x_assign (v := (Value.bool false)) rfl rfl)) ?_
        exact wpD_done (by kernel_rfl) ⟨(decide (1 < x42), false), ⟨rfl, rfl, e1, e5, e6, e7, trivial⟩, h⟩
    clear h
    rintro l46 ρ w10 ⟨e8, e9, e1, e5, e6, e7, -⟩ h
    replace h := hk l46 w10 h
    clear hk
    refine wpC_seq ?_
    refine wpC_region ?_
    obtain ⟨r47, w11, q47, h⟩ := h
    refine wpR_val (v := (Sl.v r47)) (w' := w11) rfl rfl rfl (x_makeSlice rfl rfl rfl q47) ?_
    refine wpR_val (v := (Sl.v r47)) (w' := w11) rfl rfl rfl (x_assign (v := (Sl.v r47)) rfl rfl) ?_
    refine wpR_nil ?_
    refine wpC_seq ?_
    refine wpC_cut (fun ρ => ρ 1 = (Value.pointer (some (Addr.mk b9 0 none))) ∧ ρ 5 = (Value.pointer (some (Addr.mk b34 0 none))) ∧ ρ 6 = (Value.pointer (some (Addr.mk b35 0 none))) ∧ ρ 7 = (Value.pointer (some (Addr.mk b36 0 none))) ∧ ρ 8 = (Value.bool l46.1) ∧ ρ 9 = (Value.bool l46.2) ∧ ρ 10 = (Sl.v r47) ∧ True) ⟨e1, e5, e6, e7, e8, e9, rfl, trivial⟩ ?_
    rintro ρ ⟨e1, e5, e6, e7, e8, e9, e10, -⟩
    refine wpC_region ?_
    refine wpR_val (v := (Sl.v r47)) (w' := w11) rfl rfl rfl (x_move (v := (Sl.v r47)) rfl e10) ?_
    obtain ⟨x48, q48, x49, q49, h⟩ := h
    refine wpR_val (v := (Value.agg #[(Value.int .i64 x48), (Value.int .i64 x49)])) (w' := w11) rfl rfl rfl (x_loadN [(Value.int .i64 x48), (Value.int .i64 x49)] rfl e5 SH_46 (CellsAt.out (CellsAt.cons q48 (CellsAt.cons q49 CellsAt.nil)))) ?_
    obtain ⟨q50, z50, r50, h⟩ := h
    generalize hp50 : z50.add ((0 : Int).toNat * 2) = p50 at h
    refine wpR_val (v := (Value.pointer (some p50))) (w' := w11) rfl rfl rfl ((x_indexAddr (s := r47) rfl rfl rfl ES_25 q50 r50).trans (by rw [hp50])) ?_
    obtain ⟨q51, h⟩ := h
    obtain ⟨w12, hw51⟩ : ∃ u, u = setAll w11 p50 [(Value.int .i64 x48), (Value.int .i64 x49)] 0 := ⟨_, rfl⟩
    replace h := h w12 hw51
    refine wpR_skp (w' := w12) rfl rfl ((x_store (v := (Value.agg #[(Value.int .i64 x48), (Value.int .i64 x49)])) rfl rfl rfl SZ_46 (ones (by rfl)) q51).trans (by rw [hw51]; rfl)) ?_
    refine wpR_nil ?_
    refine wpC_seq ?_
    refine wpC_cut (fun ρ => ρ 1 = (Value.pointer (some (Addr.mk b9 0 none))) ∧ ρ 5 = (Value.pointer (some (Addr.mk b34 0 none))) ∧ ρ 6 = (Value.pointer (some (Addr.mk b35 0 none))) ∧ ρ 7 = (Value.pointer (some (Addr.mk b36 0 none))) ∧ ρ 8 = (Value.bool l46.1) ∧ ρ 9 = (Value.bool l46.2) ∧ ρ 10 = (Sl.v r47) ∧ True) ⟨e1, e5, e6, e7, e8, e9, e10, trivial⟩ ?_
    rintro ρ ⟨e1, e5, e6, e7, e8, e9, e10, -⟩
    refine wpC_region ?_
    refine wpR_val (v := (Sl.v r47)) (w' := w12) rfl rfl rfl (x_move (v := (Sl.v r47)) rfl e10) ?_
    refine wpR_val (v := (Value.bool l46.1)) (w' := w12) rfl rfl rfl (x_move (v := (Value.bool l46.1)) rfl e8) ?_
    refine wpR_val (v := (Value.bool l46.1)) (w' := w12) rfl rfl rfl (x_move (v := (Value.bool l46.1)) rfl rfl) ?_
    obtain ⟨J52, h, hk⟩ := h
    refine wpR_joinJ 7 (fun x ρ => ρ 43 = Value.bool x ∧ ρ 1 = (Value.pointer (some (Addr.mk b9 0 none))) ∧ ρ 5 = (Value.pointer (some (Addr.mk b34 0 none))) ∧ ρ 6 = (Value.pointer (some (Addr.mk b35 0 none))) ∧ ρ 7 = (Value.pointer (some (Addr.mk b36 0 none))) ∧ ρ 8 = (Value.bool l46.1) ∧ ρ 9 = (Value.bool l46.2) ∧ ρ 10 = (Sl.v r47) ∧ ρ 34 = (Sl.v r47) ∧ True) (fun x w => J52 x ∧ w12 = w) ?_ ?_
    · clear hk
      rcases Bool.eq_false_or_eq_true (l46.1) with hc53 | hc53
      · replace h := h.1 hc53
        refine wpR_val (v := (Value.pointer (some ((Addr.mk b9 0 none).add 8)))) (w' := w12) (wantG rfl rfl rfl hc53) rfl rfl (x_fieldAddr rfl e1 FA_24_8) ?_
        obtain ⟨x54, q54, h⟩ := h
        refine wpR_val (v := (Value.int .i64 x54)) (w' := w12) (wantG rfl rfl rfl hc53) rfl rfl (x_load1 rfl rfl SH_3 q54) ?_
        refine wpR_val (v := (Value.pointer (some ((Addr.mk b9 0 none).add 9)))) (w' := w12) (wantG rfl rfl rfl hc53) rfl rfl (x_fieldAddr rfl e1 FA_24_9) ?_
        obtain ⟨x55, q55, h⟩ := h
        refine wpR_val (v := (Value.int .i64 x55)) (w' := w12) (wantG rfl rfl rfl hc53) rfl rfl (x_load1 rfl rfl SH_3 q55) ?_
        refine wpR_val (v := (Value.int .i64 (IntKind.i64.wrap (x54 * x55)))) (w' := w12) (wantG rfl rfl rfl hc53) rfl rfl (x_mul rfl rfl rfl) ?_
        refine wpR_val (v := (Value.bool (decide (4400 ≤ (IntKind.i64.wrap (x54 * x55)))))) (w' := w12) (wantG rfl rfl rfl hc53) rfl rfl (x_geq rfl rfl rfl) ?_
        refine wpR_val (v := (Value.bool (decide (4400 ≤ (IntKind.i64.wrap (x54 * x55)))))) (w' := w12) rfl rfl rfl (x_pickT (v := (Value.bool (decide (4400 ≤ (IntKind.i64.wrap (x54 * x55)))))) rfl rfl hc53 rfl) ?_
        refine wpR_nil ?_
        exact ⟨decide (4400 ≤ (IntKind.i64.wrap (x54 * x55))), ⟨rfl, e1, e5, e6, e7, e8, e9, e10, rfl, trivial⟩, h, rfl⟩
      · replace h := h.2 hc53
        refine wpR_pass (wantN rfl rfl rfl hc53) rfl rfl ?_
        refine wpR_pass (wantN rfl rfl rfl hc53) rfl rfl ?_
        refine wpR_pass (wantN rfl rfl rfl hc53) rfl rfl ?_
        refine wpR_pass (wantN rfl rfl rfl hc53) rfl rfl ?_
        refine wpR_pass (wantN rfl rfl rfl hc53) rfl rfl ?_
        refine wpR_pass (wantN rfl rfl rfl hc53) rfl rfl ?_
        refine wpR_val (v := (Value.bool false)) (w' := w12) rfl rfl rfl (x_pickF (v := (Value.bool false)) rfl rfl hc53 rfl) ?_
        refine wpR_nil ?_
        exact ⟨false, ⟨rfl, e1, e5, e6, e7, e8, e9, e10, rfl, trivial⟩, h, rfl⟩
    clear h
    rintro c56 ρ wj ⟨e43, e1, e5, e6, e7, e8, e9, e10, e34, -⟩ ⟨h, rfl⟩
    replace h := hk c56 h
    clear hk
    refine wpR_val (v := (Value.agg #[(Value.int .i64 1), (Value.int .i64 1)])) (w' := w12) rfl rfl rfl (x_build (qs := [(0, (Value.int .i64 1)), (1, (Value.int .i64 1))]) rfl (by rfl) (BD_46_0_1 1 1 _)) ?_
    refine wpR_val (v := (Value.agg #[(Value.bool c56), (Value.int .i64 1), (Value.int .i64 1)])) (w' := w12) rfl rfl rfl (x_build (qs := [(0, (Value.bool c56)), (1, (Value.agg #[(Value.int .i64 1), (Value.int .i64 1)]))]) rfl (bl_cons e43 (bl_cons rfl bl_nil)) (BD_72_0_1 c56 1 1 _)) ?_
    refine wpR_val (v := (Value.bool l46.1)) (w' := w12) rfl rfl rfl (x_move (v := (Value.bool l46.1)) rfl e8) ?_
    refine wpR_val (v := (Value.agg #[(Value.int .i64 4), (Value.int .i64 1)])) (w' := w12) rfl rfl rfl (x_build (qs := [(0, (Value.int .i64 4)), (1, (Value.int .i64 1))]) rfl (by rfl) (BD_46_0_1 4 1 _)) ?_
    refine wpR_val (v := (Value.agg #[(Value.bool l46.1), (Value.int .i64 4), (Value.int .i64 1)])) (w' := w12) rfl rfl rfl (x_build (qs := [(0, (Value.bool l46.1)), (1, (Value.agg #[(Value.int .i64 4), (Value.int .i64 1)]))]) rfl (by rfl) (BD_72_0_1 l46.1 4 1 _)) ?_
    refine wpR_val (v := (Value.agg #[(Value.int .i64 4), (Value.int .i64 0)])) (w' := w12) rfl rfl rfl (x_build (qs := [(0, (Value.int .i64 4)), (1, (Value.int .i64 0))]) rfl (by rfl) (BD_46_0_1 4 0 _)) ?_
    refine wpR_val (v := (Value.agg #[(Value.bool true), (Value.int .i64 4), (Value.int .i64 0)])) (w' := w12) rfl rfl rfl (x_build (qs := [(0, (Value.bool true)), (1, (Value.agg #[(Value.int .i64 4), (Value.int .i64 0)]))]) rfl (by rfl) (BD_72_0_1 true 4 0 _)) ?_
    obtain ⟨b57, hb57⟩ : ∃ u, u = w12.heap.size := ⟨_, rfl⟩
    obtain ⟨w13, hw57⟩ : ∃ u, u = w12.alloc (.cells #[(Value.bool c56), (Value.int .i64 1), (Value.int .i64 1), (Value.bool l46.1), (Value.int .i64 4), (Value.int .i64 1), (Value.bool true), (Value.int .i64 4), (Value.int .i64 0)] 72) := ⟨_, rfl⟩
    replace h := h b57 w13 hb57 hw57
    refine wpR_val (v := (Sl.v (⟨some ⟨b57, 0, none⟩, 3, 3⟩ : Sl))) (w' := w13) rfl rfl rfl ((x_buildSlice (qs := [(0, (Value.agg #[(Value.bool c56), (Value.int .i64 1), (Value.int .i64 1)])), (1, (Value.agg #[(Value.bool l46.1), (Value.int .i64 4), (Value.int .i64 1)])), (2, (Value.agg #[(Value.bool true), (Value.int .i64 4), (Value.int .i64 0)]))]) rfl (by rfl) (BS_85_3_0_1_2 c56 1 1 l46.1 4 1 true 4 0)).trans (by rw [← hb57, ← hw57])) ?_
    refine wpR_enter rfl rfl rfl (x_call (vs := [(Sl.v (⟨some ⟨b57, 0, none⟩, 3, 3⟩ : Sl))]) rfl rfl (mapl_cons rfl mapl_nil) Try.func43 NN_43 NB_43) (Calls.mono h ?_)
    rintro _ w14 ⟨r58, rfl, h⟩
    refine ⟨_, rfl, ?_⟩
    obtain ⟨q59, z59, r59, h⟩ := h
    generalize hp59 : z59.add ((1 : Int).toNat * 2) = p59 at h
    refine wpR_val (v := (Value.pointer (some p59))) (w' := w14) rfl rfl rfl ((x_indexAddr (s := r47) rfl e34 rfl ES_25 q59 r59).trans (by rw [hp59])) ?_
    obtain ⟨q60, h⟩ := h
    obtain ⟨w15, hw60⟩ : ∃ u, u = setAll w14 p59 [(Value.int .i64 r58.1), (Value.int .i64 r58.2)] 0 := ⟨_, rfl⟩
    replace h := h w15 hw60
    refine wpR_skp (w' := w15) rfl rfl ((x_store (v := (Value.agg #[(Value.int .i64 r58.1), (Value.int .i64 r58.2)])) rfl rfl rfl SZ_46 (ones (by rfl)) q60).trans (by rw [hw60]; rfl)) ?_
    refine wpR_nil ?_
    refine wpC_seq ?_
    refine wpC_cut (fun ρ => ρ 1 = (Value.pointer (some (Addr.mk b9 0 none))) ∧ ρ 5 = (Value.pointer (some (Addr.mk b34 0 none))) ∧ ρ 6 = (Value.pointer (some (Addr.mk b35 0 none))) ∧ ρ 7 = (Value.pointer (some (Addr.mk b36 0 none))) ∧ ρ 8 = (Value.bool l46.1) ∧ ρ 9 = (Value.bool l46.2) ∧ ρ 10 = (Sl.v r47) ∧ True) ⟨e1, e5, e6, e7, e8, e9, e10, trivial⟩ ?_
    rintro ρ ⟨e1, e5, e6, e7, e8, e9, e10, -⟩
    refine wpC_region ?_
    refine wpR_val (v := (Sl.v r47)) (w' := w15) rfl rfl rfl (x_move (v := (Sl.v r47)) rfl e10) ?_
    refine wpR_val (v := (Value.bool l46.2)) (w' := w15) rfl rfl rfl (x_move (v := (Value.bool l46.2)) rfl e9) ?_
    obtain ⟨x61, q61, x62, q62, h⟩ := h
    refine wpR_val (v := (Value.agg #[(Value.int .i64 x61), (Value.int .i64 x62)])) (w' := w15) rfl rfl rfl (x_loadN [(Value.int .i64 x61), (Value.int .i64 x62)] rfl e5 SH_46 (CellsAt.out (CellsAt.cons q61 (CellsAt.cons q62 CellsAt.nil)))) ?_
    refine wpR_val (v := (Value.agg #[(Value.bool l46.2), (Value.int .i64 x61), (Value.int .i64 x62)])) (w' := w15) rfl rfl rfl (x_build (qs := [(0, (Value.bool l46.2)), (1, (Value.agg #[(Value.int .i64 x61), (Value.int .i64 x62)]))]) rfl (by rfl) (BD_72_0_1 l46.2 x61 x62 _)) ?_
    obtain ⟨x63, q63, x64, q64, h⟩ := h
    refine wpR_val (v := (Value.agg #[(Value.int .i64 x63), (Value.int .i64 x64)])) (w' := w15) rfl rfl rfl (x_loadN [(Value.int .i64 x63), (Value.int .i64 x64)] rfl e7 SH_46 (CellsAt.out (CellsAt.cons q63 (CellsAt.cons q64 CellsAt.nil)))) ?_
    refine wpR_val (v := (Value.agg #[(Value.bool true), (Value.int .i64 x63), (Value.int .i64 x64)])) (w' := w15) rfl rfl rfl (x_build (qs := [(0, (Value.bool true)), (1, (Value.agg #[(Value.int .i64 x63), (Value.int .i64 x64)]))]) rfl (by rfl) (BD_72_0_1 true x63 x64 _)) ?_
    obtain ⟨b65, hb65⟩ : ∃ u, u = w15.heap.size := ⟨_, rfl⟩
    obtain ⟨w16, hw65⟩ : ∃ u, u = w15.alloc (.cells #[(Value.bool l46.2), (Value.int .i64 x61), (Value.int .i64 x62), (Value.bool true), (Value.int .i64 x63), (Value.int .i64 x64)] 72) := ⟨_, rfl⟩
    replace h := h b65 w16 hb65 hw65
    refine wpR_val (v := (Sl.v (⟨some ⟨b65, 0, none⟩, 2, 2⟩ : Sl))) (w' := w16) rfl rfl rfl ((x_buildSlice (qs := [(0, (Value.agg #[(Value.bool l46.2), (Value.int .i64 x61), (Value.int .i64 x62)])), (1, (Value.agg #[(Value.bool true), (Value.int .i64 x63), (Value.int .i64 x64)]))]) rfl (by rfl) (BS_85_2_0_1 l46.2 x61 x62 true x63 x64)).trans (by rw [← hb65, ← hw65])) ?_
    refine wpR_enter rfl rfl rfl (x_call (vs := [(Sl.v (⟨some ⟨b65, 0, none⟩, 2, 2⟩ : Sl))]) rfl rfl (mapl_cons rfl mapl_nil) Try.func43 NN_43 NB_43) (Calls.mono h ?_)
    rintro _ w17 ⟨r66, rfl, h⟩
    refine ⟨_, rfl, ?_⟩
    obtain ⟨q67, z67, r67, h⟩ := h
    generalize hp67 : z67.add ((2 : Int).toNat * 2) = p67 at h
    refine wpR_val (v := (Value.pointer (some p67))) (w' := w17) rfl rfl rfl ((x_indexAddr (s := r47) rfl rfl rfl ES_25 q67 r67).trans (by rw [hp67])) ?_
    obtain ⟨q68, h⟩ := h
    obtain ⟨w18, hw68⟩ : ∃ u, u = setAll w17 p67 [(Value.int .i64 r66.1), (Value.int .i64 r66.2)] 0 := ⟨_, rfl⟩
    replace h := h w18 hw68
    refine wpR_skp (w' := w18) rfl rfl ((x_store (v := (Value.agg #[(Value.int .i64 r66.1), (Value.int .i64 r66.2)])) rfl rfl rfl SZ_46 (ones (by rfl)) q68).trans (by rw [hw68]; rfl)) ?_
    refine wpR_nil ?_
    refine wpC_seq ?_
    refine wpC_cut (fun ρ => ρ 1 = (Value.pointer (some (Addr.mk b9 0 none))) ∧ ρ 5 = (Value.pointer (some (Addr.mk b34 0 none))) ∧ ρ 6 = (Value.pointer (some (Addr.mk b35 0 none))) ∧ ρ 7 = (Value.pointer (some (Addr.mk b36 0 none))) ∧ ρ 8 = (Value.bool l46.1) ∧ ρ 9 = (Value.bool l46.2) ∧ ρ 10 = (Sl.v r47) ∧ True) ⟨e1, e5, e6, e7, e8, e9, e10, trivial⟩ ?_
    rintro ρ ⟨e1, e5, e6, e7, e8, e9, e10, -⟩
    refine wpC_region ?_
    refine wpR_val (v := (Sl.v r47)) (w' := w18) rfl rfl rfl (x_move (v := (Sl.v r47)) rfl e10) ?_
    refine wpR_val (v := (Value.pointer (some ((Addr.mk b9 0 none).add 3)))) (w' := w18) rfl rfl rfl (x_fieldAddr rfl e1 FA_24_3) ?_
    obtain ⟨x69, q69, h⟩ := h
    refine wpR_val (v := (Value.int .i64 x69)) (w' := w18) rfl rfl rfl (x_load1 rfl rfl SH_3 q69) ?_
    refine wpR_val (v := (Value.bool (!decide (x69 = 0)))) (w' := w18) rfl rfl rfl (x_neq rfl rfl rfl) ?_
    obtain ⟨x70, q70, x71, q71, h⟩ := h
    refine wpR_val (v := (Value.agg #[(Value.int .i64 x70), (Value.int .i64 x71)])) (w' := w18) rfl rfl rfl (x_loadN [(Value.int .i64 x70), (Value.int .i64 x71)] rfl e5 SH_46 (CellsAt.out (CellsAt.cons q70 (CellsAt.cons q71 CellsAt.nil)))) ?_
    refine wpR_val (v := (Value.agg #[(Value.bool (!decide (x69 = 0))), (Value.int .i64 x70), (Value.int .i64 x71)])) (w' := w18) rfl rfl rfl (x_build (qs := [(0, (Value.bool (!decide (x69 = 0)))), (1, (Value.agg #[(Value.int .i64 x70), (Value.int .i64 x71)]))]) rfl (by rfl) (BD_72_0_1 (!decide (x69 = 0)) x70 x71 _)) ?_
    refine wpR_val (v := (Value.bool l46.2)) (w' := w18) rfl rfl rfl (x_move (v := (Value.bool l46.2)) rfl e9) ?_
    refine wpR_val (v := (Value.agg #[(Value.int .i64 2), (Value.int .i64 0)])) (w' := w18) rfl rfl rfl (x_build (qs := [(0, (Value.int .i64 2)), (1, (Value.int .i64 0))]) rfl (by rfl) (BD_46_0_1 2 0 _)) ?_
    refine wpR_val (v := (Value.agg #[(Value.bool l46.2), (Value.int .i64 2), (Value.int .i64 0)])) (w' := w18) rfl rfl rfl (x_build (qs := [(0, (Value.bool l46.2)), (1, (Value.agg #[(Value.int .i64 2), (Value.int .i64 0)]))]) rfl (by rfl) (BD_72_0_1 l46.2 2 0 _)) ?_
    obtain ⟨x72, q72, x73, q73, h⟩ := h
    refine wpR_val (v := (Value.agg #[(Value.int .i64 x72), (Value.int .i64 x73)])) (w' := w18) rfl rfl rfl (x_loadN [(Value.int .i64 x72), (Value.int .i64 x73)] rfl e7 SH_46 (CellsAt.out (CellsAt.cons q72 (CellsAt.cons q73 CellsAt.nil)))) ?_
    refine wpR_val (v := (Value.agg #[(Value.bool true), (Value.int .i64 x72), (Value.int .i64 x73)])) (w' := w18) rfl rfl rfl (x_build (qs := [(0, (Value.bool true)), (1, (Value.agg #[(Value.int .i64 x72), (Value.int .i64 x73)]))]) rfl (by rfl) (BD_72_0_1 true x72 x73 _)) ?_
    obtain ⟨b74, hb74⟩ : ∃ u, u = w18.heap.size := ⟨_, rfl⟩
    obtain ⟨w19, hw74⟩ : ∃ u, u = w18.alloc (.cells #[(Value.bool (!decide (x69 = 0))), (Value.int .i64 x70), (Value.int .i64 x71), (Value.bool l46.2), (Value.int .i64 2), (Value.int .i64 0), (Value.bool true), (Value.int .i64 x72), (Value.int .i64 x73)] 72) := ⟨_, rfl⟩
    replace h := h b74 w19 hb74 hw74
    refine wpR_val (v := (Sl.v (⟨some ⟨b74, 0, none⟩, 3, 3⟩ : Sl))) (w' := w19) rfl rfl rfl ((x_buildSlice (qs := [(0, (Value.agg #[(Value.bool (!decide (x69 = 0))), (Value.int .i64 x70), (Value.int .i64 x71)])), (1, (Value.agg #[(Value.bool l46.2), (Value.int .i64 2), (Value.int .i64 0)])), (2, (Value.agg #[(Value.bool true), (Value.int .i64 x72), (Value.int .i64 x73)]))]) rfl (by rfl) (BS_85_3_0_1_2 (!decide (x69 = 0)) x70 x71 l46.2 2 0 true x72 x73)).trans (by rw [← hb74, ← hw74])) ?_
    refine wpR_enter rfl rfl rfl (x_call (vs := [(Sl.v (⟨some ⟨b74, 0, none⟩, 3, 3⟩ : Sl))]) rfl rfl (mapl_cons rfl mapl_nil) Try.func43 NN_43 NB_43) (Calls.mono h ?_)
    rintro _ w20 ⟨r75, rfl, h⟩
    refine ⟨_, rfl, ?_⟩
    obtain ⟨q76, z76, r76, h⟩ := h
    generalize hp76 : z76.add ((3 : Int).toNat * 2) = p76 at h
    refine wpR_val (v := (Value.pointer (some p76))) (w' := w20) rfl rfl rfl ((x_indexAddr (s := r47) rfl rfl rfl ES_25 q76 r76).trans (by rw [hp76])) ?_
    obtain ⟨q77, h⟩ := h
    obtain ⟨w21, hw77⟩ : ∃ u, u = setAll w20 p76 [(Value.int .i64 r75.1), (Value.int .i64 r75.2)] 0 := ⟨_, rfl⟩
    replace h := h w21 hw77
    refine wpR_skp (w' := w21) rfl rfl ((x_store (v := (Value.agg #[(Value.int .i64 r75.1), (Value.int .i64 r75.2)])) rfl rfl rfl SZ_46 (ones (by rfl)) q77).trans (by rw [hw77]; rfl)) ?_
    refine wpR_nil ?_
    refine wpC_seq ?_
    refine wpC_cut (fun ρ => ρ 1 = (Value.pointer (some (Addr.mk b9 0 none))) ∧ ρ 5 = (Value.pointer (some (Addr.mk b34 0 none))) ∧ ρ 6 = (Value.pointer (some (Addr.mk b35 0 none))) ∧ ρ 7 = (Value.pointer (some (Addr.mk b36 0 none))) ∧ ρ 8 = (Value.bool l46.1) ∧ ρ 10 = (Sl.v r47) ∧ True) ⟨e1, e5, e6, e7, e8, e10, trivial⟩ ?_
    rintro ρ ⟨e1, e5, e6, e7, e8, e10, -⟩
    refine wpC_region ?_
    refine wpR_val (v := (Sl.v r47)) (w' := w21) rfl rfl rfl (x_move (v := (Sl.v r47)) rfl e10) ?_
    refine wpR_val (v := (Value.pointer (some ((Addr.mk b9 0 none).add 4)))) (w' := w21) rfl rfl rfl (x_fieldAddr rfl e1 FA_24_4) ?_
    obtain ⟨x78, q78, h⟩ := h
    refine wpR_val (v := (Value.bool x78)) (w' := w21) rfl rfl rfl (x_load1 rfl rfl SH_4 q78) ?_
    refine wpR_val (v := (Value.bool x78)) (w' := w21) rfl rfl rfl (x_move (v := (Value.bool x78)) rfl rfl) ?_
    refine wpR_joinJ 3 (fun (_ : Unit) ρ => ρ 83 = Value.bool (x78 && (!l46.1)) ∧ ρ 1 = (Value.pointer (some (Addr.mk b9 0 none))) ∧ ρ 5 = (Value.pointer (some (Addr.mk b34 0 none))) ∧ ρ 6 = (Value.pointer (some (Addr.mk b35 0 none))) ∧ ρ 7 = (Value.pointer (some (Addr.mk b36 0 none))) ∧ ρ 10 = (Sl.v r47) ∧ ρ 77 = (Sl.v r47) ∧ True) (fun _ w => w21 = w) ?_ ?_
    · clear h
      rcases Bool.eq_false_or_eq_true (x78) with hc80 | hc80
      · skip
        refine wpR_val (v := (Value.bool l46.1)) (w' := w21) (wantG rfl rfl rfl hc80) rfl rfl (x_move (v := (Value.bool l46.1)) rfl e8) ?_
        refine wpR_val (v := (Value.bool (!l46.1))) (w' := w21) (wantG rfl rfl rfl hc80) rfl rfl (x_not rfl rfl) ?_
        refine wpR_val (v := (Value.bool (!l46.1))) (w' := w21) rfl rfl rfl (x_pickT (v := (Value.bool (!l46.1))) rfl rfl hc80 rfl) ?_
        refine wpR_nil ?_
        exact ⟨(), ⟨(by rw [hc80]; rfl), e1, e5, e6, e7, e10, rfl, trivial⟩, rfl⟩
      · skip
        refine wpR_pass (wantN rfl rfl rfl hc80) rfl rfl ?_
        refine wpR_pass (wantN rfl rfl rfl hc80) rfl rfl ?_
        refine wpR_val (v := (Value.bool false)) (w' := w21) rfl rfl rfl (x_pickF (v := (Value.bool false)) rfl rfl hc80 rfl) ?_
        refine wpR_nil ?_
        exact ⟨(), ⟨(by rw [hc80]; rfl), e1, e5, e6, e7, e10, rfl, trivial⟩, rfl⟩
    rintro _ ρ wj ⟨e83, e1, e5, e6, e7, e10, e77, -⟩ rfl
    obtain ⟨x81, q81, x82, q82, h⟩ := h
    refine wpR_val (v := (Value.agg #[(Value.int .i64 x81), (Value.int .i64 x82)])) (w' := w21) rfl rfl rfl (x_loadN [(Value.int .i64 x81), (Value.int .i64 x82)] rfl e5 SH_46 (CellsAt.out (CellsAt.cons q81 (CellsAt.cons q82 CellsAt.nil)))) ?_
    refine wpR_val (v := (Value.agg #[(Value.bool (x78 && (!l46.1))), (Value.int .i64 x81), (Value.int .i64 x82)])) (w' := w21) rfl rfl rfl (x_build (qs := [(0, (Value.bool (x78 && (!l46.1)))), (1, (Value.agg #[(Value.int .i64 x81), (Value.int .i64 x82)]))]) rfl (bl_cons e83 (bl_cons rfl bl_nil)) (BD_72_0_1 (x78 && (!l46.1)) x81 x82 _)) ?_
    refine wpR_val (v := (Value.pointer (some ((Addr.mk b9 0 none).add 4)))) (w' := w21) rfl rfl rfl (x_fieldAddr rfl e1 FA_24_4) ?_
    obtain ⟨x83, q83, h⟩ := h
    refine wpR_val (v := (Value.bool x83)) (w' := w21) rfl rfl rfl (x_load1 rfl rfl SH_4 q83) ?_
    refine wpR_val (v := (Value.agg #[(Value.int .i64 0), (Value.int .i64 1)])) (w' := w21) rfl rfl rfl (x_build (qs := [(0, (Value.int .i64 0)), (1, (Value.int .i64 1))]) rfl (by rfl) (BD_46_0_1 0 1 _)) ?_
    refine wpR_val (v := (Value.agg #[(Value.bool x83), (Value.int .i64 0), (Value.int .i64 1)])) (w' := w21) rfl rfl rfl (x_build (qs := [(0, (Value.bool x83)), (1, (Value.agg #[(Value.int .i64 0), (Value.int .i64 1)]))]) rfl (by rfl) (BD_72_0_1 x83 0 1 _)) ?_
    obtain ⟨x84, q84, x85, q85, h⟩ := h
    refine wpR_val (v := (Value.agg #[(Value.int .i64 x84), (Value.int .i64 x85)])) (w' := w21) rfl rfl rfl (x_loadN [(Value.int .i64 x84), (Value.int .i64 x85)] rfl e7 SH_46 (CellsAt.out (CellsAt.cons q84 (CellsAt.cons q85 CellsAt.nil)))) ?_
    refine wpR_val (v := (Value.agg #[(Value.bool true), (Value.int .i64 x84), (Value.int .i64 x85)])) (w' := w21) rfl rfl rfl (x_build (qs := [(0, (Value.bool true)), (1, (Value.agg #[(Value.int .i64 x84), (Value.int .i64 x85)]))]) rfl (by rfl) (BD_72_0_1 true x84 x85 _)) ?_
    obtain ⟨b86, hb86⟩ : ∃ u, u = w21.heap.size := ⟨_, rfl⟩
    obtain ⟨w22, hw86⟩ : ∃ u, u = w21.alloc (.cells #[(Value.bool (x78 && (!l46.1))), (Value.int .i64 x81), (Value.int .i64 x82), (Value.bool x83), (Value.int .i64 0), (Value.int .i64 1), (Value.bool true), (Value.int .i64 x84), (Value.int .i64 x85)] 72) := ⟨_, rfl⟩
    replace h := h b86 w22 hb86 hw86
    refine wpR_val (v := (Sl.v (⟨some ⟨b86, 0, none⟩, 3, 3⟩ : Sl))) (w' := w22) rfl rfl rfl ((x_buildSlice (qs := [(0, (Value.agg #[(Value.bool (x78 && (!l46.1))), (Value.int .i64 x81), (Value.int .i64 x82)])), (1, (Value.agg #[(Value.bool x83), (Value.int .i64 0), (Value.int .i64 1)])), (2, (Value.agg #[(Value.bool true), (Value.int .i64 x84), (Value.int .i64 x85)]))]) rfl (by rfl) (BS_85_3_0_1_2 (x78 && (!l46.1)) x81 x82 x83 0 1 true x84 x85)).trans (by rw [← hb86, ← hw86])) ?_
    refine wpR_enter rfl rfl rfl (x_call (vs := [(Sl.v (⟨some ⟨b86, 0, none⟩, 3, 3⟩ : Sl))]) rfl rfl (mapl_cons rfl mapl_nil) Try.func43 NN_43 NB_43) (Calls.mono h ?_)
    rintro _ w23 ⟨r87, rfl, h⟩
    refine ⟨_, rfl, ?_⟩
    obtain ⟨q88, z88, r88, h⟩ := h
    generalize hp88 : z88.add ((4 : Int).toNat * 2) = p88 at h
    refine wpR_val (v := (Value.pointer (some p88))) (w' := w23) rfl rfl rfl ((x_indexAddr (s := r47) rfl e77 rfl ES_25 q88 r88).trans (by rw [hp88])) ?_
    obtain ⟨q89, h⟩ := h
    obtain ⟨w24, hw89⟩ : ∃ u, u = setAll w23 p88 [(Value.int .i64 r87.1), (Value.int .i64 r87.2)] 0 := ⟨_, rfl⟩
    replace h := h w24 hw89
    refine wpR_skp (w' := w24) rfl rfl ((x_store (v := (Value.agg #[(Value.int .i64 r87.1), (Value.int .i64 r87.2)])) rfl rfl rfl SZ_46 (ones (by rfl)) q89).trans (by rw [hw89]; rfl)) ?_
    refine wpR_nil ?_
    refine wpC_seq ?_
    refine wpC_cut (fun ρ => ρ 1 = (Value.pointer (some (Addr.mk b9 0 none))) ∧ ρ 5 = (Value.pointer (some (Addr.mk b34 0 none))) ∧ ρ 6 = (Value.pointer (some (Addr.mk b35 0 none))) ∧ ρ 10 = (Sl.v r47) ∧ True) ⟨e1, e5, e6, e10, trivial⟩ ?_
    rintro ρ ⟨e1, e5, e6, e10, -⟩
    refine wpC_region ?_
    refine wpR_val (v := (Sl.v r47)) (w' := w24) rfl rfl rfl (x_move (v := (Sl.v r47)) rfl e10) ?_
    refine wpR_val (v := (Value.pointer (some ((Addr.mk b9 0 none).add 5)))) (w' := w24) rfl rfl rfl (x_fieldAddr rfl e1 FA_24_5) ?_
    obtain ⟨x90, q90, h⟩ := h
    refine wpR_val (v := (Value.int .i64 x90)) (w' := w24) rfl rfl rfl (x_load1 rfl rfl SH_3 q90) ?_
    refine wpR_val (v := (Value.bool (decide (x90 = 2)))) (w' := w24) rfl rfl rfl (x_eql rfl rfl rfl) ?_
    obtain ⟨x91, q91, x92, q92, h⟩ := h
    refine wpR_val (v := (Value.agg #[(Value.int .i64 x91), (Value.int .i64 x92)])) (w' := w24) rfl rfl rfl (x_loadN [(Value.int .i64 x91), (Value.int .i64 x92)] rfl e5 SH_46 (CellsAt.out (CellsAt.cons q91 (CellsAt.cons q92 CellsAt.nil)))) ?_
    refine wpR_val (v := (Value.agg #[(Value.bool (decide (x90 = 2))), (Value.int .i64 x91), (Value.int .i64 x92)])) (w' := w24) rfl rfl rfl (x_build (qs := [(0, (Value.bool (decide (x90 = 2)))), (1, (Value.agg #[(Value.int .i64 x91), (Value.int .i64 x92)]))]) rfl (by rfl) (BD_72_0_1 (decide (x90 = 2)) x91 x92 _)) ?_
    refine wpR_val (v := (Value.pointer (some ((Addr.mk b9 0 none).add 5)))) (w' := w24) rfl rfl rfl (x_fieldAddr rfl e1 FA_24_5) ?_
    obtain ⟨x93, q93, h⟩ := h
    refine wpR_val (v := (Value.int .i64 x93)) (w' := w24) rfl rfl rfl (x_load1 rfl rfl SH_3 q93) ?_
    refine wpR_val (v := (Value.bool (decide (x93 = 1)))) (w' := w24) rfl rfl rfl (x_eql rfl rfl rfl) ?_
    refine wpR_val (v := (Value.agg #[(Value.int .i64 2), (Value.int .i64 1)])) (w' := w24) rfl rfl rfl (x_build (qs := [(0, (Value.int .i64 2)), (1, (Value.int .i64 1))]) rfl (by rfl) (BD_46_0_1 2 1 _)) ?_
    refine wpR_val (v := (Value.agg #[(Value.bool (decide (x93 = 1))), (Value.int .i64 2), (Value.int .i64 1)])) (w' := w24) rfl rfl rfl (x_build (qs := [(0, (Value.bool (decide (x93 = 1)))), (1, (Value.agg #[(Value.int .i64 2), (Value.int .i64 1)]))]) rfl (by rfl) (BD_72_0_1 (decide (x93 = 1)) 2 1 _)) ?_
    obtain ⟨x94, q94, x95, q95, h⟩ := h
    refine wpR_val (v := (Value.agg #[(Value.int .i64 x94), (Value.int .i64 x95)])) (w' := w24) rfl rfl rfl (x_loadN [(Value.int .i64 x94), (Value.int .i64 x95)] rfl e6 SH_46 (CellsAt.out (CellsAt.cons q94 (CellsAt.cons q95 CellsAt.nil)))) ?_
    refine wpR_val (v := (Value.agg #[(Value.bool true), (Value.int .i64 x94), (Value.int .i64 x95)])) (w' := w24) rfl rfl rfl (x_build (qs := [(0, (Value.bool true)), (1, (Value.agg #[(Value.int .i64 x94), (Value.int .i64 x95)]))]) rfl (by rfl) (BD_72_0_1 true x94 x95 _)) ?_
    obtain ⟨b96, hb96⟩ : ∃ u, u = w24.heap.size := ⟨_, rfl⟩
    obtain ⟨w25, hw96⟩ : ∃ u, u = w24.alloc (.cells #[(Value.bool (decide (x90 = 2))), (Value.int .i64 x91), (Value.int .i64 x92), (Value.bool (decide (x93 = 1))), (Value.int .i64 2), (Value.int .i64 1), (Value.bool true), (Value.int .i64 x94), (Value.int .i64 x95)] 72) := ⟨_, rfl⟩
    replace h := h b96 w25 hb96 hw96
    refine wpR_val (v := (Sl.v (⟨some ⟨b96, 0, none⟩, 3, 3⟩ : Sl))) (w' := w25) rfl rfl rfl ((x_buildSlice (qs := [(0, (Value.agg #[(Value.bool (decide (x90 = 2))), (Value.int .i64 x91), (Value.int .i64 x92)])), (1, (Value.agg #[(Value.bool (decide (x93 = 1))), (Value.int .i64 2), (Value.int .i64 1)])), (2, (Value.agg #[(Value.bool true), (Value.int .i64 x94), (Value.int .i64 x95)]))]) rfl (by rfl) (BS_85_3_0_1_2 (decide (x90 = 2)) x91 x92 (decide (x93 = 1)) 2 1 true x94 x95)).trans (by rw [← hb96, ← hw96])) ?_
    refine wpR_enter rfl rfl rfl (x_call (vs := [(Sl.v (⟨some ⟨b96, 0, none⟩, 3, 3⟩ : Sl))]) rfl rfl (mapl_cons rfl mapl_nil) Try.func43 NN_43 NB_43) (Calls.mono h ?_)
    rintro _ w26 ⟨r97, rfl, h⟩
    refine ⟨_, rfl, ?_⟩
    obtain ⟨q98, z98, r98, h⟩ := h
    generalize hp98 : z98.add ((5 : Int).toNat * 2) = p98 at h
    refine wpR_val (v := (Value.pointer (some p98))) (w' := w26) rfl rfl rfl ((x_indexAddr (s := r47) rfl rfl rfl ES_25 q98 r98).trans (by rw [hp98])) ?_
    obtain ⟨q99, h⟩ := h
    obtain ⟨w27, hw99⟩ : ∃ u, u = setAll w26 p98 [(Value.int .i64 r97.1), (Value.int .i64 r97.2)] 0 := ⟨_, rfl⟩
    replace h := h w27 hw99
    refine wpR_skp (w' := w27) rfl rfl ((x_store (v := (Value.agg #[(Value.int .i64 r97.1), (Value.int .i64 r97.2)])) rfl rfl rfl SZ_46 (ones (by rfl)) q99).trans (by rw [hw99]; rfl)) ?_
    refine wpR_nil ?_
    refine wpC_seq ?_
    refine wpC_cut (fun ρ => ρ 1 = (Value.pointer (some (Addr.mk b9 0 none))) ∧ ρ 5 = (Value.pointer (some (Addr.mk b34 0 none))) ∧ ρ 6 = (Value.pointer (some (Addr.mk b35 0 none))) ∧ ρ 10 = (Sl.v r47) ∧ True) ⟨e1, e5, e6, e10, trivial⟩ ?_
    rintro ρ ⟨e1, e5, e6, e10, -⟩
    refine wpC_region ?_
    refine wpR_val (v := (Sl.v r47)) (w' := w27) rfl rfl rfl (x_move (v := (Sl.v r47)) rfl e10) ?_
    refine wpR_val (v := (Value.pointer (some ((Addr.mk b9 0 none).add 6)))) (w' := w27) rfl rfl rfl (x_fieldAddr rfl e1 FA_24_6) ?_
    obtain ⟨x100, q100, h⟩ := h
    refine wpR_val (v := (Value.bool x100)) (w' := w27) rfl rfl rfl (x_load1 rfl rfl SH_4 q100) ?_
    obtain ⟨x101, q101, x102, q102, h⟩ := h
    refine wpR_val (v := (Value.agg #[(Value.int .i64 x101), (Value.int .i64 x102)])) (w' := w27) rfl rfl rfl (x_loadN [(Value.int .i64 x101), (Value.int .i64 x102)] rfl e5 SH_46 (CellsAt.out (CellsAt.cons q101 (CellsAt.cons q102 CellsAt.nil)))) ?_
    refine wpR_val (v := (Value.agg #[(Value.bool x100), (Value.int .i64 x101), (Value.int .i64 x102)])) (w' := w27) rfl rfl rfl (x_build (qs := [(0, (Value.bool x100)), (1, (Value.agg #[(Value.int .i64 x101), (Value.int .i64 x102)]))]) rfl (by rfl) (BD_72_0_1 x100 x101 x102 _)) ?_
    obtain ⟨x103, q103, x104, q104, h⟩ := h
    refine wpR_val (v := (Value.agg #[(Value.int .i64 x103), (Value.int .i64 x104)])) (w' := w27) rfl rfl rfl (x_loadN [(Value.int .i64 x103), (Value.int .i64 x104)] rfl e6 SH_46 (CellsAt.out (CellsAt.cons q103 (CellsAt.cons q104 CellsAt.nil)))) ?_
    refine wpR_val (v := (Value.agg #[(Value.bool true), (Value.int .i64 x103), (Value.int .i64 x104)])) (w' := w27) rfl rfl rfl (x_build (qs := [(0, (Value.bool true)), (1, (Value.agg #[(Value.int .i64 x103), (Value.int .i64 x104)]))]) rfl (by rfl) (BD_72_0_1 true x103 x104 _)) ?_
    obtain ⟨b105, hb105⟩ : ∃ u, u = w27.heap.size := ⟨_, rfl⟩
    obtain ⟨w28, hw105⟩ : ∃ u, u = w27.alloc (.cells #[(Value.bool x100), (Value.int .i64 x101), (Value.int .i64 x102), (Value.bool true), (Value.int .i64 x103), (Value.int .i64 x104)] 72) := ⟨_, rfl⟩
    replace h := h b105 w28 hb105 hw105
    refine wpR_val (v := (Sl.v (⟨some ⟨b105, 0, none⟩, 2, 2⟩ : Sl))) (w' := w28) rfl rfl rfl ((x_buildSlice (qs := [(0, (Value.agg #[(Value.bool x100), (Value.int .i64 x101), (Value.int .i64 x102)])), (1, (Value.agg #[(Value.bool true), (Value.int .i64 x103), (Value.int .i64 x104)]))]) rfl (by rfl) (BS_85_2_0_1 x100 x101 x102 true x103 x104)).trans (by rw [← hb105, ← hw105])) ?_
    refine wpR_enter rfl rfl rfl (x_call (vs := [(Sl.v (⟨some ⟨b105, 0, none⟩, 2, 2⟩ : Sl))]) rfl rfl (mapl_cons rfl mapl_nil) Try.func43 NN_43 NB_43) (Calls.mono h ?_)
    rintro _ w29 ⟨r106, rfl, h⟩
    refine ⟨_, rfl, ?_⟩
    obtain ⟨q107, z107, r107, h⟩ := h
    generalize hp107 : z107.add ((6 : Int).toNat * 2) = p107 at h
    refine wpR_val (v := (Value.pointer (some p107))) (w' := w29) rfl rfl rfl ((x_indexAddr (s := r47) rfl rfl rfl ES_25 q107 r107).trans (by rw [hp107])) ?_
    obtain ⟨q108, h⟩ := h
    obtain ⟨w30, hw108⟩ : ∃ u, u = setAll w29 p107 [(Value.int .i64 r106.1), (Value.int .i64 r106.2)] 0 := ⟨_, rfl⟩
    replace h := h w30 hw108
    refine wpR_skp (w' := w30) rfl rfl ((x_store (v := (Value.agg #[(Value.int .i64 r106.1), (Value.int .i64 r106.2)])) rfl rfl rfl SZ_46 (ones (by rfl)) q108).trans (by rw [hw108]; rfl)) ?_
    refine wpR_nil ?_
    refine wpC_seq ?_
    refine wpC_cut (fun ρ => ρ 1 = (Value.pointer (some (Addr.mk b9 0 none))) ∧ ρ 5 = (Value.pointer (some (Addr.mk b34 0 none))) ∧ ρ 6 = (Value.pointer (some (Addr.mk b35 0 none))) ∧ ρ 10 = (Sl.v r47) ∧ True) ⟨e1, e5, e6, e10, trivial⟩ ?_
    rintro ρ ⟨e1, e5, e6, e10, -⟩
    refine wpC_region ?_
    refine wpR_val (v := (Sl.v r47)) (w' := w30) rfl rfl rfl (x_move (v := (Sl.v r47)) rfl e10) ?_
    refine wpR_val (v := (Value.pointer (some ((Addr.mk b9 0 none).add 7)))) (w' := w30) rfl rfl rfl (x_fieldAddr rfl e1 FA_24_7) ?_
    obtain ⟨x109, q109, h⟩ := h
    refine wpR_val (v := (Value.bool x109)) (w' := w30) rfl rfl rfl (x_load1 rfl rfl SH_4 q109) ?_
    obtain ⟨x110, q110, x111, q111, h⟩ := h
    refine wpR_val (v := (Value.agg #[(Value.int .i64 x110), (Value.int .i64 x111)])) (w' := w30) rfl rfl rfl (x_loadN [(Value.int .i64 x110), (Value.int .i64 x111)] rfl e5 SH_46 (CellsAt.out (CellsAt.cons q110 (CellsAt.cons q111 CellsAt.nil)))) ?_
    refine wpR_val (v := (Value.agg #[(Value.bool x109), (Value.int .i64 x110), (Value.int .i64 x111)])) (w' := w30) rfl rfl rfl (x_build (qs := [(0, (Value.bool x109)), (1, (Value.agg #[(Value.int .i64 x110), (Value.int .i64 x111)]))]) rfl (by rfl) (BD_72_0_1 x109 x110 x111 _)) ?_
    obtain ⟨x112, q112, x113, q113, h⟩ := h
    refine wpR_val (v := (Value.agg #[(Value.int .i64 x112), (Value.int .i64 x113)])) (w' := w30) rfl rfl rfl (x_loadN [(Value.int .i64 x112), (Value.int .i64 x113)] rfl e6 SH_46 (CellsAt.out (CellsAt.cons q112 (CellsAt.cons q113 CellsAt.nil)))) ?_
    refine wpR_val (v := (Value.agg #[(Value.bool true), (Value.int .i64 x112), (Value.int .i64 x113)])) (w' := w30) rfl rfl rfl (x_build (qs := [(0, (Value.bool true)), (1, (Value.agg #[(Value.int .i64 x112), (Value.int .i64 x113)]))]) rfl (by rfl) (BD_72_0_1 true x112 x113 _)) ?_
    obtain ⟨b114, hb114⟩ : ∃ u, u = w30.heap.size := ⟨_, rfl⟩
    obtain ⟨w31, hw114⟩ : ∃ u, u = w30.alloc (.cells #[(Value.bool x109), (Value.int .i64 x110), (Value.int .i64 x111), (Value.bool true), (Value.int .i64 x112), (Value.int .i64 x113)] 72) := ⟨_, rfl⟩
    replace h := h b114 w31 hb114 hw114
    refine wpR_val (v := (Sl.v (⟨some ⟨b114, 0, none⟩, 2, 2⟩ : Sl))) (w' := w31) rfl rfl rfl ((x_buildSlice (qs := [(0, (Value.agg #[(Value.bool x109), (Value.int .i64 x110), (Value.int .i64 x111)])), (1, (Value.agg #[(Value.bool true), (Value.int .i64 x112), (Value.int .i64 x113)]))]) rfl (by rfl) (BS_85_2_0_1 x109 x110 x111 true x112 x113)).trans (by rw [← hb114, ← hw114])) ?_
    refine wpR_enter rfl rfl rfl (x_call (vs := [(Sl.v (⟨some ⟨b114, 0, none⟩, 2, 2⟩ : Sl))]) rfl rfl (mapl_cons rfl mapl_nil) Try.func43 NN_43 NB_43) (Calls.mono h ?_)
    rintro _ w32 ⟨r115, rfl, h⟩
    refine ⟨_, rfl, ?_⟩
    obtain ⟨q116, z116, r116, h⟩ := h
    generalize hp116 : z116.add ((7 : Int).toNat * 2) = p116 at h
    refine wpR_val (v := (Value.pointer (some p116))) (w' := w32) rfl rfl rfl ((x_indexAddr (s := r47) rfl rfl rfl ES_25 q116 r116).trans (by rw [hp116])) ?_
    obtain ⟨q117, h⟩ := h
    obtain ⟨w33, hw117⟩ : ∃ u, u = setAll w32 p116 [(Value.int .i64 r115.1), (Value.int .i64 r115.2)] 0 := ⟨_, rfl⟩
    replace h := h w33 hw117
    refine wpR_skp (w' := w33) rfl rfl ((x_store (v := (Value.agg #[(Value.int .i64 r115.1), (Value.int .i64 r115.2)])) rfl rfl rfl SZ_46 (ones (by rfl)) q117).trans (by rw [hw117]; rfl)) ?_
    refine wpR_nil ?_
    refine wpC_seq ?_
    refine wpC_cut (fun ρ => ρ 1 = (Value.pointer (some (Addr.mk b9 0 none))) ∧ ρ 5 = (Value.pointer (some (Addr.mk b34 0 none))) ∧ ρ 6 = (Value.pointer (some (Addr.mk b35 0 none))) ∧ ρ 10 = (Sl.v r47) ∧ True) ⟨e1, e5, e6, e10, trivial⟩ ?_
    rintro ρ ⟨e1, e5, e6, e10, -⟩
    refine wpC_region ?_
    refine wpR_val (v := (Sl.v r47)) (w' := w33) rfl rfl rfl (x_move (v := (Sl.v r47)) rfl e10) ?_
    refine wpR_val (v := (Value.pointer (some ((Addr.mk b9 0 none).add 10)))) (w' := w33) rfl rfl rfl (x_fieldAddr rfl e1 FA_24_10) ?_
    obtain ⟨x118, q118, h⟩ := h
    refine wpR_val (v := (Value.int .i64 x118)) (w' := w33) rfl rfl rfl (x_load1 rfl rfl SH_3 q118) ?_
    refine wpR_val (v := (Value.bool (decide (x118 = 4)))) (w' := w33) rfl rfl rfl (x_eql rfl rfl rfl) ?_
    obtain ⟨x119, q119, x120, q120, h⟩ := h
    refine wpR_val (v := (Value.agg #[(Value.int .i64 x119), (Value.int .i64 x120)])) (w' := w33) rfl rfl rfl (x_loadN [(Value.int .i64 x119), (Value.int .i64 x120)] rfl e5 SH_46 (CellsAt.out (CellsAt.cons q119 (CellsAt.cons q120 CellsAt.nil)))) ?_
    refine wpR_val (v := (Value.agg #[(Value.bool (decide (x118 = 4))), (Value.int .i64 x119), (Value.int .i64 x120)])) (w' := w33) rfl rfl rfl (x_build (qs := [(0, (Value.bool (decide (x118 = 4)))), (1, (Value.agg #[(Value.int .i64 x119), (Value.int .i64 x120)]))]) rfl (by rfl) (BD_72_0_1 (decide (x118 = 4)) x119 x120 _)) ?_
    refine wpR_val (v := (Value.pointer (some ((Addr.mk b9 0 none).add 10)))) (w' := w33) rfl rfl rfl (x_fieldAddr rfl e1 FA_24_10) ?_
    obtain ⟨x121, q121, h⟩ := h
    refine wpR_val (v := (Value.int .i64 x121)) (w' := w33) rfl rfl rfl (x_load1 rfl rfl SH_3 q121) ?_
    refine wpR_val (v := (Value.bool (decide (0 < x121)))) (w' := w33) rfl rfl rfl (x_gtr rfl rfl rfl) ?_
    refine wpR_val (v := (Value.agg #[(Value.int .i64 4), (Value.int .i64 1)])) (w' := w33) rfl rfl rfl (x_build (qs := [(0, (Value.int .i64 4)), (1, (Value.int .i64 1))]) rfl (by rfl) (BD_46_0_1 4 1 _)) ?_
    refine wpR_val (v := (Value.agg #[(Value.bool (decide (0 < x121))), (Value.int .i64 4), (Value.int .i64 1)])) (w' := w33) rfl rfl rfl (x_build (qs := [(0, (Value.bool (decide (0 < x121)))), (1, (Value.agg #[(Value.int .i64 4), (Value.int .i64 1)]))]) rfl (by rfl) (BD_72_0_1 (decide (0 < x121)) 4 1 _)) ?_
    obtain ⟨x122, q122, x123, q123, h⟩ := h
    refine wpR_val (v := (Value.agg #[(Value.int .i64 x122), (Value.int .i64 x123)])) (w' := w33) rfl rfl rfl (x_loadN [(Value.int .i64 x122), (Value.int .i64 x123)] rfl e6 SH_46 (CellsAt.out (CellsAt.cons q122 (CellsAt.cons q123 CellsAt.nil)))) ?_
    refine wpR_val (v := (Value.agg #[(Value.bool true), (Value.int .i64 x122), (Value.int .i64 x123)])) (w' := w33) rfl rfl rfl (x_build (qs := [(0, (Value.bool true)), (1, (Value.agg #[(Value.int .i64 x122), (Value.int .i64 x123)]))]) rfl (by rfl) (BD_72_0_1 true x122 x123 _)) ?_
    obtain ⟨b124, hb124⟩ : ∃ u, u = w33.heap.size := ⟨_, rfl⟩
    obtain ⟨w34, hw124⟩ : ∃ u, u = w33.alloc (.cells #[(Value.bool (decide (x118 = 4))), (Value.int .i64 x119), (Value.int .i64 x120), (Value.bool (decide (0 < x121))), (Value.int .i64 4), (Value.int .i64 1), (Value.bool true), (Value.int .i64 x122), (Value.int .i64 x123)] 72) := ⟨_, rfl⟩
    replace h := h b124 w34 hb124 hw124
    refine wpR_val (v := (Sl.v (⟨some ⟨b124, 0, none⟩, 3, 3⟩ : Sl))) (w' := w34) rfl rfl rfl ((x_buildSlice (qs := [(0, (Value.agg #[(Value.bool (decide (x118 = 4))), (Value.int .i64 x119), (Value.int .i64 x120)])), (1, (Value.agg #[(Value.bool (decide (0 < x121))), (Value.int .i64 4), (Value.int .i64 1)])), (2, (Value.agg #[(Value.bool true), (Value.int .i64 x122), (Value.int .i64 x123)]))]) rfl (by rfl) (BS_85_3_0_1_2 (decide (x118 = 4)) x119 x120 (decide (0 < x121)) 4 1 true x122 x123)).trans (by rw [← hb124, ← hw124])) ?_
    refine wpR_enter rfl rfl rfl (x_call (vs := [(Sl.v (⟨some ⟨b124, 0, none⟩, 3, 3⟩ : Sl))]) rfl rfl (mapl_cons rfl mapl_nil) Try.func43 NN_43 NB_43) (Calls.mono h ?_)
    rintro _ w35 ⟨r125, rfl, h⟩
    refine ⟨_, rfl, ?_⟩
    obtain ⟨q126, z126, r126, h⟩ := h
    generalize hp126 : z126.add ((8 : Int).toNat * 2) = p126 at h
    refine wpR_val (v := (Value.pointer (some p126))) (w' := w35) rfl rfl rfl ((x_indexAddr (s := r47) rfl rfl rfl ES_25 q126 r126).trans (by rw [hp126])) ?_
    obtain ⟨q127, h⟩ := h
    obtain ⟨w36, hw127⟩ : ∃ u, u = setAll w35 p126 [(Value.int .i64 r125.1), (Value.int .i64 r125.2)] 0 := ⟨_, rfl⟩
    replace h := h w36 hw127
    refine wpR_skp (w' := w36) rfl rfl ((x_store (v := (Value.agg #[(Value.int .i64 r125.1), (Value.int .i64 r125.2)])) rfl rfl rfl SZ_46 (ones (by rfl)) q127).trans (by rw [hw127]; rfl)) ?_
    refine wpR_nil ?_
    refine wpC_seq ?_
    refine wpC_cut (fun ρ => ρ 10 = (Sl.v r47) ∧ True) ⟨e10, trivial⟩ ?_
    rintro ρ ⟨e10, -⟩
    refine wpC_region ?_
    refine wpR_val (v := (Sl.v r47)) (w' := w36) rfl rfl rfl (x_move (v := (Sl.v r47)) rfl e10) ?_
    refine wpR_val (v := (Sl.v r47)) (w' := w36) rfl rfl rfl (x_assign (v := (Sl.v r47)) rfl rfl) ?_
    refine wpR_val (v := (Value.int .i64 0)) (w' := w36) rfl rfl rfl (x_assign (v := (Value.int .i64 0)) rfl rfl) ?_
    refine wpR_nil ?_
    refine wpC_ret ?_
    exact ⟨.inl rfl, fun a ha => ⟨_, results_rep2 rfl ha rfl rfl, (r47, 0), rfl, h⟩⟩

/-- lingualaw20.certified -/
def F20 (p0_0 : ByteArray) (p0_1 : Int) (p0_2 : Int) (p0_3 : Int) (p0_4 : Bool) (p0_5 : Int) (p0_6 : Bool) (p0_7 : Bool) (p0_8 : Int) (p0_9 : Int) (p0_10 : Int) (p0_11 : Int) (p0_12 : Sl) (p0_13 : Int) (p0_14 : Int) (p0_15 : Int) (p0_16 : Int) (p0_17 : Bool) (p0_18 : Int) (p0_19 : Int) (p0_20 : Int) (p0_21 : Int) (w0 : World) (K : (Sl × Bool) → World → Prop) : Prop :=
  nw 24 (A23 p0_0 p0_1 p0_2 p0_3 p0_4 p0_5 p0_6 p0_7 p0_8 p0_9 p0_10 p0_11 p0_12 p0_13 p0_14 p0_15 p0_16 p0_17 p0_18 p0_19 p0_20 p0_21) w0 fun b9 w1 =>
  L23 (Addr.mk b9 0 none) w1 fun x10 x11 x12 x13 x14 x15 x16 x17 x18 x19 x20 x21 x22 x23 x24 x25 x26 x27 x28 x29 x30 x31 =>
  callC Try.prog 18 #[(V23 x10 x11 x12 x13 x14 x15 x16 x17 x18 x19 x20 x21 x22 x23 x24 x25 x26 x27 x28 x29 x30 x31)] (fun (r : Sl × Int) => (Value.tuple #[(Sl.v r.1), (Value.int .i64 r.2)])) w1 fun r32 w2 =>
  cnd (!decide (r32.2 = 0))
    (
    K (Sl.nil, false) w2
    )
    (
    L23 (Addr.mk b9 0 none) w2 fun x34 x35 x36 x37 x38 x39 x40 x41 x42 x43 x44 x45 x46 x47 x48 x49 x50 x51 x52 x53 x54 x55 =>
    callC Try.prog 10 #[(V23 x34 x35 x36 x37 x38 x39 x40 x41 x42 x43 x44 x45 x46 x47 x48 x49 x50 x51 x52 x53 x54 x55), (Sl.v r32.1)] (fun (r : Sl × Int) => (Value.tuple #[(Sl.v r.1), (Value.int .i64 r.2)])) w2 fun r56 w3 =>
    K (r56.1, decide (r56.2 = 0)) w3
    )
set_option maxRecDepth 100000 in
theorem D20 (p0_0 : ByteArray) (p0_1 : Int) (p0_2 : Int) (p0_3 : Int) (p0_4 : Bool) (p0_5 : Int) (p0_6 : Bool) (p0_7 : Bool) (p0_8 : Int) (p0_9 : Int) (p0_10 : Int) (p0_11 : Int) (p0_12 : Sl) (p0_13 : Int) (p0_14 : Int) (p0_15 : Int) (p0_16 : Int) (p0_17 : Bool) (p0_18 : Int) (p0_19 : Int) (p0_20 : Int) (p0_21 : Int) (w0 : World) (K : (Sl × Bool) → World → Prop) (h : F20 p0_0 p0_1 p0_2 p0_3 p0_4 p0_5 p0_6 p0_7 p0_8 p0_9 p0_10 p0_11 p0_12 p0_13 p0_14 p0_15 p0_16 p0_17 p0_18 p0_19 p0_20 p0_21 w0 K) : callC Try.prog 20 #[(V23 p0_0 p0_1 p0_2 p0_3 p0_4 p0_5 p0_6 p0_7 p0_8 p0_9 p0_10 p0_11 p0_12 p0_13 p0_14 p0_15 p0_16 p0_17 p0_18 p0_19 p0_20 p0_21)] (fun (r : Sl × Bool) => (Value.tuple #[(Sl.v r.1), (Value.bool r.2)])) w0 K := by
  unfold F20 at h
  refine calls_of_wpC Try.func20 rfl 24 rfl (by simp) ?_
  intro ρ hρ
  have e0 : ρ 0 = (V23 p0_0 p0_1 p0_2 p0_3 p0_4 p0_5 p0_6 p0_7 p0_8 p0_9 p0_10 p0_11 p0_12 p0_13 p0_14 p0_15 p0_16 p0_17 p0_18 p0_19 p0_20 p0_21) := hρ 0
  clear hρ
  refine wpC_seq ?_
  refine wpC_region ?_
  obtain ⟨b9, hb9⟩ : ∃ u, u = w0.heap.size := ⟨_, rfl⟩
  obtain ⟨w1, hw9⟩ : ∃ u, u = w0.alloc (.cells (A23 p0_0 p0_1 p0_2 p0_3 p0_4 p0_5 p0_6 p0_7 p0_8 p0_9 p0_10 p0_11 p0_12 p0_13 p0_14 p0_15 p0_16 p0_17 p0_18 p0_19 p0_20 p0_21) 24) := ⟨_, rfl⟩
  replace h := h b9 w1 hb9 hw9
  refine wpR_val (v := (Value.pointer (some (Addr.mk b9 0 none)))) (w' := w1) rfl rfl rfl ((x_box (v := (V23 p0_0 p0_1 p0_2 p0_3 p0_4 p0_5 p0_6 p0_7 p0_8 p0_9 p0_10 p0_11 p0_12 p0_13 p0_14 p0_15 p0_16 p0_17 p0_18 p0_19 p0_20 p0_21)) rfl e0).trans (by rw [hb9, hw9]; rfl)) ?_
  refine wpR_val (v := (Sl.v Sl.nil)) (w' := w1) rfl rfl rfl (x_assign (v := (Sl.v Sl.nil)) rfl rfl) ?_
  refine wpR_val (v := (Value.bool false)) (w' := w1) rfl rfl rfl (x_assign (v := (Value.bool false)) rfl rfl) ?_
  refine wpR_nil ?_
  refine wpC_seq ?_
  refine wpC_cut (fun ρ => ρ 1 = (Value.pointer (some (Addr.mk b9 0 none))) ∧ True) ⟨rfl, trivial⟩ ?_
  rintro ρ ⟨e1, -⟩
  refine wpC_region ?_
  obtain ⟨x10, q10, x11, q11, x12, q12, x13, q13, x14, q14, x15, q15, x16, q16, x17, q17, x18, q18, x19, q19, x20, q20, x21, q21, x22, q22, x23, q23, x24, q24, x25, q25, x26, q26, x27, q27, x28, q28, x29, q29, x30, q30, x31, q31, h⟩ := h
  refine wpR_val (v := (V23 x10 x11 x12 x13 x14 x15 x16 x17 x18 x19 x20 x21 x22 x23 x24 x25 x26 x27 x28 x29 x30 x31)) (w' := w1) rfl rfl rfl (x_loadN (S23 x10 x11 x12 x13 x14 x15 x16 x17 x18 x19 x20 x21 x22 x23 x24 x25 x26 x27 x28 x29 x30 x31) rfl e1 SH_24 (K23 ⟨q10, q11, q12, q13, q14, q15, q16, q17, q18, q19, q20, q21, q22, q23, q24, q25, q26, q27, q28, q29, q30, q31⟩)) ?_
  refine wpR_enter rfl rfl rfl (x_call (vs := [(V23 x10 x11 x12 x13 x14 x15 x16 x17 x18 x19 x20 x21 x22 x23 x24 x25 x26 x27 x28 x29 x30 x31)]) rfl rfl (mapl_cons rfl mapl_nil) Try.func18 NN_18 NB_18) (Calls.mono h ?_)
  rintro _ w2 ⟨r32, rfl, h⟩
  refine ⟨_, rfl, ?_⟩
  refine wpR_val (v := (Value.tuple #[(Sl.v r32.1), (Value.int .i64 r32.2)])) (w' := w2) rfl rfl rfl (x_move (v := (Value.tuple #[(Sl.v r32.1), (Value.int .i64 r32.2)])) rfl rfl) ?_
  refine wpR_val (v := (Sl.v r32.1)) (w' := w2) rfl rfl rfl (x_extract rfl rfl rfl) ?_
  refine wpR_val (v := (Value.int .i64 r32.2)) (w' := w2) rfl rfl rfl (x_extract rfl rfl rfl) ?_
  refine wpR_val (v := (Sl.v r32.1)) (w' := w2) rfl rfl rfl (x_assign (v := (Sl.v r32.1)) rfl rfl) ?_
  refine wpR_val (v := (Value.int .i64 r32.2)) (w' := w2) rfl rfl rfl (x_assign (v := (Value.int .i64 r32.2)) rfl rfl) ?_
  refine wpR_nil ?_
  refine wpC_seq ?_
  refine wpC_seq ?_
  refine wpC_cut (fun ρ => ρ 1 = (Value.pointer (some (Addr.mk b9 0 none))) ∧ ρ 4 = (Sl.v r32.1) ∧ ρ 5 = (Value.int .i64 r32.2) ∧ True) ⟨e1, rfl, rfl, trivial⟩ ?_
  rintro ρ ⟨e1, e4, e5, -⟩
  refine wpC_region ?_
  refine wpR_val (v := (Value.int .i64 r32.2)) (w' := w2) rfl rfl rfl (x_move (v := (Value.int .i64 r32.2)) rfl e5) ?_
  refine wpR_val (v := (Value.bool (!decide (r32.2 = 0)))) (w' := w2) rfl rfl rfl (x_neq rfl rfl rfl) ?_
  refine wpR_nil ?_
  refine wpC_cond (b := !decide (r32.2 = 0)) rfl (fun hc33 => ?_) (fun hc33 => ?_)
  · replace h := h.1 hc33
    refine wpC_seq ?_
    refine wpC_cut (fun ρ => True) trivial ?_
    rintro ρ -
    refine wpC_region ?_
    refine wpR_val (v := (Sl.v Sl.nil)) (w' := w2) rfl rfl rfl (x_assign (v := (Sl.v Sl.nil)) rfl rfl) ?_
    refine wpR_val (v := (Value.bool false)) (w' := w2) rfl rfl rfl (x_assign (v := (Value.bool false)) rfl rfl) ?_
    refine wpR_nil ?_
    refine wpC_ret ?_
    exact ⟨.inl rfl, fun a ha => ⟨_, results_rep2 rfl ha rfl rfl, (Sl.nil, false), rfl, h⟩⟩
  · replace h := h.2 hc33
    refine wpC_skip ?_
    refine wpC_seq ?_
    refine wpC_cut (fun ρ => ρ 1 = (Value.pointer (some (Addr.mk b9 0 none))) ∧ ρ 4 = (Sl.v r32.1) ∧ True) ⟨e1, e4, trivial⟩ ?_
    rintro ρ ⟨e1, e4, -⟩
    refine wpC_region ?_
    obtain ⟨x34, q34, x35, q35, x36, q36, x37, q37, x38, q38, x39, q39, x40, q40, x41, q41, x42, q42, x43, q43, x44, q44, x45, q45, x46, q46, x47, q47, x48, q48, x49, q49, x50, q50, x51, q51, x52, q52, x53, q53, x54, q54, x55, q55, h⟩ := h
    refine wpR_val (v := (V23 x34 x35 x36 x37 x38 x39 x40 x41 x42 x43 x44 x45 x46 x47 x48 x49 x50 x51 x52 x53 x54 x55)) (w' := w2) rfl rfl rfl (x_loadN (S23 x34 x35 x36 x37 x38 x39 x40 x41 x42 x43 x44 x45 x46 x47 x48 x49 x50 x51 x52 x53 x54 x55) rfl e1 SH_24 (K23 ⟨q34, q35, q36, q37, q38, q39, q40, q41, q42, q43, q44, q45, q46, q47, q48, q49, q50, q51, q52, q53, q54, q55⟩)) ?_
    refine wpR_val (v := (Sl.v r32.1)) (w' := w2) rfl rfl rfl (x_move (v := (Sl.v r32.1)) rfl e4) ?_
    refine wpR_enter rfl rfl rfl (x_call (vs := [(V23 x34 x35 x36 x37 x38 x39 x40 x41 x42 x43 x44 x45 x46 x47 x48 x49 x50 x51 x52 x53 x54 x55), (Sl.v r32.1)]) rfl rfl (mapl_cons rfl (mapl_cons rfl mapl_nil)) Try.func10 NN_10 NB_10) (Calls.mono h ?_)
    rintro _ w3 ⟨r56, rfl, h⟩
    refine ⟨_, rfl, ?_⟩
    refine wpR_val (v := (Value.tuple #[(Sl.v r56.1), (Value.int .i64 r56.2)])) (w' := w3) rfl rfl rfl (x_move (v := (Value.tuple #[(Sl.v r56.1), (Value.int .i64 r56.2)])) rfl rfl) ?_
    refine wpR_val (v := (Sl.v r56.1)) (w' := w3) rfl rfl rfl (x_extract rfl rfl rfl) ?_
    refine wpR_val (v := (Value.int .i64 r56.2)) (w' := w3) rfl rfl rfl (x_extract rfl rfl rfl) ?_
    refine wpR_val (v := (Sl.v r56.1)) (w' := w3) rfl rfl rfl (x_assign (v := (Sl.v r56.1)) rfl rfl) ?_
    refine wpR_val (v := (Value.int .i64 r56.2)) (w' := w3) rfl rfl rfl (x_assign (v := (Value.int .i64 r56.2)) rfl rfl) ?_
    refine wpR_nil ?_
    refine wpC_seq ?_
    refine wpC_cut (fun ρ => ρ 6 = (Sl.v r56.1) ∧ ρ 7 = (Value.int .i64 r56.2) ∧ True) ⟨rfl, rfl, trivial⟩ ?_
    rintro ρ ⟨e6, e7, -⟩
    refine wpC_region ?_
    refine wpR_val (v := (Sl.v r56.1)) (w' := w3) rfl rfl rfl (x_move (v := (Sl.v r56.1)) rfl e6) ?_
    refine wpR_val (v := (Value.int .i64 r56.2)) (w' := w3) rfl rfl rfl (x_move (v := (Value.int .i64 r56.2)) rfl e7) ?_
    refine wpR_val (v := (Value.bool (decide (r56.2 = 0)))) (w' := w3) rfl rfl rfl (x_eql rfl rfl rfl) ?_
    refine wpR_val (v := (Sl.v r56.1)) (w' := w3) rfl rfl rfl (x_assign (v := (Sl.v r56.1)) rfl rfl) ?_
    refine wpR_val (v := (Value.bool (decide (r56.2 = 0)))) (w' := w3) rfl rfl rfl (x_assign (v := (Value.bool (decide (r56.2 = 0)))) rfl rfl) ?_
    refine wpR_nil ?_
    refine wpC_ret ?_
    exact ⟨.inl rfl, fun a ha => ⟨_, results_rep2 rfl ha rfl rfl, (r56.1, decide (r56.2 = 0)), rfl, h⟩⟩

/-- profile.AtMost -/
def F23 (p0_0 : ByteArray) (p0_1 : Int) (p0_2 : Int) (p0_3 : Int) (p0_4 : Bool) (p0_5 : Int) (p0_6 : Bool) (p0_7 : Bool) (p0_8 : Int) (p0_9 : Int) (p0_10 : Int) (p0_11 : Int) (p0_12 : Sl) (p0_13 : Int) (p0_14 : Int) (p0_15 : Int) (p0_16 : Int) (p0_17 : Bool) (p0_18 : Int) (p0_19 : Int) (p0_20 : Int) (p0_21 : Int) (p1_0 : ByteArray) (p1_1 : Int) (p1_2 : Int) (p1_3 : Int) (p1_4 : Bool) (p1_5 : Int) (p1_6 : Bool) (p1_7 : Bool) (p1_8 : Int) (p1_9 : Int) (p1_10 : Int) (p1_11 : Int) (p1_12 : Sl) (p1_13 : Int) (p1_14 : Int) (p1_15 : Int) (p1_16 : Int) (p1_17 : Bool) (p1_18 : Int) (p1_19 : Int) (p1_20 : Int) (p1_21 : Int) (w0 : World) (K : Bool → World → Prop) : Prop :=
  nw 24 (A23 p0_0 p0_1 p0_2 p0_3 p0_4 p0_5 p0_6 p0_7 p0_8 p0_9 p0_10 p0_11 p0_12 p0_13 p0_14 p0_15 p0_16 p0_17 p0_18 p0_19 p0_20 p0_21) w0 fun b9 w1 =>
  nw 24 (A23 p1_0 p1_1 p1_2 p1_3 p1_4 p1_5 p1_6 p1_7 p1_8 p1_9 p1_10 p1_11 p1_12 p1_13 p1_14 p1_15 p1_16 p1_17 p1_18 p1_19 p1_20 p1_21) w1 fun b10 w2 =>
  ld (Value.int .i64) ((Addr.mk b9 0 none).add 1) w2 fun x11 =>
  ld (Value.int .i64) ((Addr.mk b10 0 none).add 1) w2 fun x12 =>
  jp (fun J13 => cnd (decide (x11 ≤ x12))
    (
    ld (Value.int .i64) ((Addr.mk b9 0 none).add 3) w2 fun x15 =>
    ld (Value.int .i64) ((Addr.mk b10 0 none).add 3) w2 fun x16 =>
    J13 (decide (x15 ≤ x16))
    )
    (
    J13 false
    ))
  fun c17 =>
  jp (fun J18 => cnd (c17)
    (
    ld (Value.int .i64) ((Addr.mk b9 0 none).add 5) w2 fun x20 =>
    ld (Value.int .i64) ((Addr.mk b10 0 none).add 5) w2 fun x21 =>
    J18 (decide (x20 ≤ x21))
    )
    (
    J18 false
    ))
  fun c22 =>
  jp (fun J23 => cnd (c22)
    (
    ld (Value.int .i64) ((Addr.mk b9 0 none).add 8) w2 fun x25 =>
    ld (Value.int .i64) ((Addr.mk b10 0 none).add 8) w2 fun x26 =>
    J23 (decide (x25 ≤ x26))
    )
    (
    J23 false
    ))
  fun c27 =>
  jp (fun J28 => cnd (c27)
    (
    ld (Value.int .i64) ((Addr.mk b9 0 none).add 9) w2 fun x30 =>
    ld (Value.int .i64) ((Addr.mk b10 0 none).add 9) w2 fun x31 =>
    J28 (decide (x30 ≤ x31))
    )
    (
    J28 false
    ))
  fun c32 =>
  jp (fun J33 => cnd (c32)
    (
    ld (Value.int .i64) ((Addr.mk b9 0 none).add 10) w2 fun x35 =>
    ld (Value.int .i64) ((Addr.mk b10 0 none).add 10) w2 fun x36 =>
    J33 (decide (x35 ≤ x36))
    )
    (
    J33 false
    ))
  fun c37 =>
  jp (fun J38 => cnd (c37)
    (
    ld (Value.int .i64) ((Addr.mk b9 0 none).add 11) w2 fun x40 =>
    ld (Value.int .i64) ((Addr.mk b10 0 none).add 11) w2 fun x41 =>
    J38 (decide (x40 ≤ x41))
    )
    (
    J38 false
    ))
  fun c42 =>
  jp (fun J43 => cnd (c42)
    (
    ld (Value.int .i64) ((Addr.mk b9 0 none).add 16) w2 fun x45 =>
    ld (Value.int .i64) ((Addr.mk b10 0 none).add 16) w2 fun x46 =>
    J43 (decide (x45 ≤ x46))
    )
    (
    J43 false
    ))
  fun c47 =>
  ld Value.bool ((Addr.mk b9 0 none).add 4) w2 fun x48 =>
  jp (fun J49 => cnd (!x48)
    (
    J49 true
    )
    (
    ld Value.bool ((Addr.mk b10 0 none).add 4) w2 fun x51 =>
    J49 x51
    ))
  fun c52 =>
  jp (fun J53 => cnd (c52)
    (
    ld Value.bool ((Addr.mk b9 0 none).add 6) w2 fun x55 =>
    jp (fun J56 => cnd (!x55)
      (
      J56 true
      )
      (
      ld Value.bool ((Addr.mk b10 0 none).add 6) w2 fun x58 =>
      J56 x58
      ))
    fun c59 =>
    J53 c59
    )
    (
    J53 false
    ))
  fun c60 =>
  jp (fun J61 => cnd (c60)
    (
    ld Value.bool ((Addr.mk b9 0 none).add 7) w2 fun x63 =>
    jp (fun J64 => cnd (!x63)
      (
      J64 true
      )
      (
      ld Value.bool ((Addr.mk b10 0 none).add 7) w2 fun x66 =>
      J64 x66
      ))
    fun c67 =>
    J61 c67
    )
    (
    J61 false
    ))
  fun c68 =>
  ld (Value.int .i64) ((Addr.mk b9 0 none).add 1) w2 fun x69 =>
  jp (fun J70 => cnd (decide (x69 = 0))
    (
    J70 true
    )
    (
    ld (Value.int .i64) ((Addr.mk b10 0 none).add 2) w2 fun x72 =>
    J70 (decide (x72 = 0))
    ))
  fun c73 =>
  jp (fun J74 => cnd (c73)
    (
    J74 true
    )
    (
    ld (Value.int .i64) ((Addr.mk b9 0 none).add 2) w2 fun x76 =>
    jp (fun J77 => cnd (!decide (x76 = 0))
      (
      ld (Value.int .i64) ((Addr.mk b9 0 none).add 2) w2 fun x79 =>
      ld (Value.int .i64) ((Addr.mk b10 0 none).add 2) w2 fun x80 =>
      J77 (decide (x79 ≤ x80))
      )
      (
      J77 false
      ))
    fun c81 =>
    J74 c81
    ))
  fun c82 =>
  jn (fun J87 => cnd ((c47 && c68) && c82)
    (
    ld Sl.v ((Addr.mk b9 0 none).add 12) w2 fun x89 =>
    callC Try.prog 47 #[(Sl.v x89), (Value.func (.func 46) #[] (List.toArray [(Value.pointer (some (Addr.mk b10 0 none)))]))] (fun (r : Bool) => (Value.bool r)) w2 fun r90 w3 =>
    J87 (!r90) w3
    )
    (
    J87 false w2
    ))
  fun c91 w4 =>
  K c91 w4
set_option maxRecDepth 100000 in
theorem D23 (p0_0 : ByteArray) (p0_1 : Int) (p0_2 : Int) (p0_3 : Int) (p0_4 : Bool) (p0_5 : Int) (p0_6 : Bool) (p0_7 : Bool) (p0_8 : Int) (p0_9 : Int) (p0_10 : Int) (p0_11 : Int) (p0_12 : Sl) (p0_13 : Int) (p0_14 : Int) (p0_15 : Int) (p0_16 : Int) (p0_17 : Bool) (p0_18 : Int) (p0_19 : Int) (p0_20 : Int) (p0_21 : Int) (p1_0 : ByteArray) (p1_1 : Int) (p1_2 : Int) (p1_3 : Int) (p1_4 : Bool) (p1_5 : Int) (p1_6 : Bool) (p1_7 : Bool) (p1_8 : Int) (p1_9 : Int) (p1_10 : Int) (p1_11 : Int) (p1_12 : Sl) (p1_13 : Int) (p1_14 : Int) (p1_15 : Int) (p1_16 : Int) (p1_17 : Bool) (p1_18 : Int) (p1_19 : Int) (p1_20 : Int) (p1_21 : Int) (w0 : World) (K : Bool → World → Prop) (h : F23 p0_0 p0_1 p0_2 p0_3 p0_4 p0_5 p0_6 p0_7 p0_8 p0_9 p0_10 p0_11 p0_12 p0_13 p0_14 p0_15 p0_16 p0_17 p0_18 p0_19 p0_20 p0_21 p1_0 p1_1 p1_2 p1_3 p1_4 p1_5 p1_6 p1_7 p1_8 p1_9 p1_10 p1_11 p1_12 p1_13 p1_14 p1_15 p1_16 p1_17 p1_18 p1_19 p1_20 p1_21 w0 K) : callC Try.prog 23 #[(V23 p0_0 p0_1 p0_2 p0_3 p0_4 p0_5 p0_6 p0_7 p0_8 p0_9 p0_10 p0_11 p0_12 p0_13 p0_14 p0_15 p0_16 p0_17 p0_18 p0_19 p0_20 p0_21), (V23 p1_0 p1_1 p1_2 p1_3 p1_4 p1_5 p1_6 p1_7 p1_8 p1_9 p1_10 p1_11 p1_12 p1_13 p1_14 p1_15 p1_16 p1_17 p1_18 p1_19 p1_20 p1_21)] (fun (r : Bool) => (Value.bool r)) w0 K := by
  unfold F23 at h
  refine calls_of_wpC Try.func23 rfl 123 rfl (by simp) ?_
  intro ρ hρ
  have e0 : ρ 0 = (V23 p0_0 p0_1 p0_2 p0_3 p0_4 p0_5 p0_6 p0_7 p0_8 p0_9 p0_10 p0_11 p0_12 p0_13 p0_14 p0_15 p0_16 p0_17 p0_18 p0_19 p0_20 p0_21) := hρ 0
  have e1 : ρ 1 = (V23 p1_0 p1_1 p1_2 p1_3 p1_4 p1_5 p1_6 p1_7 p1_8 p1_9 p1_10 p1_11 p1_12 p1_13 p1_14 p1_15 p1_16 p1_17 p1_18 p1_19 p1_20 p1_21) := hρ 1
  clear hρ
  refine wpC_seq ?_
  refine wpC_region ?_
  obtain ⟨b9, hb9⟩ : ∃ u, u = w0.heap.size := ⟨_, rfl⟩
  obtain ⟨w1, hw9⟩ : ∃ u, u = w0.alloc (.cells (A23 p0_0 p0_1 p0_2 p0_3 p0_4 p0_5 p0_6 p0_7 p0_8 p0_9 p0_10 p0_11 p0_12 p0_13 p0_14 p0_15 p0_16 p0_17 p0_18 p0_19 p0_20 p0_21) 24) := ⟨_, rfl⟩
  replace h := h b9 w1 hb9 hw9
  refine wpR_val (v := (Value.pointer (some (Addr.mk b9 0 none)))) (w' := w1) rfl rfl rfl ((x_box (v := (V23 p0_0 p0_1 p0_2 p0_3 p0_4 p0_5 p0_6 p0_7 p0_8 p0_9 p0_10 p0_11 p0_12 p0_13 p0_14 p0_15 p0_16 p0_17 p0_18 p0_19 p0_20 p0_21)) rfl e0).trans (by rw [hb9, hw9]; rfl)) ?_
  obtain ⟨b10, hb10⟩ : ∃ u, u = w1.heap.size := ⟨_, rfl⟩
  obtain ⟨w2, hw10⟩ : ∃ u, u = w1.alloc (.cells (A23 p1_0 p1_1 p1_2 p1_3 p1_4 p1_5 p1_6 p1_7 p1_8 p1_9 p1_10 p1_11 p1_12 p1_13 p1_14 p1_15 p1_16 p1_17 p1_18 p1_19 p1_20 p1_21) 24) := ⟨_, rfl⟩
  replace h := h b10 w2 hb10 hw10
  refine wpR_val (v := (Value.pointer (some (Addr.mk b10 0 none)))) (w' := w2) rfl rfl rfl ((x_box (v := (V23 p1_0 p1_1 p1_2 p1_3 p1_4 p1_5 p1_6 p1_7 p1_8 p1_9 p1_10 p1_11 p1_12 p1_13 p1_14 p1_15 p1_16 p1_17 p1_18 p1_19 p1_20 p1_21)) rfl e1).trans (by rw [hb10, hw10]; rfl)) ?_
  refine wpR_val (v := (Value.bool false)) (w' := w2) rfl rfl rfl (x_assign (v := (Value.bool false)) rfl rfl) ?_
  refine wpR_nil ?_
  refine wpC_seq ?_
  refine wpC_cut (fun ρ => ρ 2 = (Value.pointer (some (Addr.mk b9 0 none))) ∧ ρ 3 = (Value.pointer (some (Addr.mk b10 0 none))) ∧ True) ⟨rfl, rfl, trivial⟩ ?_
  rintro ρ ⟨e2, e3, -⟩
  refine wpC_region ?_
  refine wpR_val (v := (Value.pointer (some ((Addr.mk b9 0 none).add 1)))) (w' := w2) rfl rfl rfl (x_fieldAddr rfl e2 FA_24_1) ?_
  obtain ⟨x11, q11, h⟩ := h
  refine wpR_val (v := (Value.int .i64 x11)) (w' := w2) rfl rfl rfl (x_load1 rfl rfl SH_3 q11) ?_
  refine wpR_val (v := (Value.pointer (some ((Addr.mk b10 0 none).add 1)))) (w' := w2) rfl rfl rfl (x_fieldAddr rfl e3 FA_24_1) ?_
  obtain ⟨x12, q12, h⟩ := h
  refine wpR_val (v := (Value.int .i64 x12)) (w' := w2) rfl rfl rfl (x_load1 rfl rfl SH_3 q12) ?_
  refine wpR_val (v := (Value.bool (decide (x11 ≤ x12)))) (w' := w2) rfl rfl rfl (x_leq rfl rfl rfl) ?_
  refine wpR_val (v := (Value.bool (decide (x11 ≤ x12)))) (w' := w2) rfl rfl rfl (x_move (v := (Value.bool (decide (x11 ≤ x12)))) rfl rfl) ?_
  obtain ⟨J13, h, hk⟩ := h
  refine wpR_joinJ 6 (fun x ρ => ρ 20 = Value.bool x ∧ ρ 2 = (Value.pointer (some (Addr.mk b9 0 none))) ∧ ρ 3 = (Value.pointer (some (Addr.mk b10 0 none))) ∧ True) (fun x w => J13 x ∧ w2 = w) ?_ ?_
  · clear hk
    rcases Bool.eq_false_or_eq_true (decide (x11 ≤ x12)) with hc14 | hc14
    · replace h := h.1 hc14
      refine wpR_val (v := (Value.pointer (some ((Addr.mk b9 0 none).add 3)))) (w' := w2) (wantG rfl rfl rfl hc14) rfl rfl (x_fieldAddr rfl e2 FA_24_3) ?_
      obtain ⟨x15, q15, h⟩ := h
      refine wpR_val (v := (Value.int .i64 x15)) (w' := w2) (wantG rfl rfl rfl hc14) rfl rfl (x_load1 rfl rfl SH_3 q15) ?_
      refine wpR_val (v := (Value.pointer (some ((Addr.mk b10 0 none).add 3)))) (w' := w2) (wantG rfl rfl rfl hc14) rfl rfl (x_fieldAddr rfl e3 FA_24_3) ?_
      obtain ⟨x16, q16, h⟩ := h
      refine wpR_val (v := (Value.int .i64 x16)) (w' := w2) (wantG rfl rfl rfl hc14) rfl rfl (x_load1 rfl rfl SH_3 q16) ?_
      refine wpR_val (v := (Value.bool (decide (x15 ≤ x16)))) (w' := w2) (wantG rfl rfl rfl hc14) rfl rfl (x_leq rfl rfl rfl) ?_
      refine wpR_val (v := (Value.bool (decide (x15 ≤ x16)))) (w' := w2) rfl rfl rfl (x_pickT (v := (Value.bool (decide (x15 ≤ x16)))) rfl rfl hc14 rfl) ?_
      refine wpR_nil ?_
      exact ⟨decide (x15 ≤ x16), ⟨rfl, e2, e3, trivial⟩, h, rfl⟩
    · replace h := h.2 hc14
      refine wpR_pass (wantN rfl rfl rfl hc14) rfl rfl ?_
      refine wpR_pass (wantN rfl rfl rfl hc14) rfl rfl ?_
      refine wpR_pass (wantN rfl rfl rfl hc14) rfl rfl ?_
      refine wpR_pass (wantN rfl rfl rfl hc14) rfl rfl ?_
      refine wpR_pass (wantN rfl rfl rfl hc14) rfl rfl ?_
      refine wpR_val (v := (Value.bool false)) (w' := w2) rfl rfl rfl (x_pickF (v := (Value.bool false)) rfl rfl hc14 rfl) ?_
      refine wpR_nil ?_
      exact ⟨false, ⟨rfl, e2, e3, trivial⟩, h, rfl⟩
  clear h
  rintro c17 ρ wj ⟨e20, e2, e3, -⟩ ⟨h, rfl⟩
  replace h := hk c17 h
  clear hk
  refine wpR_val (v := (Value.bool c17)) (w' := w2) rfl rfl rfl (x_move (v := (Value.bool c17)) rfl e20) ?_
  obtain ⟨J18, h, hk⟩ := h
  refine wpR_joinJ 6 (fun x ρ => ρ 27 = Value.bool x ∧ ρ 2 = (Value.pointer (some (Addr.mk b9 0 none))) ∧ ρ 3 = (Value.pointer (some (Addr.mk b10 0 none))) ∧ True) (fun x w => J18 x ∧ w2 = w) ?_ ?_
  · clear hk
    rcases Bool.eq_false_or_eq_true (c17) with hc19 | hc19
    · replace h := h.1 hc19
      refine wpR_val (v := (Value.pointer (some ((Addr.mk b9 0 none).add 5)))) (w' := w2) (wantG rfl rfl rfl hc19) rfl rfl (x_fieldAddr rfl e2 FA_24_5) ?_
      obtain ⟨x20, q20, h⟩ := h
      refine wpR_val (v := (Value.int .i64 x20)) (w' := w2) (wantG rfl rfl rfl hc19) rfl rfl (x_load1 rfl rfl SH_3 q20) ?_
      refine wpR_val (v := (Value.pointer (some ((Addr.mk b10 0 none).add 5)))) (w' := w2) (wantG rfl rfl rfl hc19) rfl rfl (x_fieldAddr rfl e3 FA_24_5) ?_
      obtain ⟨x21, q21, h⟩ := h
      refine wpR_val (v := (Value.int .i64 x21)) (w' := w2) (wantG rfl rfl rfl hc19) rfl rfl (x_load1 rfl rfl SH_3 q21) ?_
      refine wpR_val (v := (Value.bool (decide (x20 ≤ x21)))) (w' := w2) (wantG rfl rfl rfl hc19) rfl rfl (x_leq rfl rfl rfl) ?_
      refine wpR_val (v := (Value.bool (decide (x20 ≤ x21)))) (w' := w2) rfl rfl rfl (x_pickT (v := (Value.bool (decide (x20 ≤ x21)))) rfl rfl hc19 rfl) ?_
      refine wpR_nil ?_
      exact ⟨decide (x20 ≤ x21), ⟨rfl, e2, e3, trivial⟩, h, rfl⟩
    · replace h := h.2 hc19
      refine wpR_pass (wantN rfl rfl rfl hc19) rfl rfl ?_
      refine wpR_pass (wantN rfl rfl rfl hc19) rfl rfl ?_
      refine wpR_pass (wantN rfl rfl rfl hc19) rfl rfl ?_
      refine wpR_pass (wantN rfl rfl rfl hc19) rfl rfl ?_
      refine wpR_pass (wantN rfl rfl rfl hc19) rfl rfl ?_
      refine wpR_val (v := (Value.bool false)) (w' := w2) rfl rfl rfl (x_pickF (v := (Value.bool false)) rfl rfl hc19 rfl) ?_
      refine wpR_nil ?_
      exact ⟨false, ⟨rfl, e2, e3, trivial⟩, h, rfl⟩
  clear h
  rintro c22 ρ wj ⟨e27, e2, e3, -⟩ ⟨h, rfl⟩
  replace h := hk c22 h
  clear hk
  refine wpR_val (v := (Value.bool c22)) (w' := w2) rfl rfl rfl (x_move (v := (Value.bool c22)) rfl e27) ?_
  obtain ⟨J23, h, hk⟩ := h
  refine wpR_joinJ 6 (fun x ρ => ρ 34 = Value.bool x ∧ ρ 2 = (Value.pointer (some (Addr.mk b9 0 none))) ∧ ρ 3 = (Value.pointer (some (Addr.mk b10 0 none))) ∧ True) (fun x w => J23 x ∧ w2 = w) ?_ ?_
  · clear hk
    rcases Bool.eq_false_or_eq_true (c22) with hc24 | hc24
    · replace h := h.1 hc24
      refine wpR_val (v := (Value.pointer (some ((Addr.mk b9 0 none).add 8)))) (w' := w2) (wantG rfl rfl rfl hc24) rfl rfl (x_fieldAddr rfl e2 FA_24_8) ?_
      obtain ⟨x25, q25, h⟩ := h
      refine wpR_val (v := (Value.int .i64 x25)) (w' := w2) (wantG rfl rfl rfl hc24) rfl rfl (x_load1 rfl rfl SH_3 q25) ?_
      refine wpR_val (v := (Value.pointer (some ((Addr.mk b10 0 none).add 8)))) (w' := w2) (wantG rfl rfl rfl hc24) rfl rfl (x_fieldAddr rfl e3 FA_24_8) ?_
      obtain ⟨x26, q26, h⟩ := h
      refine wpR_val (v := (Value.int .i64 x26)) (w' := w2) (wantG rfl rfl rfl hc24) rfl rfl (x_load1 rfl rfl SH_3 q26) ?_
      refine wpR_val (v := (Value.bool (decide (x25 ≤ x26)))) (w' := w2) (wantG rfl rfl rfl hc24) rfl rfl (x_leq rfl rfl rfl) ?_
      refine wpR_val (v := (Value.bool (decide (x25 ≤ x26)))) (w' := w2) rfl rfl rfl (x_pickT (v := (Value.bool (decide (x25 ≤ x26)))) rfl rfl hc24 rfl) ?_
      refine wpR_nil ?_
      exact ⟨decide (x25 ≤ x26), ⟨rfl, e2, e3, trivial⟩, h, rfl⟩
    · replace h := h.2 hc24
      refine wpR_pass (wantN rfl rfl rfl hc24) rfl rfl ?_
      refine wpR_pass (wantN rfl rfl rfl hc24) rfl rfl ?_
      refine wpR_pass (wantN rfl rfl rfl hc24) rfl rfl ?_
      refine wpR_pass (wantN rfl rfl rfl hc24) rfl rfl ?_
      refine wpR_pass (wantN rfl rfl rfl hc24) rfl rfl ?_
      refine wpR_val (v := (Value.bool false)) (w' := w2) rfl rfl rfl (x_pickF (v := (Value.bool false)) rfl rfl hc24 rfl) ?_
      refine wpR_nil ?_
      exact ⟨false, ⟨rfl, e2, e3, trivial⟩, h, rfl⟩
  clear h
  rintro c27 ρ wj ⟨e34, e2, e3, -⟩ ⟨h, rfl⟩
  replace h := hk c27 h
  clear hk
  refine wpR_val (v := (Value.bool c27)) (w' := w2) rfl rfl rfl (x_move (v := (Value.bool c27)) rfl e34) ?_
  obtain ⟨J28, h, hk⟩ := h
  refine wpR_joinJ 6 (fun x ρ => ρ 41 = Value.bool x ∧ ρ 2 = (Value.pointer (some (Addr.mk b9 0 none))) ∧ ρ 3 = (Value.pointer (some (Addr.mk b10 0 none))) ∧ True) (fun x w => J28 x ∧ w2 = w) ?_ ?_
  · clear hk
    rcases Bool.eq_false_or_eq_true (c27) with hc29 | hc29
    · replace h := h.1 hc29
      refine wpR_val (v := (Value.pointer (some ((Addr.mk b9 0 none).add 9)))) (w' := w2) (wantG rfl rfl rfl hc29) rfl rfl (x_fieldAddr rfl e2 FA_24_9) ?_
      obtain ⟨x30, q30, h⟩ := h
      refine wpR_val (v := (Value.int .i64 x30)) (w' := w2) (wantG rfl rfl rfl hc29) rfl rfl (x_load1 rfl rfl SH_3 q30) ?_
      refine wpR_val (v := (Value.pointer (some ((Addr.mk b10 0 none).add 9)))) (w' := w2) (wantG rfl rfl rfl hc29) rfl rfl (x_fieldAddr rfl e3 FA_24_9) ?_
      obtain ⟨x31, q31, h⟩ := h
      refine wpR_val (v := (Value.int .i64 x31)) (w' := w2) (wantG rfl rfl rfl hc29) rfl rfl (x_load1 rfl rfl SH_3 q31) ?_
      refine wpR_val (v := (Value.bool (decide (x30 ≤ x31)))) (w' := w2) (wantG rfl rfl rfl hc29) rfl rfl (x_leq rfl rfl rfl) ?_
      refine wpR_val (v := (Value.bool (decide (x30 ≤ x31)))) (w' := w2) rfl rfl rfl (x_pickT (v := (Value.bool (decide (x30 ≤ x31)))) rfl rfl hc29 rfl) ?_
      refine wpR_nil ?_
      exact ⟨decide (x30 ≤ x31), ⟨rfl, e2, e3, trivial⟩, h, rfl⟩
    · replace h := h.2 hc29
      refine wpR_pass (wantN rfl rfl rfl hc29) rfl rfl ?_
      refine wpR_pass (wantN rfl rfl rfl hc29) rfl rfl ?_
      refine wpR_pass (wantN rfl rfl rfl hc29) rfl rfl ?_
      refine wpR_pass (wantN rfl rfl rfl hc29) rfl rfl ?_
      refine wpR_pass (wantN rfl rfl rfl hc29) rfl rfl ?_
      refine wpR_val (v := (Value.bool false)) (w' := w2) rfl rfl rfl (x_pickF (v := (Value.bool false)) rfl rfl hc29 rfl) ?_
      refine wpR_nil ?_
      exact ⟨false, ⟨rfl, e2, e3, trivial⟩, h, rfl⟩
  clear h
  rintro c32 ρ wj ⟨e41, e2, e3, -⟩ ⟨h, rfl⟩
  replace h := hk c32 h
  clear hk
  refine wpR_val (v := (Value.bool c32)) (w' := w2) rfl rfl rfl (x_move (v := (Value.bool c32)) rfl e41) ?_
  obtain ⟨J33, h, hk⟩ := h
  refine wpR_joinJ 6 (fun x ρ => ρ 48 = Value.bool x ∧ ρ 2 = (Value.pointer (some (Addr.mk b9 0 none))) ∧ ρ 3 = (Value.pointer (some (Addr.mk b10 0 none))) ∧ True) (fun x w => J33 x ∧ w2 = w) ?_ ?_
  · clear hk
    rcases Bool.eq_false_or_eq_true (c32) with hc34 | hc34
    · replace h := h.1 hc34
      refine wpR_val (v := (Value.pointer (some ((Addr.mk b9 0 none).add 10)))) (w' := w2) (wantG rfl rfl rfl hc34) rfl rfl (x_fieldAddr rfl e2 FA_24_10) ?_
      obtain ⟨x35, q35, h⟩ := h
      refine wpR_val (v := (Value.int .i64 x35)) (w' := w2) (wantG rfl rfl rfl hc34) rfl rfl (x_load1 rfl rfl SH_3 q35) ?_
      refine wpR_val (v := (Value.pointer (some ((Addr.mk b10 0 none).add 10)))) (w' := w2) (wantG rfl rfl rfl hc34) rfl rfl (x_fieldAddr rfl e3 FA_24_10) ?_
      obtain ⟨x36, q36, h⟩ := h
      refine wpR_val (v := (Value.int .i64 x36)) (w' := w2) (wantG rfl rfl rfl hc34) rfl rfl (x_load1 rfl rfl SH_3 q36) ?_
      refine wpR_val (v := (Value.bool (decide (x35 ≤ x36)))) (w' := w2) (wantG rfl rfl rfl hc34) rfl rfl (x_leq rfl rfl rfl) ?_
      refine wpR_val (v := (Value.bool (decide (x35 ≤ x36)))) (w' := w2) rfl rfl rfl (x_pickT (v := (Value.bool (decide (x35 ≤ x36)))) rfl rfl hc34 rfl) ?_
      refine wpR_nil ?_
      exact ⟨decide (x35 ≤ x36), ⟨rfl, e2, e3, trivial⟩, h, rfl⟩
    · replace h := h.2 hc34
      refine wpR_pass (wantN rfl rfl rfl hc34) rfl rfl ?_
      refine wpR_pass (wantN rfl rfl rfl hc34) rfl rfl ?_
      refine wpR_pass (wantN rfl rfl rfl hc34) rfl rfl ?_
      refine wpR_pass (wantN rfl rfl rfl hc34) rfl rfl ?_
      refine wpR_pass (wantN rfl rfl rfl hc34) rfl rfl ?_
      refine wpR_val (v := (Value.bool false)) (w' := w2) rfl rfl rfl (x_pickF (v := (Value.bool false)) rfl rfl hc34 rfl) ?_
      refine wpR_nil ?_
      exact ⟨false, ⟨rfl, e2, e3, trivial⟩, h, rfl⟩
  clear h
  rintro c37 ρ wj ⟨e48, e2, e3, -⟩ ⟨h, rfl⟩
  replace h := hk c37 h
  clear hk
  refine wpR_val (v := (Value.bool c37)) (w' := w2) rfl rfl rfl (x_move (v := (Value.bool c37)) rfl e48) ?_
  obtain ⟨J38, h, hk⟩ := h
  refine wpR_joinJ 6 (fun x ρ => ρ 55 = Value.bool x ∧ ρ 2 = (Value.pointer (some (Addr.mk b9 0 none))) ∧ ρ 3 = (Value.pointer (some (Addr.mk b10 0 none))) ∧ True) (fun x w => J38 x ∧ w2 = w) ?_ ?_
  · clear hk
    rcases Bool.eq_false_or_eq_true (c37) with hc39 | hc39
    · replace h := h.1 hc39
      refine wpR_val (v := (Value.pointer (some ((Addr.mk b9 0 none).add 11)))) (w' := w2) (wantG rfl rfl rfl hc39) rfl rfl (x_fieldAddr rfl e2 FA_24_11) ?_
      obtain ⟨x40, q40, h⟩ := h
      refine wpR_val (v := (Value.int .i64 x40)) (w' := w2) (wantG rfl rfl rfl hc39) rfl rfl (x_load1 rfl rfl SH_3 q40) ?_
      refine wpR_val (v := (Value.pointer (some ((Addr.mk b10 0 none).add 11)))) (w' := w2) (wantG rfl rfl rfl hc39) rfl rfl (x_fieldAddr rfl e3 FA_24_11) ?_
      obtain ⟨x41, q41, h⟩ := h
      refine wpR_val (v := (Value.int .i64 x41)) (w' := w2) (wantG rfl rfl rfl hc39) rfl rfl (x_load1 rfl rfl SH_3 q41) ?_
      refine wpR_val (v := (Value.bool (decide (x40 ≤ x41)))) (w' := w2) (wantG rfl rfl rfl hc39) rfl rfl (x_leq rfl rfl rfl) ?_
      refine wpR_val (v := (Value.bool (decide (x40 ≤ x41)))) (w' := w2) rfl rfl rfl (x_pickT (v := (Value.bool (decide (x40 ≤ x41)))) rfl rfl hc39 rfl) ?_
      refine wpR_nil ?_
      exact ⟨decide (x40 ≤ x41), ⟨rfl, e2, e3, trivial⟩, h, rfl⟩
    · replace h := h.2 hc39
      refine wpR_pass (wantN rfl rfl rfl hc39) rfl rfl ?_
      refine wpR_pass (wantN rfl rfl rfl hc39) rfl rfl ?_
      refine wpR_pass (wantN rfl rfl rfl hc39) rfl rfl ?_
      refine wpR_pass (wantN rfl rfl rfl hc39) rfl rfl ?_
      refine wpR_pass (wantN rfl rfl rfl hc39) rfl rfl ?_
      refine wpR_val (v := (Value.bool false)) (w' := w2) rfl rfl rfl (x_pickF (v := (Value.bool false)) rfl rfl hc39 rfl) ?_
      refine wpR_nil ?_
      exact ⟨false, ⟨rfl, e2, e3, trivial⟩, h, rfl⟩
  clear h
  rintro c42 ρ wj ⟨e55, e2, e3, -⟩ ⟨h, rfl⟩
  replace h := hk c42 h
  clear hk
  refine wpR_val (v := (Value.bool c42)) (w' := w2) rfl rfl rfl (x_move (v := (Value.bool c42)) rfl e55) ?_
  obtain ⟨J43, h, hk⟩ := h
  refine wpR_joinJ 6 (fun x ρ => ρ 62 = Value.bool x ∧ ρ 2 = (Value.pointer (some (Addr.mk b9 0 none))) ∧ ρ 3 = (Value.pointer (some (Addr.mk b10 0 none))) ∧ True) (fun x w => J43 x ∧ w2 = w) ?_ ?_
  · clear hk
    rcases Bool.eq_false_or_eq_true (c42) with hc44 | hc44
    · replace h := h.1 hc44
      refine wpR_val (v := (Value.pointer (some ((Addr.mk b9 0 none).add 16)))) (w' := w2) (wantG rfl rfl rfl hc44) rfl rfl (x_fieldAddr rfl e2 FA_24_16) ?_
      obtain ⟨x45, q45, h⟩ := h
      refine wpR_val (v := (Value.int .i64 x45)) (w' := w2) (wantG rfl rfl rfl hc44) rfl rfl (x_load1 rfl rfl SH_3 q45) ?_
      refine wpR_val (v := (Value.pointer (some ((Addr.mk b10 0 none).add 16)))) (w' := w2) (wantG rfl rfl rfl hc44) rfl rfl (x_fieldAddr rfl e3 FA_24_16) ?_
      obtain ⟨x46, q46, h⟩ := h
      refine wpR_val (v := (Value.int .i64 x46)) (w' := w2) (wantG rfl rfl rfl hc44) rfl rfl (x_load1 rfl rfl SH_3 q46) ?_
      refine wpR_val (v := (Value.bool (decide (x45 ≤ x46)))) (w' := w2) (wantG rfl rfl rfl hc44) rfl rfl (x_leq rfl rfl rfl) ?_
      refine wpR_val (v := (Value.bool (decide (x45 ≤ x46)))) (w' := w2) rfl rfl rfl (x_pickT (v := (Value.bool (decide (x45 ≤ x46)))) rfl rfl hc44 rfl) ?_
      refine wpR_nil ?_
      exact ⟨decide (x45 ≤ x46), ⟨rfl, e2, e3, trivial⟩, h, rfl⟩
    · replace h := h.2 hc44
      refine wpR_pass (wantN rfl rfl rfl hc44) rfl rfl ?_
      refine wpR_pass (wantN rfl rfl rfl hc44) rfl rfl ?_
      refine wpR_pass (wantN rfl rfl rfl hc44) rfl rfl ?_
      refine wpR_pass (wantN rfl rfl rfl hc44) rfl rfl ?_
      refine wpR_pass (wantN rfl rfl rfl hc44) rfl rfl ?_
      refine wpR_val (v := (Value.bool false)) (w' := w2) rfl rfl rfl (x_pickF (v := (Value.bool false)) rfl rfl hc44 rfl) ?_
      refine wpR_nil ?_
      exact ⟨false, ⟨rfl, e2, e3, trivial⟩, h, rfl⟩
  clear h
  rintro c47 ρ wj ⟨e62, e2, e3, -⟩ ⟨h, rfl⟩
  replace h := hk c47 h
  clear hk
  refine wpR_val (v := (Value.bool c47)) (w' := w2) rfl rfl rfl (x_assign (v := (Value.bool c47)) rfl e62) ?_
  refine wpR_nil ?_
  refine wpC_seq ?_
  refine wpC_cut (fun ρ => ρ 2 = (Value.pointer (some (Addr.mk b9 0 none))) ∧ ρ 3 = (Value.pointer (some (Addr.mk b10 0 none))) ∧ ρ 5 = (Value.bool c47) ∧ True) ⟨e2, e3, rfl, trivial⟩ ?_
  rintro ρ ⟨e2, e3, e5, -⟩
  refine wpC_region ?_
  refine wpR_val (v := (Value.pointer (some ((Addr.mk b9 0 none).add 4)))) (w' := w2) rfl rfl rfl (x_fieldAddr rfl e2 FA_24_4) ?_
  obtain ⟨x48, q48, h⟩ := h
  refine wpR_val (v := (Value.bool x48)) (w' := w2) rfl rfl rfl (x_load1 rfl rfl SH_4 q48) ?_
  refine wpR_val (v := (Value.bool (!x48))) (w' := w2) rfl rfl rfl (x_not rfl rfl) ?_
  refine wpR_val (v := (Value.bool (!x48))) (w' := w2) rfl rfl rfl (x_move (v := (Value.bool (!x48))) rfl rfl) ?_
  obtain ⟨J49, h, hk⟩ := h
  refine wpR_joinJ 3 (fun x ρ => ρ 69 = Value.bool x ∧ ρ 2 = (Value.pointer (some (Addr.mk b9 0 none))) ∧ ρ 3 = (Value.pointer (some (Addr.mk b10 0 none))) ∧ ρ 5 = (Value.bool c47) ∧ True) (fun x w => J49 x ∧ w2 = w) ?_ ?_
  · clear hk
    rcases Bool.eq_false_or_eq_true (!x48) with hc50 | hc50
    · replace h := h.1 hc50
      refine wpR_pass (wantN rfl rfl rfl hc50) rfl rfl ?_
      refine wpR_pass (wantN rfl rfl rfl hc50) rfl rfl ?_
      refine wpR_val (v := (Value.bool true)) (w' := w2) rfl rfl rfl (x_pickT (v := (Value.bool true)) rfl rfl hc50 rfl) ?_
      refine wpR_nil ?_
      exact ⟨true, ⟨rfl, e2, e3, e5, trivial⟩, h, rfl⟩
    · replace h := h.2 hc50
      refine wpR_val (v := (Value.pointer (some ((Addr.mk b10 0 none).add 4)))) (w' := w2) (wantG rfl rfl rfl hc50) rfl rfl (x_fieldAddr rfl e3 FA_24_4) ?_
      obtain ⟨x51, q51, h⟩ := h
      refine wpR_val (v := (Value.bool x51)) (w' := w2) (wantG rfl rfl rfl hc50) rfl rfl (x_load1 rfl rfl SH_4 q51) ?_
      refine wpR_val (v := (Value.bool x51)) (w' := w2) rfl rfl rfl (x_pickF (v := (Value.bool x51)) rfl rfl hc50 rfl) ?_
      refine wpR_nil ?_
      exact ⟨x51, ⟨rfl, e2, e3, e5, trivial⟩, h, rfl⟩
  clear h
  rintro c52 ρ wj ⟨e69, e2, e3, e5, -⟩ ⟨h, rfl⟩
  replace h := hk c52 h
  clear hk
  refine wpR_val (v := (Value.bool c52)) (w' := w2) rfl rfl rfl (x_move (v := (Value.bool c52)) rfl e69) ?_
  obtain ⟨J53, h, hk⟩ := h
  refine wpR_joinJ 8 (fun x ρ => ρ 78 = Value.bool x ∧ ρ 2 = (Value.pointer (some (Addr.mk b9 0 none))) ∧ ρ 3 = (Value.pointer (some (Addr.mk b10 0 none))) ∧ ρ 5 = (Value.bool c47) ∧ True) (fun x w => J53 x ∧ w2 = w) ?_ ?_
  · clear hk
    rcases Bool.eq_false_or_eq_true (c52) with hc54 | hc54
    · replace h := h.1 hc54
      refine wpR_val (v := (Value.pointer (some ((Addr.mk b9 0 none).add 6)))) (w' := w2) (wantG rfl rfl rfl hc54) rfl rfl (x_fieldAddr rfl e2 FA_24_6) ?_
      obtain ⟨x55, q55, h⟩ := h
      refine wpR_val (v := (Value.bool x55)) (w' := w2) (wantG rfl rfl rfl hc54) rfl rfl (x_load1 rfl rfl SH_4 q55) ?_
      refine wpR_val (v := (Value.bool (!x55))) (w' := w2) (wantG rfl rfl rfl hc54) rfl rfl (x_not rfl rfl) ?_
      refine wpR_val (v := (Value.bool (!x55))) (w' := w2) (wantG rfl rfl rfl hc54) rfl rfl (x_move (v := (Value.bool (!x55))) rfl rfl) ?_
      obtain ⟨J56, h, hk⟩ := h
      refine wpR_joinJ 3 (fun x ρ => ρ 77 = Value.bool x ∧ ρ 2 = (Value.pointer (some (Addr.mk b9 0 none))) ∧ ρ 3 = (Value.pointer (some (Addr.mk b10 0 none))) ∧ ρ 5 = (Value.bool c47) ∧ ρ 70 = (Value.bool c52) ∧ True) (fun x w => J56 x ∧ w2 = w) ?_ ?_
      · clear hk
        rcases Bool.eq_false_or_eq_true (!x55) with hc57 | hc57
        · replace h := h.1 hc57
          refine wpR_pass (wantN rfl rfl rfl hc57) rfl rfl ?_
          refine wpR_pass (wantN rfl rfl rfl hc57) rfl rfl ?_
          refine wpR_val (v := (Value.bool true)) (w' := w2) (wantG rfl rfl rfl hc54) rfl rfl (x_pickT (v := (Value.bool true)) rfl rfl hc57 rfl) ?_
          refine wpR_nil ?_
          exact ⟨true, ⟨rfl, e2, e3, e5, rfl, trivial⟩, h, rfl⟩
        · replace h := h.2 hc57
          refine wpR_val (v := (Value.pointer (some ((Addr.mk b10 0 none).add 6)))) (w' := w2) (wantG rfl rfl rfl hc57) rfl rfl (x_fieldAddr rfl e3 FA_24_6) ?_
          obtain ⟨x58, q58, h⟩ := h
          refine wpR_val (v := (Value.bool x58)) (w' := w2) (wantG rfl rfl rfl hc57) rfl rfl (x_load1 rfl rfl SH_4 q58) ?_
          refine wpR_val (v := (Value.bool x58)) (w' := w2) (wantG rfl rfl rfl hc54) rfl rfl (x_pickF (v := (Value.bool x58)) rfl rfl hc57 rfl) ?_
          refine wpR_nil ?_
          exact ⟨x58, ⟨rfl, e2, e3, e5, rfl, trivial⟩, h, rfl⟩
      clear h
      rintro c59 ρ wj ⟨e77, e2, e3, e5, e70, -⟩ ⟨h, rfl⟩
      replace h := hk c59 h
      clear hk
      refine wpR_val (v := (Value.bool c59)) (w' := w2) rfl rfl rfl (x_pickT (v := (Value.bool c59)) rfl e70 hc54 e77) ?_
      refine wpR_nil ?_
      exact ⟨c59, ⟨rfl, e2, e3, e5, trivial⟩, h, rfl⟩
    · replace h := h.2 hc54
      refine wpR_pass (wantN rfl rfl rfl hc54) rfl rfl ?_
      refine wpR_pass (wantN rfl rfl rfl hc54) rfl rfl ?_
      refine wpR_pass (wantN rfl rfl rfl hc54) rfl rfl ?_
      refine wpR_pass (wantN rfl rfl rfl hc54) rfl rfl ?_
      refine wpR_pass (wantU rfl rfl rfl) rfl rfl ?_
      refine wpR_pass (wantU rfl rfl rfl) rfl rfl ?_
      refine wpR_pass (wantN rfl rfl rfl hc54) rfl rfl ?_
      refine wpR_val (v := (Value.bool false)) (w' := w2) rfl rfl rfl (x_pickF (v := (Value.bool false)) rfl rfl hc54 rfl) ?_
      refine wpR_nil ?_
      exact ⟨false, ⟨rfl, e2, e3, e5, trivial⟩, h, rfl⟩
  clear h
  rintro c60 ρ wj ⟨e78, e2, e3, e5, -⟩ ⟨h, rfl⟩
  replace h := hk c60 h
  clear hk
  refine wpR_val (v := (Value.bool c60)) (w' := w2) rfl rfl rfl (x_move (v := (Value.bool c60)) rfl e78) ?_
  obtain ⟨J61, h, hk⟩ := h
  refine wpR_joinJ 8 (fun x ρ => ρ 87 = Value.bool x ∧ ρ 2 = (Value.pointer (some (Addr.mk b9 0 none))) ∧ ρ 3 = (Value.pointer (some (Addr.mk b10 0 none))) ∧ ρ 5 = (Value.bool c47) ∧ True) (fun x w => J61 x ∧ w2 = w) ?_ ?_
  · clear hk
    rcases Bool.eq_false_or_eq_true (c60) with hc62 | hc62
    · replace h := h.1 hc62
      refine wpR_val (v := (Value.pointer (some ((Addr.mk b9 0 none).add 7)))) (w' := w2) (wantG rfl rfl rfl hc62) rfl rfl (x_fieldAddr rfl e2 FA_24_7) ?_
      obtain ⟨x63, q63, h⟩ := h
      refine wpR_val (v := (Value.bool x63)) (w' := w2) (wantG rfl rfl rfl hc62) rfl rfl (x_load1 rfl rfl SH_4 q63) ?_
      refine wpR_val (v := (Value.bool (!x63))) (w' := w2) (wantG rfl rfl rfl hc62) rfl rfl (x_not rfl rfl) ?_
      refine wpR_val (v := (Value.bool (!x63))) (w' := w2) (wantG rfl rfl rfl hc62) rfl rfl (x_move (v := (Value.bool (!x63))) rfl rfl) ?_
      obtain ⟨J64, h, hk⟩ := h
      refine wpR_joinJ 3 (fun x ρ => ρ 86 = Value.bool x ∧ ρ 2 = (Value.pointer (some (Addr.mk b9 0 none))) ∧ ρ 3 = (Value.pointer (some (Addr.mk b10 0 none))) ∧ ρ 5 = (Value.bool c47) ∧ ρ 79 = (Value.bool c60) ∧ True) (fun x w => J64 x ∧ w2 = w) ?_ ?_
      · clear hk
        rcases Bool.eq_false_or_eq_true (!x63) with hc65 | hc65
        · replace h := h.1 hc65
          refine wpR_pass (wantN rfl rfl rfl hc65) rfl rfl ?_
          refine wpR_pass (wantN rfl rfl rfl hc65) rfl rfl ?_
          refine wpR_val (v := (Value.bool true)) (w' := w2) (wantG rfl rfl rfl hc62) rfl rfl (x_pickT (v := (Value.bool true)) rfl rfl hc65 rfl) ?_
          refine wpR_nil ?_
          exact ⟨true, ⟨rfl, e2, e3, e5, rfl, trivial⟩, h, rfl⟩
        · replace h := h.2 hc65
          refine wpR_val (v := (Value.pointer (some ((Addr.mk b10 0 none).add 7)))) (w' := w2) (wantG rfl rfl rfl hc65) rfl rfl (x_fieldAddr rfl e3 FA_24_7) ?_
          obtain ⟨x66, q66, h⟩ := h
          refine wpR_val (v := (Value.bool x66)) (w' := w2) (wantG rfl rfl rfl hc65) rfl rfl (x_load1 rfl rfl SH_4 q66) ?_
          refine wpR_val (v := (Value.bool x66)) (w' := w2) (wantG rfl rfl rfl hc62) rfl rfl (x_pickF (v := (Value.bool x66)) rfl rfl hc65 rfl) ?_
          refine wpR_nil ?_
          exact ⟨x66, ⟨rfl, e2, e3, e5, rfl, trivial⟩, h, rfl⟩
      clear h
      rintro c67 ρ wj ⟨e86, e2, e3, e5, e79, -⟩ ⟨h, rfl⟩
      replace h := hk c67 h
      clear hk
      refine wpR_val (v := (Value.bool c67)) (w' := w2) rfl rfl rfl (x_pickT (v := (Value.bool c67)) rfl e79 hc62 e86) ?_
      refine wpR_nil ?_
      exact ⟨c67, ⟨rfl, e2, e3, e5, trivial⟩, h, rfl⟩
    · replace h := h.2 hc62
      refine wpR_pass (wantN rfl rfl rfl hc62) rfl rfl ?_
      refine wpR_pass (wantN rfl rfl rfl hc62) rfl rfl ?_
      refine wpR_pass (wantN rfl rfl rfl hc62) rfl rfl ?_
      refine wpR_pass (wantN rfl rfl rfl hc62) rfl rfl ?_
      refine wpR_pass (wantU rfl rfl rfl) rfl rfl ?_
      refine wpR_pass (wantU rfl rfl rfl) rfl rfl ?_
      refine wpR_pass (wantN rfl rfl rfl hc62) rfl rfl ?_
      refine wpR_val (v := (Value.bool false)) (w' := w2) rfl rfl rfl (x_pickF (v := (Value.bool false)) rfl rfl hc62 rfl) ?_
      refine wpR_nil ?_
      exact ⟨false, ⟨rfl, e2, e3, e5, trivial⟩, h, rfl⟩
  clear h
  rintro c68 ρ wj ⟨e87, e2, e3, e5, -⟩ ⟨h, rfl⟩
  replace h := hk c68 h
  clear hk
  refine wpR_val (v := (Value.bool c68)) (w' := w2) rfl rfl rfl (x_assign (v := (Value.bool c68)) rfl e87) ?_
  refine wpR_nil ?_
  refine wpC_seq ?_
  refine wpC_cut (fun ρ => ρ 2 = (Value.pointer (some (Addr.mk b9 0 none))) ∧ ρ 3 = (Value.pointer (some (Addr.mk b10 0 none))) ∧ ρ 5 = (Value.bool c47) ∧ ρ 6 = (Value.bool c68) ∧ True) ⟨e2, e3, e5, rfl, trivial⟩ ?_
  rintro ρ ⟨e2, e3, e5, e6, -⟩
  refine wpC_region ?_
  refine wpR_val (v := (Value.pointer (some ((Addr.mk b9 0 none).add 1)))) (w' := w2) rfl rfl rfl (x_fieldAddr rfl e2 FA_24_1) ?_
  obtain ⟨x69, q69, h⟩ := h
  refine wpR_val (v := (Value.int .i64 x69)) (w' := w2) rfl rfl rfl (x_load1 rfl rfl SH_3 q69) ?_
  refine wpR_val (v := (Value.bool (decide (x69 = 0)))) (w' := w2) rfl rfl rfl (x_eql rfl rfl rfl) ?_
  refine wpR_val (v := (Value.bool (decide (x69 = 0)))) (w' := w2) rfl rfl rfl (x_move (v := (Value.bool (decide (x69 = 0)))) rfl rfl) ?_
  obtain ⟨J70, h, hk⟩ := h
  refine wpR_joinJ 4 (fun x ρ => ρ 95 = Value.bool x ∧ ρ 2 = (Value.pointer (some (Addr.mk b9 0 none))) ∧ ρ 3 = (Value.pointer (some (Addr.mk b10 0 none))) ∧ ρ 5 = (Value.bool c47) ∧ ρ 6 = (Value.bool c68) ∧ True) (fun x w => J70 x ∧ w2 = w) ?_ ?_
  · clear hk
    rcases Bool.eq_false_or_eq_true (decide (x69 = 0)) with hc71 | hc71
    · replace h := h.1 hc71
      refine wpR_pass (wantN rfl rfl rfl hc71) rfl rfl ?_
      refine wpR_pass (wantN rfl rfl rfl hc71) rfl rfl ?_
      refine wpR_pass (wantN rfl rfl rfl hc71) rfl rfl ?_
      refine wpR_val (v := (Value.bool true)) (w' := w2) rfl rfl rfl (x_pickT (v := (Value.bool true)) rfl rfl hc71 rfl) ?_
      refine wpR_nil ?_
      exact ⟨true, ⟨rfl, e2, e3, e5, e6, trivial⟩, h, rfl⟩
    · replace h := h.2 hc71
      refine wpR_val (v := (Value.pointer (some ((Addr.mk b10 0 none).add 2)))) (w' := w2) (wantG rfl rfl rfl hc71) rfl rfl (x_fieldAddr rfl e3 FA_24_2) ?_
      obtain ⟨x72, q72, h⟩ := h
      refine wpR_val (v := (Value.int .i64 x72)) (w' := w2) (wantG rfl rfl rfl hc71) rfl rfl (x_load1 rfl rfl SH_3 q72) ?_
      refine wpR_val (v := (Value.bool (decide (x72 = 0)))) (w' := w2) (wantG rfl rfl rfl hc71) rfl rfl (x_eql rfl rfl rfl) ?_
      refine wpR_val (v := (Value.bool (decide (x72 = 0)))) (w' := w2) rfl rfl rfl (x_pickF (v := (Value.bool (decide (x72 = 0)))) rfl rfl hc71 rfl) ?_
      refine wpR_nil ?_
      exact ⟨decide (x72 = 0), ⟨rfl, e2, e3, e5, e6, trivial⟩, h, rfl⟩
  clear h
  rintro c73 ρ wj ⟨e95, e2, e3, e5, e6, -⟩ ⟨h, rfl⟩
  replace h := hk c73 h
  clear hk
  refine wpR_val (v := (Value.bool c73)) (w' := w2) rfl rfl rfl (x_move (v := (Value.bool c73)) rfl e95) ?_
  obtain ⟨J74, h, hk⟩ := h
  refine wpR_joinJ 11 (fun x ρ => ρ 107 = Value.bool x ∧ ρ 2 = (Value.pointer (some (Addr.mk b9 0 none))) ∧ ρ 3 = (Value.pointer (some (Addr.mk b10 0 none))) ∧ ρ 5 = (Value.bool c47) ∧ ρ 6 = (Value.bool c68) ∧ True) (fun x w => J74 x ∧ w2 = w) ?_ ?_
  · clear hk
    rcases Bool.eq_false_or_eq_true (c73) with hc75 | hc75
    · replace h := h.1 hc75
      refine wpR_pass (wantN rfl rfl rfl hc75) rfl rfl ?_
      refine wpR_pass (wantN rfl rfl rfl hc75) rfl rfl ?_
      refine wpR_pass (wantN rfl rfl rfl hc75) rfl rfl ?_
      refine wpR_pass (wantN rfl rfl rfl hc75) rfl rfl ?_
      refine wpR_pass (wantU rfl rfl rfl) rfl rfl ?_
      refine wpR_pass (wantU rfl rfl rfl) rfl rfl ?_
      refine wpR_pass (wantU rfl rfl rfl) rfl rfl ?_
      refine wpR_pass (wantU rfl rfl rfl) rfl rfl ?_
      refine wpR_pass (wantU rfl rfl rfl) rfl rfl ?_
      refine wpR_pass (wantN rfl rfl rfl hc75) rfl rfl ?_
      refine wpR_val (v := (Value.bool true)) (w' := w2) rfl rfl rfl (x_pickT (v := (Value.bool true)) rfl rfl hc75 rfl) ?_
      refine wpR_nil ?_
      exact ⟨true, ⟨rfl, e2, e3, e5, e6, trivial⟩, h, rfl⟩
    · replace h := h.2 hc75
      refine wpR_val (v := (Value.pointer (some ((Addr.mk b9 0 none).add 2)))) (w' := w2) (wantG rfl rfl rfl hc75) rfl rfl (x_fieldAddr rfl e2 FA_24_2) ?_
      obtain ⟨x76, q76, h⟩ := h
      refine wpR_val (v := (Value.int .i64 x76)) (w' := w2) (wantG rfl rfl rfl hc75) rfl rfl (x_load1 rfl rfl SH_3 q76) ?_
      refine wpR_val (v := (Value.bool (!decide (x76 = 0)))) (w' := w2) (wantG rfl rfl rfl hc75) rfl rfl (x_neq rfl rfl rfl) ?_
      refine wpR_val (v := (Value.bool (!decide (x76 = 0)))) (w' := w2) (wantG rfl rfl rfl hc75) rfl rfl (x_move (v := (Value.bool (!decide (x76 = 0)))) rfl rfl) ?_
      obtain ⟨J77, h, hk⟩ := h
      refine wpR_joinJ 6 (fun x ρ => ρ 106 = Value.bool x ∧ ρ 2 = (Value.pointer (some (Addr.mk b9 0 none))) ∧ ρ 3 = (Value.pointer (some (Addr.mk b10 0 none))) ∧ ρ 5 = (Value.bool c47) ∧ ρ 6 = (Value.bool c68) ∧ ρ 96 = (Value.bool c73) ∧ True) (fun x w => J77 x ∧ w2 = w) ?_ ?_
      · clear hk
        rcases Bool.eq_false_or_eq_true (!decide (x76 = 0)) with hc78 | hc78
        · replace h := h.1 hc78
          refine wpR_val (v := (Value.pointer (some ((Addr.mk b9 0 none).add 2)))) (w' := w2) (wantG rfl rfl rfl hc78) rfl rfl (x_fieldAddr rfl e2 FA_24_2) ?_
          obtain ⟨x79, q79, h⟩ := h
          refine wpR_val (v := (Value.int .i64 x79)) (w' := w2) (wantG rfl rfl rfl hc78) rfl rfl (x_load1 rfl rfl SH_3 q79) ?_
          refine wpR_val (v := (Value.pointer (some ((Addr.mk b10 0 none).add 2)))) (w' := w2) (wantG rfl rfl rfl hc78) rfl rfl (x_fieldAddr rfl e3 FA_24_2) ?_
          obtain ⟨x80, q80, h⟩ := h
          refine wpR_val (v := (Value.int .i64 x80)) (w' := w2) (wantG rfl rfl rfl hc78) rfl rfl (x_load1 rfl rfl SH_3 q80) ?_
          refine wpR_val (v := (Value.bool (decide (x79 ≤ x80)))) (w' := w2) (wantG rfl rfl rfl hc78) rfl rfl (x_leq rfl rfl rfl) ?_
          refine wpR_val (v := (Value.bool (decide (x79 ≤ x80)))) (w' := w2) (wantG rfl rfl rfl hc75) rfl rfl (x_pickT (v := (Value.bool (decide (x79 ≤ x80)))) rfl rfl hc78 rfl) ?_
          refine wpR_nil ?_
          exact ⟨decide (x79 ≤ x80), ⟨rfl, e2, e3, e5, e6, rfl, trivial⟩, h, rfl⟩
        · replace h := h.2 hc78
          refine wpR_pass (wantN rfl rfl rfl hc78) rfl rfl ?_
          refine wpR_pass (wantN rfl rfl rfl hc78) rfl rfl ?_
          refine wpR_pass (wantN rfl rfl rfl hc78) rfl rfl ?_
          refine wpR_pass (wantN rfl rfl rfl hc78) rfl rfl ?_
          refine wpR_pass (wantN rfl rfl rfl hc78) rfl rfl ?_
          refine wpR_val (v := (Value.bool false)) (w' := w2) (wantG rfl rfl rfl hc75) rfl rfl (x_pickF (v := (Value.bool false)) rfl rfl hc78 rfl) ?_
          refine wpR_nil ?_
          exact ⟨false, ⟨rfl, e2, e3, e5, e6, rfl, trivial⟩, h, rfl⟩
      clear h
      rintro c81 ρ wj ⟨e106, e2, e3, e5, e6, e96, -⟩ ⟨h, rfl⟩
      replace h := hk c81 h
      clear hk
      refine wpR_val (v := (Value.bool c81)) (w' := w2) rfl rfl rfl (x_pickF (v := (Value.bool c81)) rfl e96 hc75 e106) ?_
      refine wpR_nil ?_
      exact ⟨c81, ⟨rfl, e2, e3, e5, e6, trivial⟩, h, rfl⟩
  clear h
  rintro c82 ρ wj ⟨e107, e2, e3, e5, e6, -⟩ ⟨h, rfl⟩
  replace h := hk c82 h
  clear hk
  refine wpR_val (v := (Value.bool c82)) (w' := w2) rfl rfl rfl (x_assign (v := (Value.bool c82)) rfl e107) ?_
  refine wpR_nil ?_
  refine wpC_seq ?_
  refine wpC_cut (fun ρ => ρ 2 = (Value.pointer (some (Addr.mk b9 0 none))) ∧ ρ 3 = (Value.pointer (some (Addr.mk b10 0 none))) ∧ ρ 5 = (Value.bool c47) ∧ ρ 6 = (Value.bool c68) ∧ ρ 7 = (Value.bool c82) ∧ True) ⟨e2, e3, e5, e6, rfl, trivial⟩ ?_
  rintro ρ ⟨e2, e3, e5, e6, e7, -⟩
  refine wpC_region ?_
  refine wpR_val (v := (Value.func (.func 46) #[] (List.toArray [(Value.pointer (some (Addr.mk b10 0 none)))]))) (w' := w2) rfl rfl rfl (x_makeFunc (vs := [(Value.pointer (some (Addr.mk b10 0 none)))]) rfl (mapl_cons e3 mapl_nil)) ?_
  refine wpR_val (v := (Value.func (.func 46) #[] (List.toArray [(Value.pointer (some (Addr.mk b10 0 none)))]))) (w' := w2) rfl rfl rfl (x_assign (v := (Value.func (.func 46) #[] (List.toArray [(Value.pointer (some (Addr.mk b10 0 none)))]))) rfl rfl) ?_
  refine wpR_nil ?_
  refine wpC_seq ?_
  refine wpC_cut (fun ρ => ρ 2 = (Value.pointer (some (Addr.mk b9 0 none))) ∧ ρ 5 = (Value.bool c47) ∧ ρ 6 = (Value.bool c68) ∧ ρ 7 = (Value.bool c82) ∧ ρ 8 = (Value.func (.func 46) #[] (List.toArray [(Value.pointer (some (Addr.mk b10 0 none)))])) ∧ True) ⟨e2, e5, e6, e7, rfl, trivial⟩ ?_
  rintro ρ ⟨e2, e5, e6, e7, e8, -⟩
  refine wpC_region ?_
  refine wpR_val (v := (Value.bool c47)) (w' := w2) rfl rfl rfl (x_move (v := (Value.bool c47)) rfl e5) ?_
  refine wpR_val (v := (Value.bool c47)) (w' := w2) rfl rfl rfl (x_move (v := (Value.bool c47)) rfl rfl) ?_
  refine wpR_joinJ 2 (fun (_ : Unit) ρ => ρ 112 = Value.bool (c47 && c68) ∧ ρ 2 = (Value.pointer (some (Addr.mk b9 0 none))) ∧ ρ 7 = (Value.bool c82) ∧ ρ 8 = (Value.func (.func 46) #[] (List.toArray [(Value.pointer (some (Addr.mk b10 0 none)))])) ∧ True) (fun _ w => w2 = w) ?_ ?_
  · clear h
    rcases Bool.eq_false_or_eq_true (c47) with hc84 | hc84
    · skip
      refine wpR_val (v := (Value.bool c68)) (w' := w2) (wantG rfl rfl rfl hc84) rfl rfl (x_move (v := (Value.bool c68)) rfl e6) ?_
      refine wpR_val (v := (Value.bool c68)) (w' := w2) rfl rfl rfl (x_pickT (v := (Value.bool c68)) rfl rfl hc84 rfl) ?_
      refine wpR_nil ?_
      exact ⟨(), ⟨(by rw [hc84]; rfl), e2, e7, e8, trivial⟩, rfl⟩
    · skip
      refine wpR_pass (wantN rfl rfl rfl hc84) rfl rfl ?_
      refine wpR_val (v := (Value.bool false)) (w' := w2) rfl rfl rfl (x_pickF (v := (Value.bool false)) rfl rfl hc84 rfl) ?_
      refine wpR_nil ?_
      exact ⟨(), ⟨(by rw [hc84]; rfl), e2, e7, e8, trivial⟩, rfl⟩
  rintro _ ρ wj ⟨e112, e2, e7, e8, -⟩ rfl
  refine wpR_val (v := (Value.bool (c47 && c68))) (w' := w2) rfl rfl rfl (x_move (v := (Value.bool (c47 && c68))) rfl e112) ?_
  refine wpR_joinJ 2 (fun (_ : Unit) ρ => ρ 115 = Value.bool ((c47 && c68) && c82) ∧ ρ 2 = (Value.pointer (some (Addr.mk b9 0 none))) ∧ ρ 8 = (Value.func (.func 46) #[] (List.toArray [(Value.pointer (some (Addr.mk b10 0 none)))])) ∧ True) (fun _ w => w2 = w) ?_ ?_
  · clear h
    rcases Bool.eq_false_or_eq_true (c47 && c68) with hc86 | hc86
    · skip
      refine wpR_val (v := (Value.bool c82)) (w' := w2) (wantG rfl rfl rfl hc86) rfl rfl (x_move (v := (Value.bool c82)) rfl e7) ?_
      refine wpR_val (v := (Value.bool c82)) (w' := w2) rfl rfl rfl (x_pickT (v := (Value.bool c82)) rfl rfl hc86 rfl) ?_
      refine wpR_nil ?_
      exact ⟨(), ⟨(by rw [hc86]; rfl), e2, e8, trivial⟩, rfl⟩
    · skip
      refine wpR_pass (wantN rfl rfl rfl hc86) rfl rfl ?_
      refine wpR_val (v := (Value.bool false)) (w' := w2) rfl rfl rfl (x_pickF (v := (Value.bool false)) rfl rfl hc86 rfl) ?_
      refine wpR_nil ?_
      exact ⟨(), ⟨(by rw [hc86]; rfl), e2, e8, trivial⟩, rfl⟩
  rintro _ ρ wj ⟨e115, e2, e8, -⟩ rfl
  refine wpR_val (v := (Value.bool ((c47 && c68) && c82))) (w' := w2) rfl rfl rfl (x_move (v := (Value.bool ((c47 && c68) && c82))) rfl e115) ?_
  obtain ⟨J87, h, hk⟩ := h
  refine wpR_joinJ 6 (fun x ρ => ρ 122 = Value.bool x ∧ True) (J87) ?_ ?_
  · clear hk
    rcases Bool.eq_false_or_eq_true ((c47 && c68) && c82) with hc88 | hc88
    · replace h := h.1 hc88
      refine wpR_val (v := (Value.pointer (some ((Addr.mk b9 0 none).add 12)))) (w' := w2) (wantG rfl rfl rfl hc88) rfl rfl (x_fieldAddr rfl e2 FA_24_12) ?_
      obtain ⟨x89, q89, h⟩ := h
      refine wpR_val (v := (Sl.v x89)) (w' := w2) (wantG rfl rfl rfl hc88) rfl rfl (x_load1 rfl rfl SH_22 q89) ?_
      refine wpR_val (v := (Value.func (.func 46) #[] (List.toArray [(Value.pointer (some (Addr.mk b10 0 none)))]))) (w' := w2) (wantG rfl rfl rfl hc88) rfl rfl (x_move (v := (Value.func (.func 46) #[] (List.toArray [(Value.pointer (some (Addr.mk b10 0 none)))]))) rfl e8) ?_
      refine wpR_enter (wantG rfl rfl rfl hc88) rfl rfl (x_call (vs := [(Sl.v x89), (Value.func (.func 46) #[] (List.toArray [(Value.pointer (some (Addr.mk b10 0 none)))]))]) rfl rfl (mapl_cons rfl (mapl_cons rfl mapl_nil)) Try.func47 NN_47 NB_47) (Calls.mono h ?_)
      rintro _ w3 ⟨r90, rfl, h⟩
      refine ⟨_, rfl, ?_⟩
      refine wpR_val (v := (Value.bool (!r90))) (w' := w3) (wantG rfl rfl rfl hc88) rfl rfl (x_not rfl rfl) ?_
      refine wpR_val (v := (Value.bool (!r90))) (w' := w3) rfl rfl rfl (x_pickT (v := (Value.bool (!r90))) rfl rfl hc88 rfl) ?_
      refine wpR_nil ?_
      exact ⟨!r90, ⟨rfl, trivial⟩, h⟩
    · replace h := h.2 hc88
      refine wpR_pass (wantN rfl rfl rfl hc88) rfl rfl ?_
      refine wpR_pass (wantN rfl rfl rfl hc88) rfl rfl ?_
      refine wpR_pass (wantN rfl rfl rfl hc88) rfl rfl ?_
      refine wpR_pass (wantN rfl rfl rfl hc88) rfl rfl ?_
      refine wpR_pass (wantN rfl rfl rfl hc88) rfl rfl ?_
      refine wpR_val (v := (Value.bool false)) (w' := w2) rfl rfl rfl (x_pickF (v := (Value.bool false)) rfl rfl hc88 rfl) ?_
      refine wpR_nil ?_
      exact ⟨false, ⟨rfl, trivial⟩, h⟩
  clear h
  rintro c91 ρ w4 ⟨e122, -⟩ h
  replace h := hk c91 w4 h
  clear hk
  refine wpR_val (v := (Value.bool c91)) (w' := w4) rfl rfl rfl (x_assign (v := (Value.bool c91)) rfl e122) ?_
  refine wpR_nil ?_
  refine wpC_ret ?_
  exact ⟨.inl rfl, fun a ha => ⟨_, results_rep1 rfl ha rfl, c91, rfl, h⟩⟩

/-- lingualaw20.atLeast -/
def F24 (p0 : Sl) (p1 : Sl) (w0 : World) (K : Bool → World → Prop) : Prop :=
  callC Try.prog 12 #[(Sl.v p0), (Sl.v p1)] (fun (r : Bool) => (Value.bool r)) w0 fun r9 w1 =>
  jn (fun J10 => cnd (r9)
    (
    J10 true w1
    )
    (
    callC Try.prog 15 #[(Sl.v p0), (Sl.v p1)] (fun (r : Bool) => (Value.bool r)) w1 fun r12 w2 =>
    J10 r12 w2
    ))
  fun c13 w3 =>
  K c13 w3
set_option maxRecDepth 100000 in
theorem D24 (p0 : Sl) (p1 : Sl) (w0 : World) (K : Bool → World → Prop) (h : F24 p0 p1 w0 K) : callC Try.prog 24 #[(Sl.v p0), (Sl.v p1)] (fun (r : Bool) => (Value.bool r)) w0 K := by
  unfold F24 at h
  refine calls_of_wpC Try.func24 rfl 13 rfl (by simp) ?_
  intro ρ hρ
  have e0 : ρ 0 = (Sl.v p0) := hρ 0
  have e1 : ρ 1 = (Sl.v p1) := hρ 1
  clear hρ
  refine wpC_seq ?_
  refine wpC_region ?_
  refine wpR_val (v := (Value.bool false)) (w' := w0) rfl rfl rfl (x_assign (v := (Value.bool false)) rfl rfl) ?_
  refine wpR_nil ?_
  refine wpC_seq ?_
  refine wpC_cut (fun ρ => ρ 0 = (Sl.v p0) ∧ ρ 1 = (Sl.v p1) ∧ True) ⟨e0, e1, trivial⟩ ?_
  rintro ρ ⟨e0, e1, -⟩
  refine wpC_region ?_
  refine wpR_val (v := (Sl.v p0)) (w' := w0) rfl rfl rfl (x_move (v := (Sl.v p0)) rfl e0) ?_
  refine wpR_val (v := (Sl.v p1)) (w' := w0) rfl rfl rfl (x_move (v := (Sl.v p1)) rfl e1) ?_
  refine wpR_enter rfl rfl rfl (x_call (vs := [(Sl.v p0), (Sl.v p1)]) rfl rfl (mapl_cons rfl (mapl_cons rfl mapl_nil)) Try.func12 NN_12 NB_12) (Calls.mono h ?_)
  rintro _ w1 ⟨r9, rfl, h⟩
  refine ⟨_, rfl, ?_⟩
  refine wpR_val (v := (Value.bool r9)) (w' := w1) rfl rfl rfl (x_move (v := (Value.bool r9)) rfl rfl) ?_
  obtain ⟨J10, h, hk⟩ := h
  refine wpR_joinJ 4 (fun x ρ => ρ 12 = Value.bool x ∧ True) (J10) ?_ ?_
  · clear hk
    rcases Bool.eq_false_or_eq_true (r9) with hc11 | hc11
    · replace h := h.1 hc11
      refine wpR_pass (wantN rfl rfl rfl hc11) rfl rfl ?_
      refine wpR_pass (wantN rfl rfl rfl hc11) rfl rfl ?_
      refine wpR_pass (wantN rfl rfl rfl hc11) rfl rfl ?_
      refine wpR_val (v := (Value.bool true)) (w' := w1) rfl rfl rfl (x_pickT (v := (Value.bool true)) rfl rfl hc11 rfl) ?_
      refine wpR_nil ?_
      exact ⟨true, ⟨rfl, trivial⟩, h⟩
    · replace h := h.2 hc11
      refine wpR_val (v := (Sl.v p0)) (w' := w1) (wantG rfl rfl rfl hc11) rfl rfl (x_move (v := (Sl.v p0)) rfl e0) ?_
      refine wpR_val (v := (Sl.v p1)) (w' := w1) (wantG rfl rfl rfl hc11) rfl rfl (x_move (v := (Sl.v p1)) rfl e1) ?_
      refine wpR_enter (wantG rfl rfl rfl hc11) rfl rfl (x_call (vs := [(Sl.v p0), (Sl.v p1)]) rfl rfl (mapl_cons rfl (mapl_cons rfl mapl_nil)) Try.func15 NN_15 NB_15) (Calls.mono h ?_)
      rintro _ w2 ⟨r12, rfl, h⟩
      refine ⟨_, rfl, ?_⟩
      refine wpR_val (v := (Value.bool r12)) (w' := w2) rfl rfl rfl (x_pickF (v := (Value.bool r12)) rfl rfl hc11 rfl) ?_
      refine wpR_nil ?_
      exact ⟨r12, ⟨rfl, trivial⟩, h⟩
  clear h
  rintro c13 ρ w3 ⟨e12, -⟩ h
  replace h := hk c13 w3 h
  clear hk
  refine wpR_val (v := (Value.bool c13)) (w' := w3) rfl rfl rfl (x_assign (v := (Value.bool c13)) rfl e12) ?_
  refine wpR_nil ?_
  refine wpC_ret ?_
  exact ⟨.inl rfl, fun a ha => ⟨_, results_rep1 rfl ha rfl, c13, rfl, h⟩⟩

/-- lingualaw20.sample -/
def F25  (w0 : World) (K : T23 → World → Prop) : Prop :=
  nw 24 (A23 (ByteArray.mk #[]) 0 0 0 false 0 false false 0 0 0 0 Sl.nil 0 0 0 0 false 0 0 0 0) w0 fun b9 w1 =>
  nw 9 #[(Value.string (ByteArray.mk #[112, 110, 103]))] w1 fun b10 w2 =>
  st (Addr.mk b9 0 none) (S23 (ByteArray.mk #[112]) 2 0 0 true 1 true false 100 3 2 1000 (⟨some ⟨b10, 0, none⟩, 1, 1⟩ : Sl) 0 0 0 0 false 1 0 1 0) w2 fun w3 =>
  L23 (Addr.mk b9 0 none) w3 fun x12 x13 x14 x15 x16 x17 x18 x19 x20 x21 x22 x23 x24 x25 x26 x27 x28 x29 x30 x31 x32 x33 =>
  K (x12, x13, x14, x15, x16, x17, x18, x19, x20, x21, x22, x23, x24, x25, x26, x27, x28, x29, x30, x31, x32, x33) w3
set_option maxRecDepth 100000 in
theorem D25  (w0 : World) (K : T23 → World → Prop) (h : F25  w0 K) : callC Try.prog 25 #[] E23 w0 K := by
  unfold F25 at h
  refine calls_of_wpC Try.func25 rfl 3 rfl (by simp) ?_
  intro ρ hρ
  clear hρ
  refine wpC_seq ?_
  refine wpC_region ?_
  obtain ⟨b9, hb9⟩ : ∃ u, u = w0.heap.size := ⟨_, rfl⟩
  obtain ⟨w1, hw9⟩ : ∃ u, u = w0.alloc (.cells (A23 (ByteArray.mk #[]) 0 0 0 false 0 false false 0 0 0 0 Sl.nil 0 0 0 0 false 0 0 0 0) 24) := ⟨_, rfl⟩
  replace h := h b9 w1 hb9 hw9
  refine wpR_val (v := (Value.pointer (some (Addr.mk b9 0 none)))) (w' := w1) rfl rfl rfl ((x_alloc rfl ZV_24).trans (by rw [hb9, hw9]; rfl)) ?_
  refine wpR_nil ?_
  refine wpC_seq ?_
  refine wpC_cut (fun ρ => ρ 0 = (Value.pointer (some (Addr.mk b9 0 none))) ∧ True) ⟨rfl, trivial⟩ ?_
  rintro ρ ⟨e0, -⟩
  refine wpC_region ?_
  obtain ⟨b10, hb10⟩ : ∃ u, u = w1.heap.size := ⟨_, rfl⟩
  obtain ⟨w2, hw10⟩ : ∃ u, u = w1.alloc (.cells #[(Value.string (ByteArray.mk #[112, 110, 103]))] 9) := ⟨_, rfl⟩
  replace h := h b10 w2 hb10 hw10
  refine wpR_val (v := (Sl.v (⟨some ⟨b10, 0, none⟩, 1, 1⟩ : Sl))) (w' := w2) rfl rfl rfl ((x_buildSlice (qs := [(0, (Value.string (ByteArray.mk #[112, 110, 103])))]) rfl (by rfl) (BS_22_1_0 (ByteArray.mk #[112, 110, 103]))).trans (by rw [← hb10, ← hw10])) ?_
  refine wpR_val (v := (V23 (ByteArray.mk #[112]) 2 0 0 true 1 true false 100 3 2 1000 (⟨some ⟨b10, 0, none⟩, 1, 1⟩ : Sl) 0 0 0 0 false 1 0 1 0)) (w' := w2) rfl rfl rfl (x_build (qs := [(0, (Value.string (ByteArray.mk #[112]))), (1, (Value.int .i64 2)), (4, (Value.bool true)), (5, (Value.int .i64 1)), (6, (Value.bool true)), (8, (Value.int .i64 100)), (9, (Value.int .i64 3)), (10, (Value.int .i64 2)), (11, (Value.int .i64 1000)), (12, (Sl.v (⟨some ⟨b10, 0, none⟩, 1, 1⟩ : Sl))), (18, (Value.int .i64 1)), (20, (Value.int .i64 1))]) rfl (by rfl) (BD_24_0_1_4_5_6_8_9_10_11_12_18_20 (ByteArray.mk #[112]) 2 true 1 true 100 3 2 1000 (⟨some ⟨b10, 0, none⟩, 1, 1⟩ : Sl) 1 1 _)) ?_
  obtain ⟨q11, h⟩ := h
  obtain ⟨w3, hw11⟩ : ∃ u, u = setAll w2 (Addr.mk b9 0 none) (S23 (ByteArray.mk #[112]) 2 0 0 true 1 true false 100 3 2 1000 (⟨some ⟨b10, 0, none⟩, 1, 1⟩ : Sl) 0 0 0 0 false 1 0 1 0) 0 := ⟨_, rfl⟩
  replace h := h w3 hw11
  refine wpR_skp (w' := w3) rfl rfl ((x_store (v := (V23 (ByteArray.mk #[112]) 2 0 0 true 1 true false 100 3 2 1000 (⟨some ⟨b10, 0, none⟩, 1, 1⟩ : Sl) 0 0 0 0 false 1 0 1 0)) rfl e0 rfl SZ_24 (ones (by rfl)) q11).trans (by rw [hw11]; rfl)) ?_
  refine wpR_nil ?_
  refine wpC_ret ?_
  obtain ⟨x12, q12, x13, q13, x14, q14, x15, q15, x16, q16, x17, q17, x18, q18, x19, q19, x20, q20, x21, q21, x22, q22, x23, q23, x24, q24, x25, q25, x26, q26, x27, q27, x28, q28, x29, q29, x30, q30, x31, q31, x32, q32, x33, q33, h⟩ := h
  exact ⟨.inl rfl, fun a ha => ⟨_, results_repC (S23 x12 x13 x14 x15 x16 x17 x18 x19 x20 x21 x22 x23 x24 x25 x26 x27 x28 x29 x30 x31 x32 x33) rfl ha e0 SH_24 (CellsAt.out (CellsAt.cons q12 (CellsAt.cons q13 (CellsAt.cons q14 (CellsAt.cons q15 (CellsAt.cons q16 (CellsAt.cons q17 (CellsAt.cons q18 (CellsAt.cons q19 (CellsAt.cons q20 (CellsAt.cons q21 (CellsAt.cons q22 (CellsAt.cons q23 (CellsAt.cons q24 (CellsAt.cons q25 (CellsAt.cons q26 (CellsAt.cons q27 (CellsAt.cons q28 (CellsAt.cons q29 (CellsAt.cons q30 (CellsAt.cons q31 (CellsAt.cons q32 (CellsAt.cons q33 CellsAt.nil))))))))))))))))))))))), (x12, x13, x14, x15, x16, x17, x18, x19, x20, x21, x22, x23, x24, x25, x26, x27, x28, x29, x30, x31, x32, x33), rfl, h⟩⟩

/-- loss.right -/
def F26 (p0 : Sl) (w0 : World) (K : Bool → World → Prop) : Prop :=
  jn (fun J9 => cnd (decide ((p0.len : Int) = 9))
    (
    callC Try.prog 49 #[(Sl.v p0), (Value.func (.func 48) #[] #[])] (fun (r : Bool) => (Value.bool r)) w0 fun r11 w1 =>
    J9 (!r11) w1
    )
    (
    J9 false w0
    ))
  fun c12 w2 =>
  K c12 w2
set_option maxRecDepth 100000 in
theorem D26 (p0 : Sl) (w0 : World) (K : Bool → World → Prop) (h : F26 p0 w0 K) : callC Try.prog 26 #[(Sl.v p0)] (fun (r : Bool) => (Value.bool r)) w0 K := by
  unfold F26 at h
  refine calls_of_wpC Try.func26 rfl 13 rfl (by simp) ?_
  intro ρ hρ
  have e0 : ρ 0 = (Sl.v p0) := hρ 0
  clear hρ
  refine wpC_seq ?_
  refine wpC_region ?_
  refine wpR_val (v := (Value.bool false)) (w' := w0) rfl rfl rfl (x_assign (v := (Value.bool false)) rfl rfl) ?_
  refine wpR_nil ?_
  refine wpC_seq ?_
  refine wpC_cut (fun ρ => ρ 0 = (Sl.v p0) ∧ True) ⟨e0, trivial⟩ ?_
  rintro ρ ⟨e0, -⟩
  refine wpC_region ?_
  refine wpR_val (v := (Value.func (.func 48) #[] #[])) (w' := w0) rfl rfl rfl (x_assign (v := (Value.func (.func 48) #[] #[])) rfl rfl) ?_
  refine wpR_nil ?_
  refine wpC_seq ?_
  refine wpC_cut (fun ρ => ρ 0 = (Sl.v p0) ∧ ρ 3 = (Value.func (.func 48) #[] #[]) ∧ True) ⟨e0, rfl, trivial⟩ ?_
  rintro ρ ⟨e0, e3, -⟩
  refine wpC_region ?_
  refine wpR_val (v := (Sl.v p0)) (w' := w0) rfl rfl rfl (x_move (v := (Sl.v p0)) rfl e0) ?_
  refine wpR_val (v := (Value.int .i64 (p0.len : Int))) (w' := w0) rfl rfl rfl (x_lenS (s := p0) rfl rfl isSliceT_25) ?_
  refine wpR_val (v := (Value.bool (decide ((p0.len : Int) = 9)))) (w' := w0) rfl rfl rfl (x_eql rfl rfl rfl) ?_
  refine wpR_val (v := (Value.bool (decide ((p0.len : Int) = 9)))) (w' := w0) rfl rfl rfl (x_move (v := (Value.bool (decide ((p0.len : Int) = 9)))) rfl rfl) ?_
  obtain ⟨J9, h, hk⟩ := h
  refine wpR_joinJ 5 (fun x ρ => ρ 12 = Value.bool x ∧ True) (J9) ?_ ?_
  · clear hk
    rcases Bool.eq_false_or_eq_true (decide ((p0.len : Int) = 9)) with hc10 | hc10
    · replace h := h.1 hc10
      refine wpR_val (v := (Sl.v p0)) (w' := w0) (wantG rfl rfl rfl hc10) rfl rfl (x_move (v := (Sl.v p0)) rfl e0) ?_
      refine wpR_val (v := (Value.func (.func 48) #[] #[])) (w' := w0) (wantG rfl rfl rfl hc10) rfl rfl (x_move (v := (Value.func (.func 48) #[] #[])) rfl e3) ?_
      refine wpR_enter (wantG rfl rfl rfl hc10) rfl rfl (x_call (vs := [(Sl.v p0), (Value.func (.func 48) #[] #[])]) rfl rfl (mapl_cons rfl (mapl_cons rfl mapl_nil)) Try.func49 NN_49 NB_49) (Calls.mono h ?_)
      rintro _ w1 ⟨r11, rfl, h⟩
      refine ⟨_, rfl, ?_⟩
      refine wpR_val (v := (Value.bool (!r11))) (w' := w1) (wantG rfl rfl rfl hc10) rfl rfl (x_not rfl rfl) ?_
      refine wpR_val (v := (Value.bool (!r11))) (w' := w1) rfl rfl rfl (x_pickT (v := (Value.bool (!r11))) rfl rfl hc10 rfl) ?_
      refine wpR_nil ?_
      exact ⟨!r11, ⟨rfl, trivial⟩, h⟩
    · replace h := h.2 hc10
      refine wpR_pass (wantN rfl rfl rfl hc10) rfl rfl ?_
      refine wpR_pass (wantN rfl rfl rfl hc10) rfl rfl ?_
      refine wpR_pass (wantN rfl rfl rfl hc10) rfl rfl ?_
      refine wpR_pass (wantN rfl rfl rfl hc10) rfl rfl ?_
      refine wpR_val (v := (Value.bool false)) (w' := w0) rfl rfl rfl (x_pickF (v := (Value.bool false)) rfl rfl hc10 rfl) ?_
      refine wpR_nil ?_
      exact ⟨false, ⟨rfl, trivial⟩, h⟩
  clear h
  rintro c12 ρ w2 ⟨e12, -⟩ h
  replace h := hk c12 w2 h
  clear hk
  refine wpR_val (v := (Value.bool c12)) (w' := w2) rfl rfl rfl (x_assign (v := (Value.bool c12)) rfl e12) ?_
  refine wpR_nil ?_
  refine wpC_ret ?_
  exact ⟨.inl rfl, fun a ha => ⟨_, results_rep1 rfl ha rfl, c12, rfl, h⟩⟩

/-- linguaref13.Check -/
def F27 (p0_0 : ByteArray) (p0_1 : Int) (p0_2 : Int) (p0_3 : Int) (p0_4 : Bool) (p0_5 : Int) (p0_6 : Bool) (p0_7 : Bool) (p0_8 : Int) (p0_9 : Int) (p0_10 : Int) (p0_11 : Int) (p0_12 : Sl) (p0_13 : Int) (p0_14 : Int) (p0_15 : Int) (p0_16 : Int) (p0_17 : Bool) (p0_18 : Int) (p0_19 : Int) (p0_20 : Int) (p0_21 : Int) (w0 : World) (K : Int → World → Prop) : Prop :=
  nw 24 (A23 p0_0 p0_1 p0_2 p0_3 p0_4 p0_5 p0_6 p0_7 p0_8 p0_9 p0_10 p0_11 p0_12 p0_13 p0_14 p0_15 p0_16 p0_17 p0_18 p0_19 p0_20 p0_21) w0 fun b9 w1 =>
  L23 (Addr.mk b9 0 none) w1 fun x10 x11 x12 x13 x14 x15 x16 x17 x18 x19 x20 x21 x22 x23 x24 x25 x26 x27 x28 x29 x30 x31 =>
  callC Try.prog 50 #[(V23 x10 x11 x12 x13 x14 x15 x16 x17 x18 x19 x20 x21 x22 x23 x24 x25 x26 x27 x28 x29 x30 x31)] (fun (r : Bool) => (Value.bool r)) w1 fun r32 w2 =>
  cnd (!r32)
    (
    K 1 w2
    )
    (
    ld (Value.int .i64) ((Addr.mk b9 0 none).add 8) w2 fun x34 =>
    jp (fun J35 => cnd (decide (x34 < 40))
      (
      J35 true
      )
      (
      ld (Value.int .i64) ((Addr.mk b9 0 none).add 8) w2 fun x37 =>
      J35 (decide (4000 < x37))
      ))
    fun c38 =>
    jp (fun J39 => cnd (c38)
      (
      J39 true
      )
      (
      ld (Value.int .i64) ((Addr.mk b9 0 none).add 9) w2 fun x41 =>
      J39 (decide (x41 < 1))
      ))
    fun c42 =>
    jp (fun J43 => cnd (c42)
      (
      J43 true
      )
      (
      ld (Value.int .i64) ((Addr.mk b9 0 none).add 9) w2 fun x45 =>
      J43 (decide (20 < x45))
      ))
    fun c46 =>
    jp (fun J47 => cnd (c46)
      (
      J47 true
      )
      (
      ld (Value.int .i64) ((Addr.mk b9 0 none).add 10) w2 fun x49 =>
      J47 (decide (4 < x49))
      ))
    fun c50 =>
    jp (fun J51 => cnd (c50)
      (
      J51 true
      )
      (
      ld (Value.int .i64) ((Addr.mk b9 0 none).add 11) w2 fun x53 =>
      J51 (decide (65536 < x53))
      ))
    fun c54 =>
    cnd (c54)
      (
      K 3 w2
      )
      (
      ld (Value.int .i64) ((Addr.mk b9 0 none).add 18) w2 fun x56 =>
      jp (fun J57 => cnd (decide (x56 < 1))
        (
        J57 true
        )
        (
        ld (Value.int .i64) ((Addr.mk b9 0 none).add 19) w2 fun x59 =>
        jp (fun J60 => cnd (!decide (x59 = 0))
          (
          ld (Value.int .i64) ((Addr.mk b9 0 none).add 19) w2 fun x62 =>
          ld (Value.int .i64) ((Addr.mk b9 0 none).add 20) w2 fun x63 =>
          J60 (decide (x63 ≤ x62))
          )
          (
          J60 false
          ))
        fun c64 =>
        J57 c64
        ))
      fun c65 =>
      cnd (c65)
        (
        K 3 w2
        )
        (
        ld (Value.int .i64) ((Addr.mk b9 0 none).add 10) w2 fun x67 =>
        jp (fun J68 => cnd (decide (x67 = 0))
          (
          ld (Value.int .i64) ((Addr.mk b9 0 none).add 11) w2 fun x70 =>
          J68 (decide (x70 = 0))
          )
          (
          J68 false
          ))
        fun c71 =>
        jp (fun J72 => cnd (c71)
          (
          ld Sl.v ((Addr.mk b9 0 none).add 12) w2 fun x74 =>
          J72 (decide ((x74.len : Int) = 0))
          )
          (
          J72 false
          ))
        fun c75 =>
        jp (fun J76 => cnd (!c75)
          (
          ld (Value.int .i64) ((Addr.mk b9 0 none).add 10) w2 fun x78 =>
          jp (fun J79 => cnd (decide (x78 = 0))
            (
            J79 true
            )
            (
            ld (Value.int .i64) ((Addr.mk b9 0 none).add 11) w2 fun x81 =>
            J79 (decide (x81 = 0))
            ))
          fun c82 =>
          jp (fun J83 => cnd (c82)
            (
            J83 true
            )
            (
            ld Sl.v ((Addr.mk b9 0 none).add 12) w2 fun x85 =>
            J83 (decide ((x85.len : Int) = 0))
            ))
          fun c86 =>
          J76 c86
          )
          (
          J76 false
          ))
        fun c87 =>
        cnd (c87)
          (
          K 3 w2
          )
          (
          lp (fun (next89 : Int → World → Prop) l89 w3 =>
            ld Sl.v ((Addr.mk b9 0 none).add 12) w3 fun x90 =>
            cnd (decide (l89 < (x90.len : Int)))
              (
              lp (fun (next92 : Int → World → Prop) l92 w4 =>
                cnd (decide (l92 < l89))
                  (
                  jn (fun (J95 : Bool → World → Prop) => tk w4 fun w5 =>
                    ld Sl.v ((Addr.mk b9 0 none).add 12) w5 fun x96 =>
                    ix x96 l89 1 fun p97 =>
                    ld Value.string p97 w5 fun x98 =>
                    ld Sl.v ((Addr.mk b9 0 none).add 12) w5 fun x99 =>
                    ix x99 l92 1 fun p100 =>
                    ld Value.string p100 w5 fun x101 =>
                    J95 (beqS x98 x101) w5
                  )
                  fun l102 w6 =>
                  cnd (l102)
                    (
                    K 5 w6
                    )
                    (
                    next92 (IntKind.i64.wrap (l92 + 1)) w6
                    )
                  )
                  (
                  next89 (IntKind.i64.wrap (l89 + 1)) w4
                  )
              ) 0 w3
              )
              (
              K 0 w3
              )
          ) 0 w2
          )
        )
      )
    )
set_option maxRecDepth 100000 in
theorem D27 (p0_0 : ByteArray) (p0_1 : Int) (p0_2 : Int) (p0_3 : Int) (p0_4 : Bool) (p0_5 : Int) (p0_6 : Bool) (p0_7 : Bool) (p0_8 : Int) (p0_9 : Int) (p0_10 : Int) (p0_11 : Int) (p0_12 : Sl) (p0_13 : Int) (p0_14 : Int) (p0_15 : Int) (p0_16 : Int) (p0_17 : Bool) (p0_18 : Int) (p0_19 : Int) (p0_20 : Int) (p0_21 : Int) (w0 : World) (K : Int → World → Prop) (h : F27 p0_0 p0_1 p0_2 p0_3 p0_4 p0_5 p0_6 p0_7 p0_8 p0_9 p0_10 p0_11 p0_12 p0_13 p0_14 p0_15 p0_16 p0_17 p0_18 p0_19 p0_20 p0_21 w0 K) : callC Try.prog 27 #[(V23 p0_0 p0_1 p0_2 p0_3 p0_4 p0_5 p0_6 p0_7 p0_8 p0_9 p0_10 p0_11 p0_12 p0_13 p0_14 p0_15 p0_16 p0_17 p0_18 p0_19 p0_20 p0_21)] (fun (r : Int) => (Value.int .i64 r)) w0 K := by
  unfold F27 at h
  refine calls_of_wpC Try.func27 rfl 107 rfl (by simp) ?_
  intro ρ hρ
  have e0 : ρ 0 = (V23 p0_0 p0_1 p0_2 p0_3 p0_4 p0_5 p0_6 p0_7 p0_8 p0_9 p0_10 p0_11 p0_12 p0_13 p0_14 p0_15 p0_16 p0_17 p0_18 p0_19 p0_20 p0_21) := hρ 0
  clear hρ
  refine wpC_seq ?_
  refine wpC_region ?_
  obtain ⟨b9, hb9⟩ : ∃ u, u = w0.heap.size := ⟨_, rfl⟩
  obtain ⟨w1, hw9⟩ : ∃ u, u = w0.alloc (.cells (A23 p0_0 p0_1 p0_2 p0_3 p0_4 p0_5 p0_6 p0_7 p0_8 p0_9 p0_10 p0_11 p0_12 p0_13 p0_14 p0_15 p0_16 p0_17 p0_18 p0_19 p0_20 p0_21) 24) := ⟨_, rfl⟩
  replace h := h b9 w1 hb9 hw9
  refine wpR_val (v := (Value.pointer (some (Addr.mk b9 0 none)))) (w' := w1) rfl rfl rfl ((x_box (v := (V23 p0_0 p0_1 p0_2 p0_3 p0_4 p0_5 p0_6 p0_7 p0_8 p0_9 p0_10 p0_11 p0_12 p0_13 p0_14 p0_15 p0_16 p0_17 p0_18 p0_19 p0_20 p0_21)) rfl e0).trans (by rw [hb9, hw9]; rfl)) ?_
  refine wpR_val (v := (Value.int .i64 0)) (w' := w1) rfl rfl rfl (x_assign (v := (Value.int .i64 0)) rfl rfl) ?_
  refine wpR_nil ?_
  refine wpC_seq ?_
  refine wpC_seq ?_
  refine wpC_cut (fun ρ => ρ 1 = (Value.pointer (some (Addr.mk b9 0 none))) ∧ True) ⟨rfl, trivial⟩ ?_
  rintro ρ ⟨e1, -⟩
  refine wpC_region ?_
  obtain ⟨x10, q10, x11, q11, x12, q12, x13, q13, x14, q14, x15, q15, x16, q16, x17, q17, x18, q18, x19, q19, x20, q20, x21, q21, x22, q22, x23, q23, x24, q24, x25, q25, x26, q26, x27, q27, x28, q28, x29, q29, x30, q30, x31, q31, h⟩ := h
  refine wpR_val (v := (V23 x10 x11 x12 x13 x14 x15 x16 x17 x18 x19 x20 x21 x22 x23 x24 x25 x26 x27 x28 x29 x30 x31)) (w' := w1) rfl rfl rfl (x_loadN (S23 x10 x11 x12 x13 x14 x15 x16 x17 x18 x19 x20 x21 x22 x23 x24 x25 x26 x27 x28 x29 x30 x31) rfl e1 SH_24 (K23 ⟨q10, q11, q12, q13, q14, q15, q16, q17, q18, q19, q20, q21, q22, q23, q24, q25, q26, q27, q28, q29, q30, q31⟩)) ?_
  refine wpR_enter rfl rfl rfl (x_call (vs := [(V23 x10 x11 x12 x13 x14 x15 x16 x17 x18 x19 x20 x21 x22 x23 x24 x25 x26 x27 x28 x29 x30 x31)]) rfl rfl (mapl_cons rfl mapl_nil) Try.func50 NN_50 NB_50) (Calls.mono h ?_)
  rintro _ w2 ⟨r32, rfl, h⟩
  refine ⟨_, rfl, ?_⟩
  refine wpR_val (v := (Value.bool (!r32))) (w' := w2) rfl rfl rfl (x_not rfl rfl) ?_
  refine wpR_nil ?_
  refine wpC_cond (b := !r32) rfl (fun hc33 => ?_) (fun hc33 => ?_)
  · replace h := h.1 hc33
    refine wpC_seq ?_
    refine wpC_cut (fun ρ => True) trivial ?_
    rintro ρ -
    refine wpC_region ?_
    refine wpR_val (v := (Value.int .i64 1)) (w' := w2) rfl rfl rfl (x_assign (v := (Value.int .i64 1)) rfl rfl) ?_
    refine wpR_nil ?_
    refine wpC_ret ?_
    exact ⟨.inl rfl, fun a ha => ⟨_, results_rep1 rfl ha rfl, 1, rfl, h⟩⟩
  · replace h := h.2 hc33
    refine wpC_skip ?_
    refine wpC_seq ?_
    refine wpC_seq ?_
    refine wpC_cut (fun ρ => ρ 1 = (Value.pointer (some (Addr.mk b9 0 none))) ∧ True) ⟨e1, trivial⟩ ?_
    rintro ρ ⟨e1, -⟩
    refine wpC_region ?_
    refine wpR_val (v := (Value.pointer (some ((Addr.mk b9 0 none).add 8)))) (w' := w2) rfl rfl rfl (x_fieldAddr rfl e1 FA_24_8) ?_
    obtain ⟨x34, q34, h⟩ := h
    refine wpR_val (v := (Value.int .i64 x34)) (w' := w2) rfl rfl rfl (x_load1 rfl rfl SH_3 q34) ?_
    refine wpR_val (v := (Value.bool (decide (x34 < 40)))) (w' := w2) rfl rfl rfl (x_lss rfl rfl rfl) ?_
    refine wpR_val (v := (Value.bool (decide (x34 < 40)))) (w' := w2) rfl rfl rfl (x_move (v := (Value.bool (decide (x34 < 40)))) rfl rfl) ?_
    obtain ⟨J35, h, hk⟩ := h
    refine wpR_joinJ 4 (fun x ρ => ρ 16 = Value.bool x ∧ ρ 1 = (Value.pointer (some (Addr.mk b9 0 none))) ∧ True) (fun x w => J35 x ∧ w2 = w) ?_ ?_
    · clear hk
      rcases Bool.eq_false_or_eq_true (decide (x34 < 40)) with hc36 | hc36
      · replace h := h.1 hc36
        refine wpR_pass (wantN rfl rfl rfl hc36) rfl rfl ?_
        refine wpR_pass (wantN rfl rfl rfl hc36) rfl rfl ?_
        refine wpR_pass (wantN rfl rfl rfl hc36) rfl rfl ?_
        refine wpR_val (v := (Value.bool true)) (w' := w2) rfl rfl rfl (x_pickT (v := (Value.bool true)) rfl rfl hc36 rfl) ?_
        refine wpR_nil ?_
        exact ⟨true, ⟨rfl, e1, trivial⟩, h, rfl⟩
      · replace h := h.2 hc36
        refine wpR_val (v := (Value.pointer (some ((Addr.mk b9 0 none).add 8)))) (w' := w2) (wantG rfl rfl rfl hc36) rfl rfl (x_fieldAddr rfl e1 FA_24_8) ?_
        obtain ⟨x37, q37, h⟩ := h
        refine wpR_val (v := (Value.int .i64 x37)) (w' := w2) (wantG rfl rfl rfl hc36) rfl rfl (x_load1 rfl rfl SH_3 q37) ?_
        refine wpR_val (v := (Value.bool (decide (4000 < x37)))) (w' := w2) (wantG rfl rfl rfl hc36) rfl rfl (x_gtr rfl rfl rfl) ?_
        refine wpR_val (v := (Value.bool (decide (4000 < x37)))) (w' := w2) rfl rfl rfl (x_pickF (v := (Value.bool (decide (4000 < x37)))) rfl rfl hc36 rfl) ?_
        refine wpR_nil ?_
        exact ⟨decide (4000 < x37), ⟨rfl, e1, trivial⟩, h, rfl⟩
    clear h
    rintro c38 ρ wj ⟨e16, e1, -⟩ ⟨h, rfl⟩
    replace h := hk c38 h
    clear hk
    refine wpR_val (v := (Value.bool c38)) (w' := w2) rfl rfl rfl (x_move (v := (Value.bool c38)) rfl e16) ?_
    obtain ⟨J39, h, hk⟩ := h
    refine wpR_joinJ 4 (fun x ρ => ρ 21 = Value.bool x ∧ ρ 1 = (Value.pointer (some (Addr.mk b9 0 none))) ∧ True) (fun x w => J39 x ∧ w2 = w) ?_ ?_
    · clear hk
      rcases Bool.eq_false_or_eq_true (c38) with hc40 | hc40
      · replace h := h.1 hc40
        refine wpR_pass (wantN rfl rfl rfl hc40) rfl rfl ?_
        refine wpR_pass (wantN rfl rfl rfl hc40) rfl rfl ?_
        refine wpR_pass (wantN rfl rfl rfl hc40) rfl rfl ?_
        refine wpR_val (v := (Value.bool true)) (w' := w2) rfl rfl rfl (x_pickT (v := (Value.bool true)) rfl rfl hc40 rfl) ?_
        refine wpR_nil ?_
        exact ⟨true, ⟨rfl, e1, trivial⟩, h, rfl⟩
      · replace h := h.2 hc40
        refine wpR_val (v := (Value.pointer (some ((Addr.mk b9 0 none).add 9)))) (w' := w2) (wantG rfl rfl rfl hc40) rfl rfl (x_fieldAddr rfl e1 FA_24_9) ?_
        obtain ⟨x41, q41, h⟩ := h
        refine wpR_val (v := (Value.int .i64 x41)) (w' := w2) (wantG rfl rfl rfl hc40) rfl rfl (x_load1 rfl rfl SH_3 q41) ?_
        refine wpR_val (v := (Value.bool (decide (x41 < 1)))) (w' := w2) (wantG rfl rfl rfl hc40) rfl rfl (x_lss rfl rfl rfl) ?_
        refine wpR_val (v := (Value.bool (decide (x41 < 1)))) (w' := w2) rfl rfl rfl (x_pickF (v := (Value.bool (decide (x41 < 1)))) rfl rfl hc40 rfl) ?_
        refine wpR_nil ?_
        exact ⟨decide (x41 < 1), ⟨rfl, e1, trivial⟩, h, rfl⟩
    clear h
    rintro c42 ρ wj ⟨e21, e1, -⟩ ⟨h, rfl⟩
    replace h := hk c42 h
    clear hk
    refine wpR_val (v := (Value.bool c42)) (w' := w2) rfl rfl rfl (x_move (v := (Value.bool c42)) rfl e21) ?_
    obtain ⟨J43, h, hk⟩ := h
    refine wpR_joinJ 4 (fun x ρ => ρ 26 = Value.bool x ∧ ρ 1 = (Value.pointer (some (Addr.mk b9 0 none))) ∧ True) (fun x w => J43 x ∧ w2 = w) ?_ ?_
    · clear hk
      rcases Bool.eq_false_or_eq_true (c42) with hc44 | hc44
      · replace h := h.1 hc44
        refine wpR_pass (wantN rfl rfl rfl hc44) rfl rfl ?_
        refine wpR_pass (wantN rfl rfl rfl hc44) rfl rfl ?_
        refine wpR_pass (wantN rfl rfl rfl hc44) rfl rfl ?_
        refine wpR_val (v := (Value.bool true)) (w' := w2) rfl rfl rfl (x_pickT (v := (Value.bool true)) rfl rfl hc44 rfl) ?_
        refine wpR_nil ?_
        exact ⟨true, ⟨rfl, e1, trivial⟩, h, rfl⟩
      · replace h := h.2 hc44
        refine wpR_val (v := (Value.pointer (some ((Addr.mk b9 0 none).add 9)))) (w' := w2) (wantG rfl rfl rfl hc44) rfl rfl (x_fieldAddr rfl e1 FA_24_9) ?_
        obtain ⟨x45, q45, h⟩ := h
        refine wpR_val (v := (Value.int .i64 x45)) (w' := w2) (wantG rfl rfl rfl hc44) rfl rfl (x_load1 rfl rfl SH_3 q45) ?_
        refine wpR_val (v := (Value.bool (decide (20 < x45)))) (w' := w2) (wantG rfl rfl rfl hc44) rfl rfl (x_gtr rfl rfl rfl) ?_
        refine wpR_val (v := (Value.bool (decide (20 < x45)))) (w' := w2) rfl rfl rfl (x_pickF (v := (Value.bool (decide (20 < x45)))) rfl rfl hc44 rfl) ?_
        refine wpR_nil ?_
        exact ⟨decide (20 < x45), ⟨rfl, e1, trivial⟩, h, rfl⟩
    clear h
    rintro c46 ρ wj ⟨e26, e1, -⟩ ⟨h, rfl⟩
    replace h := hk c46 h
    clear hk
    refine wpR_val (v := (Value.bool c46)) (w' := w2) rfl rfl rfl (x_move (v := (Value.bool c46)) rfl e26) ?_
    obtain ⟨J47, h, hk⟩ := h
    refine wpR_joinJ 4 (fun x ρ => ρ 31 = Value.bool x ∧ ρ 1 = (Value.pointer (some (Addr.mk b9 0 none))) ∧ True) (fun x w => J47 x ∧ w2 = w) ?_ ?_
    · clear hk
      rcases Bool.eq_false_or_eq_true (c46) with hc48 | hc48
      · replace h := h.1 hc48
        refine wpR_pass (wantN rfl rfl rfl hc48) rfl rfl ?_
        refine wpR_pass (wantN rfl rfl rfl hc48) rfl rfl ?_
        refine wpR_pass (wantN rfl rfl rfl hc48) rfl rfl ?_
        refine wpR_val (v := (Value.bool true)) (w' := w2) rfl rfl rfl (x_pickT (v := (Value.bool true)) rfl rfl hc48 rfl) ?_
        refine wpR_nil ?_
        exact ⟨true, ⟨rfl, e1, trivial⟩, h, rfl⟩
      · replace h := h.2 hc48
        refine wpR_val (v := (Value.pointer (some ((Addr.mk b9 0 none).add 10)))) (w' := w2) (wantG rfl rfl rfl hc48) rfl rfl (x_fieldAddr rfl e1 FA_24_10) ?_
        obtain ⟨x49, q49, h⟩ := h
        refine wpR_val (v := (Value.int .i64 x49)) (w' := w2) (wantG rfl rfl rfl hc48) rfl rfl (x_load1 rfl rfl SH_3 q49) ?_
        refine wpR_val (v := (Value.bool (decide (4 < x49)))) (w' := w2) (wantG rfl rfl rfl hc48) rfl rfl (x_gtr rfl rfl rfl) ?_
        refine wpR_val (v := (Value.bool (decide (4 < x49)))) (w' := w2) rfl rfl rfl (x_pickF (v := (Value.bool (decide (4 < x49)))) rfl rfl hc48 rfl) ?_
        refine wpR_nil ?_
        exact ⟨decide (4 < x49), ⟨rfl, e1, trivial⟩, h, rfl⟩
    clear h
    rintro c50 ρ wj ⟨e31, e1, -⟩ ⟨h, rfl⟩
    replace h := hk c50 h
    clear hk
    refine wpR_val (v := (Value.bool c50)) (w' := w2) rfl rfl rfl (x_move (v := (Value.bool c50)) rfl e31) ?_
    obtain ⟨J51, h, hk⟩ := h
    refine wpR_joinJ 4 (fun x ρ => ρ 36 = Value.bool x ∧ ρ 1 = (Value.pointer (some (Addr.mk b9 0 none))) ∧ True) (fun x w => J51 x ∧ w2 = w) ?_ ?_
    · clear hk
      rcases Bool.eq_false_or_eq_true (c50) with hc52 | hc52
      · replace h := h.1 hc52
        refine wpR_pass (wantN rfl rfl rfl hc52) rfl rfl ?_
        refine wpR_pass (wantN rfl rfl rfl hc52) rfl rfl ?_
        refine wpR_pass (wantN rfl rfl rfl hc52) rfl rfl ?_
        refine wpR_val (v := (Value.bool true)) (w' := w2) rfl rfl rfl (x_pickT (v := (Value.bool true)) rfl rfl hc52 rfl) ?_
        refine wpR_nil ?_
        exact ⟨true, ⟨rfl, e1, trivial⟩, h, rfl⟩
      · replace h := h.2 hc52
        refine wpR_val (v := (Value.pointer (some ((Addr.mk b9 0 none).add 11)))) (w' := w2) (wantG rfl rfl rfl hc52) rfl rfl (x_fieldAddr rfl e1 FA_24_11) ?_
        obtain ⟨x53, q53, h⟩ := h
        refine wpR_val (v := (Value.int .i64 x53)) (w' := w2) (wantG rfl rfl rfl hc52) rfl rfl (x_load1 rfl rfl SH_3 q53) ?_
        refine wpR_val (v := (Value.bool (decide (65536 < x53)))) (w' := w2) (wantG rfl rfl rfl hc52) rfl rfl (x_gtr rfl rfl rfl) ?_
        refine wpR_val (v := (Value.bool (decide (65536 < x53)))) (w' := w2) rfl rfl rfl (x_pickF (v := (Value.bool (decide (65536 < x53)))) rfl rfl hc52 rfl) ?_
        refine wpR_nil ?_
        exact ⟨decide (65536 < x53), ⟨rfl, e1, trivial⟩, h, rfl⟩
    clear h
    rintro c54 ρ wj ⟨e36, e1, -⟩ ⟨h, rfl⟩
    replace h := hk c54 h
    clear hk
    refine wpR_nil ?_
    refine wpC_cond (b := c54) e36 (fun hc55 => ?_) (fun hc55 => ?_)
    · replace h := h.1 hc55
      refine wpC_seq ?_
      refine wpC_region ?_
      refine wpR_val (v := (Value.int .i64 3)) (w' := w2) rfl rfl rfl (x_assign (v := (Value.int .i64 3)) rfl rfl) ?_
      refine wpR_nil ?_
      refine wpC_ret ?_
      exact ⟨.inl rfl, fun a ha => ⟨_, results_rep1 rfl ha rfl, 3, rfl, h⟩⟩
    · replace h := h.2 hc55
      refine wpC_skip ?_
      refine wpC_seq ?_
      refine wpC_seq ?_
      refine wpC_region ?_
      refine wpR_val (v := (Value.pointer (some ((Addr.mk b9 0 none).add 18)))) (w' := w2) rfl rfl rfl (x_fieldAddr rfl e1 FA_24_18) ?_
      obtain ⟨x56, q56, h⟩ := h
      refine wpR_val (v := (Value.int .i64 x56)) (w' := w2) rfl rfl rfl (x_load1 rfl rfl SH_3 q56) ?_
      refine wpR_val (v := (Value.bool (decide (x56 < 1)))) (w' := w2) rfl rfl rfl (x_lss rfl rfl rfl) ?_
      refine wpR_val (v := (Value.bool (decide (x56 < 1)))) (w' := w2) rfl rfl rfl (x_move (v := (Value.bool (decide (x56 < 1)))) rfl rfl) ?_
      obtain ⟨J57, h, hk⟩ := h
      refine wpR_joinJ 11 (fun x ρ => ρ 51 = Value.bool x ∧ ρ 1 = (Value.pointer (some (Addr.mk b9 0 none))) ∧ True) (fun x w => J57 x ∧ w2 = w) ?_ ?_
      · clear hk
        rcases Bool.eq_false_or_eq_true (decide (x56 < 1)) with hc58 | hc58
        · replace h := h.1 hc58
          refine wpR_pass (wantN rfl rfl rfl hc58) rfl rfl ?_
          refine wpR_pass (wantN rfl rfl rfl hc58) rfl rfl ?_
          refine wpR_pass (wantN rfl rfl rfl hc58) rfl rfl ?_
          refine wpR_pass (wantN rfl rfl rfl hc58) rfl rfl ?_
          refine wpR_pass (wantU rfl rfl rfl) rfl rfl ?_
          refine wpR_pass (wantU rfl rfl rfl) rfl rfl ?_
          refine wpR_pass (wantU rfl rfl rfl) rfl rfl ?_
          refine wpR_pass (wantU rfl rfl rfl) rfl rfl ?_
          refine wpR_pass (wantU rfl rfl rfl) rfl rfl ?_
          refine wpR_pass (wantN rfl rfl rfl hc58) rfl rfl ?_
          refine wpR_val (v := (Value.bool true)) (w' := w2) rfl rfl rfl (x_pickT (v := (Value.bool true)) rfl rfl hc58 rfl) ?_
          refine wpR_nil ?_
          exact ⟨true, ⟨rfl, e1, trivial⟩, h, rfl⟩
        · replace h := h.2 hc58
          refine wpR_val (v := (Value.pointer (some ((Addr.mk b9 0 none).add 19)))) (w' := w2) (wantG rfl rfl rfl hc58) rfl rfl (x_fieldAddr rfl e1 FA_24_19) ?_
          obtain ⟨x59, q59, h⟩ := h
          refine wpR_val (v := (Value.int .i64 x59)) (w' := w2) (wantG rfl rfl rfl hc58) rfl rfl (x_load1 rfl rfl SH_3 q59) ?_
          refine wpR_val (v := (Value.bool (!decide (x59 = 0)))) (w' := w2) (wantG rfl rfl rfl hc58) rfl rfl (x_neq rfl rfl rfl) ?_
          refine wpR_val (v := (Value.bool (!decide (x59 = 0)))) (w' := w2) (wantG rfl rfl rfl hc58) rfl rfl (x_move (v := (Value.bool (!decide (x59 = 0)))) rfl rfl) ?_
          obtain ⟨J60, h, hk⟩ := h
          refine wpR_joinJ 6 (fun x ρ => ρ 50 = Value.bool x ∧ ρ 1 = (Value.pointer (some (Addr.mk b9 0 none))) ∧ ρ 40 = (Value.bool (decide (x56 < 1))) ∧ True) (fun x w => J60 x ∧ w2 = w) ?_ ?_
          · clear hk
            rcases Bool.eq_false_or_eq_true (!decide (x59 = 0)) with hc61 | hc61
            · replace h := h.1 hc61
              refine wpR_val (v := (Value.pointer (some ((Addr.mk b9 0 none).add 19)))) (w' := w2) (wantG rfl rfl rfl hc61) rfl rfl (x_fieldAddr rfl e1 FA_24_19) ?_
              obtain ⟨x62, q62, h⟩ := h
              refine wpR_val (v := (Value.int .i64 x62)) (w' := w2) (wantG rfl rfl rfl hc61) rfl rfl (x_load1 rfl rfl SH_3 q62) ?_
              refine wpR_val (v := (Value.pointer (some ((Addr.mk b9 0 none).add 20)))) (w' := w2) (wantG rfl rfl rfl hc61) rfl rfl (x_fieldAddr rfl e1 FA_24_20) ?_
              obtain ⟨x63, q63, h⟩ := h
              refine wpR_val (v := (Value.int .i64 x63)) (w' := w2) (wantG rfl rfl rfl hc61) rfl rfl (x_load1 rfl rfl SH_3 q63) ?_
              refine wpR_val (v := (Value.bool (decide (x63 ≤ x62)))) (w' := w2) (wantG rfl rfl rfl hc61) rfl rfl (x_geq rfl rfl rfl) ?_
              refine wpR_val (v := (Value.bool (decide (x63 ≤ x62)))) (w' := w2) (wantG rfl rfl rfl hc58) rfl rfl (x_pickT (v := (Value.bool (decide (x63 ≤ x62)))) rfl rfl hc61 rfl) ?_
              refine wpR_nil ?_
              exact ⟨decide (x63 ≤ x62), ⟨rfl, e1, rfl, trivial⟩, h, rfl⟩
            · replace h := h.2 hc61
              refine wpR_pass (wantN rfl rfl rfl hc61) rfl rfl ?_
              refine wpR_pass (wantN rfl rfl rfl hc61) rfl rfl ?_
              refine wpR_pass (wantN rfl rfl rfl hc61) rfl rfl ?_
              refine wpR_pass (wantN rfl rfl rfl hc61) rfl rfl ?_
              refine wpR_pass (wantN rfl rfl rfl hc61) rfl rfl ?_
              refine wpR_val (v := (Value.bool false)) (w' := w2) (wantG rfl rfl rfl hc58) rfl rfl (x_pickF (v := (Value.bool false)) rfl rfl hc61 rfl) ?_
              refine wpR_nil ?_
              exact ⟨false, ⟨rfl, e1, rfl, trivial⟩, h, rfl⟩
          clear h
          rintro c64 ρ wj ⟨e50, e1, e40, -⟩ ⟨h, rfl⟩
          replace h := hk c64 h
          clear hk
          refine wpR_val (v := (Value.bool c64)) (w' := w2) rfl rfl rfl (x_pickF (v := (Value.bool c64)) rfl e40 hc58 e50) ?_
          refine wpR_nil ?_
          exact ⟨c64, ⟨rfl, e1, trivial⟩, h, rfl⟩
      clear h
      rintro c65 ρ wj ⟨e51, e1, -⟩ ⟨h, rfl⟩
      replace h := hk c65 h
      clear hk
      refine wpR_nil ?_
      refine wpC_cond (b := c65) e51 (fun hc66 => ?_) (fun hc66 => ?_)
      · replace h := h.1 hc66
        refine wpC_seq ?_
        refine wpC_region ?_
        refine wpR_val (v := (Value.int .i64 3)) (w' := w2) rfl rfl rfl (x_assign (v := (Value.int .i64 3)) rfl rfl) ?_
        refine wpR_nil ?_
        refine wpC_ret ?_
        exact ⟨.inl rfl, fun a ha => ⟨_, results_rep1 rfl ha rfl, 3, rfl, h⟩⟩
      · replace h := h.2 hc66
        refine wpC_skip ?_
        refine wpC_seq ?_
        refine wpC_region ?_
        refine wpR_val (v := (Value.pointer (some ((Addr.mk b9 0 none).add 10)))) (w' := w2) rfl rfl rfl (x_fieldAddr rfl e1 FA_24_10) ?_
        obtain ⟨x67, q67, h⟩ := h
        refine wpR_val (v := (Value.int .i64 x67)) (w' := w2) rfl rfl rfl (x_load1 rfl rfl SH_3 q67) ?_
        refine wpR_val (v := (Value.bool (decide (x67 = 0)))) (w' := w2) rfl rfl rfl (x_eql rfl rfl rfl) ?_
        refine wpR_val (v := (Value.bool (decide (x67 = 0)))) (w' := w2) rfl rfl rfl (x_move (v := (Value.bool (decide (x67 = 0)))) rfl rfl) ?_
        obtain ⟨J68, h, hk⟩ := h
        refine wpR_joinJ 4 (fun x ρ => ρ 59 = Value.bool x ∧ ρ 1 = (Value.pointer (some (Addr.mk b9 0 none))) ∧ True) (fun x w => J68 x ∧ w2 = w) ?_ ?_
        · clear hk
          rcases Bool.eq_false_or_eq_true (decide (x67 = 0)) with hc69 | hc69
          · replace h := h.1 hc69
            refine wpR_val (v := (Value.pointer (some ((Addr.mk b9 0 none).add 11)))) (w' := w2) (wantG rfl rfl rfl hc69) rfl rfl (x_fieldAddr rfl e1 FA_24_11) ?_
            obtain ⟨x70, q70, h⟩ := h
            refine wpR_val (v := (Value.int .i64 x70)) (w' := w2) (wantG rfl rfl rfl hc69) rfl rfl (x_load1 rfl rfl SH_3 q70) ?_
            refine wpR_val (v := (Value.bool (decide (x70 = 0)))) (w' := w2) (wantG rfl rfl rfl hc69) rfl rfl (x_eql rfl rfl rfl) ?_
            refine wpR_val (v := (Value.bool (decide (x70 = 0)))) (w' := w2) rfl rfl rfl (x_pickT (v := (Value.bool (decide (x70 = 0)))) rfl rfl hc69 rfl) ?_
            refine wpR_nil ?_
            exact ⟨decide (x70 = 0), ⟨rfl, e1, trivial⟩, h, rfl⟩
          · replace h := h.2 hc69
            refine wpR_pass (wantN rfl rfl rfl hc69) rfl rfl ?_
            refine wpR_pass (wantN rfl rfl rfl hc69) rfl rfl ?_
            refine wpR_pass (wantN rfl rfl rfl hc69) rfl rfl ?_
            refine wpR_val (v := (Value.bool false)) (w' := w2) rfl rfl rfl (x_pickF (v := (Value.bool false)) rfl rfl hc69 rfl) ?_
            refine wpR_nil ?_
            exact ⟨false, ⟨rfl, e1, trivial⟩, h, rfl⟩
        clear h
        rintro c71 ρ wj ⟨e59, e1, -⟩ ⟨h, rfl⟩
        replace h := hk c71 h
        clear hk
        refine wpR_val (v := (Value.bool c71)) (w' := w2) rfl rfl rfl (x_move (v := (Value.bool c71)) rfl e59) ?_
        obtain ⟨J72, h, hk⟩ := h
        refine wpR_joinJ 5 (fun x ρ => ρ 65 = Value.bool x ∧ ρ 1 = (Value.pointer (some (Addr.mk b9 0 none))) ∧ True) (fun x w => J72 x ∧ w2 = w) ?_ ?_
        · clear hk
          rcases Bool.eq_false_or_eq_true (c71) with hc73 | hc73
          · replace h := h.1 hc73
            refine wpR_val (v := (Value.pointer (some ((Addr.mk b9 0 none).add 12)))) (w' := w2) (wantG rfl rfl rfl hc73) rfl rfl (x_fieldAddr rfl e1 FA_24_12) ?_
            obtain ⟨x74, q74, h⟩ := h
            refine wpR_val (v := (Sl.v x74)) (w' := w2) (wantG rfl rfl rfl hc73) rfl rfl (x_load1 rfl rfl SH_22 q74) ?_
            refine wpR_val (v := (Value.int .i64 (x74.len : Int))) (w' := w2) (wantG rfl rfl rfl hc73) rfl rfl (x_lenS (s := x74) rfl rfl isSliceT_22) ?_
            refine wpR_val (v := (Value.bool (decide ((x74.len : Int) = 0)))) (w' := w2) (wantG rfl rfl rfl hc73) rfl rfl (x_eql rfl rfl rfl) ?_
            refine wpR_val (v := (Value.bool (decide ((x74.len : Int) = 0)))) (w' := w2) rfl rfl rfl (x_pickT (v := (Value.bool (decide ((x74.len : Int) = 0)))) rfl rfl hc73 rfl) ?_
            refine wpR_nil ?_
            exact ⟨decide ((x74.len : Int) = 0), ⟨rfl, e1, trivial⟩, h, rfl⟩
          · replace h := h.2 hc73
            refine wpR_pass (wantN rfl rfl rfl hc73) rfl rfl ?_
            refine wpR_pass (wantN rfl rfl rfl hc73) rfl rfl ?_
            refine wpR_pass (wantN rfl rfl rfl hc73) rfl rfl ?_
            refine wpR_pass (wantN rfl rfl rfl hc73) rfl rfl ?_
            refine wpR_val (v := (Value.bool false)) (w' := w2) rfl rfl rfl (x_pickF (v := (Value.bool false)) rfl rfl hc73 rfl) ?_
            refine wpR_nil ?_
            exact ⟨false, ⟨rfl, e1, trivial⟩, h, rfl⟩
        clear h
        rintro c75 ρ wj ⟨e65, e1, -⟩ ⟨h, rfl⟩
        replace h := hk c75 h
        clear hk
        refine wpR_val (v := (Value.bool c75)) (w' := w2) rfl rfl rfl (x_assign (v := (Value.bool c75)) rfl e65) ?_
        refine wpR_nil ?_
        refine wpC_seq ?_
        refine wpC_seq ?_
        refine wpC_cut (fun ρ => ρ 1 = (Value.pointer (some (Addr.mk b9 0 none))) ∧ ρ 3 = (Value.bool c75) ∧ True) ⟨e1, rfl, trivial⟩ ?_
        rintro ρ ⟨e1, e3, -⟩
        refine wpC_region ?_
        refine wpR_val (v := (Value.bool c75)) (w' := w2) rfl rfl rfl (x_move (v := (Value.bool c75)) rfl e3) ?_
        refine wpR_val (v := (Value.bool (!c75))) (w' := w2) rfl rfl rfl (x_not rfl rfl) ?_
        refine wpR_val (v := (Value.bool (!c75))) (w' := w2) rfl rfl rfl (x_move (v := (Value.bool (!c75))) rfl rfl) ?_
        obtain ⟨J76, h, hk⟩ := h
        refine wpR_joinJ 15 (fun x ρ => ρ 83 = Value.bool x ∧ ρ 1 = (Value.pointer (some (Addr.mk b9 0 none))) ∧ True) (fun x w => J76 x ∧ w2 = w) ?_ ?_
        · clear hk
          rcases Bool.eq_false_or_eq_true (!c75) with hc77 | hc77
          · replace h := h.1 hc77
            refine wpR_val (v := (Value.pointer (some ((Addr.mk b9 0 none).add 10)))) (w' := w2) (wantG rfl rfl rfl hc77) rfl rfl (x_fieldAddr rfl e1 FA_24_10) ?_
            obtain ⟨x78, q78, h⟩ := h
            refine wpR_val (v := (Value.int .i64 x78)) (w' := w2) (wantG rfl rfl rfl hc77) rfl rfl (x_load1 rfl rfl SH_3 q78) ?_
            refine wpR_val (v := (Value.bool (decide (x78 = 0)))) (w' := w2) (wantG rfl rfl rfl hc77) rfl rfl (x_eql rfl rfl rfl) ?_
            refine wpR_val (v := (Value.bool (decide (x78 = 0)))) (w' := w2) (wantG rfl rfl rfl hc77) rfl rfl (x_move (v := (Value.bool (decide (x78 = 0)))) rfl rfl) ?_
            obtain ⟨J79, h, hk⟩ := h
            refine wpR_joinJ 4 (fun x ρ => ρ 76 = Value.bool x ∧ ρ 1 = (Value.pointer (some (Addr.mk b9 0 none))) ∧ ρ 68 = (Value.bool (!c75)) ∧ True) (fun x w => J79 x ∧ w2 = w) ?_ ?_
            · clear hk
              rcases Bool.eq_false_or_eq_true (decide (x78 = 0)) with hc80 | hc80
              · replace h := h.1 hc80
                refine wpR_pass (wantN rfl rfl rfl hc80) rfl rfl ?_
                refine wpR_pass (wantN rfl rfl rfl hc80) rfl rfl ?_
                refine wpR_pass (wantN rfl rfl rfl hc80) rfl rfl ?_
                refine wpR_val (v := (Value.bool true)) (w' := w2) (wantG rfl rfl rfl hc77) rfl rfl (x_pickT (v := (Value.bool true)) rfl rfl hc80 rfl) ?_
                refine wpR_nil ?_
                exact ⟨true, ⟨rfl, e1, rfl, trivial⟩, h, rfl⟩
              · replace h := h.2 hc80
                refine wpR_val (v := (Value.pointer (some ((Addr.mk b9 0 none).add 11)))) (w' := w2) (wantG rfl rfl rfl hc80) rfl rfl (x_fieldAddr rfl e1 FA_24_11) ?_
                obtain ⟨x81, q81, h⟩ := h
                refine wpR_val (v := (Value.int .i64 x81)) (w' := w2) (wantG rfl rfl rfl hc80) rfl rfl (x_load1 rfl rfl SH_3 q81) ?_
                refine wpR_val (v := (Value.bool (decide (x81 = 0)))) (w' := w2) (wantG rfl rfl rfl hc80) rfl rfl (x_eql rfl rfl rfl) ?_
                refine wpR_val (v := (Value.bool (decide (x81 = 0)))) (w' := w2) (wantG rfl rfl rfl hc77) rfl rfl (x_pickF (v := (Value.bool (decide (x81 = 0)))) rfl rfl hc80 rfl) ?_
                refine wpR_nil ?_
                exact ⟨decide (x81 = 0), ⟨rfl, e1, rfl, trivial⟩, h, rfl⟩
            clear h
            rintro c82 ρ wj ⟨e76, e1, e68, -⟩ ⟨h, rfl⟩
            replace h := hk c82 h
            clear hk
            refine wpR_val (v := (Value.bool c82)) (w' := w2) (wantG rfl rfl e68 hc77) rfl rfl (x_move (v := (Value.bool c82)) rfl e76) ?_
            obtain ⟨J83, h, hk⟩ := h
            refine wpR_joinJ 5 (fun x ρ => ρ 82 = Value.bool x ∧ ρ 1 = (Value.pointer (some (Addr.mk b9 0 none))) ∧ ρ 68 = (Value.bool (!c75)) ∧ True) (fun x w => J83 x ∧ w2 = w) ?_ ?_
            · clear hk
              rcases Bool.eq_false_or_eq_true (c82) with hc84 | hc84
              · replace h := h.1 hc84
                refine wpR_pass (wantN rfl rfl rfl hc84) rfl rfl ?_
                refine wpR_pass (wantN rfl rfl rfl hc84) rfl rfl ?_
                refine wpR_pass (wantN rfl rfl rfl hc84) rfl rfl ?_
                refine wpR_pass (wantN rfl rfl rfl hc84) rfl rfl ?_
                refine wpR_val (v := (Value.bool true)) (w' := w2) (wantG rfl rfl e68 hc77) rfl rfl (x_pickT (v := (Value.bool true)) rfl rfl hc84 rfl) ?_
                refine wpR_nil ?_
                exact ⟨true, ⟨rfl, e1, e68, trivial⟩, h, rfl⟩
              · replace h := h.2 hc84
                refine wpR_val (v := (Value.pointer (some ((Addr.mk b9 0 none).add 12)))) (w' := w2) (wantG rfl rfl rfl hc84) rfl rfl (x_fieldAddr rfl e1 FA_24_12) ?_
                obtain ⟨x85, q85, h⟩ := h
                refine wpR_val (v := (Sl.v x85)) (w' := w2) (wantG rfl rfl rfl hc84) rfl rfl (x_load1 rfl rfl SH_22 q85) ?_
                refine wpR_val (v := (Value.int .i64 (x85.len : Int))) (w' := w2) (wantG rfl rfl rfl hc84) rfl rfl (x_lenS (s := x85) rfl rfl isSliceT_22) ?_
                refine wpR_val (v := (Value.bool (decide ((x85.len : Int) = 0)))) (w' := w2) (wantG rfl rfl rfl hc84) rfl rfl (x_eql rfl rfl rfl) ?_
                refine wpR_val (v := (Value.bool (decide ((x85.len : Int) = 0)))) (w' := w2) (wantG rfl rfl e68 hc77) rfl rfl (x_pickF (v := (Value.bool (decide ((x85.len : Int) = 0)))) rfl rfl hc84 rfl) ?_
                refine wpR_nil ?_
                exact ⟨decide ((x85.len : Int) = 0), ⟨rfl, e1, e68, trivial⟩, h, rfl⟩
            clear h
            rintro c86 ρ wj ⟨e82, e1, e68, -⟩ ⟨h, rfl⟩
            replace h := hk c86 h
            clear hk
            refine wpR_val (v := (Value.bool c86)) (w' := w2) rfl rfl rfl (x_pickT (v := (Value.bool c86)) rfl e68 hc77 e82) ?_
            refine wpR_nil ?_
            exact ⟨c86, ⟨rfl, e1, trivial⟩, h, rfl⟩
          · replace h := h.2 hc77
            refine wpR_pass (wantN rfl rfl rfl hc77) rfl rfl ?_
            refine wpR_pass (wantN rfl rfl rfl hc77) rfl rfl ?_
            refine wpR_pass (wantN rfl rfl rfl hc77) rfl rfl ?_
            refine wpR_pass (wantN rfl rfl rfl hc77) rfl rfl ?_
            refine wpR_pass (wantU rfl rfl rfl) rfl rfl ?_
            refine wpR_pass (wantU rfl rfl rfl) rfl rfl ?_
            refine wpR_pass (wantU rfl rfl rfl) rfl rfl ?_
            refine wpR_pass (wantN rfl rfl rfl hc77) rfl rfl ?_
            refine wpR_pass (wantN rfl rfl rfl hc77) rfl rfl ?_
            refine wpR_pass (wantU rfl rfl rfl) rfl rfl ?_
            refine wpR_pass (wantU rfl rfl rfl) rfl rfl ?_
            refine wpR_pass (wantU rfl rfl rfl) rfl rfl ?_
            refine wpR_pass (wantU rfl rfl rfl) rfl rfl ?_
            refine wpR_pass (wantN rfl rfl rfl hc77) rfl rfl ?_
            refine wpR_val (v := (Value.bool false)) (w' := w2) rfl rfl rfl (x_pickF (v := (Value.bool false)) rfl rfl hc77 rfl) ?_
            refine wpR_nil ?_
            exact ⟨false, ⟨rfl, e1, trivial⟩, h, rfl⟩
        clear h
        rintro c87 ρ wj ⟨e83, e1, -⟩ ⟨h, rfl⟩
        replace h := hk c87 h
        clear hk
        refine wpR_nil ?_
        refine wpC_cond (b := c87) e83 (fun hc88 => ?_) (fun hc88 => ?_)
        · replace h := h.1 hc88
          refine wpC_seq ?_
          refine wpC_region ?_
          refine wpR_val (v := (Value.int .i64 3)) (w' := w2) rfl rfl rfl (x_assign (v := (Value.int .i64 3)) rfl rfl) ?_
          refine wpR_nil ?_
          refine wpC_ret ?_
          exact ⟨.inl rfl, fun a ha => ⟨_, results_rep1 rfl ha rfl, 3, rfl, h⟩⟩
        · replace h := h.2 hc88
          refine wpC_skip ?_
          refine wpC_seq ?_
          refine wpC_seq ?_
          refine wpC_region ?_
          refine wpR_val (v := (Value.int .i64 0)) (w' := w2) rfl rfl rfl (x_assign (v := (Value.int .i64 0)) rfl rfl) ?_
          refine wpR_nil ?_
          refine wpC_block ?_
          obtain ⟨I89, μ89, hI89, hr89⟩ := h
          refine wpC_loop (fun (x : Int) ρ => ρ 4 = (Value.int .i64 x) ∧ ρ 1 = (Value.pointer (some (Addr.mk b9 0 none))) ∧ True) I89 μ89 0 ⟨rfl, e1, trivial⟩ hI89 ?_
          rintro l89 ρ w3 ⟨e4, e1, -⟩ h
          replace h := hr89 l89 w3 h
          clear hr89 hI89
          refine wpC_seq ?_
          refine wpC_seq ?_
          refine wpC_region ?_
          refine wpR_val (v := (Value.int .i64 l89)) (w' := w3) rfl rfl rfl (x_move (v := (Value.int .i64 l89)) rfl e4) ?_
          refine wpR_val (v := (Value.pointer (some ((Addr.mk b9 0 none).add 12)))) (w' := w3) rfl rfl rfl (x_fieldAddr rfl e1 FA_24_12) ?_
          obtain ⟨x90, q90, h⟩ := h
          refine wpR_val (v := (Sl.v x90)) (w' := w3) rfl rfl rfl (x_load1 rfl rfl SH_22 q90) ?_
          refine wpR_val (v := (Value.int .i64 (x90.len : Int))) (w' := w3) rfl rfl rfl (x_lenS (s := x90) rfl rfl isSliceT_22) ?_
          refine wpR_val (v := (Value.bool (decide (l89 < (x90.len : Int))))) (w' := w3) rfl rfl rfl (x_lss rfl rfl rfl) ?_
          refine wpR_nil ?_
          refine wpC_cond (b := decide (l89 < (x90.len : Int))) rfl (fun hc91 => ?_) (fun hc91 => ?_)
          · replace h := h.1 hc91
            refine wpC_skip ?_
            refine wpC_seq ?_
            refine wpC_block ?_
            refine wpC_seq ?_
            refine wpC_cut (fun ρ => ρ 1 = (Value.pointer (some (Addr.mk b9 0 none))) ∧ ρ 4 = (Value.int .i64 l89) ∧ True) ⟨e1, e4, trivial⟩ ?_
            rintro ρ ⟨e1, e4, -⟩
            refine wpC_region ?_
            refine wpR_val (v := (Value.int .i64 0)) (w' := w3) rfl rfl rfl (x_assign (v := (Value.int .i64 0)) rfl rfl) ?_
            refine wpR_nil ?_
            refine wpC_block ?_
            obtain ⟨I92, μ92, hI92, hr92⟩ := h
            refine wpC_loop (fun (x : Int) ρ => ρ 5 = (Value.int .i64 x) ∧ ρ 1 = (Value.pointer (some (Addr.mk b9 0 none))) ∧ ρ 4 = (Value.int .i64 l89) ∧ True) I92 μ92 0 ⟨rfl, e1, e4, trivial⟩ hI92 ?_
            rintro l92 ρ w4 ⟨e5, e1, e4, -⟩ h
            replace h := hr92 l92 w4 h
            clear hr92 hI92
            refine wpC_seq ?_
            refine wpC_seq ?_
            refine wpC_region ?_
            refine wpR_val (v := (Value.int .i64 l92)) (w' := w4) rfl rfl rfl (x_move (v := (Value.int .i64 l92)) rfl e5) ?_
            refine wpR_val (v := (Value.int .i64 l89)) (w' := w4) rfl rfl rfl (x_move (v := (Value.int .i64 l89)) rfl e4) ?_
            refine wpR_val (v := (Value.bool (decide (l92 < l89)))) (w' := w4) rfl rfl rfl (x_lss rfl rfl rfl) ?_
            refine wpR_nil ?_
            refine wpC_cond (b := decide (l92 < l89)) rfl (fun hc93 => ?_) (fun hc93 => ?_)
            · replace h := h.1 hc93
              refine wpC_skip ?_
              refine wpC_seq ?_
              refine wpC_block ?_
              refine wpC_seq ?_
              refine wpC_cut (fun ρ => ρ 1 = (Value.pointer (some (Addr.mk b9 0 none))) ∧ ρ 4 = (Value.int .i64 l89) ∧ ρ 5 = (Value.int .i64 l92) ∧ True) ⟨e1, e4, e5, trivial⟩ ?_
              rintro ρ ⟨e1, e4, e5, -⟩
              obtain ⟨J95, h, hk⟩ := h
              refine wpC_drawJ (by kernel_rfl) (fun (x : Bool) ρ => ρ 106 = (Value.bool x) ∧ ρ 1 = (Value.pointer (some (Addr.mk b9 0 none))) ∧ ρ 4 = (Value.int .i64 l89) ∧ ρ 5 = (Value.int .i64 l92) ∧ True) J95 ?_ ?_
              · clear hk
                unfold tk at h
                generalize w4.drew = w5 at h ⊢
                refine wpD_take (v := (Value.pointer (some ((Addr.mk b9 0 none).add 12)))) 0 (fun _ => True) rfl (by kernel_rfl) (by kernel_rfl) (by kernel_rfl) rfl rfl rfl trivial (fun w _ => (x_fieldAddr rfl e1 FA_24_12)) ?_
                obtain ⟨x96, q96, h⟩ := h
                refine wpD_take (v := (Sl.v x96)) 1 (fun w => w.cell? ((Addr.mk b9 0 none).add 12) = some (Sl.v x96)) rfl (by kernel_rfl) (by kernel_rfl) (by kernel_rfl) rfl rfl rfl q96 (fun w q96 => (x_load1 rfl rfl SH_22 q96)) ?_
                refine wpD_take (v := (Value.int .i64 l89)) 2 (fun _ => True) rfl (by kernel_rfl) (by kernel_rfl) (by kernel_rfl) rfl rfl rfl trivial (fun w _ => (x_move (v := (Value.int .i64 l89)) rfl e4)) ?_
                obtain ⟨q97, z97, r97, h⟩ := h
                generalize hp97 : z97.add ((l89 : Int).toNat * 1) = p97 at h
                refine wpD_take (v := (Value.pointer (some p97))) 3 (fun _ => True) rfl (by kernel_rfl) (by kernel_rfl) (by kernel_rfl) rfl rfl rfl trivial (fun w _ => ((x_indexAddr (s := x96) rfl rfl rfl ES_22 q97 r97).trans (by rw [hp97]))) ?_
                obtain ⟨x98, q98, h⟩ := h
                refine wpD_take (v := (Value.string x98)) 4 (fun w => w.cell? p97 = some (Value.string x98)) rfl (by kernel_rfl) (by kernel_rfl) (by kernel_rfl) rfl rfl rfl q98 (fun w q98 => (x_load1 rfl rfl SH_9 q98)) ?_
                refine wpD_take (v := (Value.pointer (some ((Addr.mk b9 0 none).add 12)))) 5 (fun _ => True) rfl (by kernel_rfl) (by kernel_rfl) (by kernel_rfl) rfl rfl rfl trivial (fun w _ => (x_fieldAddr rfl e1 FA_24_12)) ?_
                obtain ⟨x99, q99, h⟩ := h
                refine wpD_take (v := (Sl.v x99)) 6 (fun w => w.cell? ((Addr.mk b9 0 none).add 12) = some (Sl.v x99)) rfl (by kernel_rfl) (by kernel_rfl) (by kernel_rfl) rfl rfl rfl q99 (fun w q99 => (x_load1 rfl rfl SH_22 q99)) ?_
                refine wpD_take (v := (Value.int .i64 l92)) 7 (fun _ => True) rfl (by kernel_rfl) (by kernel_rfl) (by kernel_rfl) rfl rfl rfl trivial (fun w _ => (x_move (v := (Value.int .i64 l92)) rfl e5)) ?_
                obtain ⟨q100, z100, r100, h⟩ := h
                generalize hp100 : z100.add ((l92 : Int).toNat * 1) = p100 at h
                refine wpD_take (v := (Value.pointer (some p100))) 8 (fun _ => True) rfl (by kernel_rfl) (by kernel_rfl) (by kernel_rfl) rfl rfl rfl trivial (fun w _ => ((x_indexAddr (s := x99) rfl rfl rfl ES_22 q100 r100).trans (by rw [hp100]))) ?_
                obtain ⟨x101, q101, h⟩ := h
                refine wpD_take (v := (Value.string x101)) 9 (fun w => w.cell? p100 = some (Value.string x101)) rfl (by kernel_rfl) (by kernel_rfl) (by kernel_rfl) rfl rfl rfl q101 (fun w q101 => (x_load1 rfl rfl SH_9 q101)) ?_
                refine wpD_take (v := (Value.bool (beqS x98 x101))) 10 (fun _ => True) rfl (by kernel_rfl) (by kernel_rfl) (by kernel_rfl) rfl rfl rfl trivial (fun w _ => (x_eqlS rfl rfl rfl)) ?_
                exact wpD_done (by kernel_rfl) ⟨beqS x98 x101, ⟨rfl, e1, e4, e5, trivial⟩, h⟩
              clear h
              rintro l102 ρ w6 ⟨e106, e1, e4, e5, -⟩ h
              replace h := hk l102 w6 h
              clear hk
              refine wpC_cond (b := l102) e106 (fun hc103 => ?_) (fun hc103 => ?_)
              · replace h := h.1 hc103
                refine wpC_seq ?_
                refine wpC_region ?_
                refine wpR_val (v := (Value.int .i64 5)) (w' := w6) rfl rfl rfl (x_assign (v := (Value.int .i64 5)) rfl rfl) ?_
                refine wpR_nil ?_
                refine wpC_ret ?_
                exact ⟨.inl rfl, fun a ha => ⟨_, results_rep1 rfl ha rfl, 5, rfl, h⟩⟩
              · replace h := h.2 hc103
                refine wpC_skip ?_
                refine wpC_region ?_
                refine wpR_val (v := (Value.int .i64 l92)) (w' := w6) rfl rfl rfl (x_move (v := (Value.int .i64 l92)) rfl e5) ?_
                refine wpR_val (v := (Value.int .i64 (IntKind.i64.wrap (l92 + 1)))) (w' := w6) rfl rfl rfl (x_add rfl rfl rfl) ?_
                refine wpR_val (v := (Value.int .i64 (IntKind.i64.wrap (l92 + 1)))) (w' := w6) rfl rfl rfl (x_assign (v := (Value.int .i64 (IntKind.i64.wrap (l92 + 1)))) rfl rfl) ?_
                refine wpR_nil ?_
                exact ⟨IntKind.i64.wrap (l92 + 1), ⟨rfl, e1, e4, trivial⟩, h⟩
            · replace h := h.2 hc93
              refine wpC_exit ?_
              refine wpC_cut (fun ρ => ρ 1 = (Value.pointer (some (Addr.mk b9 0 none))) ∧ ρ 4 = (Value.int .i64 l89) ∧ True) ⟨e1, e4, trivial⟩ ?_
              rintro ρ ⟨e1, e4, -⟩
              refine wpC_region ?_
              refine wpR_val (v := (Value.int .i64 l89)) (w' := w4) rfl rfl rfl (x_move (v := (Value.int .i64 l89)) rfl e4) ?_
              refine wpR_val (v := (Value.int .i64 (IntKind.i64.wrap (l89 + 1)))) (w' := w4) rfl rfl rfl (x_add rfl rfl rfl) ?_
              refine wpR_val (v := (Value.int .i64 (IntKind.i64.wrap (l89 + 1)))) (w' := w4) rfl rfl rfl (x_assign (v := (Value.int .i64 (IntKind.i64.wrap (l89 + 1)))) rfl rfl) ?_
              refine wpR_nil ?_
              exact ⟨IntKind.i64.wrap (l89 + 1), ⟨rfl, e1, trivial⟩, h⟩
          · replace h := h.2 hc91
            refine wpC_exit ?_
            refine wpC_seq ?_
            refine wpC_cut (fun ρ => True) trivial ?_
            rintro ρ -
            refine wpC_region ?_
            refine wpR_val (v := (Value.int .i64 0)) (w' := w3) rfl rfl rfl (x_assign (v := (Value.int .i64 0)) rfl rfl) ?_
            refine wpR_nil ?_
            refine wpC_ret ?_
            exact ⟨.inl rfl, fun a ha => ⟨_, results_rep1 rfl ha rfl, 0, rfl, h⟩⟩

/-- linguaref20.Right -/
def F28 (p0 : Sl) (w0 : World) (K : Bool → World → Prop) : Prop :=
  lp (fun (next9 : Int → World → Prop) l9 w1 =>
    cnd (decide (l9 < (p0.len : Int)))
      (
      ix p0 l9 2 fun p11 =>
      ld (Value.int .i64) (p11.add 0) w1 fun x12 =>
      jp (fun J13 => cnd (decide (x12 < 0))
        (
        J13 true
        )
        (
        ix p0 l9 2 fun p15 =>
        ld (Value.int .i64) (p15.add 0) w1 fun x16 =>
        J13 (decide (6 ≤ x16))
        ))
      fun c17 =>
      jp (fun J18 => cnd (c17)
        (
        J18 true
        )
        (
        ix p0 l9 2 fun p20 =>
        ld (Value.int .i64) (p20.add 1) w1 fun x21 =>
        J18 (decide (x21 < 0))
        ))
      fun c22 =>
      jp (fun J23 => cnd (c22)
        (
        J23 true
        )
        (
        ix p0 l9 2 fun p25 =>
        ld (Value.int .i64) (p25.add 1) w1 fun x26 =>
        J23 (decide (3 ≤ x26))
        ))
      fun c27 =>
      cnd (c27)
        (
        K false w1
        )
        (
        next9 (IntKind.i64.wrap (l9 + 1)) w1
        )
      )
      (
      K (decide ((p0.len : Int) = 9)) w1
      )
  ) 0 w0
set_option maxRecDepth 100000 in
theorem D28 (p0 : Sl) (w0 : World) (K : Bool → World → Prop) (h : F28 p0 w0 K) : callC Try.prog 28 #[(Sl.v p0)] (fun (r : Bool) => (Value.bool r)) w0 K := by
  unfold F28 at h
  refine calls_of_wpC Try.func28 rfl 43 rfl (by simp) ?_
  intro ρ hρ
  have e0 : ρ 0 = (Sl.v p0) := hρ 0
  clear hρ
  refine wpC_seq ?_
  refine wpC_region ?_
  refine wpR_val (v := (Value.bool false)) (w' := w0) rfl rfl rfl (x_assign (v := (Value.bool false)) rfl rfl) ?_
  refine wpR_nil ?_
  refine wpC_seq ?_
  refine wpC_seq ?_
  refine wpC_cut (fun ρ => ρ 0 = (Sl.v p0) ∧ True) ⟨e0, trivial⟩ ?_
  rintro ρ ⟨e0, -⟩
  refine wpC_region ?_
  refine wpR_val (v := (Value.int .i64 0)) (w' := w0) rfl rfl rfl (x_assign (v := (Value.int .i64 0)) rfl rfl) ?_
  refine wpR_nil ?_
  refine wpC_block ?_
  obtain ⟨I9, μ9, hI9, hr9⟩ := h
  refine wpC_loop (fun (x : Int) ρ => ρ 3 = (Value.int .i64 x) ∧ ρ 0 = (Sl.v p0) ∧ True) I9 μ9 0 ⟨rfl, e0, trivial⟩ hI9 ?_
  rintro l9 ρ w1 ⟨e3, e0, -⟩ h
  replace h := hr9 l9 w1 h
  clear hr9 hI9
  refine wpC_seq ?_
  refine wpC_seq ?_
  refine wpC_region ?_
  refine wpR_val (v := (Value.int .i64 l9)) (w' := w1) rfl rfl rfl (x_move (v := (Value.int .i64 l9)) rfl e3) ?_
  refine wpR_val (v := (Sl.v p0)) (w' := w1) rfl rfl rfl (x_move (v := (Sl.v p0)) rfl e0) ?_
  refine wpR_val (v := (Value.int .i64 (p0.len : Int))) (w' := w1) rfl rfl rfl (x_lenS (s := p0) rfl rfl isSliceT_25) ?_
  refine wpR_val (v := (Value.bool (decide (l9 < (p0.len : Int))))) (w' := w1) rfl rfl rfl (x_lss rfl rfl rfl) ?_
  refine wpR_nil ?_
  refine wpC_cond (b := decide (l9 < (p0.len : Int))) rfl (fun hc10 => ?_) (fun hc10 => ?_)
  · replace h := h.1 hc10
    refine wpC_skip ?_
    refine wpC_seq ?_
    refine wpC_block ?_
    refine wpC_seq ?_
    refine wpC_cut (fun ρ => ρ 0 = (Sl.v p0) ∧ ρ 3 = (Value.int .i64 l9) ∧ True) ⟨e0, e3, trivial⟩ ?_
    rintro ρ ⟨e0, e3, -⟩
    refine wpC_region ?_
    refine wpR_val (v := (Sl.v p0)) (w' := w1) rfl rfl rfl (x_move (v := (Sl.v p0)) rfl e0) ?_
    refine wpR_val (v := (Value.int .i64 l9)) (w' := w1) rfl rfl rfl (x_move (v := (Value.int .i64 l9)) rfl e3) ?_
    obtain ⟨q11, z11, r11, h⟩ := h
    generalize hp11 : z11.add ((l9 : Int).toNat * 2) = p11 at h
    refine wpR_val (v := (Value.pointer (some p11))) (w' := w1) rfl rfl rfl ((x_indexAddr (s := p0) rfl rfl rfl ES_25 q11 r11).trans (by rw [hp11])) ?_
    refine wpR_val (v := (Value.pointer (some (p11.add 0)))) (w' := w1) rfl rfl rfl (x_fieldAddr rfl rfl FA_46_0) ?_
    obtain ⟨x12, q12, h⟩ := h
    refine wpR_val (v := (Value.int .i64 x12)) (w' := w1) rfl rfl rfl (x_load1 rfl rfl SH_3 q12) ?_
    refine wpR_val (v := (Value.bool (decide (x12 < 0)))) (w' := w1) rfl rfl rfl (x_lss rfl rfl rfl) ?_
    refine wpR_val (v := (Value.bool (decide (x12 < 0)))) (w' := w1) rfl rfl rfl (x_move (v := (Value.bool (decide (x12 < 0)))) rfl rfl) ?_
    obtain ⟨J13, h, hk⟩ := h
    refine wpR_joinJ 7 (fun x ρ => ρ 23 = Value.bool x ∧ ρ 0 = (Sl.v p0) ∧ ρ 3 = (Value.int .i64 l9) ∧ True) (fun x w => J13 x ∧ w1 = w) ?_ ?_
    · clear hk
      rcases Bool.eq_false_or_eq_true (decide (x12 < 0)) with hc14 | hc14
      · replace h := h.1 hc14
        refine wpR_pass (wantN rfl rfl rfl hc14) rfl rfl ?_
        refine wpR_pass (wantN rfl rfl rfl hc14) rfl rfl ?_
        refine wpR_pass (wantN rfl rfl rfl hc14) rfl rfl ?_
        refine wpR_pass (wantN rfl rfl rfl hc14) rfl rfl ?_
        refine wpR_pass (wantN rfl rfl rfl hc14) rfl rfl ?_
        refine wpR_pass (wantN rfl rfl rfl hc14) rfl rfl ?_
        refine wpR_val (v := (Value.bool true)) (w' := w1) rfl rfl rfl (x_pickT (v := (Value.bool true)) rfl rfl hc14 rfl) ?_
        refine wpR_nil ?_
        exact ⟨true, ⟨rfl, e0, e3, trivial⟩, h, rfl⟩
      · replace h := h.2 hc14
        refine wpR_val (v := (Sl.v p0)) (w' := w1) (wantG rfl rfl rfl hc14) rfl rfl (x_move (v := (Sl.v p0)) rfl e0) ?_
        refine wpR_val (v := (Value.int .i64 l9)) (w' := w1) (wantG rfl rfl rfl hc14) rfl rfl (x_move (v := (Value.int .i64 l9)) rfl e3) ?_
        obtain ⟨q15, z15, r15, h⟩ := h
        generalize hp15 : z15.add ((l9 : Int).toNat * 2) = p15 at h
        refine wpR_val (v := (Value.pointer (some p15))) (w' := w1) (wantG rfl rfl rfl hc14) rfl rfl ((x_indexAddr (s := p0) rfl rfl rfl ES_25 q15 r15).trans (by rw [hp15])) ?_
        refine wpR_val (v := (Value.pointer (some (p15.add 0)))) (w' := w1) (wantG rfl rfl rfl hc14) rfl rfl (x_fieldAddr rfl rfl FA_46_0) ?_
        obtain ⟨x16, q16, h⟩ := h
        refine wpR_val (v := (Value.int .i64 x16)) (w' := w1) (wantG rfl rfl rfl hc14) rfl rfl (x_load1 rfl rfl SH_3 q16) ?_
        refine wpR_val (v := (Value.bool (decide (6 ≤ x16)))) (w' := w1) (wantG rfl rfl rfl hc14) rfl rfl (x_geq rfl rfl rfl) ?_
        refine wpR_val (v := (Value.bool (decide (6 ≤ x16)))) (w' := w1) rfl rfl rfl (x_pickF (v := (Value.bool (decide (6 ≤ x16)))) rfl rfl hc14 rfl) ?_
        refine wpR_nil ?_
        exact ⟨decide (6 ≤ x16), ⟨rfl, e0, e3, trivial⟩, h, rfl⟩
    clear h
    rintro c17 ρ wj ⟨e23, e0, e3, -⟩ ⟨h, rfl⟩
    replace h := hk c17 h
    clear hk
    refine wpR_val (v := (Value.bool c17)) (w' := w1) rfl rfl rfl (x_move (v := (Value.bool c17)) rfl e23) ?_
    obtain ⟨J18, h, hk⟩ := h
    refine wpR_joinJ 7 (fun x ρ => ρ 31 = Value.bool x ∧ ρ 0 = (Sl.v p0) ∧ ρ 3 = (Value.int .i64 l9) ∧ True) (fun x w => J18 x ∧ w1 = w) ?_ ?_
    · clear hk
      rcases Bool.eq_false_or_eq_true (c17) with hc19 | hc19
      · replace h := h.1 hc19
        refine wpR_pass (wantN rfl rfl rfl hc19) rfl rfl ?_
        refine wpR_pass (wantN rfl rfl rfl hc19) rfl rfl ?_
        refine wpR_pass (wantN rfl rfl rfl hc19) rfl rfl ?_
        refine wpR_pass (wantN rfl rfl rfl hc19) rfl rfl ?_
        refine wpR_pass (wantN rfl rfl rfl hc19) rfl rfl ?_
        refine wpR_pass (wantN rfl rfl rfl hc19) rfl rfl ?_
        refine wpR_val (v := (Value.bool true)) (w' := w1) rfl rfl rfl (x_pickT (v := (Value.bool true)) rfl rfl hc19 rfl) ?_
        refine wpR_nil ?_
        exact ⟨true, ⟨rfl, e0, e3, trivial⟩, h, rfl⟩
      · replace h := h.2 hc19
        refine wpR_val (v := (Sl.v p0)) (w' := w1) (wantG rfl rfl rfl hc19) rfl rfl (x_move (v := (Sl.v p0)) rfl e0) ?_
        refine wpR_val (v := (Value.int .i64 l9)) (w' := w1) (wantG rfl rfl rfl hc19) rfl rfl (x_move (v := (Value.int .i64 l9)) rfl e3) ?_
        obtain ⟨q20, z20, r20, h⟩ := h
        generalize hp20 : z20.add ((l9 : Int).toNat * 2) = p20 at h
        refine wpR_val (v := (Value.pointer (some p20))) (w' := w1) (wantG rfl rfl rfl hc19) rfl rfl ((x_indexAddr (s := p0) rfl rfl rfl ES_25 q20 r20).trans (by rw [hp20])) ?_
        refine wpR_val (v := (Value.pointer (some (p20.add 1)))) (w' := w1) (wantG rfl rfl rfl hc19) rfl rfl (x_fieldAddr rfl rfl FA_46_1) ?_
        obtain ⟨x21, q21, h⟩ := h
        refine wpR_val (v := (Value.int .i64 x21)) (w' := w1) (wantG rfl rfl rfl hc19) rfl rfl (x_load1 rfl rfl SH_3 q21) ?_
        refine wpR_val (v := (Value.bool (decide (x21 < 0)))) (w' := w1) (wantG rfl rfl rfl hc19) rfl rfl (x_lss rfl rfl rfl) ?_
        refine wpR_val (v := (Value.bool (decide (x21 < 0)))) (w' := w1) rfl rfl rfl (x_pickF (v := (Value.bool (decide (x21 < 0)))) rfl rfl hc19 rfl) ?_
        refine wpR_nil ?_
        exact ⟨decide (x21 < 0), ⟨rfl, e0, e3, trivial⟩, h, rfl⟩
    clear h
    rintro c22 ρ wj ⟨e31, e0, e3, -⟩ ⟨h, rfl⟩
    replace h := hk c22 h
    clear hk
    refine wpR_val (v := (Value.bool c22)) (w' := w1) rfl rfl rfl (x_move (v := (Value.bool c22)) rfl e31) ?_
    obtain ⟨J23, h, hk⟩ := h
    refine wpR_joinJ 7 (fun x ρ => ρ 39 = Value.bool x ∧ ρ 0 = (Sl.v p0) ∧ ρ 3 = (Value.int .i64 l9) ∧ True) (fun x w => J23 x ∧ w1 = w) ?_ ?_
    · clear hk
      rcases Bool.eq_false_or_eq_true (c22) with hc24 | hc24
      · replace h := h.1 hc24
        refine wpR_pass (wantN rfl rfl rfl hc24) rfl rfl ?_
        refine wpR_pass (wantN rfl rfl rfl hc24) rfl rfl ?_
        refine wpR_pass (wantN rfl rfl rfl hc24) rfl rfl ?_
        refine wpR_pass (wantN rfl rfl rfl hc24) rfl rfl ?_
        refine wpR_pass (wantN rfl rfl rfl hc24) rfl rfl ?_
        refine wpR_pass (wantN rfl rfl rfl hc24) rfl rfl ?_
        refine wpR_val (v := (Value.bool true)) (w' := w1) rfl rfl rfl (x_pickT (v := (Value.bool true)) rfl rfl hc24 rfl) ?_
        refine wpR_nil ?_
        exact ⟨true, ⟨rfl, e0, e3, trivial⟩, h, rfl⟩
      · replace h := h.2 hc24
        refine wpR_val (v := (Sl.v p0)) (w' := w1) (wantG rfl rfl rfl hc24) rfl rfl (x_move (v := (Sl.v p0)) rfl e0) ?_
        refine wpR_val (v := (Value.int .i64 l9)) (w' := w1) (wantG rfl rfl rfl hc24) rfl rfl (x_move (v := (Value.int .i64 l9)) rfl e3) ?_
        obtain ⟨q25, z25, r25, h⟩ := h
        generalize hp25 : z25.add ((l9 : Int).toNat * 2) = p25 at h
        refine wpR_val (v := (Value.pointer (some p25))) (w' := w1) (wantG rfl rfl rfl hc24) rfl rfl ((x_indexAddr (s := p0) rfl rfl rfl ES_25 q25 r25).trans (by rw [hp25])) ?_
        refine wpR_val (v := (Value.pointer (some (p25.add 1)))) (w' := w1) (wantG rfl rfl rfl hc24) rfl rfl (x_fieldAddr rfl rfl FA_46_1) ?_
        obtain ⟨x26, q26, h⟩ := h
        refine wpR_val (v := (Value.int .i64 x26)) (w' := w1) (wantG rfl rfl rfl hc24) rfl rfl (x_load1 rfl rfl SH_3 q26) ?_
        refine wpR_val (v := (Value.bool (decide (3 ≤ x26)))) (w' := w1) (wantG rfl rfl rfl hc24) rfl rfl (x_geq rfl rfl rfl) ?_
        refine wpR_val (v := (Value.bool (decide (3 ≤ x26)))) (w' := w1) rfl rfl rfl (x_pickF (v := (Value.bool (decide (3 ≤ x26)))) rfl rfl hc24 rfl) ?_
        refine wpR_nil ?_
        exact ⟨decide (3 ≤ x26), ⟨rfl, e0, e3, trivial⟩, h, rfl⟩
    clear h
    rintro c27 ρ wj ⟨e39, e0, e3, -⟩ ⟨h, rfl⟩
    replace h := hk c27 h
    clear hk
    refine wpR_nil ?_
    refine wpC_cond (b := c27) e39 (fun hc28 => ?_) (fun hc28 => ?_)
    · replace h := h.1 hc28
      refine wpC_seq ?_
      refine wpC_region ?_
      refine wpR_val (v := (Value.bool false)) (w' := w1) rfl rfl rfl (x_assign (v := (Value.bool false)) rfl rfl) ?_
      refine wpR_nil ?_
      refine wpC_ret ?_
      exact ⟨.inl rfl, fun a ha => ⟨_, results_rep1 rfl ha rfl, false, rfl, h⟩⟩
    · replace h := h.2 hc28
      refine wpC_skip ?_
      refine wpC_region ?_
      refine wpR_val (v := (Value.int .i64 l9)) (w' := w1) rfl rfl rfl (x_move (v := (Value.int .i64 l9)) rfl e3) ?_
      refine wpR_val (v := (Value.int .i64 (IntKind.i64.wrap (l9 + 1)))) (w' := w1) rfl rfl rfl (x_add rfl rfl rfl) ?_
      refine wpR_val (v := (Value.int .i64 (IntKind.i64.wrap (l9 + 1)))) (w' := w1) rfl rfl rfl (x_assign (v := (Value.int .i64 (IntKind.i64.wrap (l9 + 1)))) rfl rfl) ?_
      refine wpR_nil ?_
      exact ⟨IntKind.i64.wrap (l9 + 1), ⟨rfl, e0, trivial⟩, h⟩
  · replace h := h.2 hc10
    refine wpC_exit ?_
    refine wpC_seq ?_
    refine wpC_cut (fun ρ => ρ 0 = (Sl.v p0) ∧ True) ⟨e0, trivial⟩ ?_
    rintro ρ ⟨e0, -⟩
    refine wpC_region ?_
    refine wpR_val (v := (Sl.v p0)) (w' := w1) rfl rfl rfl (x_move (v := (Sl.v p0)) rfl e0) ?_
    refine wpR_val (v := (Value.int .i64 (p0.len : Int))) (w' := w1) rfl rfl rfl (x_lenS (s := p0) rfl rfl isSliceT_25) ?_
    refine wpR_val (v := (Value.bool (decide ((p0.len : Int) = 9)))) (w' := w1) rfl rfl rfl (x_eql rfl rfl rfl) ?_
    refine wpR_val (v := (Value.bool (decide ((p0.len : Int) = 9)))) (w' := w1) rfl rfl rfl (x_assign (v := (Value.bool (decide ((p0.len : Int) = 9)))) rfl rfl) ?_
    refine wpR_nil ?_
    refine wpC_ret ?_
    exact ⟨.inl rfl, fun a ha => ⟨_, results_rep1 rfl ha rfl, decide ((p0.len : Int) = 9), rfl, h⟩⟩


end Go.Proofs.Ytnoahloppffndaa
