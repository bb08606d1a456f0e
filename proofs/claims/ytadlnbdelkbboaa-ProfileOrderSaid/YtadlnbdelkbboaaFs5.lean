import Derived.Test.YtadlnbdelkbboaaRows
import Derived.Test.YtadlnbdelkbboaaFs1
import Derived.Test.YtadlnbdelkbboaaDecRaw
namespace Go.Proofs.Ytadlnbdelkbboaa
open Go.Dec
set_option maxHeartbeats 400000
set_option maxRecDepth 100000

/-- lingualaw13.fine -/
def F19 (p0_0 : ByteArray) (p0_1 : Int) (p0_2 : Int) (p0_3 : Int) (p0_4 : Bool) (p0_5 : Int) (p0_6 : Bool) (p0_7 : Bool) (p0_8 : Int) (p0_9 : Int) (p0_10 : Int) (p0_11 : Int) (p0_12 : Sl) (p0_13 : Int) (p0_14 : Int) (p0_15 : Int) (p0_16 : Int) (p0_17 : Bool) (p0_18 : Int) (p0_19 : Int) (p0_20 : Int) (p0_21 : Int) (p1_0 : ByteArray) (p1_1 : Int) (p1_2 : Int) (p1_3 : Int) (p1_4 : Bool) (p1_5 : Int) (p1_6 : Bool) (p1_7 : Bool) (p1_8 : Int) (p1_9 : Int) (p1_10 : Int) (p1_11 : Int) (p1_12 : Sl) (p1_13 : Int) (p1_14 : Int) (p1_15 : Int) (p1_16 : Int) (p1_17 : Bool) (p1_18 : Int) (p1_19 : Int) (p1_20 : Int) (p1_21 : Int) (p2_0 : ByteArray) (p2_1 : Int) (p2_2 : Int) (p2_3 : Int) (p2_4 : Bool) (p2_5 : Int) (p2_6 : Bool) (p2_7 : Bool) (p2_8 : Int) (p2_9 : Int) (p2_10 : Int) (p2_11 : Int) (p2_12 : Sl) (p2_13 : Int) (p2_14 : Int) (p2_15 : Int) (p2_16 : Int) (p2_17 : Bool) (p2_18 : Int) (p2_19 : Int) (p2_20 : Int) (p2_21 : Int) (w0 : World) (K : Bool → World → Prop) : Prop :=
  nw 24 (A23 p0_0 p0_1 p0_2 p0_3 p0_4 p0_5 p0_6 p0_7 p0_8 p0_9 p0_10 p0_11 p0_12 p0_13 p0_14 p0_15 p0_16 p0_17 p0_18 p0_19 p0_20 p0_21) w0 fun b1 w1 =>
  nw 24 (A23 p1_0 p1_1 p1_2 p1_3 p1_4 p1_5 p1_6 p1_7 p1_8 p1_9 p1_10 p1_11 p1_12 p1_13 p1_14 p1_15 p1_16 p1_17 p1_18 p1_19 p1_20 p1_21) w1 fun b2 w2 =>
  nw 24 (A23 p2_0 p2_1 p2_2 p2_3 p2_4 p2_5 p2_6 p2_7 p2_8 p2_9 p2_10 p2_11 p2_12 p2_13 p2_14 p2_15 p2_16 p2_17 p2_18 p2_19 p2_20 p2_21) w2 fun b3 w3 =>
  L23 (Addr.mk b1 0 none) w3 fun x4 x5 x6 x7 x8 x9 x10 x11 x12 x13 x14 x15 x16 x17 x18 x19 x20 x21 x22 x23 x24 x25 =>
  callC Try.prog 10 #[(V23 x4 x5 x6 x7 x8 x9 x10 x11 x12 x13 x14 x15 x16 x17 x18 x19 x20 x21 x22 x23 x24 x25)] (fun (r : Int) => (Value.int .i64 r)) w3 fun r26 w4 =>
  jn (fun J27 => cnd (decide (r26 = 0))
    (
    L23 (Addr.mk b2 0 none) w4 fun x29 x30 x31 x32 x33 x34 x35 x36 x37 x38 x39 x40 x41 x42 x43 x44 x45 x46 x47 x48 x49 x50 =>
    callC Try.prog 10 #[(V23 x29 x30 x31 x32 x33 x34 x35 x36 x37 x38 x39 x40 x41 x42 x43 x44 x45 x46 x47 x48 x49 x50)] (fun (r : Int) => (Value.int .i64 r)) w4 fun r51 w5 =>
    J27 (decide (r51 = 0)) w5
    )
    (
    J27 false w4
    ))
  fun c52 w6 =>
  jn (fun J53 => cnd (c52)
    (
    L23 (Addr.mk b3 0 none) w6 fun x55 x56 x57 x58 x59 x60 x61 x62 x63 x64 x65 x66 x67 x68 x69 x70 x71 x72 x73 x74 x75 x76 =>
    callC Try.prog 10 #[(V23 x55 x56 x57 x58 x59 x60 x61 x62 x63 x64 x65 x66 x67 x68 x69 x70 x71 x72 x73 x74 x75 x76)] (fun (r : Int) => (Value.int .i64 r)) w6 fun r77 w7 =>
    J53 (decide (r77 = 0)) w7
    )
    (
    J53 false w6
    ))
  fun c78 w8 =>
  K c78 w8
set_option maxRecDepth 100000 in
theorem D19 (p0_0 : ByteArray) (p0_1 : Int) (p0_2 : Int) (p0_3 : Int) (p0_4 : Bool) (p0_5 : Int) (p0_6 : Bool) (p0_7 : Bool) (p0_8 : Int) (p0_9 : Int) (p0_10 : Int) (p0_11 : Int) (p0_12 : Sl) (p0_13 : Int) (p0_14 : Int) (p0_15 : Int) (p0_16 : Int) (p0_17 : Bool) (p0_18 : Int) (p0_19 : Int) (p0_20 : Int) (p0_21 : Int) (p1_0 : ByteArray) (p1_1 : Int) (p1_2 : Int) (p1_3 : Int) (p1_4 : Bool) (p1_5 : Int) (p1_6 : Bool) (p1_7 : Bool) (p1_8 : Int) (p1_9 : Int) (p1_10 : Int) (p1_11 : Int) (p1_12 : Sl) (p1_13 : Int) (p1_14 : Int) (p1_15 : Int) (p1_16 : Int) (p1_17 : Bool) (p1_18 : Int) (p1_19 : Int) (p1_20 : Int) (p1_21 : Int) (p2_0 : ByteArray) (p2_1 : Int) (p2_2 : Int) (p2_3 : Int) (p2_4 : Bool) (p2_5 : Int) (p2_6 : Bool) (p2_7 : Bool) (p2_8 : Int) (p2_9 : Int) (p2_10 : Int) (p2_11 : Int) (p2_12 : Sl) (p2_13 : Int) (p2_14 : Int) (p2_15 : Int) (p2_16 : Int) (p2_17 : Bool) (p2_18 : Int) (p2_19 : Int) (p2_20 : Int) (p2_21 : Int) (w0 : World) (K : Bool → World → Prop) (h : F19 p0_0 p0_1 p0_2 p0_3 p0_4 p0_5 p0_6 p0_7 p0_8 p0_9 p0_10 p0_11 p0_12 p0_13 p0_14 p0_15 p0_16 p0_17 p0_18 p0_19 p0_20 p0_21 p1_0 p1_1 p1_2 p1_3 p1_4 p1_5 p1_6 p1_7 p1_8 p1_9 p1_10 p1_11 p1_12 p1_13 p1_14 p1_15 p1_16 p1_17 p1_18 p1_19 p1_20 p1_21 p2_0 p2_1 p2_2 p2_3 p2_4 p2_5 p2_6 p2_7 p2_8 p2_9 p2_10 p2_11 p2_12 p2_13 p2_14 p2_15 p2_16 p2_17 p2_18 p2_19 p2_20 p2_21 w0 K) : callC Try.prog 19 #[(V23 p0_0 p0_1 p0_2 p0_3 p0_4 p0_5 p0_6 p0_7 p0_8 p0_9 p0_10 p0_11 p0_12 p0_13 p0_14 p0_15 p0_16 p0_17 p0_18 p0_19 p0_20 p0_21), (V23 p1_0 p1_1 p1_2 p1_3 p1_4 p1_5 p1_6 p1_7 p1_8 p1_9 p1_10 p1_11 p1_12 p1_13 p1_14 p1_15 p1_16 p1_17 p1_18 p1_19 p1_20 p1_21), (V23 p2_0 p2_1 p2_2 p2_3 p2_4 p2_5 p2_6 p2_7 p2_8 p2_9 p2_10 p2_11 p2_12 p2_13 p2_14 p2_15 p2_16 p2_17 p2_18 p2_19 p2_20 p2_21)] (fun (r : Bool) => (Value.bool r)) w0 K := by
  unfold F19 at h
  refine calls_of_wpC Try.func19 rfl 20 rfl (by simp) ?_
  intro ρ hρ
  have e0 : ρ 0 = (V23 p0_0 p0_1 p0_2 p0_3 p0_4 p0_5 p0_6 p0_7 p0_8 p0_9 p0_10 p0_11 p0_12 p0_13 p0_14 p0_15 p0_16 p0_17 p0_18 p0_19 p0_20 p0_21) := hρ 0
  have e1 : ρ 1 = (V23 p1_0 p1_1 p1_2 p1_3 p1_4 p1_5 p1_6 p1_7 p1_8 p1_9 p1_10 p1_11 p1_12 p1_13 p1_14 p1_15 p1_16 p1_17 p1_18 p1_19 p1_20 p1_21) := hρ 1
  have e2 : ρ 2 = (V23 p2_0 p2_1 p2_2 p2_3 p2_4 p2_5 p2_6 p2_7 p2_8 p2_9 p2_10 p2_11 p2_12 p2_13 p2_14 p2_15 p2_16 p2_17 p2_18 p2_19 p2_20 p2_21) := hρ 2
  clear hρ
  refine wpC_seq ?_
  refine wpC_region ?_
  obtain ⟨b1, hb1⟩ : ∃ u, u = w0.heap.size := ⟨_, rfl⟩
  obtain ⟨w1, hw1⟩ : ∃ u, u = w0.alloc (.cells (A23 p0_0 p0_1 p0_2 p0_3 p0_4 p0_5 p0_6 p0_7 p0_8 p0_9 p0_10 p0_11 p0_12 p0_13 p0_14 p0_15 p0_16 p0_17 p0_18 p0_19 p0_20 p0_21) 24) := ⟨_, rfl⟩
  replace h := h b1 w1 hb1 hw1
  refine wpR_val (v := (Value.pointer (some (Addr.mk b1 0 none)))) (w' := w1) rfl rfl rfl ((x_box (v := (V23 p0_0 p0_1 p0_2 p0_3 p0_4 p0_5 p0_6 p0_7 p0_8 p0_9 p0_10 p0_11 p0_12 p0_13 p0_14 p0_15 p0_16 p0_17 p0_18 p0_19 p0_20 p0_21)) rfl e0).trans (by rw [hb1, hw1]; rfl)) ?_
  obtain ⟨b2, hb2⟩ : ∃ u, u = w1.heap.size := ⟨_, rfl⟩
  obtain ⟨w2, hw2⟩ : ∃ u, u = w1.alloc (.cells (A23 p1_0 p1_1 p1_2 p1_3 p1_4 p1_5 p1_6 p1_7 p1_8 p1_9 p1_10 p1_11 p1_12 p1_13 p1_14 p1_15 p1_16 p1_17 p1_18 p1_19 p1_20 p1_21) 24) := ⟨_, rfl⟩
  replace h := h b2 w2 hb2 hw2
  refine wpR_val (v := (Value.pointer (some (Addr.mk b2 0 none)))) (w' := w2) rfl rfl rfl ((x_box (v := (V23 p1_0 p1_1 p1_2 p1_3 p1_4 p1_5 p1_6 p1_7 p1_8 p1_9 p1_10 p1_11 p1_12 p1_13 p1_14 p1_15 p1_16 p1_17 p1_18 p1_19 p1_20 p1_21)) rfl e1).trans (by rw [hb2, hw2]; rfl)) ?_
  obtain ⟨b3, hb3⟩ : ∃ u, u = w2.heap.size := ⟨_, rfl⟩
  obtain ⟨w3, hw3⟩ : ∃ u, u = w2.alloc (.cells (A23 p2_0 p2_1 p2_2 p2_3 p2_4 p2_5 p2_6 p2_7 p2_8 p2_9 p2_10 p2_11 p2_12 p2_13 p2_14 p2_15 p2_16 p2_17 p2_18 p2_19 p2_20 p2_21) 24) := ⟨_, rfl⟩
  replace h := h b3 w3 hb3 hw3
  refine wpR_val (v := (Value.pointer (some (Addr.mk b3 0 none)))) (w' := w3) rfl rfl rfl ((x_box (v := (V23 p2_0 p2_1 p2_2 p2_3 p2_4 p2_5 p2_6 p2_7 p2_8 p2_9 p2_10 p2_11 p2_12 p2_13 p2_14 p2_15 p2_16 p2_17 p2_18 p2_19 p2_20 p2_21)) rfl e2).trans (by rw [hb3, hw3]; rfl)) ?_
  refine wpR_val (v := (Value.bool false)) (w' := w3) rfl rfl rfl (x_assign (v := (Value.bool false)) rfl rfl) ?_
  refine wpR_nil ?_
  refine wpC_seq ?_
  refine wpC_cut (fun ρ => ρ 3 = (Value.pointer (some (Addr.mk b1 0 none))) ∧ ρ 4 = (Value.pointer (some (Addr.mk b2 0 none))) ∧ ρ 5 = (Value.pointer (some (Addr.mk b3 0 none))) ∧ True) ⟨rfl, rfl, rfl, trivial⟩ ?_
  rintro ρ ⟨e3, e4, e5, -⟩
  refine wpC_region ?_
  obtain ⟨x4, q4, x5, q5, x6, q6, x7, q7, x8, q8, x9, q9, x10, q10, x11, q11, x12, q12, x13, q13, x14, q14, x15, q15, x16, q16, x17, q17, x18, q18, x19, q19, x20, q20, x21, q21, x22, q22, x23, q23, x24, q24, x25, q25, h⟩ := h
  refine wpR_val (v := (V23 x4 x5 x6 x7 x8 x9 x10 x11 x12 x13 x14 x15 x16 x17 x18 x19 x20 x21 x22 x23 x24 x25)) (w' := w3) rfl rfl rfl (x_loadN (S23 x4 x5 x6 x7 x8 x9 x10 x11 x12 x13 x14 x15 x16 x17 x18 x19 x20 x21 x22 x23 x24 x25) rfl e3 SH_24 (K23 ⟨q4, q5, q6, q7, q8, q9, q10, q11, q12, q13, q14, q15, q16, q17, q18, q19, q20, q21, q22, q23, q24, q25⟩)) ?_
  refine wpR_enter rfl rfl rfl (x_call (vs := [(V23 x4 x5 x6 x7 x8 x9 x10 x11 x12 x13 x14 x15 x16 x17 x18 x19 x20 x21 x22 x23 x24 x25)]) rfl rfl (mapl_cons rfl mapl_nil) Try.func10 NN_10 NB_10) (Calls.mono h ?_)
  rintro _ w4 ⟨r26, rfl, h⟩
  refine ⟨_, rfl, ?_⟩
  refine wpR_val (v := (Value.bool (decide (r26 = 0)))) (w' := w4) rfl rfl rfl (x_eql rfl rfl rfl) ?_
  refine wpR_val (v := (Value.bool (decide (r26 = 0)))) (w' := w4) rfl rfl rfl (x_move (v := (Value.bool (decide (r26 = 0)))) rfl rfl) ?_
  obtain ⟨J27, h, hk⟩ := h
  refine wpR_joinJ 4 (fun x ρ => ρ 14 = Value.bool x ∧ ρ 5 = (Value.pointer (some (Addr.mk b3 0 none))) ∧ True) (J27) ?_ ?_
  · clear hk
    rcases Bool.eq_false_or_eq_true (decide (r26 = 0)) with hc28 | hc28
    · replace h := h.1 hc28
      obtain ⟨x29, q29, x30, q30, x31, q31, x32, q32, x33, q33, x34, q34, x35, q35, x36, q36, x37, q37, x38, q38, x39, q39, x40, q40, x41, q41, x42, q42, x43, q43, x44, q44, x45, q45, x46, q46, x47, q47, x48, q48, x49, q49, x50, q50, h⟩ := h
      refine wpR_val (v := (V23 x29 x30 x31 x32 x33 x34 x35 x36 x37 x38 x39 x40 x41 x42 x43 x44 x45 x46 x47 x48 x49 x50)) (w' := w4) (wantG rfl rfl rfl hc28) rfl rfl (x_loadN (S23 x29 x30 x31 x32 x33 x34 x35 x36 x37 x38 x39 x40 x41 x42 x43 x44 x45 x46 x47 x48 x49 x50) rfl e4 SH_24 (K23 ⟨q29, q30, q31, q32, q33, q34, q35, q36, q37, q38, q39, q40, q41, q42, q43, q44, q45, q46, q47, q48, q49, q50⟩)) ?_
      refine wpR_enter (wantG rfl rfl rfl hc28) rfl rfl (x_call (vs := [(V23 x29 x30 x31 x32 x33 x34 x35 x36 x37 x38 x39 x40 x41 x42 x43 x44 x45 x46 x47 x48 x49 x50)]) rfl rfl (mapl_cons rfl mapl_nil) Try.func10 NN_10 NB_10) (Calls.mono h ?_)
      rintro _ w5 ⟨r51, rfl, h⟩
      refine ⟨_, rfl, ?_⟩
      refine wpR_val (v := (Value.bool (decide (r51 = 0)))) (w' := w5) (wantG rfl rfl rfl hc28) rfl rfl (x_eql rfl rfl rfl) ?_
      refine wpR_val (v := (Value.bool (decide (r51 = 0)))) (w' := w5) rfl rfl rfl (x_pickT (v := (Value.bool (decide (r51 = 0)))) rfl rfl hc28 rfl) ?_
      refine wpR_nil ?_
      exact ⟨decide (r51 = 0), ⟨rfl, e5, trivial⟩, h⟩
    · replace h := h.2 hc28
      refine wpR_pass (wantN rfl rfl rfl hc28) rfl rfl ?_
      refine wpR_pass (wantN rfl rfl rfl hc28) rfl rfl ?_
      refine wpR_pass (wantN rfl rfl rfl hc28) rfl rfl ?_
      refine wpR_val (v := (Value.bool false)) (w' := w4) rfl rfl rfl (x_pickF (v := (Value.bool false)) rfl rfl hc28 rfl) ?_
      refine wpR_nil ?_
      exact ⟨false, ⟨rfl, e5, trivial⟩, h⟩
  clear h
  rintro c52 ρ w6 ⟨e14, e5, -⟩ h
  replace h := hk c52 w6 h
  clear hk
  refine wpR_val (v := (Value.bool c52)) (w' := w6) rfl rfl rfl (x_move (v := (Value.bool c52)) rfl e14) ?_
  obtain ⟨J53, h, hk⟩ := h
  refine wpR_joinJ 4 (fun x ρ => ρ 19 = Value.bool x ∧ True) (J53) ?_ ?_
  · clear hk
    rcases Bool.eq_false_or_eq_true (c52) with hc54 | hc54
    · replace h := h.1 hc54
      obtain ⟨x55, q55, x56, q56, x57, q57, x58, q58, x59, q59, x60, q60, x61, q61, x62, q62, x63, q63, x64, q64, x65, q65, x66, q66, x67, q67, x68, q68, x69, q69, x70, q70, x71, q71, x72, q72, x73, q73, x74, q74, x75, q75, x76, q76, h⟩ := h
      refine wpR_val (v := (V23 x55 x56 x57 x58 x59 x60 x61 x62 x63 x64 x65 x66 x67 x68 x69 x70 x71 x72 x73 x74 x75 x76)) (w' := w6) (wantG rfl rfl rfl hc54) rfl rfl (x_loadN (S23 x55 x56 x57 x58 x59 x60 x61 x62 x63 x64 x65 x66 x67 x68 x69 x70 x71 x72 x73 x74 x75 x76) rfl e5 SH_24 (K23 ⟨q55, q56, q57, q58, q59, q60, q61, q62, q63, q64, q65, q66, q67, q68, q69, q70, q71, q72, q73, q74, q75, q76⟩)) ?_
      refine wpR_enter (wantG rfl rfl rfl hc54) rfl rfl (x_call (vs := [(V23 x55 x56 x57 x58 x59 x60 x61 x62 x63 x64 x65 x66 x67 x68 x69 x70 x71 x72 x73 x74 x75 x76)]) rfl rfl (mapl_cons rfl mapl_nil) Try.func10 NN_10 NB_10) (Calls.mono h ?_)
      rintro _ w7 ⟨r77, rfl, h⟩
      refine ⟨_, rfl, ?_⟩
      refine wpR_val (v := (Value.bool (decide (r77 = 0)))) (w' := w7) (wantG rfl rfl rfl hc54) rfl rfl (x_eql rfl rfl rfl) ?_
      refine wpR_val (v := (Value.bool (decide (r77 = 0)))) (w' := w7) rfl rfl rfl (x_pickT (v := (Value.bool (decide (r77 = 0)))) rfl rfl hc54 rfl) ?_
      refine wpR_nil ?_
      exact ⟨decide (r77 = 0), ⟨rfl, trivial⟩, h⟩
    · replace h := h.2 hc54
      refine wpR_pass (wantN rfl rfl rfl hc54) rfl rfl ?_
      refine wpR_pass (wantN rfl rfl rfl hc54) rfl rfl ?_
      refine wpR_pass (wantN rfl rfl rfl hc54) rfl rfl ?_
      refine wpR_val (v := (Value.bool false)) (w' := w6) rfl rfl rfl (x_pickF (v := (Value.bool false)) rfl rfl hc54 rfl) ?_
      refine wpR_nil ?_
      exact ⟨false, ⟨rfl, trivial⟩, h⟩
  clear h
  rintro c78 ρ w8 ⟨e19, -⟩ h
  replace h := hk c78 w8 h
  clear hk
  refine wpR_val (v := (Value.bool c78)) (w' := w8) rfl rfl rfl (x_assign (v := (Value.bool c78)) rfl e19) ?_
  refine wpR_nil ?_
  refine wpC_ret ?_
  exact ⟨.inl rfl, fun a ha => ⟨_, results_rep1 rfl ha rfl, c78, rfl, h⟩⟩

/-- lingualaw13.alike -/
def F20 (p0_0 : ByteArray) (p0_1 : Int) (p0_2 : Int) (p0_3 : Int) (p0_4 : Bool) (p0_5 : Int) (p0_6 : Bool) (p0_7 : Bool) (p0_8 : Int) (p0_9 : Int) (p0_10 : Int) (p0_11 : Int) (p0_12 : Sl) (p0_13 : Int) (p0_14 : Int) (p0_15 : Int) (p0_16 : Int) (p0_17 : Bool) (p0_18 : Int) (p0_19 : Int) (p0_20 : Int) (p0_21 : Int) (p1_0 : ByteArray) (p1_1 : Int) (p1_2 : Int) (p1_3 : Int) (p1_4 : Bool) (p1_5 : Int) (p1_6 : Bool) (p1_7 : Bool) (p1_8 : Int) (p1_9 : Int) (p1_10 : Int) (p1_11 : Int) (p1_12 : Sl) (p1_13 : Int) (p1_14 : Int) (p1_15 : Int) (p1_16 : Int) (p1_17 : Bool) (p1_18 : Int) (p1_19 : Int) (p1_20 : Int) (p1_21 : Int) (w0 : World) (K : Bool → World → Prop) : Prop :=
  nw 24 (A23 p0_0 p0_1 p0_2 p0_3 p0_4 p0_5 p0_6 p0_7 p0_8 p0_9 p0_10 p0_11 p0_12 p0_13 p0_14 p0_15 p0_16 p0_17 p0_18 p0_19 p0_20 p0_21) w0 fun b1 w1 =>
  nw 24 (A23 p1_0 p1_1 p1_2 p1_3 p1_4 p1_5 p1_6 p1_7 p1_8 p1_9 p1_10 p1_11 p1_12 p1_13 p1_14 p1_15 p1_16 p1_17 p1_18 p1_19 p1_20 p1_21) w1 fun b2 w2 =>
  L23 (Addr.mk b1 0 none) w2 fun x3 x4 x5 x6 x7 x8 x9 x10 x11 x12 x13 x14 x15 x16 x17 x18 x19 x20 x21 x22 x23 x24 =>
  callC Try.prog 31 #[(V23 x3 x4 x5 x6 x7 x8 x9 x10 x11 x12 x13 x14 x15 x16 x17 x18 x19 x20 x21 x22 x23 x24)] (fun (r : Sl) => (Sl.v r)) w2 fun r25 w3 =>
  L23 (Addr.mk b2 0 none) w3 fun x26 x27 x28 x29 x30 x31 x32 x33 x34 x35 x36 x37 x38 x39 x40 x41 x42 x43 x44 x45 x46 x47 =>
  callC Try.prog 31 #[(V23 x26 x27 x28 x29 x30 x31 x32 x33 x34 x35 x36 x37 x38 x39 x40 x41 x42 x43 x44 x45 x46 x47)] (fun (r : Sl) => (Sl.v r)) w3 fun r48 w4 =>
  lp (fun (next49 : Int → World → Prop) l49 w5 =>
    cnd (decide (l49 < (r25.len : Int)))
      (
      jn (fun (J52 : Bool → World → Prop) => tk w5 fun w6 =>
        ix r25 l49 1 fun p53 =>
        ld (Value.int .i64) p53 w6 fun x54 =>
        ix r48 l49 1 fun p55 =>
        ld (Value.int .i64) p55 w6 fun x56 =>
        J52 (!decide (x54 = x56)) w6
      )
      fun l57 w7 =>
      cnd (l57)
        (
        K false w7
        )
        (
        next49 (IntKind.i64.wrap (l49 + 1)) w7
        )
      )
      (
      lp (fun (next59 : Int → World → Prop) l59 w8 =>
        ld Sl.v ((Addr.mk b1 0 none).add 12) w8 fun x60 =>
        cnd (decide (l59 < (x60.len : Int)))
          (
          jn (fun (J63 : Bool → World → Prop) => tk w8 fun w9 =>
            ld Sl.v ((Addr.mk b2 0 none).add 12) w9 fun x64 =>
            ld Sl.v ((Addr.mk b1 0 none).add 12) w9 fun x65 =>
            ix x65 l59 1 fun p66 =>
            ld Value.string p66 w9 fun x67 =>
            callC Try.prog 32 #[(Sl.v x64), (Value.string x67)] (fun (r : Bool) => (Value.bool r)) w9 fun r68 w10 =>
            (w10.cell? ((Addr.mk b1 0 none).add 12) = some (Sl.v x65)) ∧
            J63 (!r68) w10
          )
          fun l69 w11 =>
          cnd (l69)
            (
            K false w11
            )
            (
            next59 (IntKind.i64.wrap (l59 + 1)) w11
            )
          )
          (
          ld Sl.v ((Addr.mk b1 0 none).add 12) w8 fun x71 =>
          ld Sl.v ((Addr.mk b2 0 none).add 12) w8 fun x72 =>
          jp (fun J73 => cnd (decide ((x71.len : Int) = (x72.len : Int)))
            (
            ld (Value.int .i64) ((Addr.mk b1 0 none).add 2) w8 fun x75 =>
            ld (Value.int .i64) ((Addr.mk b2 0 none).add 2) w8 fun x76 =>
            J73 (decide (x75 = x76))
            )
            (
            J73 false
            ))
          fun c77 =>
          K c77 w8
          )
      ) 0 w5
      )
  ) 0 w4
set_option maxRecDepth 100000 in
theorem D20 (p0_0 : ByteArray) (p0_1 : Int) (p0_2 : Int) (p0_3 : Int) (p0_4 : Bool) (p0_5 : Int) (p0_6 : Bool) (p0_7 : Bool) (p0_8 : Int) (p0_9 : Int) (p0_10 : Int) (p0_11 : Int) (p0_12 : Sl) (p0_13 : Int) (p0_14 : Int) (p0_15 : Int) (p0_16 : Int) (p0_17 : Bool) (p0_18 : Int) (p0_19 : Int) (p0_20 : Int) (p0_21 : Int) (p1_0 : ByteArray) (p1_1 : Int) (p1_2 : Int) (p1_3 : Int) (p1_4 : Bool) (p1_5 : Int) (p1_6 : Bool) (p1_7 : Bool) (p1_8 : Int) (p1_9 : Int) (p1_10 : Int) (p1_11 : Int) (p1_12 : Sl) (p1_13 : Int) (p1_14 : Int) (p1_15 : Int) (p1_16 : Int) (p1_17 : Bool) (p1_18 : Int) (p1_19 : Int) (p1_20 : Int) (p1_21 : Int) (w0 : World) (K : Bool → World → Prop) (h : F20 p0_0 p0_1 p0_2 p0_3 p0_4 p0_5 p0_6 p0_7 p0_8 p0_9 p0_10 p0_11 p0_12 p0_13 p0_14 p0_15 p0_16 p0_17 p0_18 p0_19 p0_20 p0_21 p1_0 p1_1 p1_2 p1_3 p1_4 p1_5 p1_6 p1_7 p1_8 p1_9 p1_10 p1_11 p1_12 p1_13 p1_14 p1_15 p1_16 p1_17 p1_18 p1_19 p1_20 p1_21 w0 K) : callC Try.prog 20 #[(V23 p0_0 p0_1 p0_2 p0_3 p0_4 p0_5 p0_6 p0_7 p0_8 p0_9 p0_10 p0_11 p0_12 p0_13 p0_14 p0_15 p0_16 p0_17 p0_18 p0_19 p0_20 p0_21), (V23 p1_0 p1_1 p1_2 p1_3 p1_4 p1_5 p1_6 p1_7 p1_8 p1_9 p1_10 p1_11 p1_12 p1_13 p1_14 p1_15 p1_16 p1_17 p1_18 p1_19 p1_20 p1_21)] (fun (r : Bool) => (Value.bool r)) w0 K := by
  unfold F20 at h
  refine calls_of_wpC Try.func20 rfl 58 rfl (by simp) ?_
  intro ρ hρ
  have e0 : ρ 0 = (V23 p0_0 p0_1 p0_2 p0_3 p0_4 p0_5 p0_6 p0_7 p0_8 p0_9 p0_10 p0_11 p0_12 p0_13 p0_14 p0_15 p0_16 p0_17 p0_18 p0_19 p0_20 p0_21) := hρ 0
  have e1 : ρ 1 = (V23 p1_0 p1_1 p1_2 p1_3 p1_4 p1_5 p1_6 p1_7 p1_8 p1_9 p1_10 p1_11 p1_12 p1_13 p1_14 p1_15 p1_16 p1_17 p1_18 p1_19 p1_20 p1_21) := hρ 1
  clear hρ
  refine wpC_seq ?_
  refine wpC_region ?_
  obtain ⟨b1, hb1⟩ : ∃ u, u = w0.heap.size := ⟨_, rfl⟩
  obtain ⟨w1, hw1⟩ : ∃ u, u = w0.alloc (.cells (A23 p0_0 p0_1 p0_2 p0_3 p0_4 p0_5 p0_6 p0_7 p0_8 p0_9 p0_10 p0_11 p0_12 p0_13 p0_14 p0_15 p0_16 p0_17 p0_18 p0_19 p0_20 p0_21) 24) := ⟨_, rfl⟩
  replace h := h b1 w1 hb1 hw1
  refine wpR_val (v := (Value.pointer (some (Addr.mk b1 0 none)))) (w' := w1) rfl rfl rfl ((x_box (v := (V23 p0_0 p0_1 p0_2 p0_3 p0_4 p0_5 p0_6 p0_7 p0_8 p0_9 p0_10 p0_11 p0_12 p0_13 p0_14 p0_15 p0_16 p0_17 p0_18 p0_19 p0_20 p0_21)) rfl e0).trans (by rw [hb1, hw1]; rfl)) ?_
  obtain ⟨b2, hb2⟩ : ∃ u, u = w1.heap.size := ⟨_, rfl⟩
  obtain ⟨w2, hw2⟩ : ∃ u, u = w1.alloc (.cells (A23 p1_0 p1_1 p1_2 p1_3 p1_4 p1_5 p1_6 p1_7 p1_8 p1_9 p1_10 p1_11 p1_12 p1_13 p1_14 p1_15 p1_16 p1_17 p1_18 p1_19 p1_20 p1_21) 24) := ⟨_, rfl⟩
  replace h := h b2 w2 hb2 hw2
  refine wpR_val (v := (Value.pointer (some (Addr.mk b2 0 none)))) (w' := w2) rfl rfl rfl ((x_box (v := (V23 p1_0 p1_1 p1_2 p1_3 p1_4 p1_5 p1_6 p1_7 p1_8 p1_9 p1_10 p1_11 p1_12 p1_13 p1_14 p1_15 p1_16 p1_17 p1_18 p1_19 p1_20 p1_21)) rfl e1).trans (by rw [hb2, hw2]; rfl)) ?_
  refine wpR_val (v := (Value.bool false)) (w' := w2) rfl rfl rfl (x_assign (v := (Value.bool false)) rfl rfl) ?_
  refine wpR_nil ?_
  refine wpC_seq ?_
  refine wpC_cut (fun ρ => ρ 2 = (Value.pointer (some (Addr.mk b1 0 none))) ∧ ρ 3 = (Value.pointer (some (Addr.mk b2 0 none))) ∧ True) ⟨rfl, rfl, trivial⟩ ?_
  rintro ρ ⟨e2, e3, -⟩
  refine wpC_region ?_
  obtain ⟨x3, q3, x4, q4, x5, q5, x6, q6, x7, q7, x8, q8, x9, q9, x10, q10, x11, q11, x12, q12, x13, q13, x14, q14, x15, q15, x16, q16, x17, q17, x18, q18, x19, q19, x20, q20, x21, q21, x22, q22, x23, q23, x24, q24, h⟩ := h
  refine wpR_val (v := (V23 x3 x4 x5 x6 x7 x8 x9 x10 x11 x12 x13 x14 x15 x16 x17 x18 x19 x20 x21 x22 x23 x24)) (w' := w2) rfl rfl rfl (x_loadN (S23 x3 x4 x5 x6 x7 x8 x9 x10 x11 x12 x13 x14 x15 x16 x17 x18 x19 x20 x21 x22 x23 x24) rfl e2 SH_24 (K23 ⟨q3, q4, q5, q6, q7, q8, q9, q10, q11, q12, q13, q14, q15, q16, q17, q18, q19, q20, q21, q22, q23, q24⟩)) ?_
  refine wpR_enter rfl rfl rfl (x_call (vs := [(V23 x3 x4 x5 x6 x7 x8 x9 x10 x11 x12 x13 x14 x15 x16 x17 x18 x19 x20 x21 x22 x23 x24)]) rfl rfl (mapl_cons rfl mapl_nil) Try.func31 NN_31 NB_31) (Calls.mono h ?_)
  rintro _ w3 ⟨r25, rfl, h⟩
  refine ⟨_, rfl, ?_⟩
  refine wpR_val (v := (Sl.v r25)) (w' := w3) rfl rfl rfl (x_assign (v := (Sl.v r25)) rfl rfl) ?_
  refine wpR_nil ?_
  refine wpC_seq ?_
  refine wpC_cut (fun ρ => ρ 2 = (Value.pointer (some (Addr.mk b1 0 none))) ∧ ρ 3 = (Value.pointer (some (Addr.mk b2 0 none))) ∧ ρ 5 = (Sl.v r25) ∧ True) ⟨e2, e3, rfl, trivial⟩ ?_
  rintro ρ ⟨e2, e3, e5, -⟩
  refine wpC_region ?_
  obtain ⟨x26, q26, x27, q27, x28, q28, x29, q29, x30, q30, x31, q31, x32, q32, x33, q33, x34, q34, x35, q35, x36, q36, x37, q37, x38, q38, x39, q39, x40, q40, x41, q41, x42, q42, x43, q43, x44, q44, x45, q45, x46, q46, x47, q47, h⟩ := h
  refine wpR_val (v := (V23 x26 x27 x28 x29 x30 x31 x32 x33 x34 x35 x36 x37 x38 x39 x40 x41 x42 x43 x44 x45 x46 x47)) (w' := w3) rfl rfl rfl (x_loadN (S23 x26 x27 x28 x29 x30 x31 x32 x33 x34 x35 x36 x37 x38 x39 x40 x41 x42 x43 x44 x45 x46 x47) rfl e3 SH_24 (K23 ⟨q26, q27, q28, q29, q30, q31, q32, q33, q34, q35, q36, q37, q38, q39, q40, q41, q42, q43, q44, q45, q46, q47⟩)) ?_
  refine wpR_enter rfl rfl rfl (x_call (vs := [(V23 x26 x27 x28 x29 x30 x31 x32 x33 x34 x35 x36 x37 x38 x39 x40 x41 x42 x43 x44 x45 x46 x47)]) rfl rfl (mapl_cons rfl mapl_nil) Try.func31 NN_31 NB_31) (Calls.mono h ?_)
  rintro _ w4 ⟨r48, rfl, h⟩
  refine ⟨_, rfl, ?_⟩
  refine wpR_val (v := (Sl.v r48)) (w' := w4) rfl rfl rfl (x_assign (v := (Sl.v r48)) rfl rfl) ?_
  refine wpR_nil ?_
  refine wpC_seq ?_
  refine wpC_seq ?_
  refine wpC_cut (fun ρ => ρ 2 = (Value.pointer (some (Addr.mk b1 0 none))) ∧ ρ 3 = (Value.pointer (some (Addr.mk b2 0 none))) ∧ ρ 5 = (Sl.v r25) ∧ ρ 6 = (Sl.v r48) ∧ True) ⟨e2, e3, e5, rfl, trivial⟩ ?_
  rintro ρ ⟨e2, e3, e5, e6, -⟩
  refine wpC_region ?_
  refine wpR_val (v := (Value.int .i64 0)) (w' := w4) rfl rfl rfl (x_assign (v := (Value.int .i64 0)) rfl rfl) ?_
  refine wpR_nil ?_
  refine wpC_block ?_
  obtain ⟨I49, μ49, hI49, hr49⟩ := h
  refine wpC_loop (fun (x : Int) ρ => ρ 7 = (Value.int .i64 x) ∧ ρ 2 = (Value.pointer (some (Addr.mk b1 0 none))) ∧ ρ 3 = (Value.pointer (some (Addr.mk b2 0 none))) ∧ ρ 5 = (Sl.v r25) ∧ ρ 6 = (Sl.v r48) ∧ True) I49 μ49 0 ⟨rfl, e2, e3, e5, e6, trivial⟩ hI49 ?_
  rintro l49 ρ w5 ⟨e7, e2, e3, e5, e6, -⟩ h
  replace h := hr49 l49 w5 h
  clear hr49 hI49
  refine wpC_seq ?_
  refine wpC_seq ?_
  refine wpC_region ?_
  refine wpR_val (v := (Value.int .i64 l49)) (w' := w5) rfl rfl rfl (x_move (v := (Value.int .i64 l49)) rfl e7) ?_
  refine wpR_val (v := (Sl.v r25)) (w' := w5) rfl rfl rfl (x_move (v := (Sl.v r25)) rfl e5) ?_
  refine wpR_val (v := (Value.int .i64 (r25.len : Int))) (w' := w5) rfl rfl rfl (x_lenS (s := r25) rfl rfl isSliceT_38) ?_
  refine wpR_val (v := (Value.bool (decide (l49 < (r25.len : Int))))) (w' := w5) rfl rfl rfl (x_lss rfl rfl rfl) ?_
  refine wpR_nil ?_
  refine wpC_cond (b := decide (l49 < (r25.len : Int))) rfl (fun hc50 => ?_) (fun hc50 => ?_)
  · replace h := h.1 hc50
    refine wpC_skip ?_
    refine wpC_seq ?_
    refine wpC_block ?_
    refine wpC_seq ?_
    refine wpC_cut (fun ρ => ρ 2 = (Value.pointer (some (Addr.mk b1 0 none))) ∧ ρ 3 = (Value.pointer (some (Addr.mk b2 0 none))) ∧ ρ 5 = (Sl.v r25) ∧ ρ 6 = (Sl.v r48) ∧ ρ 7 = (Value.int .i64 l49) ∧ True) ⟨e2, e3, e5, e6, e7, trivial⟩ ?_
    rintro ρ ⟨e2, e3, e5, e6, e7, -⟩
    obtain ⟨J52, h, hk⟩ := h
    refine wpC_drawJ (by kernel_rfl) (fun (x : Bool) ρ => ρ 27 = (Value.bool x) ∧ ρ 2 = (Value.pointer (some (Addr.mk b1 0 none))) ∧ ρ 3 = (Value.pointer (some (Addr.mk b2 0 none))) ∧ ρ 5 = (Sl.v r25) ∧ ρ 6 = (Sl.v r48) ∧ ρ 7 = (Value.int .i64 l49) ∧ True) J52 ?_ ?_
    · clear hk
      unfold tk at h
      generalize w5.drew = w6 at h ⊢
      refine wpD_take (v := (Sl.v r25)) 0 (fun _ => True) rfl (by kernel_rfl) (by kernel_rfl) (by kernel_rfl) rfl rfl rfl trivial (fun w _ => (x_move (v := (Sl.v r25)) rfl e5)) ?_
      refine wpD_take (v := (Value.int .i64 l49)) 1 (fun _ => True) rfl (by kernel_rfl) (by kernel_rfl) (by kernel_rfl) rfl rfl rfl trivial (fun w _ => (x_move (v := (Value.int .i64 l49)) rfl e7)) ?_
      obtain ⟨q53, z53, r53, h⟩ := h
      generalize hp53 : z53.add ((l49 : Int).toNat * 1) = p53 at h
      refine wpD_take (v := (Value.pointer (some p53))) 2 (fun _ => True) rfl (by kernel_rfl) (by kernel_rfl) (by kernel_rfl) rfl rfl rfl trivial (fun w _ => ((x_indexAddr (s := r25) rfl rfl rfl ES_38 q53 r53).trans (by rw [hp53]))) ?_
      obtain ⟨x54, q54, h⟩ := h
      refine wpD_take (v := (Value.int .i64 x54)) 3 (fun w => w.cell? p53 = some (Value.int .i64 x54)) rfl (by kernel_rfl) (by kernel_rfl) (by kernel_rfl) rfl rfl rfl q54 (fun w q54 => (x_load1 rfl rfl SH_3 q54)) ?_
      refine wpD_take (v := (Sl.v r48)) 4 (fun _ => True) rfl (by kernel_rfl) (by kernel_rfl) (by kernel_rfl) rfl rfl rfl trivial (fun w _ => (x_move (v := (Sl.v r48)) rfl e6)) ?_
      refine wpD_take (v := (Value.int .i64 l49)) 5 (fun _ => True) rfl (by kernel_rfl) (by kernel_rfl) (by kernel_rfl) rfl rfl rfl trivial (fun w _ => (x_move (v := (Value.int .i64 l49)) rfl e7)) ?_
      obtain ⟨q55, z55, r55, h⟩ := h
      generalize hp55 : z55.add ((l49 : Int).toNat * 1) = p55 at h
      refine wpD_take (v := (Value.pointer (some p55))) 6 (fun _ => True) rfl (by kernel_rfl) (by kernel_rfl) (by kernel_rfl) rfl rfl rfl trivial (fun w _ => ((x_indexAddr (s := r48) rfl rfl rfl ES_38 q55 r55).trans (by rw [hp55]))) ?_
      obtain ⟨x56, q56, h⟩ := h
      refine wpD_take (v := (Value.int .i64 x56)) 7 (fun w => w.cell? p55 = some (Value.int .i64 x56)) rfl (by kernel_rfl) (by kernel_rfl) (by kernel_rfl) rfl rfl rfl q56 (fun w q56 => (x_load1 rfl rfl SH_3 q56)) ?_
      refine wpD_take (v := (Value.bool (!decide (x54 = x56)))) 8 (fun _ => True) rfl (by kernel_rfl) (by kernel_rfl) (by kernel_rfl) rfl rfl rfl trivial (fun w _ => (x_neq rfl rfl rfl)) ?_
      exact wpD_done (by kernel_rfl) ⟨!decide (x54 = x56), ⟨rfl, e2, e3, e5, e6, e7, trivial⟩, h⟩
    clear h
    rintro l57 ρ w7 ⟨e27, e2, e3, e5, e6, e7, -⟩ h
    replace h := hk l57 w7 h
    clear hk
    refine wpC_cond (b := l57) e27 (fun hc58 => ?_) (fun hc58 => ?_)
    · replace h := h.1 hc58
      refine wpC_seq ?_
      refine wpC_region ?_
      refine wpR_val (v := (Value.bool false)) (w' := w7) rfl rfl rfl (x_assign (v := (Value.bool false)) rfl rfl) ?_
      refine wpR_nil ?_
      refine wpC_ret ?_
      exact ⟨.inl rfl, fun a ha => ⟨_, results_rep1 rfl ha rfl, false, rfl, h⟩⟩
    · replace h := h.2 hc58
      refine wpC_skip ?_
      refine wpC_region ?_
      refine wpR_val (v := (Value.int .i64 l49)) (w' := w7) rfl rfl rfl (x_move (v := (Value.int .i64 l49)) rfl e7) ?_
      refine wpR_val (v := (Value.int .i64 (IntKind.i64.wrap (l49 + 1)))) (w' := w7) rfl rfl rfl (x_add rfl rfl rfl) ?_
      refine wpR_val (v := (Value.int .i64 (IntKind.i64.wrap (l49 + 1)))) (w' := w7) rfl rfl rfl (x_assign (v := (Value.int .i64 (IntKind.i64.wrap (l49 + 1)))) rfl rfl) ?_
      refine wpR_nil ?_
      exact ⟨IntKind.i64.wrap (l49 + 1), ⟨rfl, e2, e3, e5, e6, trivial⟩, h⟩
  · replace h := h.2 hc50
    refine wpC_exit ?_
    refine wpC_seq ?_
    refine wpC_seq ?_
    refine wpC_cut (fun ρ => ρ 2 = (Value.pointer (some (Addr.mk b1 0 none))) ∧ ρ 3 = (Value.pointer (some (Addr.mk b2 0 none))) ∧ True) ⟨e2, e3, trivial⟩ ?_
    rintro ρ ⟨e2, e3, -⟩
    refine wpC_region ?_
    refine wpR_val (v := (Value.int .i64 0)) (w' := w5) rfl rfl rfl (x_assign (v := (Value.int .i64 0)) rfl rfl) ?_
    refine wpR_nil ?_
    refine wpC_block ?_
    obtain ⟨I59, μ59, hI59, hr59⟩ := h
    refine wpC_loop (fun (x : Int) ρ => ρ 8 = (Value.int .i64 x) ∧ ρ 2 = (Value.pointer (some (Addr.mk b1 0 none))) ∧ ρ 3 = (Value.pointer (some (Addr.mk b2 0 none))) ∧ True) I59 μ59 0 ⟨rfl, e2, e3, trivial⟩ hI59 ?_
    rintro l59 ρ w8 ⟨e8, e2, e3, -⟩ h
    replace h := hr59 l59 w8 h
    clear hr59 hI59
    refine wpC_seq ?_
    refine wpC_seq ?_
    refine wpC_region ?_
    refine wpR_val (v := (Value.int .i64 l59)) (w' := w8) rfl rfl rfl (x_move (v := (Value.int .i64 l59)) rfl e8) ?_
    refine wpR_val (v := (Value.pointer (some ((Addr.mk b1 0 none).add 12)))) (w' := w8) rfl rfl rfl (x_fieldAddr rfl e2 FA_24_12) ?_
    obtain ⟨x60, q60, h⟩ := h
    refine wpR_val (v := (Sl.v x60)) (w' := w8) rfl rfl rfl (x_load1 rfl rfl SH_22 q60) ?_
    refine wpR_val (v := (Value.int .i64 (x60.len : Int))) (w' := w8) rfl rfl rfl (x_lenS (s := x60) rfl rfl isSliceT_22) ?_
    refine wpR_val (v := (Value.bool (decide (l59 < (x60.len : Int))))) (w' := w8) rfl rfl rfl (x_lss rfl rfl rfl) ?_
    refine wpR_nil ?_
    refine wpC_cond (b := decide (l59 < (x60.len : Int))) rfl (fun hc61 => ?_) (fun hc61 => ?_)
    · replace h := h.1 hc61
      refine wpC_skip ?_
      refine wpC_seq ?_
      refine wpC_block ?_
      refine wpC_seq ?_
      refine wpC_cut (fun ρ => ρ 2 = (Value.pointer (some (Addr.mk b1 0 none))) ∧ ρ 3 = (Value.pointer (some (Addr.mk b2 0 none))) ∧ ρ 8 = (Value.int .i64 l59) ∧ True) ⟨e2, e3, e8, trivial⟩ ?_
      rintro ρ ⟨e2, e3, e8, -⟩
      obtain ⟨J63, h, hk⟩ := h
      refine wpC_drawJ (by kernel_rfl) (fun (x : Bool) ρ => ρ 43 = (Value.bool x) ∧ ρ 2 = (Value.pointer (some (Addr.mk b1 0 none))) ∧ ρ 3 = (Value.pointer (some (Addr.mk b2 0 none))) ∧ ρ 8 = (Value.int .i64 l59) ∧ True) J63 ?_ ?_
      · clear hk
        unfold tk at h
        generalize w8.drew = w9 at h ⊢
        refine wpD_take (v := (Value.pointer (some ((Addr.mk b2 0 none).add 12)))) 0 (fun _ => True) rfl (by kernel_rfl) (by kernel_rfl) (by kernel_rfl) rfl rfl rfl trivial (fun w _ => (x_fieldAddr rfl e3 FA_24_12)) ?_
        obtain ⟨x64, q64, h⟩ := h
        refine wpD_take (v := (Sl.v x64)) 1 (fun w => w.cell? ((Addr.mk b2 0 none).add 12) = some (Sl.v x64)) rfl (by kernel_rfl) (by kernel_rfl) (by kernel_rfl) rfl rfl rfl q64 (fun w q64 => (x_load1 rfl rfl SH_22 q64)) ?_
        refine wpD_take (v := (Value.pointer (some ((Addr.mk b1 0 none).add 12)))) 2 (fun _ => True) rfl (by kernel_rfl) (by kernel_rfl) (by kernel_rfl) rfl rfl rfl trivial (fun w _ => (x_fieldAddr rfl e2 FA_24_12)) ?_
        obtain ⟨x65, q65, h⟩ := h
        refine wpD_take (v := (Sl.v x65)) 3 (fun w => w.cell? ((Addr.mk b1 0 none).add 12) = some (Sl.v x65)) rfl (by kernel_rfl) (by kernel_rfl) (by kernel_rfl) rfl rfl rfl q65 (fun w q65 => (x_load1 rfl rfl SH_22 q65)) ?_
        refine wpD_take (v := (Value.int .i64 l59)) 4 (fun _ => True) rfl (by kernel_rfl) (by kernel_rfl) (by kernel_rfl) rfl rfl rfl trivial (fun w _ => (x_move (v := (Value.int .i64 l59)) rfl e8)) ?_
        obtain ⟨q66, z66, r66, h⟩ := h
        generalize hp66 : z66.add ((l59 : Int).toNat * 1) = p66 at h
        refine wpD_take (v := (Value.pointer (some p66))) 5 (fun _ => True) rfl (by kernel_rfl) (by kernel_rfl) (by kernel_rfl) rfl rfl rfl trivial (fun w _ => ((x_indexAddr (s := x65) rfl rfl rfl ES_22 q66 r66).trans (by rw [hp66]))) ?_
        obtain ⟨x67, q67, h⟩ := h
        refine wpD_take (v := (Value.string x67)) 6 (fun w => w.cell? p66 = some (Value.string x67)) rfl (by kernel_rfl) (by kernel_rfl) (by kernel_rfl) rfl rfl rfl q67 (fun w q67 => (x_load1 rfl rfl SH_9 q67)) ?_
        refine wpD_all (rs := [7]) (by kernel_rfl) (by simp) (allD_cons ?_ allD_nil)
        refine stepD_enterL (L' := [(5, fun _ => True), (4, fun _ => True), (3, fun w => w.cell? ((Addr.mk b1 0 none).add 12) = some (Sl.v x65)), (2, fun _ => True), (0, fun _ => True)]) rfl rfl rfl rfl (x_call (vs := [(Sl.v x64), (Value.string x67)]) rfl rfl (mapl_cons rfl (mapl_cons rfl mapl_nil)) Try.func32 NN_32 NB_32) (by kernel_rfl) (Calls.mono h ?_)
        rintro _ w10 ⟨r68, rfl, h⟩
        obtain ⟨o3, h⟩ := h
        refine ⟨_, rfl, (held_cons trivial (held_cons trivial (held_cons o3 (held_cons trivial (held_cons trivial held_nil))))), ?_⟩
        refine wpD_take (v := (Value.bool (!r68))) 8 (fun _ => True) rfl (by kernel_rfl) (by kernel_rfl) (by kernel_rfl) rfl rfl rfl trivial (fun w _ => (x_not rfl rfl)) ?_
        exact wpD_done (by kernel_rfl) ⟨!r68, ⟨rfl, e2, e3, e8, trivial⟩, h⟩
      clear h
      rintro l69 ρ w11 ⟨e43, e2, e3, e8, -⟩ h
      replace h := hk l69 w11 h
      clear hk
      refine wpC_cond (b := l69) e43 (fun hc70 => ?_) (fun hc70 => ?_)
      · replace h := h.1 hc70
        refine wpC_seq ?_
        refine wpC_region ?_
        refine wpR_val (v := (Value.bool false)) (w' := w11) rfl rfl rfl (x_assign (v := (Value.bool false)) rfl rfl) ?_
        refine wpR_nil ?_
        refine wpC_ret ?_
        exact ⟨.inl rfl, fun a ha => ⟨_, results_rep1 rfl ha rfl, false, rfl, h⟩⟩
      · replace h := h.2 hc70
        refine wpC_skip ?_
        refine wpC_region ?_
        refine wpR_val (v := (Value.int .i64 l59)) (w' := w11) rfl rfl rfl (x_move (v := (Value.int .i64 l59)) rfl e8) ?_
        refine wpR_val (v := (Value.int .i64 (IntKind.i64.wrap (l59 + 1)))) (w' := w11) rfl rfl rfl (x_add rfl rfl rfl) ?_
        refine wpR_val (v := (Value.int .i64 (IntKind.i64.wrap (l59 + 1)))) (w' := w11) rfl rfl rfl (x_assign (v := (Value.int .i64 (IntKind.i64.wrap (l59 + 1)))) rfl rfl) ?_
        refine wpR_nil ?_
        exact ⟨IntKind.i64.wrap (l59 + 1), ⟨rfl, e2, e3, trivial⟩, h⟩
    · replace h := h.2 hc61
      refine wpC_exit ?_
      refine wpC_seq ?_
      refine wpC_cut (fun ρ => ρ 2 = (Value.pointer (some (Addr.mk b1 0 none))) ∧ ρ 3 = (Value.pointer (some (Addr.mk b2 0 none))) ∧ True) ⟨e2, e3, trivial⟩ ?_
      rintro ρ ⟨e2, e3, -⟩
      refine wpC_region ?_
      refine wpR_val (v := (Value.pointer (some ((Addr.mk b1 0 none).add 12)))) (w' := w8) rfl rfl rfl (x_fieldAddr rfl e2 FA_24_12) ?_
      obtain ⟨x71, q71, h⟩ := h
      refine wpR_val (v := (Sl.v x71)) (w' := w8) rfl rfl rfl (x_load1 rfl rfl SH_22 q71) ?_
      refine wpR_val (v := (Value.int .i64 (x71.len : Int))) (w' := w8) rfl rfl rfl (x_lenS (s := x71) rfl rfl isSliceT_22) ?_
      refine wpR_val (v := (Value.pointer (some ((Addr.mk b2 0 none).add 12)))) (w' := w8) rfl rfl rfl (x_fieldAddr rfl e3 FA_24_12) ?_
      obtain ⟨x72, q72, h⟩ := h
      refine wpR_val (v := (Sl.v x72)) (w' := w8) rfl rfl rfl (x_load1 rfl rfl SH_22 q72) ?_
      refine wpR_val (v := (Value.int .i64 (x72.len : Int))) (w' := w8) rfl rfl rfl (x_lenS (s := x72) rfl rfl isSliceT_22) ?_
      refine wpR_val (v := (Value.bool (decide ((x71.len : Int) = (x72.len : Int))))) (w' := w8) rfl rfl rfl (x_eql rfl rfl rfl) ?_
      refine wpR_val (v := (Value.bool (decide ((x71.len : Int) = (x72.len : Int))))) (w' := w8) rfl rfl rfl (x_move (v := (Value.bool (decide ((x71.len : Int) = (x72.len : Int))))) rfl rfl) ?_
      obtain ⟨J73, h, hk⟩ := h
      refine wpR_joinJ 6 (fun x ρ => ρ 57 = Value.bool x ∧ True) (fun x w => J73 x ∧ w8 = w) ?_ ?_
      · clear hk
        rcases Bool.eq_false_or_eq_true (decide ((x71.len : Int) = (x72.len : Int))) with hc74 | hc74
        · replace h := h.1 hc74
          refine wpR_val (v := (Value.pointer (some ((Addr.mk b1 0 none).add 2)))) (w' := w8) (wantG rfl rfl rfl hc74) rfl rfl (x_fieldAddr rfl e2 FA_24_2) ?_
          obtain ⟨x75, q75, h⟩ := h
          refine wpR_val (v := (Value.int .i64 x75)) (w' := w8) (wantG rfl rfl rfl hc74) rfl rfl (x_load1 rfl rfl SH_3 q75) ?_
          refine wpR_val (v := (Value.pointer (some ((Addr.mk b2 0 none).add 2)))) (w' := w8) (wantG rfl rfl rfl hc74) rfl rfl (x_fieldAddr rfl e3 FA_24_2) ?_
          obtain ⟨x76, q76, h⟩ := h
          refine wpR_val (v := (Value.int .i64 x76)) (w' := w8) (wantG rfl rfl rfl hc74) rfl rfl (x_load1 rfl rfl SH_3 q76) ?_
          refine wpR_val (v := (Value.bool (decide (x75 = x76)))) (w' := w8) (wantG rfl rfl rfl hc74) rfl rfl (x_eql rfl rfl rfl) ?_
          refine wpR_val (v := (Value.bool (decide (x75 = x76)))) (w' := w8) rfl rfl rfl (x_pickT (v := (Value.bool (decide (x75 = x76)))) rfl rfl hc74 rfl) ?_
          refine wpR_nil ?_
          exact ⟨decide (x75 = x76), ⟨rfl, trivial⟩, h, rfl⟩
        · replace h := h.2 hc74
          refine wpR_pass (wantN rfl rfl rfl hc74) rfl rfl ?_
          refine wpR_pass (wantN rfl rfl rfl hc74) rfl rfl ?_
          refine wpR_pass (wantN rfl rfl rfl hc74) rfl rfl ?_
          refine wpR_pass (wantN rfl rfl rfl hc74) rfl rfl ?_
          refine wpR_pass (wantN rfl rfl rfl hc74) rfl rfl ?_
          refine wpR_val (v := (Value.bool false)) (w' := w8) rfl rfl rfl (x_pickF (v := (Value.bool false)) rfl rfl hc74 rfl) ?_
          refine wpR_nil ?_
          exact ⟨false, ⟨rfl, trivial⟩, h, rfl⟩
      clear h
      rintro c77 ρ wj ⟨e57, -⟩ ⟨h, rfl⟩
      replace h := hk c77 h
      clear hk
      refine wpR_val (v := (Value.bool c77)) (w' := w8) rfl rfl rfl (x_assign (v := (Value.bool c77)) rfl e57) ?_
      refine wpR_nil ?_
      refine wpC_ret ?_
      exact ⟨.inl rfl, fun a ha => ⟨_, results_rep1 rfl ha rfl, c77, rfl, h⟩⟩

/-- lingualaw13.one -/
def F21  (w0 : World) (K : T23 → World → Prop) : Prop :=
  nw 24 (A23 (ByteArray.mk #[]) 0 0 0 false 0 false false 0 0 0 0 Sl.nil 0 0 0 0 false 0 0 0 0) w0 fun b1 w1 =>
  nw 9 #[(Value.string (ByteArray.mk #[112, 110, 103])), (Value.string (ByteArray.mk #[116, 120, 116]))] w1 fun b2 w2 =>
  st (Addr.mk b1 0 none) (S23 (ByteArray.mk #[112]) 2 5 1 false 1 false false 100 3 2 1000 (⟨some ⟨b2, 0, none⟩, 2, 2⟩ : Sl) 0 0 0 0 false 1 0 1 0) w2 fun w3 =>
  L23 (Addr.mk b1 0 none) w3 fun x4 x5 x6 x7 x8 x9 x10 x11 x12 x13 x14 x15 x16 x17 x18 x19 x20 x21 x22 x23 x24 x25 =>
  K (x4, x5, x6, x7, x8, x9, x10, x11, x12, x13, x14, x15, x16, x17, x18, x19, x20, x21, x22, x23, x24, x25) w3
set_option maxRecDepth 100000 in
theorem D21  (w0 : World) (K : T23 → World → Prop) (h : F21  w0 K) : callC Try.prog 21 #[] E23 w0 K := by
  unfold F21 at h
  refine calls_of_wpC Try.func21 rfl 3 rfl (by simp) ?_
  intro ρ hρ
  clear hρ
  refine wpC_seq ?_
  refine wpC_region ?_
  obtain ⟨b1, hb1⟩ : ∃ u, u = w0.heap.size := ⟨_, rfl⟩
  obtain ⟨w1, hw1⟩ : ∃ u, u = w0.alloc (.cells (A23 (ByteArray.mk #[]) 0 0 0 false 0 false false 0 0 0 0 Sl.nil 0 0 0 0 false 0 0 0 0) 24) := ⟨_, rfl⟩
  replace h := h b1 w1 hb1 hw1
  refine wpR_val (v := (Value.pointer (some (Addr.mk b1 0 none)))) (w' := w1) rfl rfl rfl ((x_alloc rfl ZV_24).trans (by rw [hb1, hw1]; rfl)) ?_
  refine wpR_nil ?_
  refine wpC_seq ?_
  refine wpC_cut (fun ρ => ρ 0 = (Value.pointer (some (Addr.mk b1 0 none))) ∧ True) ⟨rfl, trivial⟩ ?_
  rintro ρ ⟨e0, -⟩
  refine wpC_region ?_
  obtain ⟨b2, hb2⟩ : ∃ u, u = w1.heap.size := ⟨_, rfl⟩
  obtain ⟨w2, hw2⟩ : ∃ u, u = w1.alloc (.cells #[(Value.string (ByteArray.mk #[112, 110, 103])), (Value.string (ByteArray.mk #[116, 120, 116]))] 9) := ⟨_, rfl⟩
  replace h := h b2 w2 hb2 hw2
  refine wpR_val (v := (Sl.v (⟨some ⟨b2, 0, none⟩, 2, 2⟩ : Sl))) (w' := w2) rfl rfl rfl ((x_buildSlice (qs := [(0, (Value.string (ByteArray.mk #[112, 110, 103]))), (1, (Value.string (ByteArray.mk #[116, 120, 116])))]) rfl (by rfl) (BS_22_2_0_1 (ByteArray.mk #[112, 110, 103]) (ByteArray.mk #[116, 120, 116]))).trans (by rw [← hb2, ← hw2])) ?_
  refine wpR_val (v := (V23 (ByteArray.mk #[112]) 2 5 1 false 1 false false 100 3 2 1000 (⟨some ⟨b2, 0, none⟩, 2, 2⟩ : Sl) 0 0 0 0 false 1 0 1 0)) (w' := w2) rfl rfl rfl (x_build (qs := [(0, (Value.string (ByteArray.mk #[112]))), (1, (Value.int .i64 2)), (2, (Value.int .i64 5)), (3, (Value.int .i64 1)), (5, (Value.int .i64 1)), (8, (Value.int .i64 100)), (9, (Value.int .i64 3)), (10, (Value.int .i64 2)), (11, (Value.int .i64 1000)), (12, (Sl.v (⟨some ⟨b2, 0, none⟩, 2, 2⟩ : Sl))), (18, (Value.int .i64 1)), (20, (Value.int .i64 1))]) rfl (by rfl) (BD_24_0_1_2_3_5_8_9_10_11_12_18_20 (ByteArray.mk #[112]) 2 5 1 1 100 3 2 1000 (⟨some ⟨b2, 0, none⟩, 2, 2⟩ : Sl) 1 1 _)) ?_
  obtain ⟨q3, h⟩ := h
  obtain ⟨w3, hw3⟩ : ∃ u, u = setAll w2 (Addr.mk b1 0 none) (S23 (ByteArray.mk #[112]) 2 5 1 false 1 false false 100 3 2 1000 (⟨some ⟨b2, 0, none⟩, 2, 2⟩ : Sl) 0 0 0 0 false 1 0 1 0) 0 := ⟨_, rfl⟩
  replace h := h w3 hw3
  refine wpR_skp (w' := w3) rfl rfl ((x_store (v := (V23 (ByteArray.mk #[112]) 2 5 1 false 1 false false 100 3 2 1000 (⟨some ⟨b2, 0, none⟩, 2, 2⟩ : Sl) 0 0 0 0 false 1 0 1 0)) rfl e0 rfl SZ_24 (ones (by rfl)) q3).trans (by rw [hw3]; rfl)) ?_
  refine wpR_nil ?_
  refine wpC_ret ?_
  obtain ⟨x4, q4, x5, q5, x6, q6, x7, q7, x8, q8, x9, q9, x10, q10, x11, q11, x12, q12, x13, q13, x14, q14, x15, q15, x16, q16, x17, q17, x18, q18, x19, q19, x20, q20, x21, q21, x22, q22, x23, q23, x24, q24, x25, q25, h⟩ := h
  exact ⟨.inl rfl, fun a ha => ⟨_, results_repC (S23 x4 x5 x6 x7 x8 x9 x10 x11 x12 x13 x14 x15 x16 x17 x18 x19 x20 x21 x22 x23 x24 x25) rfl ha e0 SH_24 (CellsAt.out (CellsAt.cons q4 (CellsAt.cons q5 (CellsAt.cons q6 (CellsAt.cons q7 (CellsAt.cons q8 (CellsAt.cons q9 (CellsAt.cons q10 (CellsAt.cons q11 (CellsAt.cons q12 (CellsAt.cons q13 (CellsAt.cons q14 (CellsAt.cons q15 (CellsAt.cons q16 (CellsAt.cons q17 (CellsAt.cons q18 (CellsAt.cons q19 (CellsAt.cons q20 (CellsAt.cons q21 (CellsAt.cons q22 (CellsAt.cons q23 (CellsAt.cons q24 (CellsAt.cons q25 CellsAt.nil))))))))))))))))))))))), (x4, x5, x6, x7, x8, x9, x10, x11, x12, x13, x14, x15, x16, x17, x18, x19, x20, x21, x22, x23, x24, x25), rfl, h⟩⟩

/-- lingualaw13.two -/
def F22  (w0 : World) (K : T23 → World → Prop) : Prop :=
  nw 24 (A23 (ByteArray.mk #[]) 0 0 0 false 0 false false 0 0 0 0 Sl.nil 0 0 0 0 false 0 0 0 0) w0 fun b1 w1 =>
  nw 9 #[(Value.string (ByteArray.mk #[116, 120, 116])), (Value.string (ByteArray.mk #[106, 112, 103]))] w1 fun b2 w2 =>
  st (Addr.mk b1 0 none) (S23 (ByteArray.mk #[113]) 2 0 2 false 0 false false 200 1 1 500 (⟨some ⟨b2, 0, none⟩, 2, 2⟩ : Sl) 0 0 0 0 false 1 0 1 0) w2 fun w3 =>
  L23 (Addr.mk b1 0 none) w3 fun x4 x5 x6 x7 x8 x9 x10 x11 x12 x13 x14 x15 x16 x17 x18 x19 x20 x21 x22 x23 x24 x25 =>
  K (x4, x5, x6, x7, x8, x9, x10, x11, x12, x13, x14, x15, x16, x17, x18, x19, x20, x21, x22, x23, x24, x25) w3
set_option maxRecDepth 100000 in
theorem D22  (w0 : World) (K : T23 → World → Prop) (h : F22  w0 K) : callC Try.prog 22 #[] E23 w0 K := by
  unfold F22 at h
  refine calls_of_wpC Try.func22 rfl 3 rfl (by simp) ?_
  intro ρ hρ
  clear hρ
  refine wpC_seq ?_
  refine wpC_region ?_
  obtain ⟨b1, hb1⟩ : ∃ u, u = w0.heap.size := ⟨_, rfl⟩
  obtain ⟨w1, hw1⟩ : ∃ u, u = w0.alloc (.cells (A23 (ByteArray.mk #[]) 0 0 0 false 0 false false 0 0 0 0 Sl.nil 0 0 0 0 false 0 0 0 0) 24) := ⟨_, rfl⟩
  replace h := h b1 w1 hb1 hw1
  refine wpR_val (v := (Value.pointer (some (Addr.mk b1 0 none)))) (w' := w1) rfl rfl rfl ((x_alloc rfl ZV_24).trans (by rw [hb1, hw1]; rfl)) ?_
  refine wpR_nil ?_
  refine wpC_seq ?_
  refine wpC_cut (fun ρ => ρ 0 = (Value.pointer (some (Addr.mk b1 0 none))) ∧ True) ⟨rfl, trivial⟩ ?_
  rintro ρ ⟨e0, -⟩
  refine wpC_region ?_
  obtain ⟨b2, hb2⟩ : ∃ u, u = w1.heap.size := ⟨_, rfl⟩
  obtain ⟨w2, hw2⟩ : ∃ u, u = w1.alloc (.cells #[(Value.string (ByteArray.mk #[116, 120, 116])), (Value.string (ByteArray.mk #[106, 112, 103]))] 9) := ⟨_, rfl⟩
  replace h := h b2 w2 hb2 hw2
  refine wpR_val (v := (Sl.v (⟨some ⟨b2, 0, none⟩, 2, 2⟩ : Sl))) (w' := w2) rfl rfl rfl ((x_buildSlice (qs := [(0, (Value.string (ByteArray.mk #[116, 120, 116]))), (1, (Value.string (ByteArray.mk #[106, 112, 103])))]) rfl (by rfl) (BS_22_2_0_1 (ByteArray.mk #[116, 120, 116]) (ByteArray.mk #[106, 112, 103]))).trans (by rw [← hb2, ← hw2])) ?_
  refine wpR_val (v := (V23 (ByteArray.mk #[113]) 2 0 2 false 0 false false 200 1 1 500 (⟨some ⟨b2, 0, none⟩, 2, 2⟩ : Sl) 0 0 0 0 false 1 0 1 0)) (w' := w2) rfl rfl rfl (x_build (qs := [(0, (Value.string (ByteArray.mk #[113]))), (1, (Value.int .i64 2)), (3, (Value.int .i64 2)), (8, (Value.int .i64 200)), (9, (Value.int .i64 1)), (10, (Value.int .i64 1)), (11, (Value.int .i64 500)), (12, (Sl.v (⟨some ⟨b2, 0, none⟩, 2, 2⟩ : Sl))), (18, (Value.int .i64 1)), (20, (Value.int .i64 1))]) rfl (by rfl) (BD_24_0_1_3_8_9_10_11_12_18_20 (ByteArray.mk #[113]) 2 2 200 1 1 500 (⟨some ⟨b2, 0, none⟩, 2, 2⟩ : Sl) 1 1 _)) ?_
  obtain ⟨q3, h⟩ := h
  obtain ⟨w3, hw3⟩ : ∃ u, u = setAll w2 (Addr.mk b1 0 none) (S23 (ByteArray.mk #[113]) 2 0 2 false 0 false false 200 1 1 500 (⟨some ⟨b2, 0, none⟩, 2, 2⟩ : Sl) 0 0 0 0 false 1 0 1 0) 0 := ⟨_, rfl⟩
  replace h := h w3 hw3
  refine wpR_skp (w' := w3) rfl rfl ((x_store (v := (V23 (ByteArray.mk #[113]) 2 0 2 false 0 false false 200 1 1 500 (⟨some ⟨b2, 0, none⟩, 2, 2⟩ : Sl) 0 0 0 0 false 1 0 1 0)) rfl e0 rfl SZ_24 (ones (by rfl)) q3).trans (by rw [hw3]; rfl)) ?_
  refine wpR_nil ?_
  refine wpC_ret ?_
  obtain ⟨x4, q4, x5, q5, x6, q6, x7, q7, x8, q8, x9, q9, x10, q10, x11, q11, x12, q12, x13, q13, x14, q14, x15, q15, x16, q16, x17, q17, x18, q18, x19, q19, x20, q20, x21, q21, x22, q22, x23, q23, x24, q24, x25, q25, h⟩ := h
  exact ⟨.inl rfl, fun a ha => ⟨_, results_repC (S23 x4 x5 x6 x7 x8 x9 x10 x11 x12 x13 x14 x15 x16 x17 x18 x19 x20 x21 x22 x23 x24 x25) rfl ha e0 SH_24 (CellsAt.out (CellsAt.cons q4 (CellsAt.cons q5 (CellsAt.cons q6 (CellsAt.cons q7 (CellsAt.cons q8 (CellsAt.cons q9 (CellsAt.cons q10 (CellsAt.cons q11 (CellsAt.cons q12 (CellsAt.cons q13 (CellsAt.cons q14 (CellsAt.cons q15 (CellsAt.cons q16 (CellsAt.cons q17 (CellsAt.cons q18 (CellsAt.cons q19 (CellsAt.cons q20 (CellsAt.cons q21 (CellsAt.cons q22 (CellsAt.cons q23 (CellsAt.cons q24 (CellsAt.cons q25 CellsAt.nil))))))))))))))))))))))), (x4, x5, x6, x7, x8, x9, x10, x11, x12, x13, x14, x15, x16, x17, x18, x19, x20, x21, x22, x23, x24, x25), rfl, h⟩⟩

/-- linguaref13.Few -/
def F23 (p0_0 : ByteArray) (p0_1 : Int) (p0_2 : Int) (p0_3 : Int) (p0_4 : Bool) (p0_5 : Int) (p0_6 : Bool) (p0_7 : Bool) (p0_8 : Int) (p0_9 : Int) (p0_10 : Int) (p0_11 : Int) (p0_12 : Sl) (p0_13 : Int) (p0_14 : Int) (p0_15 : Int) (p0_16 : Int) (p0_17 : Bool) (p0_18 : Int) (p0_19 : Int) (p0_20 : Int) (p0_21 : Int) (w0 : World) (K : Bool → World → Prop) : Prop :=
  nw 24 (A23 p0_0 p0_1 p0_2 p0_3 p0_4 p0_5 p0_6 p0_7 p0_8 p0_9 p0_10 p0_11 p0_12 p0_13 p0_14 p0_15 p0_16 p0_17 p0_18 p0_19 p0_20 p0_21) w0 fun b1 w1 =>
  lp (fun (next2 : Int → World → Prop) l2 w2 =>
    ld Sl.v ((Addr.mk b1 0 none).add 12) w2 fun x3 =>
    cnd ((decide (l2 < (x3.len : Int))) && (decide (l2 < 13)))
      (
      ld Sl.v ((Addr.mk b1 0 none).add 12) w2 fun x7 =>
      ix x7 l2 1 fun p8 =>
      ld Value.string p8 w2 fun x9 =>
      cnd (decide (60 < (x9.size : Int)))
        (
        K false w2
        )
        (
        next2 (IntKind.i64.wrap (l2 + 1)) w2
        )
      )
      (
      ld Sl.v ((Addr.mk b1 0 none).add 12) w2 fun x11 =>
      jp (fun J12 => cnd (decide ((x11.len : Int) ≤ 12))
        (
        ld Value.string ((Addr.mk b1 0 none).add 0) w2 fun x14 =>
        J12 (decide ((x14.size : Int) ≤ 60))
        )
        (
        J12 false
        ))
      fun c15 =>
      K c15 w2
      )
  ) 0 w1
set_option maxRecDepth 100000 in
theorem D23 (p0_0 : ByteArray) (p0_1 : Int) (p0_2 : Int) (p0_3 : Int) (p0_4 : Bool) (p0_5 : Int) (p0_6 : Bool) (p0_7 : Bool) (p0_8 : Int) (p0_9 : Int) (p0_10 : Int) (p0_11 : Int) (p0_12 : Sl) (p0_13 : Int) (p0_14 : Int) (p0_15 : Int) (p0_16 : Int) (p0_17 : Bool) (p0_18 : Int) (p0_19 : Int) (p0_20 : Int) (p0_21 : Int) (w0 : World) (K : Bool → World → Prop) (h : F23 p0_0 p0_1 p0_2 p0_3 p0_4 p0_5 p0_6 p0_7 p0_8 p0_9 p0_10 p0_11 p0_12 p0_13 p0_14 p0_15 p0_16 p0_17 p0_18 p0_19 p0_20 p0_21 w0 K) : callC Try.prog 23 #[(V23 p0_0 p0_1 p0_2 p0_3 p0_4 p0_5 p0_6 p0_7 p0_8 p0_9 p0_10 p0_11 p0_12 p0_13 p0_14 p0_15 p0_16 p0_17 p0_18 p0_19 p0_20 p0_21)] (fun (r : Bool) => (Value.bool r)) w0 K := by
  unfold F23 at h
  refine calls_of_wpC Try.func23 rfl 32 rfl (by simp) ?_
  intro ρ hρ
  have e0 : ρ 0 = (V23 p0_0 p0_1 p0_2 p0_3 p0_4 p0_5 p0_6 p0_7 p0_8 p0_9 p0_10 p0_11 p0_12 p0_13 p0_14 p0_15 p0_16 p0_17 p0_18 p0_19 p0_20 p0_21) := hρ 0
  clear hρ
  refine wpC_seq ?_
  refine wpC_region ?_
  obtain ⟨b1, hb1⟩ : ∃ u, u = w0.heap.size := ⟨_, rfl⟩
  obtain ⟨w1, hw1⟩ : ∃ u, u = w0.alloc (.cells (A23 p0_0 p0_1 p0_2 p0_3 p0_4 p0_5 p0_6 p0_7 p0_8 p0_9 p0_10 p0_11 p0_12 p0_13 p0_14 p0_15 p0_16 p0_17 p0_18 p0_19 p0_20 p0_21) 24) := ⟨_, rfl⟩
  replace h := h b1 w1 hb1 hw1
  refine wpR_val (v := (Value.pointer (some (Addr.mk b1 0 none)))) (w' := w1) rfl rfl rfl ((x_box (v := (V23 p0_0 p0_1 p0_2 p0_3 p0_4 p0_5 p0_6 p0_7 p0_8 p0_9 p0_10 p0_11 p0_12 p0_13 p0_14 p0_15 p0_16 p0_17 p0_18 p0_19 p0_20 p0_21)) rfl e0).trans (by rw [hb1, hw1]; rfl)) ?_
  refine wpR_val (v := (Value.bool false)) (w' := w1) rfl rfl rfl (x_assign (v := (Value.bool false)) rfl rfl) ?_
  refine wpR_nil ?_
  refine wpC_seq ?_
  refine wpC_seq ?_
  refine wpC_cut (fun ρ => ρ 1 = (Value.pointer (some (Addr.mk b1 0 none))) ∧ True) ⟨rfl, trivial⟩ ?_
  rintro ρ ⟨e1, -⟩
  refine wpC_region ?_
  refine wpR_val (v := (Value.int .i64 0)) (w' := w1) rfl rfl rfl (x_assign (v := (Value.int .i64 0)) rfl rfl) ?_
  refine wpR_nil ?_
  refine wpC_block ?_
  obtain ⟨I2, μ2, hI2, hr2⟩ := h
  refine wpC_loop (fun (x : Int) ρ => ρ 3 = (Value.int .i64 x) ∧ ρ 1 = (Value.pointer (some (Addr.mk b1 0 none))) ∧ True) I2 μ2 0 ⟨rfl, e1, trivial⟩ hI2 ?_
  rintro l2 ρ w2 ⟨e3, e1, -⟩ h
  replace h := hr2 l2 w2 h
  clear hr2 hI2
  refine wpC_seq ?_
  refine wpC_seq ?_
  refine wpC_region ?_
  refine wpR_val (v := (Value.int .i64 l2)) (w' := w2) rfl rfl rfl (x_move (v := (Value.int .i64 l2)) rfl e3) ?_
  refine wpR_val (v := (Value.pointer (some ((Addr.mk b1 0 none).add 12)))) (w' := w2) rfl rfl rfl (x_fieldAddr rfl e1 FA_24_12) ?_
  obtain ⟨x3, q3, h⟩ := h
  refine wpR_val (v := (Sl.v x3)) (w' := w2) rfl rfl rfl (x_load1 rfl rfl SH_22 q3) ?_
  refine wpR_val (v := (Value.int .i64 (x3.len : Int))) (w' := w2) rfl rfl rfl (x_lenS (s := x3) rfl rfl isSliceT_22) ?_
  refine wpR_val (v := (Value.bool (decide (l2 < (x3.len : Int))))) (w' := w2) rfl rfl rfl (x_lss rfl rfl rfl) ?_
  refine wpR_val (v := (Value.bool (decide (l2 < (x3.len : Int))))) (w' := w2) rfl rfl rfl (x_move (v := (Value.bool (decide (l2 < (x3.len : Int))))) rfl rfl) ?_
  refine wpR_joinJ 3 (fun (_ : Unit) ρ => ρ 12 = Value.bool ((decide (l2 < (x3.len : Int))) && (decide (l2 < 13))) ∧ ρ 1 = (Value.pointer (some (Addr.mk b1 0 none))) ∧ ρ 3 = (Value.int .i64 l2) ∧ True) (fun _ w => w2 = w) ?_ ?_
  · clear h
    rcases Bool.eq_false_or_eq_true (decide (l2 < (x3.len : Int))) with hc5 | hc5
    · skip
      refine wpR_val (v := (Value.int .i64 l2)) (w' := w2) (wantG rfl rfl rfl hc5) rfl rfl (x_move (v := (Value.int .i64 l2)) rfl e3) ?_
      refine wpR_val (v := (Value.bool (decide (l2 < 13)))) (w' := w2) (wantG rfl rfl rfl hc5) rfl rfl (x_lss rfl rfl rfl) ?_
      refine wpR_val (v := (Value.bool (decide (l2 < 13)))) (w' := w2) rfl rfl rfl (x_pickT (v := (Value.bool (decide (l2 < 13)))) rfl rfl hc5 rfl) ?_
      refine wpR_nil ?_
      exact ⟨(), ⟨(by rw [hc5]; rfl), e1, e3, trivial⟩, rfl⟩
    · skip
      refine wpR_pass (wantN rfl rfl rfl hc5) rfl rfl ?_
      refine wpR_pass (wantN rfl rfl rfl hc5) rfl rfl ?_
      refine wpR_val (v := (Value.bool false)) (w' := w2) rfl rfl rfl (x_pickF (v := (Value.bool false)) rfl rfl hc5 rfl) ?_
      refine wpR_nil ?_
      exact ⟨(), ⟨(by rw [hc5]; rfl), e1, e3, trivial⟩, rfl⟩
  rintro _ ρ wj ⟨e12, e1, e3, -⟩ rfl
  refine wpR_nil ?_
  refine wpC_cond (b := (decide (l2 < (x3.len : Int))) && (decide (l2 < 13))) e12 (fun hc6 => ?_) (fun hc6 => ?_)
  · replace h := h.1 hc6
    refine wpC_skip ?_
    refine wpC_seq ?_
    refine wpC_block ?_
    refine wpC_seq ?_
    refine wpC_region ?_
    refine wpR_val (v := (Value.pointer (some ((Addr.mk b1 0 none).add 12)))) (w' := w2) rfl rfl rfl (x_fieldAddr rfl e1 FA_24_12) ?_
    obtain ⟨x7, q7, h⟩ := h
    refine wpR_val (v := (Sl.v x7)) (w' := w2) rfl rfl rfl (x_load1 rfl rfl SH_22 q7) ?_
    refine wpR_val (v := (Value.int .i64 l2)) (w' := w2) rfl rfl rfl (x_move (v := (Value.int .i64 l2)) rfl e3) ?_
    obtain ⟨q8, z8, r8, h⟩ := h
    generalize hp8 : z8.add ((l2 : Int).toNat * 1) = p8 at h
    refine wpR_val (v := (Value.pointer (some p8))) (w' := w2) rfl rfl rfl ((x_indexAddr (s := x7) rfl rfl rfl ES_22 q8 r8).trans (by rw [hp8])) ?_
    obtain ⟨x9, q9, h⟩ := h
    refine wpR_val (v := (Value.string x9)) (w' := w2) rfl rfl rfl (x_load1 rfl rfl SH_9 q9) ?_
    refine wpR_val (v := (Value.int .i64 (x9.size : Int))) (w' := w2) rfl rfl rfl (x_lenStr rfl rfl isStrT_9) ?_
    refine wpR_val (v := (Value.bool (decide (60 < (x9.size : Int))))) (w' := w2) rfl rfl rfl (x_gtr rfl rfl rfl) ?_
    refine wpR_nil ?_
    refine wpC_cond (b := decide (60 < (x9.size : Int))) rfl (fun hc10 => ?_) (fun hc10 => ?_)
    · replace h := h.1 hc10
      refine wpC_seq ?_
      refine wpC_cut (fun ρ => True) trivial ?_
      rintro ρ -
      refine wpC_region ?_
      refine wpR_val (v := (Value.bool false)) (w' := w2) rfl rfl rfl (x_assign (v := (Value.bool false)) rfl rfl) ?_
      refine wpR_nil ?_
      refine wpC_ret ?_
      exact ⟨.inl rfl, fun a ha => ⟨_, results_rep1 rfl ha rfl, false, rfl, h⟩⟩
    · replace h := h.2 hc10
      refine wpC_skip ?_
      refine wpC_cut (fun ρ => ρ 1 = (Value.pointer (some (Addr.mk b1 0 none))) ∧ ρ 3 = (Value.int .i64 l2) ∧ True) ⟨e1, e3, trivial⟩ ?_
      rintro ρ ⟨e1, e3, -⟩
      refine wpC_region ?_
      refine wpR_val (v := (Value.int .i64 l2)) (w' := w2) rfl rfl rfl (x_move (v := (Value.int .i64 l2)) rfl e3) ?_
      refine wpR_val (v := (Value.int .i64 (IntKind.i64.wrap (l2 + 1)))) (w' := w2) rfl rfl rfl (x_add rfl rfl rfl) ?_
      refine wpR_val (v := (Value.int .i64 (IntKind.i64.wrap (l2 + 1)))) (w' := w2) rfl rfl rfl (x_assign (v := (Value.int .i64 (IntKind.i64.wrap (l2 + 1)))) rfl rfl) ?_
      refine wpR_nil ?_
      exact ⟨IntKind.i64.wrap (l2 + 1), ⟨rfl, e1, trivial⟩, h⟩
  · replace h := h.2 hc6
    refine wpC_exit ?_
    refine wpC_seq ?_
    refine wpC_region ?_
    refine wpR_val (v := (Value.pointer (some ((Addr.mk b1 0 none).add 12)))) (w' := w2) rfl rfl rfl (x_fieldAddr rfl e1 FA_24_12) ?_
    obtain ⟨x11, q11, h⟩ := h
    refine wpR_val (v := (Sl.v x11)) (w' := w2) rfl rfl rfl (x_load1 rfl rfl SH_22 q11) ?_
    refine wpR_val (v := (Value.int .i64 (x11.len : Int))) (w' := w2) rfl rfl rfl (x_lenS (s := x11) rfl rfl isSliceT_22) ?_
    refine wpR_val (v := (Value.bool (decide ((x11.len : Int) ≤ 12)))) (w' := w2) rfl rfl rfl (x_leq rfl rfl rfl) ?_
    refine wpR_val (v := (Value.bool (decide ((x11.len : Int) ≤ 12)))) (w' := w2) rfl rfl rfl (x_move (v := (Value.bool (decide ((x11.len : Int) ≤ 12)))) rfl rfl) ?_
    obtain ⟨J12, h, hk⟩ := h
    refine wpR_joinJ 5 (fun x ρ => ρ 31 = Value.bool x ∧ True) (fun x w => J12 x ∧ w2 = w) ?_ ?_
    · clear hk
      rcases Bool.eq_false_or_eq_true (decide ((x11.len : Int) ≤ 12)) with hc13 | hc13
      · replace h := h.1 hc13
        refine wpR_val (v := (Value.pointer (some ((Addr.mk b1 0 none).add 0)))) (w' := w2) (wantG rfl rfl rfl hc13) rfl rfl (x_fieldAddr rfl e1 FA_24_0) ?_
        obtain ⟨x14, q14, h⟩ := h
        refine wpR_val (v := (Value.string x14)) (w' := w2) (wantG rfl rfl rfl hc13) rfl rfl (x_load1 rfl rfl SH_9 q14) ?_
        refine wpR_val (v := (Value.int .i64 (x14.size : Int))) (w' := w2) (wantG rfl rfl rfl hc13) rfl rfl (x_lenStr rfl rfl isStrT_9) ?_
        refine wpR_val (v := (Value.bool (decide ((x14.size : Int) ≤ 60)))) (w' := w2) (wantG rfl rfl rfl hc13) rfl rfl (x_leq rfl rfl rfl) ?_
        refine wpR_val (v := (Value.bool (decide ((x14.size : Int) ≤ 60)))) (w' := w2) rfl rfl rfl (x_pickT (v := (Value.bool (decide ((x14.size : Int) ≤ 60)))) rfl rfl hc13 rfl) ?_
        refine wpR_nil ?_
        exact ⟨decide ((x14.size : Int) ≤ 60), ⟨rfl, trivial⟩, h, rfl⟩
      · replace h := h.2 hc13
        refine wpR_pass (wantN rfl rfl rfl hc13) rfl rfl ?_
        refine wpR_pass (wantN rfl rfl rfl hc13) rfl rfl ?_
        refine wpR_pass (wantN rfl rfl rfl hc13) rfl rfl ?_
        refine wpR_pass (wantN rfl rfl rfl hc13) rfl rfl ?_
        refine wpR_val (v := (Value.bool false)) (w' := w2) rfl rfl rfl (x_pickF (v := (Value.bool false)) rfl rfl hc13 rfl) ?_
        refine wpR_nil ?_
        exact ⟨false, ⟨rfl, trivial⟩, h, rfl⟩
    clear h
    rintro c15 ρ wj ⟨e31, -⟩ ⟨h, rfl⟩
    replace h := hk c15 h
    clear hk
    refine wpR_val (v := (Value.bool c15)) (w' := w2) rfl rfl rfl (x_assign (v := (Value.bool c15)) rfl e31) ?_
    refine wpR_nil ?_
    refine wpC_ret ?_
    exact ⟨.inl rfl, fun a ha => ⟨_, results_rep1 rfl ha rfl, c15, rfl, h⟩⟩

/-- syntax.Right -/
def F24 (p0_0 : ByteArray) (p0_1 : Int) (p0_2 : Int) (p0_3 : Int) (p0_4 : Bool) (p0_5 : Int) (p0_6 : Bool) (p0_7 : Bool) (p0_8 : Int) (p0_9 : Int) (p0_10 : Int) (p0_11 : Int) (p0_12 : Sl) (p0_13 : Int) (p0_14 : Int) (p0_15 : Int) (p0_16 : Int) (p0_17 : Bool) (p0_18 : Int) (p0_19 : Int) (p0_20 : Int) (p0_21 : Int) (w0 : World) (K : Bool → World → Prop) : Prop :=
  nw 24 (A23 p0_0 p0_1 p0_2 p0_3 p0_4 p0_5 p0_6 p0_7 p0_8 p0_9 p0_10 p0_11 p0_12 p0_13 p0_14 p0_15 p0_16 p0_17 p0_18 p0_19 p0_20 p0_21) w0 fun b1 w1 =>
  ld (Value.int .i64) ((Addr.mk b1 0 none).add 2) w1 fun x2 =>
  ld (Value.int .i64) ((Addr.mk b1 0 none).add 8) w1 fun x3 =>
  ld (Value.int .i64) ((Addr.mk b1 0 none).add 9) w1 fun x4 =>
  ld (Value.int .i64) ((Addr.mk b1 0 none).add 10) w1 fun x5 =>
  ld (Value.int .i64) ((Addr.mk b1 0 none).add 11) w1 fun x6 =>
  ld (Value.int .i64) ((Addr.mk b1 0 none).add 18) w1 fun x7 =>
  ld (Value.int .i64) ((Addr.mk b1 0 none).add 19) w1 fun x8 =>
  ld (Value.int .i64) ((Addr.mk b1 0 none).add 20) w1 fun x9 =>
  ld (Value.int .i64) ((Addr.mk b1 0 none).add 21) w1 fun x10 =>
  nw 3 #[(Value.int .i64 x2), (Value.int .i64 x3), (Value.int .i64 x4), (Value.int .i64 x5), (Value.int .i64 x6), (Value.int .i64 x7), (Value.int .i64 x8), (Value.int .i64 x9), (Value.int .i64 x10)] w1 fun b11 w2 =>
  lp (fun (next12 : Int → World → Prop) l12 w3 =>
    cnd (decide (l12 < ((⟨some ⟨b11, 0, none⟩, 9, 9⟩ : Sl).len : Int)))
      (
      ix (⟨some ⟨b11, 0, none⟩, 9, 9⟩ : Sl) l12 1 fun p14 =>
      ld (Value.int .i64) p14 w3 fun x15 =>
      cnd ((decide (x15 < 0)) || (decide (1073741824 < x15)))
        (
        K false w3
        )
        (
        next12 (IntKind.i64.wrap (l12 + 1)) w3
        )
      )
      (
      ld (Value.int .i64) ((Addr.mk b1 0 none).add 3) w3 fun x19 =>
      ld (Value.int .i64) ((Addr.mk b1 0 none).add 5) w3 fun x20 =>
      ld (Value.int .i64) ((Addr.mk b1 0 none).add 13) w3 fun x21 =>
      ld (Value.int .i64) ((Addr.mk b1 0 none).add 14) w3 fun x22 =>
      ld (Value.int .i64) ((Addr.mk b1 0 none).add 15) w3 fun x23 =>
      ld (Value.int .i64) ((Addr.mk b1 0 none).add 16) w3 fun x24 =>
      nw 43 #[(Value.int .i64 x19), (Value.int .i64 3), (Value.int .i64 x20), (Value.int .i64 3), (Value.int .i64 x21), (Value.int .i64 3), (Value.int .i64 x22), (Value.int .i64 2), (Value.int .i64 x23), (Value.int .i64 2), (Value.int .i64 x24), (Value.int .i64 5)] w3 fun b25 w4 =>
      lp (fun (next26 : Int → World → Prop) l26 w5 =>
        cnd (decide (l26 < ((⟨some ⟨b25, 0, none⟩, 6, 6⟩ : Sl).len : Int)))
          (
          ix (⟨some ⟨b25, 0, none⟩, 6, 6⟩ : Sl) l26 2 fun p28 =>
          ld (Value.int .i64) (p28.add 0) w5 fun x29 =>
          ld (Value.int .i64) (p28.add 1) w5 fun x30 =>
          nw 43 #[(Value.int .i64 0), (Value.int .i64 0)] w5 fun b31 w6 =>
          st (Addr.mk b31 0 none) [(Value.int .i64 x29), (Value.int .i64 x30)] w6 fun w7 =>
          rn Try.prog (Instr.indexAt 43 (Value.pointer (some (Addr.mk b31 0 none))) (Value.int .i64 0)) (fun a : Addr => Value.pointer (some a)) w7 fun p33 w8 =>
          ld (Value.int .i64) p33 w8 fun x34 =>
          jn (fun J35 => cnd (decide (x34 < 0))
            (
            J35 true w8
            )
            (
            rn Try.prog (Instr.indexAt 43 (Value.pointer (some (Addr.mk b31 0 none))) (Value.int .i64 0)) (fun a : Addr => Value.pointer (some a)) w8 fun p37 w9 =>
            ld (Value.int .i64) p37 w9 fun x38 =>
            rn Try.prog (Instr.indexAt 43 (Value.pointer (some (Addr.mk b31 0 none))) (Value.int .i64 1)) (fun a : Addr => Value.pointer (some a)) w9 fun p39 w10 =>
            ld (Value.int .i64) p39 w10 fun x40 =>
            J35 (decide (x40 ≤ x38)) w10
            ))
          fun c41 w11 =>
          cnd (c41)
            (
            K false w11
            )
            (
            next26 (IntKind.i64.wrap (l26 + 1)) w11
            )
          )
          (
          jn (fun (J43 : Bool → World → Prop) =>
            ld Value.string ((Addr.mk b1 0 none).add 0) w5 fun x45 =>
            callC Try.prog 36 #[(Value.string x45)] (fun (r : Bool) => (Value.bool r)) w5 fun r46 w13 =>
            cnd (!r46)
              (
              J43 (!r46) w13
              )
              (
              ld (Value.int .i64) ((Addr.mk b1 0 none).add 1) w13 fun x48 =>
              jp (fun J49 => cnd (!decide (x48 = 0))
                (
                ld (Value.int .i64) ((Addr.mk b1 0 none).add 1) w13 fun x51 =>
                J49 (!decide (x51 = 2))
                )
                (
                J49 false
                ))
              fun c52 =>
              cnd (c52)
                (
                J43 c52 w13
                )
                (
                ld (Value.int .i64) ((Addr.mk b1 0 none).add 1) w13 fun x54 =>
                jp (fun J55 => cnd (decide (x54 = 0))
                  (
                  ld (Value.int .i64) ((Addr.mk b1 0 none).add 2) w13 fun x57 =>
                  J55 (decide (0 < x57))
                  )
                  (
                  J55 false
                  ))
                fun c58 =>
                J43 c58 w13
                )
              )
          )
          fun l44 w12 =>
          cnd (l44)
            (
            K false w12
            )
            (
            ld (Value.int .i64) ((Addr.mk b1 0 none).add 10) w12 fun x60 =>
            cnd (decide (x60 = 0))
              (
              ld (Value.int .i64) ((Addr.mk b1 0 none).add 11) w12 fun x62 =>
              jp (fun J63 => cnd (decide (x62 = 0))
                (
                ld Sl.v ((Addr.mk b1 0 none).add 12) w12 fun x65 =>
                J63 (decide ((x65.len : Int) = 0))
                )
                (
                J63 false
                ))
              fun c66 =>
              K c66 w12
              )
              (
              ld Sl.v ((Addr.mk b1 0 none).add 12) w12 fun x67 =>
              jp (fun J68 => cnd (decide (1 ≤ (x67.len : Int)))
                (
                ld Sl.v ((Addr.mk b1 0 none).add 12) w12 fun x70 =>
                J68 (decide ((x70.len : Int) ≤ 20))
                )
                (
                J68 false
                ))
              fun c71 =>
              jn (fun J72 => cnd (c71)
                (
                ld Sl.v ((Addr.mk b1 0 none).add 12) w12 fun x74 =>
                callC Try.prog 30 #[(Sl.v x74), (Value.func (.func 37) #[] #[])] (fun (r : Bool) => (Value.bool r)) w12 fun r75 w14 =>
                J72 (!r75) w14
                )
                (
                J72 false w12
                ))
              fun c76 w15 =>
              K c76 w15
              )
            )
          )
      ) 0 w4
      )
  ) 0 w2
set_option maxRecDepth 100000 in
theorem D24 (p0_0 : ByteArray) (p0_1 : Int) (p0_2 : Int) (p0_3 : Int) (p0_4 : Bool) (p0_5 : Int) (p0_6 : Bool) (p0_7 : Bool) (p0_8 : Int) (p0_9 : Int) (p0_10 : Int) (p0_11 : Int) (p0_12 : Sl) (p0_13 : Int) (p0_14 : Int) (p0_15 : Int) (p0_16 : Int) (p0_17 : Bool) (p0_18 : Int) (p0_19 : Int) (p0_20 : Int) (p0_21 : Int) (w0 : World) (K : Bool → World → Prop) (h : F24 p0_0 p0_1 p0_2 p0_3 p0_4 p0_5 p0_6 p0_7 p0_8 p0_9 p0_10 p0_11 p0_12 p0_13 p0_14 p0_15 p0_16 p0_17 p0_18 p0_19 p0_20 p0_21 w0 K) : callC Try.prog 24 #[(V23 p0_0 p0_1 p0_2 p0_3 p0_4 p0_5 p0_6 p0_7 p0_8 p0_9 p0_10 p0_11 p0_12 p0_13 p0_14 p0_15 p0_16 p0_17 p0_18 p0_19 p0_20 p0_21)] (fun (r : Bool) => (Value.bool r)) w0 K := by
  unfold F24 at h
  refine calls_of_wpC Try.func24 rfl 123 rfl (by simp) ?_
  intro ρ hρ
  have e0 : ρ 0 = (V23 p0_0 p0_1 p0_2 p0_3 p0_4 p0_5 p0_6 p0_7 p0_8 p0_9 p0_10 p0_11 p0_12 p0_13 p0_14 p0_15 p0_16 p0_17 p0_18 p0_19 p0_20 p0_21) := hρ 0
  clear hρ
  refine wpC_seq ?_
  refine wpC_region ?_
  obtain ⟨b1, hb1⟩ : ∃ u, u = w0.heap.size := ⟨_, rfl⟩
  obtain ⟨w1, hw1⟩ : ∃ u, u = w0.alloc (.cells (A23 p0_0 p0_1 p0_2 p0_3 p0_4 p0_5 p0_6 p0_7 p0_8 p0_9 p0_10 p0_11 p0_12 p0_13 p0_14 p0_15 p0_16 p0_17 p0_18 p0_19 p0_20 p0_21) 24) := ⟨_, rfl⟩
  replace h := h b1 w1 hb1 hw1
  refine wpR_val (v := (Value.pointer (some (Addr.mk b1 0 none)))) (w' := w1) rfl rfl rfl ((x_box (v := (V23 p0_0 p0_1 p0_2 p0_3 p0_4 p0_5 p0_6 p0_7 p0_8 p0_9 p0_10 p0_11 p0_12 p0_13 p0_14 p0_15 p0_16 p0_17 p0_18 p0_19 p0_20 p0_21)) rfl e0).trans (by rw [hb1, hw1]; rfl)) ?_
  refine wpR_val (v := (Value.bool false)) (w' := w1) rfl rfl rfl (x_assign (v := (Value.bool false)) rfl rfl) ?_
  refine wpR_nil ?_
  refine wpC_seq ?_
  refine wpC_seq ?_
  refine wpC_cut (fun ρ => ρ 1 = (Value.pointer (some (Addr.mk b1 0 none))) ∧ True) ⟨rfl, trivial⟩ ?_
  rintro ρ ⟨e1, -⟩
  refine wpC_region ?_
  refine wpR_val (v := (Value.pointer (some ((Addr.mk b1 0 none).add 2)))) (w' := w1) rfl rfl rfl (x_fieldAddr rfl e1 FA_24_2) ?_
  obtain ⟨x2, q2, h⟩ := h
  refine wpR_val (v := (Value.int .i64 x2)) (w' := w1) rfl rfl rfl (x_load1 rfl rfl SH_3 q2) ?_
  refine wpR_val (v := (Value.pointer (some ((Addr.mk b1 0 none).add 8)))) (w' := w1) rfl rfl rfl (x_fieldAddr rfl e1 FA_24_8) ?_
  obtain ⟨x3, q3, h⟩ := h
  refine wpR_val (v := (Value.int .i64 x3)) (w' := w1) rfl rfl rfl (x_load1 rfl rfl SH_3 q3) ?_
  refine wpR_val (v := (Value.pointer (some ((Addr.mk b1 0 none).add 9)))) (w' := w1) rfl rfl rfl (x_fieldAddr rfl e1 FA_24_9) ?_
  obtain ⟨x4, q4, h⟩ := h
  refine wpR_val (v := (Value.int .i64 x4)) (w' := w1) rfl rfl rfl (x_load1 rfl rfl SH_3 q4) ?_
  refine wpR_val (v := (Value.pointer (some ((Addr.mk b1 0 none).add 10)))) (w' := w1) rfl rfl rfl (x_fieldAddr rfl e1 FA_24_10) ?_
  obtain ⟨x5, q5, h⟩ := h
  refine wpR_val (v := (Value.int .i64 x5)) (w' := w1) rfl rfl rfl (x_load1 rfl rfl SH_3 q5) ?_
  refine wpR_val (v := (Value.pointer (some ((Addr.mk b1 0 none).add 11)))) (w' := w1) rfl rfl rfl (x_fieldAddr rfl e1 FA_24_11) ?_
  obtain ⟨x6, q6, h⟩ := h
  refine wpR_val (v := (Value.int .i64 x6)) (w' := w1) rfl rfl rfl (x_load1 rfl rfl SH_3 q6) ?_
  refine wpR_val (v := (Value.pointer (some ((Addr.mk b1 0 none).add 18)))) (w' := w1) rfl rfl rfl (x_fieldAddr rfl e1 FA_24_18) ?_
  obtain ⟨x7, q7, h⟩ := h
  refine wpR_val (v := (Value.int .i64 x7)) (w' := w1) rfl rfl rfl (x_load1 rfl rfl SH_3 q7) ?_
  refine wpR_val (v := (Value.pointer (some ((Addr.mk b1 0 none).add 19)))) (w' := w1) rfl rfl rfl (x_fieldAddr rfl e1 FA_24_19) ?_
  obtain ⟨x8, q8, h⟩ := h
  refine wpR_val (v := (Value.int .i64 x8)) (w' := w1) rfl rfl rfl (x_load1 rfl rfl SH_3 q8) ?_
  refine wpR_val (v := (Value.pointer (some ((Addr.mk b1 0 none).add 20)))) (w' := w1) rfl rfl rfl (x_fieldAddr rfl e1 FA_24_20) ?_
  obtain ⟨x9, q9, h⟩ := h
  refine wpR_val (v := (Value.int .i64 x9)) (w' := w1) rfl rfl rfl (x_load1 rfl rfl SH_3 q9) ?_
  refine wpR_val (v := (Value.pointer (some ((Addr.mk b1 0 none).add 21)))) (w' := w1) rfl rfl rfl (x_fieldAddr rfl e1 FA_24_21) ?_
  obtain ⟨x10, q10, h⟩ := h
  refine wpR_val (v := (Value.int .i64 x10)) (w' := w1) rfl rfl rfl (x_load1 rfl rfl SH_3 q10) ?_
  obtain ⟨b11, hb11⟩ : ∃ u, u = w1.heap.size := ⟨_, rfl⟩
  obtain ⟨w2, hw11⟩ : ∃ u, u = w1.alloc (.cells #[(Value.int .i64 x2), (Value.int .i64 x3), (Value.int .i64 x4), (Value.int .i64 x5), (Value.int .i64 x6), (Value.int .i64 x7), (Value.int .i64 x8), (Value.int .i64 x9), (Value.int .i64 x10)] 3) := ⟨_, rfl⟩
  replace h := h b11 w2 hb11 hw11
  refine wpR_val (v := (Sl.v (⟨some ⟨b11, 0, none⟩, 9, 9⟩ : Sl))) (w' := w2) rfl rfl rfl ((x_buildSlice (qs := [(0, (Value.int .i64 x2)), (1, (Value.int .i64 x3)), (2, (Value.int .i64 x4)), (3, (Value.int .i64 x5)), (4, (Value.int .i64 x6)), (5, (Value.int .i64 x7)), (6, (Value.int .i64 x8)), (7, (Value.int .i64 x9)), (8, (Value.int .i64 x10))]) rfl (by rfl) (BS_38_9_0_1_2_3_4_5_6_7_8 x2 x3 x4 x5 x6 x7 x8 x9 x10)).trans (by rw [← hb11, ← hw11])) ?_
  refine wpR_val (v := (Value.int .i64 ((⟨some ⟨b11, 0, none⟩, 9, 9⟩ : Sl).len : Int))) (w' := w2) rfl rfl rfl (x_lenS (s := (⟨some ⟨b11, 0, none⟩, 9, 9⟩ : Sl)) rfl rfl isSliceT_38) ?_
  refine wpR_val (v := (Value.int .i64 0)) (w' := w2) rfl rfl rfl (x_move (v := (Value.int .i64 0)) rfl rfl) ?_
  refine wpR_nil ?_
  refine wpC_block ?_
  obtain ⟨I12, μ12, hI12, hr12⟩ := h
  refine wpC_loop (fun (x : Int) ρ => ρ 27 = (Value.int .i64 x) ∧ ρ 1 = (Value.pointer (some (Addr.mk b1 0 none))) ∧ ρ 25 = (Sl.v (⟨some ⟨b11, 0, none⟩, 9, 9⟩ : Sl)) ∧ ρ 26 = (Value.int .i64 ((⟨some ⟨b11, 0, none⟩, 9, 9⟩ : Sl).len : Int)) ∧ True) I12 μ12 0 ⟨rfl, e1, rfl, rfl, trivial⟩ hI12 ?_
  rintro l12 ρ w3 ⟨e27, e1, e25, e26, -⟩ h
  replace h := hr12 l12 w3 h
  clear hr12 hI12
  refine wpC_seq ?_
  refine wpC_region ?_
  refine wpR_val (v := (Value.bool (decide (l12 < ((⟨some ⟨b11, 0, none⟩, 9, 9⟩ : Sl).len : Int))))) (w' := w3) rfl rfl rfl (x_lss rfl e27 e26) ?_
  refine wpR_nil ?_
  refine wpC_seq ?_
  refine wpC_cond (b := decide (l12 < ((⟨some ⟨b11, 0, none⟩, 9, 9⟩ : Sl).len : Int))) rfl (fun hc13 => ?_) (fun hc13 => ?_)
  · replace h := h.1 hc13
    refine wpC_skip ?_
    refine wpC_seq ?_
    refine wpC_block ?_
    refine wpC_seq ?_
    refine wpC_cut (fun ρ => ρ 1 = (Value.pointer (some (Addr.mk b1 0 none))) ∧ ρ 25 = (Sl.v (⟨some ⟨b11, 0, none⟩, 9, 9⟩ : Sl)) ∧ ρ 26 = (Value.int .i64 ((⟨some ⟨b11, 0, none⟩, 9, 9⟩ : Sl).len : Int)) ∧ ρ 27 = (Value.int .i64 l12) ∧ True) ⟨e1, e25, e26, e27, trivial⟩ ?_
    rintro ρ ⟨e1, e25, e26, e27, -⟩
    refine wpC_region ?_
    obtain ⟨q14, z14, r14, h⟩ := h
    generalize hp14 : z14.add ((l12 : Int).toNat * 1) = p14 at h
    refine wpR_val (v := (Value.pointer (some p14))) (w' := w3) rfl rfl rfl ((x_indexAddr (s := (⟨some ⟨b11, 0, none⟩, 9, 9⟩ : Sl)) rfl e25 e27 ES_38 q14 r14).trans (by rw [hp14])) ?_
    obtain ⟨x15, q15, h⟩ := h
    refine wpR_val (v := (Value.int .i64 x15)) (w' := w3) rfl rfl rfl (x_load1 rfl rfl SH_3 q15) ?_
    refine wpR_val (v := (Value.int .i64 x15)) (w' := w3) rfl rfl rfl (x_assign (v := (Value.int .i64 x15)) rfl rfl) ?_
    refine wpR_nil ?_
    refine wpC_seq ?_
    refine wpC_cut (fun ρ => ρ 1 = (Value.pointer (some (Addr.mk b1 0 none))) ∧ ρ 4 = (Value.int .i64 x15) ∧ ρ 25 = (Sl.v (⟨some ⟨b11, 0, none⟩, 9, 9⟩ : Sl)) ∧ ρ 26 = (Value.int .i64 ((⟨some ⟨b11, 0, none⟩, 9, 9⟩ : Sl).len : Int)) ∧ ρ 27 = (Value.int .i64 l12) ∧ True) ⟨e1, rfl, e25, e26, e27, trivial⟩ ?_
    rintro ρ ⟨e1, e4, e25, e26, e27, -⟩
    refine wpC_region ?_
    refine wpR_val (v := (Value.int .i64 x15)) (w' := w3) rfl rfl rfl (x_move (v := (Value.int .i64 x15)) rfl e4) ?_
    refine wpR_val (v := (Value.bool (decide (x15 < 0)))) (w' := w3) rfl rfl rfl (x_lss rfl rfl rfl) ?_
    refine wpR_val (v := (Value.bool (decide (x15 < 0)))) (w' := w3) rfl rfl rfl (x_move (v := (Value.bool (decide (x15 < 0)))) rfl rfl) ?_
    refine wpR_joinJ 3 (fun (_ : Unit) ρ => ρ 36 = Value.bool ((decide (x15 < 0)) || (decide (1073741824 < x15))) ∧ ρ 1 = (Value.pointer (some (Addr.mk b1 0 none))) ∧ ρ 25 = (Sl.v (⟨some ⟨b11, 0, none⟩, 9, 9⟩ : Sl)) ∧ ρ 26 = (Value.int .i64 ((⟨some ⟨b11, 0, none⟩, 9, 9⟩ : Sl).len : Int)) ∧ ρ 27 = (Value.int .i64 l12) ∧ True) (fun _ w => w3 = w) ?_ ?_
    · clear h
      rcases Bool.eq_false_or_eq_true (decide (x15 < 0)) with hc17 | hc17
      · skip
        refine wpR_pass (wantN rfl rfl rfl hc17) rfl rfl ?_
        refine wpR_pass (wantN rfl rfl rfl hc17) rfl rfl ?_
        refine wpR_val (v := (Value.bool true)) (w' := w3) rfl rfl rfl (x_pickT (v := (Value.bool true)) rfl rfl hc17 rfl) ?_
        refine wpR_nil ?_
        exact ⟨(), ⟨(by rw [hc17]; rfl), e1, e25, e26, e27, trivial⟩, rfl⟩
      · skip
        refine wpR_val (v := (Value.int .i64 x15)) (w' := w3) (wantG rfl rfl rfl hc17) rfl rfl (x_move (v := (Value.int .i64 x15)) rfl e4) ?_
        refine wpR_val (v := (Value.bool (decide (1073741824 < x15)))) (w' := w3) (wantG rfl rfl rfl hc17) rfl rfl (x_gtr rfl rfl rfl) ?_
        refine wpR_val (v := (Value.bool (decide (1073741824 < x15)))) (w' := w3) rfl rfl rfl (x_pickF (v := (Value.bool (decide (1073741824 < x15)))) rfl rfl hc17 rfl) ?_
        refine wpR_nil ?_
        exact ⟨(), ⟨(by rw [hc17]; rfl), e1, e25, e26, e27, trivial⟩, rfl⟩
    rintro _ ρ wj ⟨e36, e1, e25, e26, e27, -⟩ rfl
    refine wpR_nil ?_
    refine wpC_cond (b := (decide (x15 < 0)) || (decide (1073741824 < x15))) e36 (fun hc18 => ?_) (fun hc18 => ?_)
    · replace h := h.1 hc18
      refine wpC_seq ?_
      refine wpC_region ?_
      refine wpR_val (v := (Value.bool false)) (w' := w3) rfl rfl rfl (x_assign (v := (Value.bool false)) rfl rfl) ?_
      refine wpR_nil ?_
      refine wpC_ret ?_
      exact ⟨.inl rfl, fun a ha => ⟨_, results_rep1 rfl ha rfl, false, rfl, h⟩⟩
    · replace h := h.2 hc18
      refine wpC_skip ?_
      refine wpC_region ?_
      refine wpR_val (v := (Value.int .i64 (IntKind.i64.wrap (l12 + 1)))) (w' := w3) rfl rfl rfl (x_add rfl e27 rfl) ?_
      refine wpR_val (v := (Value.int .i64 (IntKind.i64.wrap (l12 + 1)))) (w' := w3) rfl rfl rfl (x_move (v := (Value.int .i64 (IntKind.i64.wrap (l12 + 1)))) rfl rfl) ?_
      refine wpR_nil ?_
      exact ⟨IntKind.i64.wrap (l12 + 1), ⟨rfl, e1, e25, e26, trivial⟩, h⟩
  · replace h := h.2 hc13
    refine wpC_exit ?_
    refine wpC_seq ?_
    refine wpC_seq ?_
    refine wpC_cut (fun ρ => ρ 1 = (Value.pointer (some (Addr.mk b1 0 none))) ∧ True) ⟨e1, trivial⟩ ?_
    rintro ρ ⟨e1, -⟩
    refine wpC_region ?_
    refine wpR_val (v := (Value.pointer (some ((Addr.mk b1 0 none).add 3)))) (w' := w3) rfl rfl rfl (x_fieldAddr rfl e1 FA_24_3) ?_
    obtain ⟨x19, q19, h⟩ := h
    refine wpR_val (v := (Value.int .i64 x19)) (w' := w3) rfl rfl rfl (x_load1 rfl rfl SH_3 q19) ?_
    refine wpR_val (v := (Value.agg #[(Value.int .i64 x19), (Value.int .i64 3)])) (w' := w3) rfl rfl rfl (x_build (qs := [(0, (Value.int .i64 x19)), (1, (Value.int .i64 3))]) rfl (by rfl) (BD_43_0_1 x19 3 _)) ?_
    refine wpR_val (v := (Value.pointer (some ((Addr.mk b1 0 none).add 5)))) (w' := w3) rfl rfl rfl (x_fieldAddr rfl e1 FA_24_5) ?_
    obtain ⟨x20, q20, h⟩ := h
    refine wpR_val (v := (Value.int .i64 x20)) (w' := w3) rfl rfl rfl (x_load1 rfl rfl SH_3 q20) ?_
    refine wpR_val (v := (Value.agg #[(Value.int .i64 x20), (Value.int .i64 3)])) (w' := w3) rfl rfl rfl (x_build (qs := [(0, (Value.int .i64 x20)), (1, (Value.int .i64 3))]) rfl (by rfl) (BD_43_0_1 x20 3 _)) ?_
    refine wpR_val (v := (Value.pointer (some ((Addr.mk b1 0 none).add 13)))) (w' := w3) rfl rfl rfl (x_fieldAddr rfl e1 FA_24_13) ?_
    obtain ⟨x21, q21, h⟩ := h
    refine wpR_val (v := (Value.int .i64 x21)) (w' := w3) rfl rfl rfl (x_load1 rfl rfl SH_3 q21) ?_
    refine wpR_val (v := (Value.agg #[(Value.int .i64 x21), (Value.int .i64 3)])) (w' := w3) rfl rfl rfl (x_build (qs := [(0, (Value.int .i64 x21)), (1, (Value.int .i64 3))]) rfl (by rfl) (BD_43_0_1 x21 3 _)) ?_
    refine wpR_val (v := (Value.pointer (some ((Addr.mk b1 0 none).add 14)))) (w' := w3) rfl rfl rfl (x_fieldAddr rfl e1 FA_24_14) ?_
    obtain ⟨x22, q22, h⟩ := h
    refine wpR_val (v := (Value.int .i64 x22)) (w' := w3) rfl rfl rfl (x_load1 rfl rfl SH_3 q22) ?_
    refine wpR_val (v := (Value.agg #[(Value.int .i64 x22), (Value.int .i64 2)])) (w' := w3) rfl rfl rfl (x_build (qs := [(0, (Value.int .i64 x22)), (1, (Value.int .i64 2))]) rfl (by rfl) (BD_43_0_1 x22 2 _)) ?_
    refine wpR_val (v := (Value.pointer (some ((Addr.mk b1 0 none).add 15)))) (w' := w3) rfl rfl rfl (x_fieldAddr rfl e1 FA_24_15) ?_
    obtain ⟨x23, q23, h⟩ := h
    refine wpR_val (v := (Value.int .i64 x23)) (w' := w3) rfl rfl rfl (x_load1 rfl rfl SH_3 q23) ?_
    refine wpR_val (v := (Value.agg #[(Value.int .i64 x23), (Value.int .i64 2)])) (w' := w3) rfl rfl rfl (x_build (qs := [(0, (Value.int .i64 x23)), (1, (Value.int .i64 2))]) rfl (by rfl) (BD_43_0_1 x23 2 _)) ?_
    refine wpR_val (v := (Value.pointer (some ((Addr.mk b1 0 none).add 16)))) (w' := w3) rfl rfl rfl (x_fieldAddr rfl e1 FA_24_16) ?_
    obtain ⟨x24, q24, h⟩ := h
    refine wpR_val (v := (Value.int .i64 x24)) (w' := w3) rfl rfl rfl (x_load1 rfl rfl SH_3 q24) ?_
    refine wpR_val (v := (Value.agg #[(Value.int .i64 x24), (Value.int .i64 5)])) (w' := w3) rfl rfl rfl (x_build (qs := [(0, (Value.int .i64 x24)), (1, (Value.int .i64 5))]) rfl (by rfl) (BD_43_0_1 x24 5 _)) ?_
    obtain ⟨b25, hb25⟩ : ∃ u, u = w3.heap.size := ⟨_, rfl⟩
    obtain ⟨w4, hw25⟩ : ∃ u, u = w3.alloc (.cells #[(Value.int .i64 x19), (Value.int .i64 3), (Value.int .i64 x20), (Value.int .i64 3), (Value.int .i64 x21), (Value.int .i64 3), (Value.int .i64 x22), (Value.int .i64 2), (Value.int .i64 x23), (Value.int .i64 2), (Value.int .i64 x24), (Value.int .i64 5)] 43) := ⟨_, rfl⟩
    replace h := h b25 w4 hb25 hw25
    refine wpR_val (v := (Sl.v (⟨some ⟨b25, 0, none⟩, 6, 6⟩ : Sl))) (w' := w4) rfl rfl rfl ((x_buildSlice (qs := [(0, (Value.agg #[(Value.int .i64 x19), (Value.int .i64 3)])), (1, (Value.agg #[(Value.int .i64 x20), (Value.int .i64 3)])), (2, (Value.agg #[(Value.int .i64 x21), (Value.int .i64 3)])), (3, (Value.agg #[(Value.int .i64 x22), (Value.int .i64 2)])), (4, (Value.agg #[(Value.int .i64 x23), (Value.int .i64 2)])), (5, (Value.agg #[(Value.int .i64 x24), (Value.int .i64 5)]))]) rfl (by rfl) (BS_44_6_0_1_2_3_4_5 x19 3 x20 3 x21 3 x22 2 x23 2 x24 5)).trans (by rw [← hb25, ← hw25])) ?_
    refine wpR_val (v := (Value.int .i64 ((⟨some ⟨b25, 0, none⟩, 6, 6⟩ : Sl).len : Int))) (w' := w4) rfl rfl rfl (x_lenS (s := (⟨some ⟨b25, 0, none⟩, 6, 6⟩ : Sl)) rfl rfl isSliceT_44) ?_
    refine wpR_val (v := (Value.int .i64 0)) (w' := w4) rfl rfl rfl (x_move (v := (Value.int .i64 0)) rfl rfl) ?_
    refine wpR_nil ?_
    refine wpC_block ?_
    obtain ⟨I26, μ26, hI26, hr26⟩ := h
    refine wpC_loop (fun (x : Int) ρ => ρ 58 = (Value.int .i64 x) ∧ ρ 1 = (Value.pointer (some (Addr.mk b1 0 none))) ∧ ρ 56 = (Sl.v (⟨some ⟨b25, 0, none⟩, 6, 6⟩ : Sl)) ∧ ρ 57 = (Value.int .i64 ((⟨some ⟨b25, 0, none⟩, 6, 6⟩ : Sl).len : Int)) ∧ True) I26 μ26 0 ⟨rfl, e1, rfl, rfl, trivial⟩ hI26 ?_
    rintro l26 ρ w5 ⟨e58, e1, e56, e57, -⟩ h
    replace h := hr26 l26 w5 h
    clear hr26 hI26
    refine wpC_seq ?_
    refine wpC_region ?_
    refine wpR_val (v := (Value.bool (decide (l26 < ((⟨some ⟨b25, 0, none⟩, 6, 6⟩ : Sl).len : Int))))) (w' := w5) rfl rfl rfl (x_lss rfl e58 e57) ?_
    refine wpR_nil ?_
    refine wpC_seq ?_
    refine wpC_cond (b := decide (l26 < ((⟨some ⟨b25, 0, none⟩, 6, 6⟩ : Sl).len : Int))) rfl (fun hc27 => ?_) (fun hc27 => ?_)
    · replace h := h.1 hc27
      refine wpC_skip ?_
      refine wpC_seq ?_
      refine wpC_block ?_
      refine wpC_seq ?_
      refine wpC_cut (fun ρ => ρ 1 = (Value.pointer (some (Addr.mk b1 0 none))) ∧ ρ 56 = (Sl.v (⟨some ⟨b25, 0, none⟩, 6, 6⟩ : Sl)) ∧ ρ 57 = (Value.int .i64 ((⟨some ⟨b25, 0, none⟩, 6, 6⟩ : Sl).len : Int)) ∧ ρ 58 = (Value.int .i64 l26) ∧ True) ⟨e1, e56, e57, e58, trivial⟩ ?_
      rintro ρ ⟨e1, e56, e57, e58, -⟩
      refine wpC_region ?_
      obtain ⟨q28, z28, r28, h⟩ := h
      generalize hp28 : z28.add ((l26 : Int).toNat * 2) = p28 at h
      refine wpR_val (v := (Value.pointer (some p28))) (w' := w5) rfl rfl rfl ((x_indexAddr (s := (⟨some ⟨b25, 0, none⟩, 6, 6⟩ : Sl)) rfl e56 e58 ES_44 q28 r28).trans (by rw [hp28])) ?_
      obtain ⟨x29, q29, x30, q30, h⟩ := h
      refine wpR_val (v := (Value.agg #[(Value.int .i64 x29), (Value.int .i64 x30)])) (w' := w5) rfl rfl rfl (x_loadN [(Value.int .i64 x29), (Value.int .i64 x30)] rfl rfl SH_43 (CellsAt.out (CellsAt.cons q29 (CellsAt.cons q30 CellsAt.nil)))) ?_
      obtain ⟨b31, hb31⟩ : ∃ u, u = w5.heap.size := ⟨_, rfl⟩
      obtain ⟨w6, hw31⟩ : ∃ u, u = w5.alloc (.cells #[(Value.int .i64 0), (Value.int .i64 0)] 43) := ⟨_, rfl⟩
      replace h := h b31 w6 hb31 hw31
      refine wpR_val (v := (Value.pointer (some (Addr.mk b31 0 none)))) (w' := w6) rfl rfl rfl ((x_alloc rfl ZV_43).trans (by rw [hb31, hw31]; rfl)) ?_
      obtain ⟨q32, h⟩ := h
      obtain ⟨w7, hw32⟩ : ∃ u, u = setAll w6 (Addr.mk b31 0 none) [(Value.int .i64 x29), (Value.int .i64 x30)] 0 := ⟨_, rfl⟩
      replace h := h w7 hw32
      refine wpR_skp (w' := w7) rfl rfl ((x_store (v := (Value.agg #[(Value.int .i64 x29), (Value.int .i64 x30)])) rfl rfl rfl SZ_43 (ones (by rfl)) q32).trans (by rw [hw32]; rfl)) ?_
      refine wpR_nil ?_
      refine wpC_seq ?_
      refine wpC_cut (fun ρ => ρ 1 = (Value.pointer (some (Addr.mk b1 0 none))) ∧ ρ 6 = (Value.pointer (some (Addr.mk b31 0 none))) ∧ ρ 56 = (Sl.v (⟨some ⟨b25, 0, none⟩, 6, 6⟩ : Sl)) ∧ ρ 57 = (Value.int .i64 ((⟨some ⟨b25, 0, none⟩, 6, 6⟩ : Sl).len : Int)) ∧ ρ 58 = (Value.int .i64 l26) ∧ True) ⟨e1, rfl, e56, e57, e58, trivial⟩ ?_
      rintro ρ ⟨e1, e6, e56, e57, e58, -⟩
      refine wpC_region ?_
      obtain ⟨p33, w8, q33, h⟩ := h
      refine wpR_val (v := (Value.pointer (some p33))) (w' := w8) rfl rfl rfl (x_indexAt rfl e6 rfl q33) ?_
      obtain ⟨x34, q34, h⟩ := h
      refine wpR_val (v := (Value.int .i64 x34)) (w' := w8) rfl rfl rfl (x_load1 rfl rfl SH_3 q34) ?_
      refine wpR_val (v := (Value.bool (decide (x34 < 0)))) (w' := w8) rfl rfl rfl (x_lss rfl rfl rfl) ?_
      refine wpR_val (v := (Value.bool (decide (x34 < 0)))) (w' := w8) rfl rfl rfl (x_move (v := (Value.bool (decide (x34 < 0)))) rfl rfl) ?_
      obtain ⟨J35, h, hk⟩ := h
      refine wpR_joinJ 6 (fun x ρ => ρ 71 = Value.bool x ∧ ρ 1 = (Value.pointer (some (Addr.mk b1 0 none))) ∧ ρ 56 = (Sl.v (⟨some ⟨b25, 0, none⟩, 6, 6⟩ : Sl)) ∧ ρ 57 = (Value.int .i64 ((⟨some ⟨b25, 0, none⟩, 6, 6⟩ : Sl).len : Int)) ∧ ρ 58 = (Value.int .i64 l26) ∧ True) (J35) ?_ ?_
      · clear hk
        rcases Bool.eq_false_or_eq_true (decide (x34 < 0)) with hc36 | hc36
        · replace h := h.1 hc36
          refine wpR_pass (wantN rfl rfl rfl hc36) rfl rfl ?_
          refine wpR_pass (wantN rfl rfl rfl hc36) rfl rfl ?_
          refine wpR_pass (wantN rfl rfl rfl hc36) rfl rfl ?_
          refine wpR_pass (wantN rfl rfl rfl hc36) rfl rfl ?_
          refine wpR_pass (wantN rfl rfl rfl hc36) rfl rfl ?_
          refine wpR_val (v := (Value.bool true)) (w' := w8) rfl rfl rfl (x_pickT (v := (Value.bool true)) rfl rfl hc36 rfl) ?_
          refine wpR_nil ?_
          exact ⟨true, ⟨rfl, e1, e56, e57, e58, trivial⟩, h⟩
        · replace h := h.2 hc36
          obtain ⟨p37, w9, q37, h⟩ := h
          refine wpR_val (v := (Value.pointer (some p37))) (w' := w9) (wantG rfl rfl rfl hc36) rfl rfl (x_indexAt rfl e6 rfl q37) ?_
          obtain ⟨x38, q38, h⟩ := h
          refine wpR_val (v := (Value.int .i64 x38)) (w' := w9) (wantG rfl rfl rfl hc36) rfl rfl (x_load1 rfl rfl SH_3 q38) ?_
          obtain ⟨p39, w10, q39, h⟩ := h
          refine wpR_val (v := (Value.pointer (some p39))) (w' := w10) (wantG rfl rfl rfl hc36) rfl rfl (x_indexAt rfl e6 rfl q39) ?_
          obtain ⟨x40, q40, h⟩ := h
          refine wpR_val (v := (Value.int .i64 x40)) (w' := w10) (wantG rfl rfl rfl hc36) rfl rfl (x_load1 rfl rfl SH_3 q40) ?_
          refine wpR_val (v := (Value.bool (decide (x40 ≤ x38)))) (w' := w10) (wantG rfl rfl rfl hc36) rfl rfl (x_geq rfl rfl rfl) ?_
          refine wpR_val (v := (Value.bool (decide (x40 ≤ x38)))) (w' := w10) rfl rfl rfl (x_pickF (v := (Value.bool (decide (x40 ≤ x38)))) rfl rfl hc36 rfl) ?_
          refine wpR_nil ?_
          exact ⟨decide (x40 ≤ x38), ⟨rfl, e1, e56, e57, e58, trivial⟩, h⟩
      clear h
      rintro c41 ρ w11 ⟨e71, e1, e56, e57, e58, -⟩ h
      replace h := hk c41 w11 h
      clear hk
      refine wpR_nil ?_
      refine wpC_cond (b := c41) e71 (fun hc42 => ?_) (fun hc42 => ?_)
      · replace h := h.1 hc42
        refine wpC_seq ?_
        refine wpC_region ?_
        refine wpR_val (v := (Value.bool false)) (w' := w11) rfl rfl rfl (x_assign (v := (Value.bool false)) rfl rfl) ?_
        refine wpR_nil ?_
        refine wpC_ret ?_
        exact ⟨.inl rfl, fun a ha => ⟨_, results_rep1 rfl ha rfl, false, rfl, h⟩⟩
      · replace h := h.2 hc42
        refine wpC_skip ?_
        refine wpC_region ?_
        refine wpR_val (v := (Value.int .i64 (IntKind.i64.wrap (l26 + 1)))) (w' := w11) rfl rfl rfl (x_add rfl e58 rfl) ?_
        refine wpR_val (v := (Value.int .i64 (IntKind.i64.wrap (l26 + 1)))) (w' := w11) rfl rfl rfl (x_move (v := (Value.int .i64 (IntKind.i64.wrap (l26 + 1)))) rfl rfl) ?_
        refine wpR_nil ?_
        exact ⟨IntKind.i64.wrap (l26 + 1), ⟨rfl, e1, e56, e57, trivial⟩, h⟩
    · replace h := h.2 hc27
      refine wpC_exit ?_
      refine wpC_seq ?_
      refine wpC_block ?_
      obtain ⟨J43, h, hk⟩ := h
      refine wpC_seqJ (fun (x : Bool) ρ => ρ 73 = (Value.bool x) ∧ ρ 1 = (Value.pointer (some (Addr.mk b1 0 none))) ∧ True) J43 ?_ ?_
      · clear hk
        refine wpC_seq ?_
        refine wpC_cut (fun ρ => ρ 1 = (Value.pointer (some (Addr.mk b1 0 none))) ∧ True) ⟨e1, trivial⟩ ?_
        rintro ρ ⟨e1, -⟩
        refine wpC_region ?_
        refine wpR_val (v := (Value.pointer (some ((Addr.mk b1 0 none).add 0)))) (w' := w5) rfl rfl rfl (x_fieldAddr rfl e1 FA_24_0) ?_
        obtain ⟨x45, q45, h⟩ := h
        refine wpR_val (v := (Value.string x45)) (w' := w5) rfl rfl rfl (x_load1 rfl rfl SH_9 q45) ?_
        refine wpR_enter rfl rfl rfl (x_call (vs := [(Value.string x45)]) rfl rfl (mapl_cons rfl mapl_nil) Try.func36 NN_36 NB_36) (Calls.mono h ?_)
        rintro _ w13 ⟨r46, rfl, h⟩
        refine ⟨_, rfl, ?_⟩
        refine wpR_val (v := (Value.bool (!r46))) (w' := w13) rfl rfl rfl (x_not rfl rfl) ?_
        refine wpR_val (v := (Value.bool (!r46))) (w' := w13) rfl rfl rfl (x_assign (v := (Value.bool (!r46))) rfl rfl) ?_
        refine wpR_nil ?_
        refine wpC_cond (b := !r46) rfl (fun hc47 => ?_) (fun hc47 => ?_)
        · replace h := h.1 hc47
          refine wpC_skip ?_
          exact ⟨!r46, ⟨rfl, e1, trivial⟩, h⟩
        · replace h := h.2 hc47
          refine wpC_seq ?_
          refine wpC_cut (fun ρ => ρ 1 = (Value.pointer (some (Addr.mk b1 0 none))) ∧ True) ⟨e1, trivial⟩ ?_
          rintro ρ ⟨e1, -⟩
          refine wpC_region ?_
          refine wpR_val (v := (Value.pointer (some ((Addr.mk b1 0 none).add 1)))) (w' := w13) rfl rfl rfl (x_fieldAddr rfl e1 FA_24_1) ?_
          obtain ⟨x48, q48, h⟩ := h
          refine wpR_val (v := (Value.int .i64 x48)) (w' := w13) rfl rfl rfl (x_load1 rfl rfl SH_3 q48) ?_
          refine wpR_val (v := (Value.bool (!decide (x48 = 0)))) (w' := w13) rfl rfl rfl (x_neq rfl rfl rfl) ?_
          refine wpR_val (v := (Value.bool (!decide (x48 = 0)))) (w' := w13) rfl rfl rfl (x_move (v := (Value.bool (!decide (x48 = 0)))) rfl rfl) ?_
          obtain ⟨J49, h, hk⟩ := h
          refine wpR_joinJ 4 (fun x ρ => ρ 85 = Value.bool x ∧ ρ 1 = (Value.pointer (some (Addr.mk b1 0 none))) ∧ True) (fun x w => J49 x ∧ w13 = w) ?_ ?_
          · clear hk
            rcases Bool.eq_false_or_eq_true (!decide (x48 = 0)) with hc50 | hc50
            · replace h := h.1 hc50
              refine wpR_val (v := (Value.pointer (some ((Addr.mk b1 0 none).add 1)))) (w' := w13) (wantG rfl rfl rfl hc50) rfl rfl (x_fieldAddr rfl e1 FA_24_1) ?_
              obtain ⟨x51, q51, h⟩ := h
              refine wpR_val (v := (Value.int .i64 x51)) (w' := w13) (wantG rfl rfl rfl hc50) rfl rfl (x_load1 rfl rfl SH_3 q51) ?_
              refine wpR_val (v := (Value.bool (!decide (x51 = 2)))) (w' := w13) (wantG rfl rfl rfl hc50) rfl rfl (x_neq rfl rfl rfl) ?_
              refine wpR_val (v := (Value.bool (!decide (x51 = 2)))) (w' := w13) rfl rfl rfl (x_pickT (v := (Value.bool (!decide (x51 = 2)))) rfl rfl hc50 rfl) ?_
              refine wpR_nil ?_
              exact ⟨!decide (x51 = 2), ⟨rfl, e1, trivial⟩, h, rfl⟩
            · replace h := h.2 hc50
              refine wpR_pass (wantN rfl rfl rfl hc50) rfl rfl ?_
              refine wpR_pass (wantN rfl rfl rfl hc50) rfl rfl ?_
              refine wpR_pass (wantN rfl rfl rfl hc50) rfl rfl ?_
              refine wpR_val (v := (Value.bool false)) (w' := w13) rfl rfl rfl (x_pickF (v := (Value.bool false)) rfl rfl hc50 rfl) ?_
              refine wpR_nil ?_
              exact ⟨false, ⟨rfl, e1, trivial⟩, h, rfl⟩
          clear h
          rintro c52 ρ wj ⟨e85, e1, -⟩ ⟨h, rfl⟩
          replace h := hk c52 h
          clear hk
          refine wpR_val (v := (Value.bool c52)) (w' := w13) rfl rfl rfl (x_assign (v := (Value.bool c52)) rfl e85) ?_
          refine wpR_nil ?_
          refine wpC_cond (b := c52) rfl (fun hc53 => ?_) (fun hc53 => ?_)
          · replace h := h.1 hc53
            refine wpC_skip ?_
            exact ⟨c52, ⟨rfl, e1, trivial⟩, h⟩
          · replace h := h.2 hc53
            refine wpC_cut (fun ρ => ρ 1 = (Value.pointer (some (Addr.mk b1 0 none))) ∧ True) ⟨e1, trivial⟩ ?_
            rintro ρ ⟨e1, -⟩
            refine wpC_region ?_
            refine wpR_val (v := (Value.pointer (some ((Addr.mk b1 0 none).add 1)))) (w' := w13) rfl rfl rfl (x_fieldAddr rfl e1 FA_24_1) ?_
            obtain ⟨x54, q54, h⟩ := h
            refine wpR_val (v := (Value.int .i64 x54)) (w' := w13) rfl rfl rfl (x_load1 rfl rfl SH_3 q54) ?_
            refine wpR_val (v := (Value.bool (decide (x54 = 0)))) (w' := w13) rfl rfl rfl (x_eql rfl rfl rfl) ?_
            refine wpR_val (v := (Value.bool (decide (x54 = 0)))) (w' := w13) rfl rfl rfl (x_move (v := (Value.bool (decide (x54 = 0)))) rfl rfl) ?_
            obtain ⟨J55, h, hk⟩ := h
            refine wpR_joinJ 4 (fun x ρ => ρ 93 = Value.bool x ∧ ρ 1 = (Value.pointer (some (Addr.mk b1 0 none))) ∧ True) (fun x w => J55 x ∧ w13 = w) ?_ ?_
            · clear hk
              rcases Bool.eq_false_or_eq_true (decide (x54 = 0)) with hc56 | hc56
              · replace h := h.1 hc56
                refine wpR_val (v := (Value.pointer (some ((Addr.mk b1 0 none).add 2)))) (w' := w13) (wantG rfl rfl rfl hc56) rfl rfl (x_fieldAddr rfl e1 FA_24_2) ?_
                obtain ⟨x57, q57, h⟩ := h
                refine wpR_val (v := (Value.int .i64 x57)) (w' := w13) (wantG rfl rfl rfl hc56) rfl rfl (x_load1 rfl rfl SH_3 q57) ?_
                refine wpR_val (v := (Value.bool (decide (0 < x57)))) (w' := w13) (wantG rfl rfl rfl hc56) rfl rfl (x_gtr rfl rfl rfl) ?_
                refine wpR_val (v := (Value.bool (decide (0 < x57)))) (w' := w13) rfl rfl rfl (x_pickT (v := (Value.bool (decide (0 < x57)))) rfl rfl hc56 rfl) ?_
                refine wpR_nil ?_
                exact ⟨decide (0 < x57), ⟨rfl, e1, trivial⟩, h, rfl⟩
              · replace h := h.2 hc56
                refine wpR_pass (wantN rfl rfl rfl hc56) rfl rfl ?_
                refine wpR_pass (wantN rfl rfl rfl hc56) rfl rfl ?_
                refine wpR_pass (wantN rfl rfl rfl hc56) rfl rfl ?_
                refine wpR_val (v := (Value.bool false)) (w' := w13) rfl rfl rfl (x_pickF (v := (Value.bool false)) rfl rfl hc56 rfl) ?_
                refine wpR_nil ?_
                exact ⟨false, ⟨rfl, e1, trivial⟩, h, rfl⟩
            clear h
            rintro c58 ρ wj ⟨e93, e1, -⟩ ⟨h, rfl⟩
            replace h := hk c58 h
            clear hk
            refine wpR_val (v := (Value.bool c58)) (w' := w13) rfl rfl rfl (x_assign (v := (Value.bool c58)) rfl e93) ?_
            refine wpR_nil ?_
            exact ⟨c58, ⟨rfl, e1, trivial⟩, h⟩
      clear h
      rintro l44 ρ w12 ⟨e73, e1, -⟩ h
      replace h := hk l44 w12 h
      clear hk
      refine wpC_cond (b := l44) e73 (fun hc59 => ?_) (fun hc59 => ?_)
      · replace h := h.1 hc59
        refine wpC_seq ?_
        refine wpC_region ?_
        refine wpR_val (v := (Value.bool false)) (w' := w12) rfl rfl rfl (x_assign (v := (Value.bool false)) rfl rfl) ?_
        refine wpR_nil ?_
        refine wpC_ret ?_
        exact ⟨.inl rfl, fun a ha => ⟨_, results_rep1 rfl ha rfl, false, rfl, h⟩⟩
      · replace h := h.2 hc59
        refine wpC_seq ?_
        refine wpC_region ?_
        refine wpR_val (v := (Value.pointer (some ((Addr.mk b1 0 none).add 10)))) (w' := w12) rfl rfl rfl (x_fieldAddr rfl e1 FA_24_10) ?_
        obtain ⟨x60, q60, h⟩ := h
        refine wpR_val (v := (Value.int .i64 x60)) (w' := w12) rfl rfl rfl (x_load1 rfl rfl SH_3 q60) ?_
        refine wpR_val (v := (Value.bool (decide (x60 = 0)))) (w' := w12) rfl rfl rfl (x_eql rfl rfl rfl) ?_
        refine wpR_val (v := (Value.bool (decide (x60 = 0)))) (w' := w12) rfl rfl rfl (x_assign (v := (Value.bool (decide (x60 = 0)))) rfl rfl) ?_
        refine wpR_nil ?_
        refine wpC_cond (b := decide (x60 = 0)) rfl (fun hc61 => ?_) (fun hc61 => ?_)
        · replace h := h.1 hc61
          refine wpC_seq ?_
          refine wpC_cut (fun ρ => ρ 1 = (Value.pointer (some (Addr.mk b1 0 none))) ∧ True) ⟨e1, trivial⟩ ?_
          rintro ρ ⟨e1, -⟩
          refine wpC_region ?_
          refine wpR_val (v := (Value.pointer (some ((Addr.mk b1 0 none).add 11)))) (w' := w12) rfl rfl rfl (x_fieldAddr rfl e1 FA_24_11) ?_
          obtain ⟨x62, q62, h⟩ := h
          refine wpR_val (v := (Value.int .i64 x62)) (w' := w12) rfl rfl rfl (x_load1 rfl rfl SH_3 q62) ?_
          refine wpR_val (v := (Value.bool (decide (x62 = 0)))) (w' := w12) rfl rfl rfl (x_eql rfl rfl rfl) ?_
          refine wpR_val (v := (Value.bool (decide (x62 = 0)))) (w' := w12) rfl rfl rfl (x_move (v := (Value.bool (decide (x62 = 0)))) rfl rfl) ?_
          obtain ⟨J63, h, hk⟩ := h
          refine wpR_joinJ 5 (fun x ρ => ρ 106 = Value.bool x ∧ True) (fun x w => J63 x ∧ w12 = w) ?_ ?_
          · clear hk
            rcases Bool.eq_false_or_eq_true (decide (x62 = 0)) with hc64 | hc64
            · replace h := h.1 hc64
              refine wpR_val (v := (Value.pointer (some ((Addr.mk b1 0 none).add 12)))) (w' := w12) (wantG rfl rfl rfl hc64) rfl rfl (x_fieldAddr rfl e1 FA_24_12) ?_
              obtain ⟨x65, q65, h⟩ := h
              refine wpR_val (v := (Sl.v x65)) (w' := w12) (wantG rfl rfl rfl hc64) rfl rfl (x_load1 rfl rfl SH_22 q65) ?_
              refine wpR_val (v := (Value.int .i64 (x65.len : Int))) (w' := w12) (wantG rfl rfl rfl hc64) rfl rfl (x_lenS (s := x65) rfl rfl isSliceT_22) ?_
              refine wpR_val (v := (Value.bool (decide ((x65.len : Int) = 0)))) (w' := w12) (wantG rfl rfl rfl hc64) rfl rfl (x_eql rfl rfl rfl) ?_
              refine wpR_val (v := (Value.bool (decide ((x65.len : Int) = 0)))) (w' := w12) rfl rfl rfl (x_pickT (v := (Value.bool (decide ((x65.len : Int) = 0)))) rfl rfl hc64 rfl) ?_
              refine wpR_nil ?_
              exact ⟨decide ((x65.len : Int) = 0), ⟨rfl, trivial⟩, h, rfl⟩
            · replace h := h.2 hc64
              refine wpR_pass (wantN rfl rfl rfl hc64) rfl rfl ?_
              refine wpR_pass (wantN rfl rfl rfl hc64) rfl rfl ?_
              refine wpR_pass (wantN rfl rfl rfl hc64) rfl rfl ?_
              refine wpR_pass (wantN rfl rfl rfl hc64) rfl rfl ?_
              refine wpR_val (v := (Value.bool false)) (w' := w12) rfl rfl rfl (x_pickF (v := (Value.bool false)) rfl rfl hc64 rfl) ?_
              refine wpR_nil ?_
              exact ⟨false, ⟨rfl, trivial⟩, h, rfl⟩
          clear h
          rintro c66 ρ wj ⟨e106, -⟩ ⟨h, rfl⟩
          replace h := hk c66 h
          clear hk
          refine wpR_val (v := (Value.bool c66)) (w' := w12) rfl rfl rfl (x_assign (v := (Value.bool c66)) rfl e106) ?_
          refine wpR_nil ?_
          refine wpC_ret ?_
          exact ⟨.inl rfl, fun a ha => ⟨_, results_rep1 rfl ha rfl, c66, rfl, h⟩⟩
        · replace h := h.2 hc61
          refine wpC_skip ?_
          refine wpC_seq ?_
          refine wpC_cut (fun ρ => ρ 1 = (Value.pointer (some (Addr.mk b1 0 none))) ∧ True) ⟨e1, trivial⟩ ?_
          rintro ρ ⟨e1, -⟩
          refine wpC_region ?_
          refine wpR_val (v := (Value.pointer (some ((Addr.mk b1 0 none).add 12)))) (w' := w12) rfl rfl rfl (x_fieldAddr rfl e1 FA_24_12) ?_
          obtain ⟨x67, q67, h⟩ := h
          refine wpR_val (v := (Sl.v x67)) (w' := w12) rfl rfl rfl (x_load1 rfl rfl SH_22 q67) ?_
          refine wpR_val (v := (Value.int .i64 (x67.len : Int))) (w' := w12) rfl rfl rfl (x_lenS (s := x67) rfl rfl isSliceT_22) ?_
          refine wpR_val (v := (Value.bool (decide (1 ≤ (x67.len : Int))))) (w' := w12) rfl rfl rfl (x_geq rfl rfl rfl) ?_
          refine wpR_val (v := (Value.bool (decide (1 ≤ (x67.len : Int))))) (w' := w12) rfl rfl rfl (x_move (v := (Value.bool (decide (1 ≤ (x67.len : Int))))) rfl rfl) ?_
          obtain ⟨J68, h, hk⟩ := h
          refine wpR_joinJ 5 (fun x ρ => ρ 116 = Value.bool x ∧ ρ 1 = (Value.pointer (some (Addr.mk b1 0 none))) ∧ True) (fun x w => J68 x ∧ w12 = w) ?_ ?_
          · clear hk
            rcases Bool.eq_false_or_eq_true (decide (1 ≤ (x67.len : Int))) with hc69 | hc69
            · replace h := h.1 hc69
              refine wpR_val (v := (Value.pointer (some ((Addr.mk b1 0 none).add 12)))) (w' := w12) (wantG rfl rfl rfl hc69) rfl rfl (x_fieldAddr rfl e1 FA_24_12) ?_
              obtain ⟨x70, q70, h⟩ := h
              refine wpR_val (v := (Sl.v x70)) (w' := w12) (wantG rfl rfl rfl hc69) rfl rfl (x_load1 rfl rfl SH_22 q70) ?_
              refine wpR_val (v := (Value.int .i64 (x70.len : Int))) (w' := w12) (wantG rfl rfl rfl hc69) rfl rfl (x_lenS (s := x70) rfl rfl isSliceT_22) ?_
              refine wpR_val (v := (Value.bool (decide ((x70.len : Int) ≤ 20)))) (w' := w12) (wantG rfl rfl rfl hc69) rfl rfl (x_leq rfl rfl rfl) ?_
              refine wpR_val (v := (Value.bool (decide ((x70.len : Int) ≤ 20)))) (w' := w12) rfl rfl rfl (x_pickT (v := (Value.bool (decide ((x70.len : Int) ≤ 20)))) rfl rfl hc69 rfl) ?_
              refine wpR_nil ?_
              exact ⟨decide ((x70.len : Int) ≤ 20), ⟨rfl, e1, trivial⟩, h, rfl⟩
            · replace h := h.2 hc69
              refine wpR_pass (wantN rfl rfl rfl hc69) rfl rfl ?_
              refine wpR_pass (wantN rfl rfl rfl hc69) rfl rfl ?_
              refine wpR_pass (wantN rfl rfl rfl hc69) rfl rfl ?_
              refine wpR_pass (wantN rfl rfl rfl hc69) rfl rfl ?_
              refine wpR_val (v := (Value.bool false)) (w' := w12) rfl rfl rfl (x_pickF (v := (Value.bool false)) rfl rfl hc69 rfl) ?_
              refine wpR_nil ?_
              exact ⟨false, ⟨rfl, e1, trivial⟩, h, rfl⟩
          clear h
          rintro c71 ρ wj ⟨e116, e1, -⟩ ⟨h, rfl⟩
          replace h := hk c71 h
          clear hk
          refine wpR_val (v := (Value.bool c71)) (w' := w12) rfl rfl rfl (x_move (v := (Value.bool c71)) rfl e116) ?_
          obtain ⟨J72, h, hk⟩ := h
          refine wpR_joinJ 5 (fun x ρ => ρ 122 = Value.bool x ∧ True) (J72) ?_ ?_
          · clear hk
            rcases Bool.eq_false_or_eq_true (c71) with hc73 | hc73
            · replace h := h.1 hc73
              refine wpR_val (v := (Value.pointer (some ((Addr.mk b1 0 none).add 12)))) (w' := w12) (wantG rfl rfl rfl hc73) rfl rfl (x_fieldAddr rfl e1 FA_24_12) ?_
              obtain ⟨x74, q74, h⟩ := h
              refine wpR_val (v := (Sl.v x74)) (w' := w12) (wantG rfl rfl rfl hc73) rfl rfl (x_load1 rfl rfl SH_22 q74) ?_
              refine wpR_enter (wantG rfl rfl rfl hc73) rfl rfl (x_call (vs := [(Sl.v x74), (Value.func (.func 37) #[] #[])]) rfl rfl (mapl_cons rfl (mapl_cons rfl mapl_nil)) Try.func30 NN_30 NB_30) (Calls.mono h ?_)
              rintro _ w14 ⟨r75, rfl, h⟩
              refine ⟨_, rfl, ?_⟩
              refine wpR_val (v := (Value.bool (!r75))) (w' := w14) (wantG rfl rfl rfl hc73) rfl rfl (x_not rfl rfl) ?_
              refine wpR_val (v := (Value.bool (!r75))) (w' := w14) rfl rfl rfl (x_pickT (v := (Value.bool (!r75))) rfl rfl hc73 rfl) ?_
              refine wpR_nil ?_
              exact ⟨!r75, ⟨rfl, trivial⟩, h⟩
            · replace h := h.2 hc73
              refine wpR_pass (wantN rfl rfl rfl hc73) rfl rfl ?_
              refine wpR_pass (wantN rfl rfl rfl hc73) rfl rfl ?_
              refine wpR_pass (wantN rfl rfl rfl hc73) rfl rfl ?_
              refine wpR_pass (wantN rfl rfl rfl hc73) rfl rfl ?_
              refine wpR_val (v := (Value.bool false)) (w' := w12) rfl rfl rfl (x_pickF (v := (Value.bool false)) rfl rfl hc73 rfl) ?_
              refine wpR_nil ?_
              exact ⟨false, ⟨rfl, trivial⟩, h⟩
          clear h
          rintro c76 ρ w15 ⟨e122, -⟩ h
          replace h := hk c76 w15 h
          clear hk
          refine wpR_val (v := (Value.bool c76)) (w' := w15) rfl rfl rfl (x_assign (v := (Value.bool c76)) rfl e122) ?_
          refine wpR_nil ?_
          refine wpC_ret ?_
          exact ⟨.inl rfl, fun a ha => ⟨_, results_rep1 rfl ha rfl, c76, rfl, h⟩⟩

/-- profile.within -/
def F25 (p0 : Int) (p1 : Int) (p2 : Int) (w0 : World) (K : Bool → World → Prop) : Prop :=
  K ((decide (p1 ≤ p0)) && (decide (p0 ≤ p2))) w0
set_option maxRecDepth 100000 in
theorem D25 (p0 : Int) (p1 : Int) (p2 : Int) (w0 : World) (K : Bool → World → Prop) (h : F25 p0 p1 p2 w0 K) : callC Try.prog 25 #[(Value.int .i64 p0), (Value.int .i64 p1), (Value.int .i64 p2)] (fun (r : Bool) => (Value.bool r)) w0 K := by
  unfold F25 at h
  refine calls_of_wpC Try.func25 rfl 15 rfl (by simp) ?_
  intro ρ hρ
  have e0 : ρ 0 = (Value.int .i64 p0) := hρ 0
  have e1 : ρ 1 = (Value.int .i64 p1) := hρ 1
  have e2 : ρ 2 = (Value.int .i64 p2) := hρ 2
  clear hρ
  refine wpC_seq ?_
  refine wpC_region ?_
  refine wpR_val (v := (Value.bool false)) (w' := w0) rfl rfl rfl (x_assign (v := (Value.bool false)) rfl rfl) ?_
  refine wpR_nil ?_
  refine wpC_seq ?_
  refine wpC_cut (fun ρ => ρ 0 = (Value.int .i64 p0) ∧ ρ 1 = (Value.int .i64 p1) ∧ ρ 2 = (Value.int .i64 p2) ∧ True) ⟨e0, e1, e2, trivial⟩ ?_
  rintro ρ ⟨e0, e1, e2, -⟩
  refine wpC_region ?_
  refine wpR_val (v := (Value.int .i64 p0)) (w' := w0) rfl rfl rfl (x_move (v := (Value.int .i64 p0)) rfl e0) ?_
  refine wpR_val (v := (Value.int .i64 p1)) (w' := w0) rfl rfl rfl (x_move (v := (Value.int .i64 p1)) rfl e1) ?_
  refine wpR_val (v := (Value.bool (decide (p1 ≤ p0)))) (w' := w0) rfl rfl rfl (x_geq rfl rfl rfl) ?_
  refine wpR_val (v := (Value.bool (decide (p1 ≤ p0)))) (w' := w0) rfl rfl rfl (x_move (v := (Value.bool (decide (p1 ≤ p0)))) rfl rfl) ?_
  refine wpR_joinJ 4 (fun (_ : Unit) ρ => ρ 14 = Value.bool ((decide (p1 ≤ p0)) && (decide (p0 ≤ p2))) ∧ True) (fun _ w => w0 = w) ?_ ?_
  · clear h
    rcases Bool.eq_false_or_eq_true (decide (p1 ≤ p0)) with hc2 | hc2
    · skip
      refine wpR_val (v := (Value.int .i64 p0)) (w' := w0) (wantG rfl rfl rfl hc2) rfl rfl (x_move (v := (Value.int .i64 p0)) rfl e0) ?_
      refine wpR_val (v := (Value.int .i64 p2)) (w' := w0) (wantG rfl rfl rfl hc2) rfl rfl (x_move (v := (Value.int .i64 p2)) rfl e2) ?_
      refine wpR_val (v := (Value.bool (decide (p0 ≤ p2)))) (w' := w0) (wantG rfl rfl rfl hc2) rfl rfl (x_leq rfl rfl rfl) ?_
      refine wpR_val (v := (Value.bool (decide (p0 ≤ p2)))) (w' := w0) rfl rfl rfl (x_pickT (v := (Value.bool (decide (p0 ≤ p2)))) rfl rfl hc2 rfl) ?_
      refine wpR_nil ?_
      exact ⟨(), ⟨(by rw [hc2]; rfl), trivial⟩, rfl⟩
    · skip
      refine wpR_pass (wantN rfl rfl rfl hc2) rfl rfl ?_
      refine wpR_pass (wantN rfl rfl rfl hc2) rfl rfl ?_
      refine wpR_pass (wantN rfl rfl rfl hc2) rfl rfl ?_
      refine wpR_val (v := (Value.bool false)) (w' := w0) rfl rfl rfl (x_pickF (v := (Value.bool false)) rfl rfl hc2 rfl) ?_
      refine wpR_nil ?_
      exact ⟨(), ⟨(by rw [hc2]; rfl), trivial⟩, rfl⟩
  rintro _ ρ wj ⟨e14, -⟩ rfl
  refine wpR_val (v := (Value.bool ((decide (p1 ≤ p0)) && (decide (p0 ≤ p2))))) (w' := w0) rfl rfl rfl (x_assign (v := (Value.bool ((decide (p1 ≤ p0)) && (decide (p0 ≤ p2))))) rfl e14) ?_
  refine wpR_nil ?_
  refine wpC_ret ?_
  exact ⟨.inl rfl, fun a ha => ⟨_, results_rep1 rfl ha rfl, (decide (p1 ≤ p0)) && (decide (p0 ≤ p2)), rfl, h⟩⟩

/-- profile.together -/
def F26 (p0_0 : ByteArray) (p0_1 : Int) (p0_2 : Int) (p0_3 : Int) (p0_4 : Bool) (p0_5 : Int) (p0_6 : Bool) (p0_7 : Bool) (p0_8 : Int) (p0_9 : Int) (p0_10 : Int) (p0_11 : Int) (p0_12 : Sl) (p0_13 : Int) (p0_14 : Int) (p0_15 : Int) (p0_16 : Int) (p0_17 : Bool) (p0_18 : Int) (p0_19 : Int) (p0_20 : Int) (p0_21 : Int) (w0 : World) (K : Bool → World → Prop) : Prop :=
  nw 24 (A23 p0_0 p0_1 p0_2 p0_3 p0_4 p0_5 p0_6 p0_7 p0_8 p0_9 p0_10 p0_11 p0_12 p0_13 p0_14 p0_15 p0_16 p0_17 p0_18 p0_19 p0_20 p0_21) w0 fun b1 w1 =>
  ld (Value.int .i64) ((Addr.mk b1 0 none).add 10) w1 fun x2 =>
  ld (Value.int .i64) ((Addr.mk b1 0 none).add 11) w1 fun x3 =>
  jp (fun J4 => cnd ((decide (x2 = 0)) == (decide (x3 = 0)))
    (
    ld (Value.int .i64) ((Addr.mk b1 0 none).add 10) w1 fun x6 =>
    ld Sl.v ((Addr.mk b1 0 none).add 12) w1 fun x7 =>
    J4 ((decide (x6 = 0)) == (decide ((x7.len : Int) = 0)))
    )
    (
    J4 false
    ))
  fun c8 =>
  K c8 w1
set_option maxRecDepth 100000 in
theorem D26 (p0_0 : ByteArray) (p0_1 : Int) (p0_2 : Int) (p0_3 : Int) (p0_4 : Bool) (p0_5 : Int) (p0_6 : Bool) (p0_7 : Bool) (p0_8 : Int) (p0_9 : Int) (p0_10 : Int) (p0_11 : Int) (p0_12 : Sl) (p0_13 : Int) (p0_14 : Int) (p0_15 : Int) (p0_16 : Int) (p0_17 : Bool) (p0_18 : Int) (p0_19 : Int) (p0_20 : Int) (p0_21 : Int) (w0 : World) (K : Bool → World → Prop) (h : F26 p0_0 p0_1 p0_2 p0_3 p0_4 p0_5 p0_6 p0_7 p0_8 p0_9 p0_10 p0_11 p0_12 p0_13 p0_14 p0_15 p0_16 p0_17 p0_18 p0_19 p0_20 p0_21 w0 K) : callC Try.prog 26 #[(V23 p0_0 p0_1 p0_2 p0_3 p0_4 p0_5 p0_6 p0_7 p0_8 p0_9 p0_10 p0_11 p0_12 p0_13 p0_14 p0_15 p0_16 p0_17 p0_18 p0_19 p0_20 p0_21)] (fun (r : Bool) => (Value.bool r)) w0 K := by
  unfold F26 at h
  refine calls_of_wpC Try.func26 rfl 20 rfl (by simp) ?_
  intro ρ hρ
  have e0 : ρ 0 = (V23 p0_0 p0_1 p0_2 p0_3 p0_4 p0_5 p0_6 p0_7 p0_8 p0_9 p0_10 p0_11 p0_12 p0_13 p0_14 p0_15 p0_16 p0_17 p0_18 p0_19 p0_20 p0_21) := hρ 0
  clear hρ
  refine wpC_seq ?_
  refine wpC_region ?_
  obtain ⟨b1, hb1⟩ : ∃ u, u = w0.heap.size := ⟨_, rfl⟩
  obtain ⟨w1, hw1⟩ : ∃ u, u = w0.alloc (.cells (A23 p0_0 p0_1 p0_2 p0_3 p0_4 p0_5 p0_6 p0_7 p0_8 p0_9 p0_10 p0_11 p0_12 p0_13 p0_14 p0_15 p0_16 p0_17 p0_18 p0_19 p0_20 p0_21) 24) := ⟨_, rfl⟩
  replace h := h b1 w1 hb1 hw1
  refine wpR_val (v := (Value.pointer (some (Addr.mk b1 0 none)))) (w' := w1) rfl rfl rfl ((x_box (v := (V23 p0_0 p0_1 p0_2 p0_3 p0_4 p0_5 p0_6 p0_7 p0_8 p0_9 p0_10 p0_11 p0_12 p0_13 p0_14 p0_15 p0_16 p0_17 p0_18 p0_19 p0_20 p0_21)) rfl e0).trans (by rw [hb1, hw1]; rfl)) ?_
  refine wpR_val (v := (Value.bool false)) (w' := w1) rfl rfl rfl (x_assign (v := (Value.bool false)) rfl rfl) ?_
  refine wpR_nil ?_
  refine wpC_seq ?_
  refine wpC_cut (fun ρ => ρ 1 = (Value.pointer (some (Addr.mk b1 0 none))) ∧ True) ⟨rfl, trivial⟩ ?_
  rintro ρ ⟨e1, -⟩
  refine wpC_region ?_
  refine wpR_val (v := (Value.pointer (some ((Addr.mk b1 0 none).add 10)))) (w' := w1) rfl rfl rfl (x_fieldAddr rfl e1 FA_24_10) ?_
  obtain ⟨x2, q2, h⟩ := h
  refine wpR_val (v := (Value.int .i64 x2)) (w' := w1) rfl rfl rfl (x_load1 rfl rfl SH_3 q2) ?_
  refine wpR_val (v := (Value.bool (decide (x2 = 0)))) (w' := w1) rfl rfl rfl (x_eql rfl rfl rfl) ?_
  refine wpR_val (v := (Value.pointer (some ((Addr.mk b1 0 none).add 11)))) (w' := w1) rfl rfl rfl (x_fieldAddr rfl e1 FA_24_11) ?_
  obtain ⟨x3, q3, h⟩ := h
  refine wpR_val (v := (Value.int .i64 x3)) (w' := w1) rfl rfl rfl (x_load1 rfl rfl SH_3 q3) ?_
  refine wpR_val (v := (Value.bool (decide (x3 = 0)))) (w' := w1) rfl rfl rfl (x_eql rfl rfl rfl) ?_
  refine wpR_val (v := (Value.bool ((decide (x2 = 0)) == (decide (x3 = 0))))) (w' := w1) rfl rfl rfl (x_eqlB rfl rfl rfl isBoolT_4) ?_
  refine wpR_val (v := (Value.bool ((decide (x2 = 0)) == (decide (x3 = 0))))) (w' := w1) rfl rfl rfl (x_move (v := (Value.bool ((decide (x2 = 0)) == (decide (x3 = 0))))) rfl rfl) ?_
  obtain ⟨J4, h, hk⟩ := h
  refine wpR_joinJ 9 (fun x ρ => ρ 19 = Value.bool x ∧ True) (fun x w => J4 x ∧ w1 = w) ?_ ?_
  · clear hk
    rcases Bool.eq_false_or_eq_true ((decide (x2 = 0)) == (decide (x3 = 0))) with hc5 | hc5
    · replace h := h.1 hc5
      refine wpR_val (v := (Value.pointer (some ((Addr.mk b1 0 none).add 10)))) (w' := w1) (wantG rfl rfl rfl hc5) rfl rfl (x_fieldAddr rfl e1 FA_24_10) ?_
      obtain ⟨x6, q6, h⟩ := h
      refine wpR_val (v := (Value.int .i64 x6)) (w' := w1) (wantG rfl rfl rfl hc5) rfl rfl (x_load1 rfl rfl SH_3 q6) ?_
      refine wpR_val (v := (Value.bool (decide (x6 = 0)))) (w' := w1) (wantG rfl rfl rfl hc5) rfl rfl (x_eql rfl rfl rfl) ?_
      refine wpR_val (v := (Value.pointer (some ((Addr.mk b1 0 none).add 12)))) (w' := w1) (wantG rfl rfl rfl hc5) rfl rfl (x_fieldAddr rfl e1 FA_24_12) ?_
      obtain ⟨x7, q7, h⟩ := h
      refine wpR_val (v := (Sl.v x7)) (w' := w1) (wantG rfl rfl rfl hc5) rfl rfl (x_load1 rfl rfl SH_22 q7) ?_
      refine wpR_val (v := (Value.int .i64 (x7.len : Int))) (w' := w1) (wantG rfl rfl rfl hc5) rfl rfl (x_lenS (s := x7) rfl rfl isSliceT_22) ?_
      refine wpR_val (v := (Value.bool (decide ((x7.len : Int) = 0)))) (w' := w1) (wantG rfl rfl rfl hc5) rfl rfl (x_eql rfl rfl rfl) ?_
      refine wpR_val (v := (Value.bool ((decide (x6 = 0)) == (decide ((x7.len : Int) = 0))))) (w' := w1) (wantG rfl rfl rfl hc5) rfl rfl (x_eqlB rfl rfl rfl isBoolT_4) ?_
      refine wpR_val (v := (Value.bool ((decide (x6 = 0)) == (decide ((x7.len : Int) = 0))))) (w' := w1) rfl rfl rfl (x_pickT (v := (Value.bool ((decide (x6 = 0)) == (decide ((x7.len : Int) = 0))))) rfl rfl hc5 rfl) ?_
      refine wpR_nil ?_
      exact ⟨(decide (x6 = 0)) == (decide ((x7.len : Int) = 0)), ⟨rfl, trivial⟩, h, rfl⟩
    · replace h := h.2 hc5
      refine wpR_pass (wantN rfl rfl rfl hc5) rfl rfl ?_
      refine wpR_pass (wantN rfl rfl rfl hc5) rfl rfl ?_
      refine wpR_pass (wantN rfl rfl rfl hc5) rfl rfl ?_
      refine wpR_pass (wantN rfl rfl rfl hc5) rfl rfl ?_
      refine wpR_pass (wantN rfl rfl rfl hc5) rfl rfl ?_
      refine wpR_pass (wantN rfl rfl rfl hc5) rfl rfl ?_
      refine wpR_pass (wantN rfl rfl rfl hc5) rfl rfl ?_
      refine wpR_pass (wantN rfl rfl rfl hc5) rfl rfl ?_
      refine wpR_val (v := (Value.bool false)) (w' := w1) rfl rfl rfl (x_pickF (v := (Value.bool false)) rfl rfl hc5 rfl) ?_
      refine wpR_nil ?_
      exact ⟨false, ⟨rfl, trivial⟩, h, rfl⟩
  clear h
  rintro c8 ρ wj ⟨e19, -⟩ ⟨h, rfl⟩
  replace h := hk c8 h
  clear hk
  refine wpR_val (v := (Value.bool c8)) (w' := w1) rfl rfl rfl (x_assign (v := (Value.bool c8)) rfl e19) ?_
  refine wpR_nil ?_
  refine wpC_ret ?_
  exact ⟨.inl rfl, fun a ha => ⟨_, results_rep1 rfl ha rfl, c8, rfl, h⟩⟩

/-- slices.Contains[[]string,string] -/
def F27 (p0 : Sl) (p1 : ByteArray) (w0 : World) (K : Bool → World → Prop) : Prop :=
  callC Try.prog 38 #[(Sl.v p0), (Value.string p1)] (fun (r : Int) => (Value.int .i64 r)) w0 fun r1 w1 =>
  K (decide (0 ≤ r1)) w1
set_option maxRecDepth 100000 in
theorem D27 (p0 : Sl) (p1 : ByteArray) (w0 : World) (K : Bool → World → Prop) (h : F27 p0 p1 w0 K) : callC Try.prog 27 #[(Sl.v p0), (Value.string p1)] (fun (r : Bool) => (Value.bool r)) w0 K := by
  unfold F27 at h
  refine calls_of_wpC Try.func27 rfl 9 rfl (by simp) ?_
  intro ρ hρ
  have e0 : ρ 0 = (Sl.v p0) := hρ 0
  have e1 : ρ 1 = (Value.string p1) := hρ 1
  clear hρ
  refine wpC_seq ?_
  refine wpC_region ?_
  refine wpR_val (v := (Value.bool false)) (w' := w0) rfl rfl rfl (x_assign (v := (Value.bool false)) rfl rfl) ?_
  refine wpR_nil ?_
  refine wpC_seq ?_
  refine wpC_cut (fun ρ => ρ 0 = (Sl.v p0) ∧ ρ 1 = (Value.string p1) ∧ True) ⟨e0, e1, trivial⟩ ?_
  rintro ρ ⟨e0, e1, -⟩
  refine wpC_region ?_
  refine wpR_val (v := (Sl.v p0)) (w' := w0) rfl rfl rfl (x_move (v := (Sl.v p0)) rfl e0) ?_
  refine wpR_val (v := (Value.string p1)) (w' := w0) rfl rfl rfl (x_move (v := (Value.string p1)) rfl e1) ?_
  refine wpR_enter rfl rfl rfl (x_call (vs := [(Sl.v p0), (Value.string p1)]) rfl rfl (mapl_cons rfl (mapl_cons rfl mapl_nil)) Try.func38 NN_38 NB_38) (Calls.mono h ?_)
  rintro _ w1 ⟨r1, rfl, h⟩
  refine ⟨_, rfl, ?_⟩
  refine wpR_val (v := (Value.bool (decide (0 ≤ r1)))) (w' := w1) rfl rfl rfl (x_geq rfl rfl rfl) ?_
  refine wpR_val (v := (Value.bool (decide (0 ≤ r1)))) (w' := w1) rfl rfl rfl (x_assign (v := (Value.bool (decide (0 ≤ r1)))) rfl rfl) ?_
  refine wpR_nil ?_
  refine wpC_ret ?_
  exact ⟨.inl rfl, fun a ha => ⟨_, results_rep1 rfl ha rfl, decide (0 ≤ r1), rfl, h⟩⟩

/-- profile.AtMost$1 -/
def F29 (p0 : ByteArray) (c1 : Addr) (w0 : World) (K : Bool → World → Prop) : Prop :=
  ld Sl.v (c1.add 12) w0 fun x1 =>
  callC Try.prog 27 #[(Sl.v x1), (Value.string p0)] (fun (r : Bool) => (Value.bool r)) w0 fun r2 w1 =>
  K (!r2) w1
set_option maxRecDepth 100000 in
theorem D29 (p0 : ByteArray) (c1 : Addr) (w0 : World) (K : Bool → World → Prop) (h : F29 p0 c1 w0 K) : callC Try.prog 29 #[(Value.string p0), (Value.pointer (some c1))] (fun (r : Bool) => (Value.bool r)) w0 K := by
  unfold F29 at h
  refine calls_of_wpC Try.func29 rfl 9 rfl (by simp) ?_
  intro ρ hρ
  have e0 : ρ 0 = (Value.string p0) := hρ 0
  have e1 : ρ 1 = (Value.pointer (some c1)) := hρ 1
  clear hρ
  refine wpC_seq ?_
  refine wpC_region ?_
  refine wpR_val (v := (Value.bool false)) (w' := w0) rfl rfl rfl (x_assign (v := (Value.bool false)) rfl rfl) ?_
  refine wpR_nil ?_
  refine wpC_seq ?_
  refine wpC_cut (fun ρ => ρ 0 = (Value.string p0) ∧ ρ 1 = (Value.pointer (some c1)) ∧ True) ⟨e0, e1, trivial⟩ ?_
  rintro ρ ⟨e0, e1, -⟩
  refine wpC_region ?_
  refine wpR_val (v := (Value.pointer (some (c1.add 12)))) (w' := w0) rfl rfl rfl (x_fieldAddr rfl e1 FA_24_12) ?_
  obtain ⟨x1, q1, h⟩ := h
  refine wpR_val (v := (Sl.v x1)) (w' := w0) rfl rfl rfl (x_load1 rfl rfl SH_22 q1) ?_
  refine wpR_val (v := (Value.string p0)) (w' := w0) rfl rfl rfl (x_move (v := (Value.string p0)) rfl e0) ?_
  refine wpR_enter rfl rfl rfl (x_call (vs := [(Sl.v x1), (Value.string p0)]) rfl rfl (mapl_cons rfl (mapl_cons rfl mapl_nil)) Try.func27 NN_27 NB_27) (Calls.mono h ?_)
  rintro _ w1 ⟨r2, rfl, h⟩
  refine ⟨_, rfl, ?_⟩
  refine wpR_val (v := (Value.bool (!r2))) (w' := w1) rfl rfl rfl (x_not rfl rfl) ?_
  refine wpR_val (v := (Value.bool (!r2))) (w' := w1) rfl rfl rfl (x_assign (v := (Value.bool (!r2))) rfl rfl) ?_
  refine wpR_nil ?_
  refine wpC_ret ?_
  exact ⟨.inl rfl, fun a ha => ⟨_, results_rep1 rfl ha rfl, !r2, rfl, h⟩⟩

/-- slices.ContainsFunc[[]string,string] -/
def F30 (p0 : Sl) (p1 : Value) (w0 : World) (K : Bool → World → Prop) : Prop :=
  callC Try.prog 41 #[(Sl.v p0), p1] (fun (r : Int) => (Value.int .i64 r)) w0 fun r1 w1 =>
  K (decide (0 ≤ r1)) w1
set_option maxRecDepth 100000 in
theorem D30 (p0 : Sl) (p1 : Value) (w0 : World) (K : Bool → World → Prop) (h : F30 p0 p1 w0 K) : callC Try.prog 30 #[(Sl.v p0), p1] (fun (r : Bool) => (Value.bool r)) w0 K := by
  unfold F30 at h
  refine calls_of_wpC Try.func30 rfl 9 rfl (by simp) ?_
  intro ρ hρ
  have e0 : ρ 0 = (Sl.v p0) := hρ 0
  have e1 : ρ 1 = p1 := hρ 1
  clear hρ
  refine wpC_seq ?_
  refine wpC_region ?_
  refine wpR_val (v := (Value.bool false)) (w' := w0) rfl rfl rfl (x_assign (v := (Value.bool false)) rfl rfl) ?_
  refine wpR_nil ?_
  refine wpC_seq ?_
  refine wpC_cut (fun ρ => ρ 0 = (Sl.v p0) ∧ ρ 1 = p1 ∧ True) ⟨e0, e1, trivial⟩ ?_
  rintro ρ ⟨e0, e1, -⟩
  refine wpC_region ?_
  refine wpR_val (v := (Sl.v p0)) (w' := w0) rfl rfl rfl (x_move (v := (Sl.v p0)) rfl e0) ?_
  refine wpR_val (v := p1) (w' := w0) rfl rfl rfl (x_move (v := p1) rfl e1) ?_
  refine wpR_enter rfl rfl rfl (x_call (vs := [(Sl.v p0), p1]) rfl rfl (mapl_cons rfl (mapl_cons rfl mapl_nil)) Try.func41 NN_41 NB_41) (Calls.mono h ?_)
  rintro _ w1 ⟨r1, rfl, h⟩
  refine ⟨_, rfl, ?_⟩
  refine wpR_val (v := (Value.bool (decide (0 ≤ r1)))) (w' := w1) rfl rfl rfl (x_geq rfl rfl rfl) ?_
  refine wpR_val (v := (Value.bool (decide (0 ≤ r1)))) (w' := w1) rfl rfl rfl (x_assign (v := (Value.bool (decide (0 ≤ r1)))) rfl rfl) ?_
  refine wpR_nil ?_
  refine wpC_ret ?_
  exact ⟨.inl rfl, fun a ha => ⟨_, results_rep1 rfl ha rfl, decide (0 ≤ r1), rfl, h⟩⟩

/-- linguaref13.Numbers -/
def F31 (p0_0 : ByteArray) (p0_1 : Int) (p0_2 : Int) (p0_3 : Int) (p0_4 : Bool) (p0_5 : Int) (p0_6 : Bool) (p0_7 : Bool) (p0_8 : Int) (p0_9 : Int) (p0_10 : Int) (p0_11 : Int) (p0_12 : Sl) (p0_13 : Int) (p0_14 : Int) (p0_15 : Int) (p0_16 : Int) (p0_17 : Bool) (p0_18 : Int) (p0_19 : Int) (p0_20 : Int) (p0_21 : Int) (w0 : World) (K : Sl → World → Prop) : Prop :=
  nw 24 (A23 p0_0 p0_1 p0_2 p0_3 p0_4 p0_5 p0_6 p0_7 p0_8 p0_9 p0_10 p0_11 p0_12 p0_13 p0_14 p0_15 p0_16 p0_17 p0_18 p0_19 p0_20 p0_21) w0 fun b1 w1 =>
  jn (fun (J3 : Sl → World → Prop) => tk w1 fun w2 =>
    ld (Value.int .i64) ((Addr.mk b1 0 none).add 1) w2 fun x4 =>
    ld (Value.int .i64) ((Addr.mk b1 0 none).add 3) w2 fun x5 =>
    ld Value.bool ((Addr.mk b1 0 none).add 4) w2 fun x6 =>
    ld (Value.int .i64) ((Addr.mk b1 0 none).add 5) w2 fun x7 =>
    ld Value.bool ((Addr.mk b1 0 none).add 6) w2 fun x8 =>
    ld Value.bool ((Addr.mk b1 0 none).add 7) w2 fun x9 =>
    ld (Value.int .i64) ((Addr.mk b1 0 none).add 8) w2 fun x10 =>
    ld (Value.int .i64) ((Addr.mk b1 0 none).add 9) w2 fun x11 =>
    ld (Value.int .i64) ((Addr.mk b1 0 none).add 10) w2 fun x12 =>
    ld (Value.int .i64) ((Addr.mk b1 0 none).add 11) w2 fun x13 =>
    ld (Value.int .i64) ((Addr.mk b1 0 none).add 16) w2 fun x14 =>
    callC Try.prog 42 #[(Value.bool x6)] (fun (r : Int) => (Value.int .i64 r)) w2 fun r15 w3 =>
    (w3.cell? ((Addr.mk b1 0 none).add 16) = some (Value.int .i64 x14)) ∧
    (w3.cell? ((Addr.mk b1 0 none).add 11) = some (Value.int .i64 x13)) ∧
    (w3.cell? ((Addr.mk b1 0 none).add 10) = some (Value.int .i64 x12)) ∧
    (w3.cell? ((Addr.mk b1 0 none).add 9) = some (Value.int .i64 x11)) ∧
    (w3.cell? ((Addr.mk b1 0 none).add 8) = some (Value.int .i64 x10)) ∧
    (w3.cell? ((Addr.mk b1 0 none).add 7) = some (Value.bool x9)) ∧
    (w3.cell? ((Addr.mk b1 0 none).add 6) = some (Value.bool x8)) ∧
    (w3.cell? ((Addr.mk b1 0 none).add 5) = some (Value.int .i64 x7)) ∧
    (w3.cell? ((Addr.mk b1 0 none).add 3) = some (Value.int .i64 x5)) ∧
    (w3.cell? ((Addr.mk b1 0 none).add 1) = some (Value.int .i64 x4)) ∧
    callC Try.prog 42 #[(Value.bool x8)] (fun (r : Int) => (Value.int .i64 r)) w3 fun r16 w4 =>
    (w4.cell? ((Addr.mk b1 0 none).add 16) = some (Value.int .i64 x14)) ∧
    (w4.cell? ((Addr.mk b1 0 none).add 11) = some (Value.int .i64 x13)) ∧
    (w4.cell? ((Addr.mk b1 0 none).add 10) = some (Value.int .i64 x12)) ∧
    (w4.cell? ((Addr.mk b1 0 none).add 9) = some (Value.int .i64 x11)) ∧
    (w4.cell? ((Addr.mk b1 0 none).add 8) = some (Value.int .i64 x10)) ∧
    (w4.cell? ((Addr.mk b1 0 none).add 7) = some (Value.bool x9)) ∧
    (w4.cell? ((Addr.mk b1 0 none).add 5) = some (Value.int .i64 x7)) ∧
    (w4.cell? ((Addr.mk b1 0 none).add 3) = some (Value.int .i64 x5)) ∧
    (w4.cell? ((Addr.mk b1 0 none).add 1) = some (Value.int .i64 x4)) ∧
    callC Try.prog 42 #[(Value.bool x9)] (fun (r : Int) => (Value.int .i64 r)) w4 fun r17 w5 =>
    (w5.cell? ((Addr.mk b1 0 none).add 16) = some (Value.int .i64 x14)) ∧
    (w5.cell? ((Addr.mk b1 0 none).add 11) = some (Value.int .i64 x13)) ∧
    (w5.cell? ((Addr.mk b1 0 none).add 10) = some (Value.int .i64 x12)) ∧
    (w5.cell? ((Addr.mk b1 0 none).add 9) = some (Value.int .i64 x11)) ∧
    (w5.cell? ((Addr.mk b1 0 none).add 8) = some (Value.int .i64 x10)) ∧
    (w5.cell? ((Addr.mk b1 0 none).add 5) = some (Value.int .i64 x7)) ∧
    (w5.cell? ((Addr.mk b1 0 none).add 3) = some (Value.int .i64 x5)) ∧
    (w5.cell? ((Addr.mk b1 0 none).add 1) = some (Value.int .i64 x4)) ∧
    nw 3 #[(Value.int .i64 x4), (Value.int .i64 x5), (Value.int .i64 r15), (Value.int .i64 x7), (Value.int .i64 r16), (Value.int .i64 r17), (Value.int .i64 x10), (Value.int .i64 x11), (Value.int .i64 x12), (Value.int .i64 x13), (Value.int .i64 x14)] w5 fun b18 w6 =>
    J3 (⟨some ⟨b18, 0, none⟩, 11, 11⟩ : Sl) w6
  )
  fun l19 w7 =>
  K l19 w7
set_option maxRecDepth 100000 in
theorem D31 (p0_0 : ByteArray) (p0_1 : Int) (p0_2 : Int) (p0_3 : Int) (p0_4 : Bool) (p0_5 : Int) (p0_6 : Bool) (p0_7 : Bool) (p0_8 : Int) (p0_9 : Int) (p0_10 : Int) (p0_11 : Int) (p0_12 : Sl) (p0_13 : Int) (p0_14 : Int) (p0_15 : Int) (p0_16 : Int) (p0_17 : Bool) (p0_18 : Int) (p0_19 : Int) (p0_20 : Int) (p0_21 : Int) (w0 : World) (K : Sl → World → Prop) (h : F31 p0_0 p0_1 p0_2 p0_3 p0_4 p0_5 p0_6 p0_7 p0_8 p0_9 p0_10 p0_11 p0_12 p0_13 p0_14 p0_15 p0_16 p0_17 p0_18 p0_19 p0_20 p0_21 w0 K) : callC Try.prog 31 #[(V23 p0_0 p0_1 p0_2 p0_3 p0_4 p0_5 p0_6 p0_7 p0_8 p0_9 p0_10 p0_11 p0_12 p0_13 p0_14 p0_15 p0_16 p0_17 p0_18 p0_19 p0_20 p0_21)] (fun (r : Sl) => (Sl.v r)) w0 K := by
  unfold F31 at h
  refine calls_of_wpC Try.func31 rfl 29 rfl (by simp) ?_
  intro ρ hρ
  have e0 : ρ 0 = (V23 p0_0 p0_1 p0_2 p0_3 p0_4 p0_5 p0_6 p0_7 p0_8 p0_9 p0_10 p0_11 p0_12 p0_13 p0_14 p0_15 p0_16 p0_17 p0_18 p0_19 p0_20 p0_21) := hρ 0
  clear hρ
  refine wpC_seq ?_
  refine wpC_region ?_
  obtain ⟨b1, hb1⟩ : ∃ u, u = w0.heap.size := ⟨_, rfl⟩
  obtain ⟨w1, hw1⟩ : ∃ u, u = w0.alloc (.cells (A23 p0_0 p0_1 p0_2 p0_3 p0_4 p0_5 p0_6 p0_7 p0_8 p0_9 p0_10 p0_11 p0_12 p0_13 p0_14 p0_15 p0_16 p0_17 p0_18 p0_19 p0_20 p0_21) 24) := ⟨_, rfl⟩
  replace h := h b1 w1 hb1 hw1
  refine wpR_val (v := (Value.pointer (some (Addr.mk b1 0 none)))) (w' := w1) rfl rfl rfl ((x_box (v := (V23 p0_0 p0_1 p0_2 p0_3 p0_4 p0_5 p0_6 p0_7 p0_8 p0_9 p0_10 p0_11 p0_12 p0_13 p0_14 p0_15 p0_16 p0_17 p0_18 p0_19 p0_20 p0_21)) rfl e0).trans (by rw [hb1, hw1]; rfl)) ?_
  refine wpR_val (v := (Sl.v Sl.nil)) (w' := w1) rfl rfl rfl (x_assign (v := (Sl.v Sl.nil)) rfl rfl) ?_
  refine wpR_nil ?_
  refine wpC_seq ?_
  refine wpC_cut (fun ρ => ρ 1 = (Value.pointer (some (Addr.mk b1 0 none))) ∧ True) ⟨rfl, trivial⟩ ?_
  rintro ρ ⟨e1, -⟩
  obtain ⟨J3, h, hk⟩ := h
  refine wpC_drawJ (by kernel_rfl) (fun (x : Sl) ρ => ρ 2 = (Sl.v x) ∧ True) J3 ?_ ?_
  · clear hk
    unfold tk at h
    generalize w1.drew = w2 at h ⊢
    refine wpD_take (v := (Value.pointer (some ((Addr.mk b1 0 none).add 1)))) 0 (fun _ => True) rfl (by kernel_rfl) (by kernel_rfl) (by kernel_rfl) rfl rfl rfl trivial (fun w _ => (x_fieldAddr rfl e1 FA_24_1)) ?_
    obtain ⟨x4, q4, h⟩ := h
    refine wpD_take (v := (Value.int .i64 x4)) 1 (fun w => w.cell? ((Addr.mk b1 0 none).add 1) = some (Value.int .i64 x4)) rfl (by kernel_rfl) (by kernel_rfl) (by kernel_rfl) rfl rfl rfl q4 (fun w q4 => (x_load1 rfl rfl SH_3 q4)) ?_
    refine wpD_take (v := (Value.pointer (some ((Addr.mk b1 0 none).add 3)))) 2 (fun _ => True) rfl (by kernel_rfl) (by kernel_rfl) (by kernel_rfl) rfl rfl rfl trivial (fun w _ => (x_fieldAddr rfl e1 FA_24_3)) ?_
    obtain ⟨x5, q5, h⟩ := h
    refine wpD_take (v := (Value.int .i64 x5)) 3 (fun w => w.cell? ((Addr.mk b1 0 none).add 3) = some (Value.int .i64 x5)) rfl (by kernel_rfl) (by kernel_rfl) (by kernel_rfl) rfl rfl rfl q5 (fun w q5 => (x_load1 rfl rfl SH_3 q5)) ?_
    refine wpD_take (v := (Value.pointer (some ((Addr.mk b1 0 none).add 4)))) 4 (fun _ => True) rfl (by kernel_rfl) (by kernel_rfl) (by kernel_rfl) rfl rfl rfl trivial (fun w _ => (x_fieldAddr rfl e1 FA_24_4)) ?_
    obtain ⟨x6, q6, h⟩ := h
    refine wpD_take (v := (Value.bool x6)) 5 (fun w => w.cell? ((Addr.mk b1 0 none).add 4) = some (Value.bool x6)) rfl (by kernel_rfl) (by kernel_rfl) (by kernel_rfl) rfl rfl rfl q6 (fun w q6 => (x_load1 rfl rfl SH_4 q6)) ?_
    refine wpD_take (v := (Value.pointer (some ((Addr.mk b1 0 none).add 5)))) 7 (fun _ => True) rfl (by kernel_rfl) (by kernel_rfl) (by kernel_rfl) rfl rfl rfl trivial (fun w _ => (x_fieldAddr rfl e1 FA_24_5)) ?_
    obtain ⟨x7, q7, h⟩ := h
    refine wpD_take (v := (Value.int .i64 x7)) 8 (fun w => w.cell? ((Addr.mk b1 0 none).add 5) = some (Value.int .i64 x7)) rfl (by kernel_rfl) (by kernel_rfl) (by kernel_rfl) rfl rfl rfl q7 (fun w q7 => (x_load1 rfl rfl SH_3 q7)) ?_
    refine wpD_take (v := (Value.pointer (some ((Addr.mk b1 0 none).add 6)))) 9 (fun _ => True) rfl (by kernel_rfl) (by kernel_rfl) (by kernel_rfl) rfl rfl rfl trivial (fun w _ => (x_fieldAddr rfl e1 FA_24_6)) ?_
    obtain ⟨x8, q8, h⟩ := h
    refine wpD_take (v := (Value.bool x8)) 10 (fun w => w.cell? ((Addr.mk b1 0 none).add 6) = some (Value.bool x8)) rfl (by kernel_rfl) (by kernel_rfl) (by kernel_rfl) rfl rfl rfl q8 (fun w q8 => (x_load1 rfl rfl SH_4 q8)) ?_
    refine wpD_take (v := (Value.pointer (some ((Addr.mk b1 0 none).add 7)))) 12 (fun _ => True) rfl (by kernel_rfl) (by kernel_rfl) (by kernel_rfl) rfl rfl rfl trivial (fun w _ => (x_fieldAddr rfl e1 FA_24_7)) ?_
    obtain ⟨x9, q9, h⟩ := h
    refine wpD_take (v := (Value.bool x9)) 13 (fun w => w.cell? ((Addr.mk b1 0 none).add 7) = some (Value.bool x9)) rfl (by kernel_rfl) (by kernel_rfl) (by kernel_rfl) rfl rfl rfl q9 (fun w q9 => (x_load1 rfl rfl SH_4 q9)) ?_
    refine wpD_take (v := (Value.pointer (some ((Addr.mk b1 0 none).add 8)))) 15 (fun _ => True) rfl (by kernel_rfl) (by kernel_rfl) (by kernel_rfl) rfl rfl rfl trivial (fun w _ => (x_fieldAddr rfl e1 FA_24_8)) ?_
    obtain ⟨x10, q10, h⟩ := h
    refine wpD_take (v := (Value.int .i64 x10)) 16 (fun w => w.cell? ((Addr.mk b1 0 none).add 8) = some (Value.int .i64 x10)) rfl (by kernel_rfl) (by kernel_rfl) (by kernel_rfl) rfl rfl rfl q10 (fun w q10 => (x_load1 rfl rfl SH_3 q10)) ?_
    refine wpD_take (v := (Value.pointer (some ((Addr.mk b1 0 none).add 9)))) 17 (fun _ => True) rfl (by kernel_rfl) (by kernel_rfl) (by kernel_rfl) rfl rfl rfl trivial (fun w _ => (x_fieldAddr rfl e1 FA_24_9)) ?_
    obtain ⟨x11, q11, h⟩ := h
    refine wpD_take (v := (Value.int .i64 x11)) 18 (fun w => w.cell? ((Addr.mk b1 0 none).add 9) = some (Value.int .i64 x11)) rfl (by kernel_rfl) (by kernel_rfl) (by kernel_rfl) rfl rfl rfl q11 (fun w q11 => (x_load1 rfl rfl SH_3 q11)) ?_
    refine wpD_take (v := (Value.pointer (some ((Addr.mk b1 0 none).add 10)))) 19 (fun _ => True) rfl (by kernel_rfl) (by kernel_rfl) (by kernel_rfl) rfl rfl rfl trivial (fun w _ => (x_fieldAddr rfl e1 FA_24_10)) ?_
    obtain ⟨x12, q12, h⟩ := h
    refine wpD_take (v := (Value.int .i64 x12)) 20 (fun w => w.cell? ((Addr.mk b1 0 none).add 10) = some (Value.int .i64 x12)) rfl (by kernel_rfl) (by kernel_rfl) (by kernel_rfl) rfl rfl rfl q12 (fun w q12 => (x_load1 rfl rfl SH_3 q12)) ?_
    refine wpD_take (v := (Value.pointer (some ((Addr.mk b1 0 none).add 11)))) 21 (fun _ => True) rfl (by kernel_rfl) (by kernel_rfl) (by kernel_rfl) rfl rfl rfl trivial (fun w _ => (x_fieldAddr rfl e1 FA_24_11)) ?_
    obtain ⟨x13, q13, h⟩ := h
    refine wpD_take (v := (Value.int .i64 x13)) 22 (fun w => w.cell? ((Addr.mk b1 0 none).add 11) = some (Value.int .i64 x13)) rfl (by kernel_rfl) (by kernel_rfl) (by kernel_rfl) rfl rfl rfl q13 (fun w q13 => (x_load1 rfl rfl SH_3 q13)) ?_
    refine wpD_take (v := (Value.pointer (some ((Addr.mk b1 0 none).add 16)))) 23 (fun _ => True) rfl (by kernel_rfl) (by kernel_rfl) (by kernel_rfl) rfl rfl rfl trivial (fun w _ => (x_fieldAddr rfl e1 FA_24_16)) ?_
    obtain ⟨x14, q14, h⟩ := h
    refine wpD_take (v := (Value.int .i64 x14)) 24 (fun w => w.cell? ((Addr.mk b1 0 none).add 16) = some (Value.int .i64 x14)) rfl (by kernel_rfl) (by kernel_rfl) (by kernel_rfl) rfl rfl rfl q14 (fun w q14 => (x_load1 rfl rfl SH_3 q14)) ?_
    refine wpD_all (rs := [6]) (by kernel_rfl) (by simp) (allD_cons ?_ allD_nil)
    refine stepD_enterL (L' := [(24, fun w => w.cell? ((Addr.mk b1 0 none).add 16) = some (Value.int .i64 x14)), (23, fun _ => True), (22, fun w => w.cell? ((Addr.mk b1 0 none).add 11) = some (Value.int .i64 x13)), (21, fun _ => True), (20, fun w => w.cell? ((Addr.mk b1 0 none).add 10) = some (Value.int .i64 x12)), (19, fun _ => True), (18, fun w => w.cell? ((Addr.mk b1 0 none).add 9) = some (Value.int .i64 x11)), (17, fun _ => True), (16, fun w => w.cell? ((Addr.mk b1 0 none).add 8) = some (Value.int .i64 x10)), (15, fun _ => True), (13, fun w => w.cell? ((Addr.mk b1 0 none).add 7) = some (Value.bool x9)), (12, fun _ => True), (10, fun w => w.cell? ((Addr.mk b1 0 none).add 6) = some (Value.bool x8)), (9, fun _ => True), (8, fun w => w.cell? ((Addr.mk b1 0 none).add 5) = some (Value.int .i64 x7)), (7, fun _ => True), (4, fun _ => True), (3, fun w => w.cell? ((Addr.mk b1 0 none).add 3) = some (Value.int .i64 x5)), (2, fun _ => True), (1, fun w => w.cell? ((Addr.mk b1 0 none).add 1) = some (Value.int .i64 x4)), (0, fun _ => True)]) rfl rfl rfl rfl (x_call (vs := [(Value.bool x6)]) rfl rfl (mapl_cons rfl mapl_nil) Try.func42 NN_42 NB_42) (by kernel_rfl) (Calls.mono h ?_)
    rintro _ w3 ⟨r15, rfl, h⟩
    obtain ⟨o24, h⟩ := h
    obtain ⟨o22, h⟩ := h
    obtain ⟨o20, h⟩ := h
    obtain ⟨o18, h⟩ := h
    obtain ⟨o16, h⟩ := h
    obtain ⟨o13, h⟩ := h
    obtain ⟨o10, h⟩ := h
    obtain ⟨o8, h⟩ := h
    obtain ⟨o3, h⟩ := h
    obtain ⟨o1, h⟩ := h
    refine ⟨_, rfl, (held_cons o24 (held_cons trivial (held_cons o22 (held_cons trivial (held_cons o20 (held_cons trivial (held_cons o18 (held_cons trivial (held_cons o16 (held_cons trivial (held_cons o13 (held_cons trivial (held_cons o10 (held_cons trivial (held_cons o8 (held_cons trivial (held_cons trivial (held_cons o3 (held_cons trivial (held_cons o1 (held_cons trivial held_nil))))))))))))))))))))), ?_⟩
    refine wpD_all (rs := [11]) (by kernel_rfl) (by simp) (allD_cons ?_ allD_nil)
    refine stepD_enterL (L' := [(24, fun w => w.cell? ((Addr.mk b1 0 none).add 16) = some (Value.int .i64 x14)), (23, fun _ => True), (22, fun w => w.cell? ((Addr.mk b1 0 none).add 11) = some (Value.int .i64 x13)), (21, fun _ => True), (20, fun w => w.cell? ((Addr.mk b1 0 none).add 10) = some (Value.int .i64 x12)), (19, fun _ => True), (18, fun w => w.cell? ((Addr.mk b1 0 none).add 9) = some (Value.int .i64 x11)), (17, fun _ => True), (16, fun w => w.cell? ((Addr.mk b1 0 none).add 8) = some (Value.int .i64 x10)), (15, fun _ => True), (13, fun w => w.cell? ((Addr.mk b1 0 none).add 7) = some (Value.bool x9)), (12, fun _ => True), (9, fun _ => True), (8, fun w => w.cell? ((Addr.mk b1 0 none).add 5) = some (Value.int .i64 x7)), (7, fun _ => True), (4, fun _ => True), (3, fun w => w.cell? ((Addr.mk b1 0 none).add 3) = some (Value.int .i64 x5)), (2, fun _ => True), (1, fun w => w.cell? ((Addr.mk b1 0 none).add 1) = some (Value.int .i64 x4)), (0, fun _ => True)]) rfl rfl rfl rfl (x_call (vs := [(Value.bool x8)]) rfl rfl (mapl_cons rfl mapl_nil) Try.func42 NN_42 NB_42) (by kernel_rfl) (Calls.mono h ?_)
    rintro _ w4 ⟨r16, rfl, h⟩
    obtain ⟨o24, h⟩ := h
    obtain ⟨o22, h⟩ := h
    obtain ⟨o20, h⟩ := h
    obtain ⟨o18, h⟩ := h
    obtain ⟨o16, h⟩ := h
    obtain ⟨o13, h⟩ := h
    obtain ⟨o8, h⟩ := h
    obtain ⟨o3, h⟩ := h
    obtain ⟨o1, h⟩ := h
    refine ⟨_, rfl, (held_cons o24 (held_cons trivial (held_cons o22 (held_cons trivial (held_cons o20 (held_cons trivial (held_cons o18 (held_cons trivial (held_cons o16 (held_cons trivial (held_cons o13 (held_cons trivial (held_cons trivial (held_cons o8 (held_cons trivial (held_cons trivial (held_cons o3 (held_cons trivial (held_cons o1 (held_cons trivial held_nil)))))))))))))))))))), ?_⟩
    refine wpD_all (rs := [14]) (by kernel_rfl) (by simp) (allD_cons ?_ allD_nil)
    refine stepD_enterL (L' := [(24, fun w => w.cell? ((Addr.mk b1 0 none).add 16) = some (Value.int .i64 x14)), (23, fun _ => True), (22, fun w => w.cell? ((Addr.mk b1 0 none).add 11) = some (Value.int .i64 x13)), (21, fun _ => True), (20, fun w => w.cell? ((Addr.mk b1 0 none).add 10) = some (Value.int .i64 x12)), (19, fun _ => True), (18, fun w => w.cell? ((Addr.mk b1 0 none).add 9) = some (Value.int .i64 x11)), (17, fun _ => True), (16, fun w => w.cell? ((Addr.mk b1 0 none).add 8) = some (Value.int .i64 x10)), (15, fun _ => True), (12, fun _ => True), (9, fun _ => True), (8, fun w => w.cell? ((Addr.mk b1 0 none).add 5) = some (Value.int .i64 x7)), (7, fun _ => True), (4, fun _ => True), (3, fun w => w.cell? ((Addr.mk b1 0 none).add 3) = some (Value.int .i64 x5)), (2, fun _ => True), (1, fun w => w.cell? ((Addr.mk b1 0 none).add 1) = some (Value.int .i64 x4)), (0, fun _ => True)]) rfl rfl rfl rfl (x_call (vs := [(Value.bool x9)]) rfl rfl (mapl_cons rfl mapl_nil) Try.func42 NN_42 NB_42) (by kernel_rfl) (Calls.mono h ?_)
    rintro _ w5 ⟨r17, rfl, h⟩
    obtain ⟨o24, h⟩ := h
    obtain ⟨o22, h⟩ := h
    obtain ⟨o20, h⟩ := h
    obtain ⟨o18, h⟩ := h
    obtain ⟨o16, h⟩ := h
    obtain ⟨o8, h⟩ := h
    obtain ⟨o3, h⟩ := h
    obtain ⟨o1, h⟩ := h
    refine ⟨_, rfl, (held_cons o24 (held_cons trivial (held_cons o22 (held_cons trivial (held_cons o20 (held_cons trivial (held_cons o18 (held_cons trivial (held_cons o16 (held_cons trivial (held_cons trivial (held_cons trivial (held_cons o8 (held_cons trivial (held_cons trivial (held_cons o3 (held_cons trivial (held_cons o1 (held_cons trivial held_nil))))))))))))))))))), ?_⟩
    refine wpD_all (rs := [25]) (by kernel_rfl) (by simp) (allD_cons ?_ allD_nil)
    obtain ⟨b18, hb18⟩ : ∃ u, u = w5.heap.size := ⟨_, rfl⟩
    obtain ⟨w6, hw18⟩ : ∃ u, u = w5.alloc (.cells #[(Value.int .i64 x4), (Value.int .i64 x5), (Value.int .i64 r15), (Value.int .i64 x7), (Value.int .i64 r16), (Value.int .i64 r17), (Value.int .i64 x10), (Value.int .i64 x11), (Value.int .i64 x12), (Value.int .i64 x13), (Value.int .i64 x14)] 3) := ⟨_, rfl⟩
    replace h := h b18 w6 hb18 hw18
    refine stepD_valL (L' := [(23, fun _ => True), (21, fun _ => True), (19, fun _ => True), (17, fun _ => True), (15, fun _ => True), (12, fun _ => True), (9, fun _ => True), (7, fun _ => True), (4, fun _ => True), (2, fun _ => True), (0, fun _ => True)]) (v := (Sl.v (⟨some ⟨b18, 0, none⟩, 11, 11⟩ : Sl))) (w' := w6) rfl rfl rfl rfl ((x_buildSlice (qs := [(0, (Value.int .i64 x4)), (1, (Value.int .i64 x5)), (2, (Value.int .i64 r15)), (3, (Value.int .i64 x7)), (4, (Value.int .i64 r16)), (5, (Value.int .i64 r17)), (6, (Value.int .i64 x10)), (7, (Value.int .i64 x11)), (8, (Value.int .i64 x12)), (9, (Value.int .i64 x13)), (10, (Value.int .i64 x14))]) rfl (by rfl) (BS_38_11_0_1_2_3_4_5_6_7_8_9_10 x4 x5 r15 x7 r16 r17 x10 x11 x12 x13 x14)).trans (by rw [← hb18, ← hw18])) (by kernel_rfl) (held_cons trivial (held_cons trivial (held_cons trivial (held_cons trivial (held_cons trivial (held_cons trivial (held_cons trivial (held_cons trivial (held_cons trivial (held_cons trivial (held_cons trivial held_nil))))))))))) ?_
    refine wpD_take (v := (Sl.v (⟨some ⟨b18, 0, none⟩, 11, 11⟩ : Sl))) 26 (fun _ => True) rfl (by kernel_rfl) (by kernel_rfl) (by kernel_rfl) rfl rfl rfl trivial (fun w _ => (x_assign (v := (Sl.v (⟨some ⟨b18, 0, none⟩, 11, 11⟩ : Sl))) rfl rfl)) ?_
    exact wpD_done (by kernel_rfl) ⟨(⟨some ⟨b18, 0, none⟩, 11, 11⟩ : Sl), ⟨rfl, trivial⟩, h⟩
  clear h
  rintro l19 ρ w7 ⟨e2, -⟩ h
  replace h := hk l19 w7 h
  clear hk
  refine wpC_ret ?_
  exact ⟨.inl rfl, fun a ha => ⟨_, results_rep1 rfl ha e2, l19, rfl, h⟩⟩

/-- linguaref13.Has -/
def F32 (p0 : Sl) (p1 : ByteArray) (w0 : World) (K : Bool → World → Prop) : Prop :=
  lp (fun (next1 : Int → World → Prop) l1 w1 =>
    cnd (decide (l1 < (p0.len : Int)))
      (
      ix p0 l1 1 fun p3 =>
      ld Value.string p3 w1 fun x4 =>
      cnd (beqS x4 p1)
        (
        K true w1
        )
        (
        next1 (IntKind.i64.wrap (l1 + 1)) w1
        )
      )
      (
      K false w1
      )
  ) 0 w0
set_option maxRecDepth 100000 in
theorem D32 (p0 : Sl) (p1 : ByteArray) (w0 : World) (K : Bool → World → Prop) (h : F32 p0 p1 w0 K) : callC Try.prog 32 #[(Sl.v p0), (Value.string p1)] (fun (r : Bool) => (Value.bool r)) w0 K := by
  unfold F32 at h
  refine calls_of_wpC Try.func32 rfl 18 rfl (by simp) ?_
  intro ρ hρ
  have e0 : ρ 0 = (Sl.v p0) := hρ 0
  have e1 : ρ 1 = (Value.string p1) := hρ 1
  clear hρ
  refine wpC_seq ?_
  refine wpC_region ?_
  refine wpR_val (v := (Value.bool false)) (w' := w0) rfl rfl rfl (x_assign (v := (Value.bool false)) rfl rfl) ?_
  refine wpR_nil ?_
  refine wpC_seq ?_
  refine wpC_seq ?_
  refine wpC_cut (fun ρ => ρ 0 = (Sl.v p0) ∧ ρ 1 = (Value.string p1) ∧ True) ⟨e0, e1, trivial⟩ ?_
  rintro ρ ⟨e0, e1, -⟩
  refine wpC_region ?_
  refine wpR_val (v := (Value.int .i64 0)) (w' := w0) rfl rfl rfl (x_assign (v := (Value.int .i64 0)) rfl rfl) ?_
  refine wpR_nil ?_
  refine wpC_block ?_
  obtain ⟨I1, μ1, hI1, hr1⟩ := h
  refine wpC_loop (fun (x : Int) ρ => ρ 5 = (Value.int .i64 x) ∧ ρ 0 = (Sl.v p0) ∧ ρ 1 = (Value.string p1) ∧ True) I1 μ1 0 ⟨rfl, e0, e1, trivial⟩ hI1 ?_
  rintro l1 ρ w1 ⟨e5, e0, e1, -⟩ h
  replace h := hr1 l1 w1 h
  clear hr1 hI1
  refine wpC_seq ?_
  refine wpC_seq ?_
  refine wpC_region ?_
  refine wpR_val (v := (Value.int .i64 l1)) (w' := w1) rfl rfl rfl (x_move (v := (Value.int .i64 l1)) rfl e5) ?_
  refine wpR_val (v := (Sl.v p0)) (w' := w1) rfl rfl rfl (x_move (v := (Sl.v p0)) rfl e0) ?_
  refine wpR_val (v := (Value.int .i64 (p0.len : Int))) (w' := w1) rfl rfl rfl (x_lenS (s := p0) rfl rfl isSliceT_22) ?_
  refine wpR_val (v := (Value.bool (decide (l1 < (p0.len : Int))))) (w' := w1) rfl rfl rfl (x_lss rfl rfl rfl) ?_
  refine wpR_nil ?_
  refine wpC_cond (b := decide (l1 < (p0.len : Int))) rfl (fun hc2 => ?_) (fun hc2 => ?_)
  · replace h := h.1 hc2
    refine wpC_skip ?_
    refine wpC_seq ?_
    refine wpC_block ?_
    refine wpC_seq ?_
    refine wpC_cut (fun ρ => ρ 0 = (Sl.v p0) ∧ ρ 1 = (Value.string p1) ∧ ρ 5 = (Value.int .i64 l1) ∧ True) ⟨e0, e1, e5, trivial⟩ ?_
    rintro ρ ⟨e0, e1, e5, -⟩
    refine wpC_region ?_
    refine wpR_val (v := (Sl.v p0)) (w' := w1) rfl rfl rfl (x_move (v := (Sl.v p0)) rfl e0) ?_
    refine wpR_val (v := (Value.int .i64 l1)) (w' := w1) rfl rfl rfl (x_move (v := (Value.int .i64 l1)) rfl e5) ?_
    obtain ⟨q3, z3, r3, h⟩ := h
    generalize hp3 : z3.add ((l1 : Int).toNat * 1) = p3 at h
    refine wpR_val (v := (Value.pointer (some p3))) (w' := w1) rfl rfl rfl ((x_indexAddr (s := p0) rfl rfl rfl ES_22 q3 r3).trans (by rw [hp3])) ?_
    obtain ⟨x4, q4, h⟩ := h
    refine wpR_val (v := (Value.string x4)) (w' := w1) rfl rfl rfl (x_load1 rfl rfl SH_9 q4) ?_
    refine wpR_val (v := (Value.string p1)) (w' := w1) rfl rfl rfl (x_move (v := (Value.string p1)) rfl e1) ?_
    refine wpR_val (v := (Value.bool (beqS x4 p1))) (w' := w1) rfl rfl rfl (x_eqlS rfl rfl rfl) ?_
    refine wpR_nil ?_
    refine wpC_cond (b := beqS x4 p1) rfl (fun hc5 => ?_) (fun hc5 => ?_)
    · replace h := h.1 hc5
      refine wpC_seq ?_
      refine wpC_cut (fun ρ => True) trivial ?_
      rintro ρ -
      refine wpC_region ?_
      refine wpR_val (v := (Value.bool true)) (w' := w1) rfl rfl rfl (x_assign (v := (Value.bool true)) rfl rfl) ?_
      refine wpR_nil ?_
      refine wpC_ret ?_
      exact ⟨.inl rfl, fun a ha => ⟨_, results_rep1 rfl ha rfl, true, rfl, h⟩⟩
    · replace h := h.2 hc5
      refine wpC_skip ?_
      refine wpC_cut (fun ρ => ρ 0 = (Sl.v p0) ∧ ρ 1 = (Value.string p1) ∧ ρ 5 = (Value.int .i64 l1) ∧ True) ⟨e0, e1, e5, trivial⟩ ?_
      rintro ρ ⟨e0, e1, e5, -⟩
      refine wpC_region ?_
      refine wpR_val (v := (Value.int .i64 l1)) (w' := w1) rfl rfl rfl (x_move (v := (Value.int .i64 l1)) rfl e5) ?_
      refine wpR_val (v := (Value.int .i64 (IntKind.i64.wrap (l1 + 1)))) (w' := w1) rfl rfl rfl (x_add rfl rfl rfl) ?_
      refine wpR_val (v := (Value.int .i64 (IntKind.i64.wrap (l1 + 1)))) (w' := w1) rfl rfl rfl (x_assign (v := (Value.int .i64 (IntKind.i64.wrap (l1 + 1)))) rfl rfl) ?_
      refine wpR_nil ?_
      exact ⟨IntKind.i64.wrap (l1 + 1), ⟨rfl, e0, e1, trivial⟩, h⟩
  · replace h := h.2 hc2
    refine wpC_exit ?_
    refine wpC_seq ?_
    refine wpC_cut (fun ρ => True) trivial ?_
    rintro ρ -
    refine wpC_region ?_
    refine wpR_val (v := (Value.bool false)) (w' := w1) rfl rfl rfl (x_assign (v := (Value.bool false)) rfl rfl) ?_
    refine wpR_nil ?_
    refine wpC_ret ?_
    exact ⟨.inl rfl, fun a ha => ⟨_, results_rep1 rfl ha rfl, false, rfl, h⟩⟩

/-- profile.longer -/
def F34 (p0_0 : ByteArray) (p0_1 : Int) (p0_2 : Int) (p0_3 : Int) (p0_4 : Bool) (p0_5 : Int) (p0_6 : Bool) (p0_7 : Bool) (p0_8 : Int) (p0_9 : Int) (p0_10 : Int) (p0_11 : Int) (p0_12 : Sl) (p0_13 : Int) (p0_14 : Int) (p0_15 : Int) (p0_16 : Int) (p0_17 : Bool) (p0_18 : Int) (p0_19 : Int) (p0_20 : Int) (p0_21 : Int) (p1_0 : ByteArray) (p1_1 : Int) (p1_2 : Int) (p1_3 : Int) (p1_4 : Bool) (p1_5 : Int) (p1_6 : Bool) (p1_7 : Bool) (p1_8 : Int) (p1_9 : Int) (p1_10 : Int) (p1_11 : Int) (p1_12 : Sl) (p1_13 : Int) (p1_14 : Int) (p1_15 : Int) (p1_16 : Int) (p1_17 : Bool) (p1_18 : Int) (p1_19 : Int) (p1_20 : Int) (p1_21 : Int) (w0 : World) (K : Int → World → Prop) : Prop :=
  nw 24 (A23 p0_0 p0_1 p0_2 p0_3 p0_4 p0_5 p0_6 p0_7 p0_8 p0_9 p0_10 p0_11 p0_12 p0_13 p0_14 p0_15 p0_16 p0_17 p0_18 p0_19 p0_20 p0_21) w0 fun b1 w1 =>
  nw 24 (A23 p1_0 p1_1 p1_2 p1_3 p1_4 p1_5 p1_6 p1_7 p1_8 p1_9 p1_10 p1_11 p1_12 p1_13 p1_14 p1_15 p1_16 p1_17 p1_18 p1_19 p1_20 p1_21) w1 fun b2 w2 =>
  ld (Value.int .i64) ((Addr.mk b1 0 none).add 1) w2 fun x3 =>
  jp (fun J4 => cnd (!decide (x3 = 2))
    (
    ld (Value.int .i64) ((Addr.mk b2 0 none).add 1) w2 fun x6 =>
    J4 (!decide (x6 = 2))
    )
    (
    J4 false
    ))
  fun c7 =>
  cnd (c7)
    (
    K 0 w2
    )
    (
    ld (Value.int .i64) ((Addr.mk b2 0 none).add 1) w2 fun x9 =>
    cnd (!decide (x9 = 2))
      (
      ld (Value.int .i64) ((Addr.mk b1 0 none).add 2) w2 fun x11 =>
      K x11 w2
      )
      (
      ld (Value.int .i64) ((Addr.mk b1 0 none).add 1) w2 fun x12 =>
      cnd (!decide (x12 = 2))
        (
        ld (Value.int .i64) ((Addr.mk b2 0 none).add 2) w2 fun x14 =>
        K x14 w2
        )
        (
        ld (Value.int .i64) ((Addr.mk b1 0 none).add 2) w2 fun x15 =>
        jp (fun J16 => cnd (decide (x15 = 0))
          (
          J16 true
          )
          (
          ld (Value.int .i64) ((Addr.mk b2 0 none).add 2) w2 fun x18 =>
          J16 (decide (x18 = 0))
          ))
        fun c19 =>
        cnd (c19)
          (
          K 0 w2
          )
          (
          ld (Value.int .i64) ((Addr.mk b1 0 none).add 2) w2 fun x21 =>
          ld (Value.int .i64) ((Addr.mk b2 0 none).add 2) w2 fun x22 =>
          K (max x21 x22) w2
          )
        )
      )
    )
set_option maxRecDepth 100000 in
theorem D34 (p0_0 : ByteArray) (p0_1 : Int) (p0_2 : Int) (p0_3 : Int) (p0_4 : Bool) (p0_5 : Int) (p0_6 : Bool) (p0_7 : Bool) (p0_8 : Int) (p0_9 : Int) (p0_10 : Int) (p0_11 : Int) (p0_12 : Sl) (p0_13 : Int) (p0_14 : Int) (p0_15 : Int) (p0_16 : Int) (p0_17 : Bool) (p0_18 : Int) (p0_19 : Int) (p0_20 : Int) (p0_21 : Int) (p1_0 : ByteArray) (p1_1 : Int) (p1_2 : Int) (p1_3 : Int) (p1_4 : Bool) (p1_5 : Int) (p1_6 : Bool) (p1_7 : Bool) (p1_8 : Int) (p1_9 : Int) (p1_10 : Int) (p1_11 : Int) (p1_12 : Sl) (p1_13 : Int) (p1_14 : Int) (p1_15 : Int) (p1_16 : Int) (p1_17 : Bool) (p1_18 : Int) (p1_19 : Int) (p1_20 : Int) (p1_21 : Int) (w0 : World) (K : Int → World → Prop) (h : F34 p0_0 p0_1 p0_2 p0_3 p0_4 p0_5 p0_6 p0_7 p0_8 p0_9 p0_10 p0_11 p0_12 p0_13 p0_14 p0_15 p0_16 p0_17 p0_18 p0_19 p0_20 p0_21 p1_0 p1_1 p1_2 p1_3 p1_4 p1_5 p1_6 p1_7 p1_8 p1_9 p1_10 p1_11 p1_12 p1_13 p1_14 p1_15 p1_16 p1_17 p1_18 p1_19 p1_20 p1_21 w0 K) : callC Try.prog 34 #[(V23 p0_0 p0_1 p0_2 p0_3 p0_4 p0_5 p0_6 p0_7 p0_8 p0_9 p0_10 p0_11 p0_12 p0_13 p0_14 p0_15 p0_16 p0_17 p0_18 p0_19 p0_20 p0_21), (V23 p1_0 p1_1 p1_2 p1_3 p1_4 p1_5 p1_6 p1_7 p1_8 p1_9 p1_10 p1_11 p1_12 p1_13 p1_14 p1_15 p1_16 p1_17 p1_18 p1_19 p1_20 p1_21)] (fun (r : Int) => (Value.int .i64 r)) w0 K := by
  unfold F34 at h
  refine calls_of_wpC Try.func34 rfl 40 rfl (by simp) ?_
  intro ρ hρ
  have e0 : ρ 0 = (V23 p0_0 p0_1 p0_2 p0_3 p0_4 p0_5 p0_6 p0_7 p0_8 p0_9 p0_10 p0_11 p0_12 p0_13 p0_14 p0_15 p0_16 p0_17 p0_18 p0_19 p0_20 p0_21) := hρ 0
  have e1 : ρ 1 = (V23 p1_0 p1_1 p1_2 p1_3 p1_4 p1_5 p1_6 p1_7 p1_8 p1_9 p1_10 p1_11 p1_12 p1_13 p1_14 p1_15 p1_16 p1_17 p1_18 p1_19 p1_20 p1_21) := hρ 1
  clear hρ
  refine wpC_seq ?_
  refine wpC_region ?_
  obtain ⟨b1, hb1⟩ : ∃ u, u = w0.heap.size := ⟨_, rfl⟩
  obtain ⟨w1, hw1⟩ : ∃ u, u = w0.alloc (.cells (A23 p0_0 p0_1 p0_2 p0_3 p0_4 p0_5 p0_6 p0_7 p0_8 p0_9 p0_10 p0_11 p0_12 p0_13 p0_14 p0_15 p0_16 p0_17 p0_18 p0_19 p0_20 p0_21) 24) := ⟨_, rfl⟩
  replace h := h b1 w1 hb1 hw1
  refine wpR_val (v := (Value.pointer (some (Addr.mk b1 0 none)))) (w' := w1) rfl rfl rfl ((x_box (v := (V23 p0_0 p0_1 p0_2 p0_3 p0_4 p0_5 p0_6 p0_7 p0_8 p0_9 p0_10 p0_11 p0_12 p0_13 p0_14 p0_15 p0_16 p0_17 p0_18 p0_19 p0_20 p0_21)) rfl e0).trans (by rw [hb1, hw1]; rfl)) ?_
  obtain ⟨b2, hb2⟩ : ∃ u, u = w1.heap.size := ⟨_, rfl⟩
  obtain ⟨w2, hw2⟩ : ∃ u, u = w1.alloc (.cells (A23 p1_0 p1_1 p1_2 p1_3 p1_4 p1_5 p1_6 p1_7 p1_8 p1_9 p1_10 p1_11 p1_12 p1_13 p1_14 p1_15 p1_16 p1_17 p1_18 p1_19 p1_20 p1_21) 24) := ⟨_, rfl⟩
  replace h := h b2 w2 hb2 hw2
  refine wpR_val (v := (Value.pointer (some (Addr.mk b2 0 none)))) (w' := w2) rfl rfl rfl ((x_box (v := (V23 p1_0 p1_1 p1_2 p1_3 p1_4 p1_5 p1_6 p1_7 p1_8 p1_9 p1_10 p1_11 p1_12 p1_13 p1_14 p1_15 p1_16 p1_17 p1_18 p1_19 p1_20 p1_21)) rfl e1).trans (by rw [hb2, hw2]; rfl)) ?_
  refine wpR_val (v := (Value.int .i64 0)) (w' := w2) rfl rfl rfl (x_assign (v := (Value.int .i64 0)) rfl rfl) ?_
  refine wpR_nil ?_
  refine wpC_seq ?_
  refine wpC_block ?_
  refine wpC_seq ?_
  refine wpC_cut (fun ρ => ρ 2 = (Value.pointer (some (Addr.mk b1 0 none))) ∧ ρ 3 = (Value.pointer (some (Addr.mk b2 0 none))) ∧ True) ⟨rfl, rfl, trivial⟩ ?_
  rintro ρ ⟨e2, e3, -⟩
  refine wpC_region ?_
  refine wpR_val (v := (Value.pointer (some ((Addr.mk b1 0 none).add 1)))) (w' := w2) rfl rfl rfl (x_fieldAddr rfl e2 FA_24_1) ?_
  obtain ⟨x3, q3, h⟩ := h
  refine wpR_val (v := (Value.int .i64 x3)) (w' := w2) rfl rfl rfl (x_load1 rfl rfl SH_3 q3) ?_
  refine wpR_val (v := (Value.bool (!decide (x3 = 2)))) (w' := w2) rfl rfl rfl (x_neq rfl rfl rfl) ?_
  refine wpR_val (v := (Value.bool (!decide (x3 = 2)))) (w' := w2) rfl rfl rfl (x_move (v := (Value.bool (!decide (x3 = 2)))) rfl rfl) ?_
  obtain ⟨J4, h, hk⟩ := h
  refine wpR_joinJ 4 (fun x ρ => ρ 13 = Value.bool x ∧ ρ 2 = (Value.pointer (some (Addr.mk b1 0 none))) ∧ ρ 3 = (Value.pointer (some (Addr.mk b2 0 none))) ∧ True) (fun x w => J4 x ∧ w2 = w) ?_ ?_
  · clear hk
    rcases Bool.eq_false_or_eq_true (!decide (x3 = 2)) with hc5 | hc5
    · replace h := h.1 hc5
      refine wpR_val (v := (Value.pointer (some ((Addr.mk b2 0 none).add 1)))) (w' := w2) (wantG rfl rfl rfl hc5) rfl rfl (x_fieldAddr rfl e3 FA_24_1) ?_
      obtain ⟨x6, q6, h⟩ := h
      refine wpR_val (v := (Value.int .i64 x6)) (w' := w2) (wantG rfl rfl rfl hc5) rfl rfl (x_load1 rfl rfl SH_3 q6) ?_
      refine wpR_val (v := (Value.bool (!decide (x6 = 2)))) (w' := w2) (wantG rfl rfl rfl hc5) rfl rfl (x_neq rfl rfl rfl) ?_
      refine wpR_val (v := (Value.bool (!decide (x6 = 2)))) (w' := w2) rfl rfl rfl (x_pickT (v := (Value.bool (!decide (x6 = 2)))) rfl rfl hc5 rfl) ?_
      refine wpR_nil ?_
      exact ⟨!decide (x6 = 2), ⟨rfl, e2, e3, trivial⟩, h, rfl⟩
    · replace h := h.2 hc5
      refine wpR_pass (wantN rfl rfl rfl hc5) rfl rfl ?_
      refine wpR_pass (wantN rfl rfl rfl hc5) rfl rfl ?_
      refine wpR_pass (wantN rfl rfl rfl hc5) rfl rfl ?_
      refine wpR_val (v := (Value.bool false)) (w' := w2) rfl rfl rfl (x_pickF (v := (Value.bool false)) rfl rfl hc5 rfl) ?_
      refine wpR_nil ?_
      exact ⟨false, ⟨rfl, e2, e3, trivial⟩, h, rfl⟩
  clear h
  rintro c7 ρ wj ⟨e13, e2, e3, -⟩ ⟨h, rfl⟩
  replace h := hk c7 h
  clear hk
  refine wpR_val (v := (Value.bool c7)) (w' := w2) rfl rfl rfl (x_assign (v := (Value.bool c7)) rfl e13) ?_
  refine wpR_nil ?_
  refine wpC_cond (b := c7) rfl (fun hc8 => ?_) (fun hc8 => ?_)
  · replace h := h.1 hc8
    refine wpC_seq ?_
    refine wpC_cut (fun ρ => True) trivial ?_
    rintro ρ -
    refine wpC_region ?_
    refine wpR_val (v := (Value.int .i64 0)) (w' := w2) rfl rfl rfl (x_assign (v := (Value.int .i64 0)) rfl rfl) ?_
    refine wpR_nil ?_
    refine wpC_ret ?_
    exact ⟨.inl rfl, fun a ha => ⟨_, results_rep1 rfl ha rfl, 0, rfl, h⟩⟩
  · replace h := h.2 hc8
    refine wpC_seq ?_
    refine wpC_cut (fun ρ => ρ 2 = (Value.pointer (some (Addr.mk b1 0 none))) ∧ ρ 3 = (Value.pointer (some (Addr.mk b2 0 none))) ∧ True) ⟨e2, e3, trivial⟩ ?_
    rintro ρ ⟨e2, e3, -⟩
    refine wpC_region ?_
    refine wpR_val (v := (Value.pointer (some ((Addr.mk b2 0 none).add 1)))) (w' := w2) rfl rfl rfl (x_fieldAddr rfl e3 FA_24_1) ?_
    obtain ⟨x9, q9, h⟩ := h
    refine wpR_val (v := (Value.int .i64 x9)) (w' := w2) rfl rfl rfl (x_load1 rfl rfl SH_3 q9) ?_
    refine wpR_val (v := (Value.bool (!decide (x9 = 2)))) (w' := w2) rfl rfl rfl (x_neq rfl rfl rfl) ?_
    refine wpR_val (v := (Value.bool (!decide (x9 = 2)))) (w' := w2) rfl rfl rfl (x_assign (v := (Value.bool (!decide (x9 = 2)))) rfl rfl) ?_
    refine wpR_nil ?_
    refine wpC_cond (b := !decide (x9 = 2)) rfl (fun hc10 => ?_) (fun hc10 => ?_)
    · replace h := h.1 hc10
      refine wpC_seq ?_
      refine wpC_cut (fun ρ => ρ 2 = (Value.pointer (some (Addr.mk b1 0 none))) ∧ True) ⟨e2, trivial⟩ ?_
      rintro ρ ⟨e2, -⟩
      refine wpC_region ?_
      refine wpR_val (v := (Value.pointer (some ((Addr.mk b1 0 none).add 2)))) (w' := w2) rfl rfl rfl (x_fieldAddr rfl e2 FA_24_2) ?_
      obtain ⟨x11, q11, h⟩ := h
      refine wpR_val (v := (Value.int .i64 x11)) (w' := w2) rfl rfl rfl (x_load1 rfl rfl SH_3 q11) ?_
      refine wpR_val (v := (Value.int .i64 x11)) (w' := w2) rfl rfl rfl (x_assign (v := (Value.int .i64 x11)) rfl rfl) ?_
      refine wpR_nil ?_
      refine wpC_ret ?_
      exact ⟨.inl rfl, fun a ha => ⟨_, results_rep1 rfl ha rfl, x11, rfl, h⟩⟩
    · replace h := h.2 hc10
      refine wpC_seq ?_
      refine wpC_cut (fun ρ => ρ 2 = (Value.pointer (some (Addr.mk b1 0 none))) ∧ ρ 3 = (Value.pointer (some (Addr.mk b2 0 none))) ∧ True) ⟨e2, e3, trivial⟩ ?_
      rintro ρ ⟨e2, e3, -⟩
      refine wpC_region ?_
      refine wpR_val (v := (Value.pointer (some ((Addr.mk b1 0 none).add 1)))) (w' := w2) rfl rfl rfl (x_fieldAddr rfl e2 FA_24_1) ?_
      obtain ⟨x12, q12, h⟩ := h
      refine wpR_val (v := (Value.int .i64 x12)) (w' := w2) rfl rfl rfl (x_load1 rfl rfl SH_3 q12) ?_
      refine wpR_val (v := (Value.bool (!decide (x12 = 2)))) (w' := w2) rfl rfl rfl (x_neq rfl rfl rfl) ?_
      refine wpR_val (v := (Value.bool (!decide (x12 = 2)))) (w' := w2) rfl rfl rfl (x_assign (v := (Value.bool (!decide (x12 = 2)))) rfl rfl) ?_
      refine wpR_nil ?_
      refine wpC_cond (b := !decide (x12 = 2)) rfl (fun hc13 => ?_) (fun hc13 => ?_)
      · replace h := h.1 hc13
        refine wpC_seq ?_
        refine wpC_cut (fun ρ => ρ 3 = (Value.pointer (some (Addr.mk b2 0 none))) ∧ True) ⟨e3, trivial⟩ ?_
        rintro ρ ⟨e3, -⟩
        refine wpC_region ?_
        refine wpR_val (v := (Value.pointer (some ((Addr.mk b2 0 none).add 2)))) (w' := w2) rfl rfl rfl (x_fieldAddr rfl e3 FA_24_2) ?_
        obtain ⟨x14, q14, h⟩ := h
        refine wpR_val (v := (Value.int .i64 x14)) (w' := w2) rfl rfl rfl (x_load1 rfl rfl SH_3 q14) ?_
        refine wpR_val (v := (Value.int .i64 x14)) (w' := w2) rfl rfl rfl (x_assign (v := (Value.int .i64 x14)) rfl rfl) ?_
        refine wpR_nil ?_
        refine wpC_ret ?_
        exact ⟨.inl rfl, fun a ha => ⟨_, results_rep1 rfl ha rfl, x14, rfl, h⟩⟩
      · replace h := h.2 hc13
        refine wpC_seq ?_
        refine wpC_cut (fun ρ => ρ 2 = (Value.pointer (some (Addr.mk b1 0 none))) ∧ ρ 3 = (Value.pointer (some (Addr.mk b2 0 none))) ∧ True) ⟨e2, e3, trivial⟩ ?_
        rintro ρ ⟨e2, e3, -⟩
        refine wpC_region ?_
        refine wpR_val (v := (Value.pointer (some ((Addr.mk b1 0 none).add 2)))) (w' := w2) rfl rfl rfl (x_fieldAddr rfl e2 FA_24_2) ?_
        obtain ⟨x15, q15, h⟩ := h
        refine wpR_val (v := (Value.int .i64 x15)) (w' := w2) rfl rfl rfl (x_load1 rfl rfl SH_3 q15) ?_
        refine wpR_val (v := (Value.bool (decide (x15 = 0)))) (w' := w2) rfl rfl rfl (x_eql rfl rfl rfl) ?_
        refine wpR_val (v := (Value.bool (decide (x15 = 0)))) (w' := w2) rfl rfl rfl (x_move (v := (Value.bool (decide (x15 = 0)))) rfl rfl) ?_
        obtain ⟨J16, h, hk⟩ := h
        refine wpR_joinJ 4 (fun x ρ => ρ 34 = Value.bool x ∧ ρ 2 = (Value.pointer (some (Addr.mk b1 0 none))) ∧ ρ 3 = (Value.pointer (some (Addr.mk b2 0 none))) ∧ True) (fun x w => J16 x ∧ w2 = w) ?_ ?_
        · clear hk
          rcases Bool.eq_false_or_eq_true (decide (x15 = 0)) with hc17 | hc17
          · replace h := h.1 hc17
            refine wpR_pass (wantN rfl rfl rfl hc17) rfl rfl ?_
            refine wpR_pass (wantN rfl rfl rfl hc17) rfl rfl ?_
            refine wpR_pass (wantN rfl rfl rfl hc17) rfl rfl ?_
            refine wpR_val (v := (Value.bool true)) (w' := w2) rfl rfl rfl (x_pickT (v := (Value.bool true)) rfl rfl hc17 rfl) ?_
            refine wpR_nil ?_
            exact ⟨true, ⟨rfl, e2, e3, trivial⟩, h, rfl⟩
          · replace h := h.2 hc17
            refine wpR_val (v := (Value.pointer (some ((Addr.mk b2 0 none).add 2)))) (w' := w2) (wantG rfl rfl rfl hc17) rfl rfl (x_fieldAddr rfl e3 FA_24_2) ?_
            obtain ⟨x18, q18, h⟩ := h
            refine wpR_val (v := (Value.int .i64 x18)) (w' := w2) (wantG rfl rfl rfl hc17) rfl rfl (x_load1 rfl rfl SH_3 q18) ?_
            refine wpR_val (v := (Value.bool (decide (x18 = 0)))) (w' := w2) (wantG rfl rfl rfl hc17) rfl rfl (x_eql rfl rfl rfl) ?_
            refine wpR_val (v := (Value.bool (decide (x18 = 0)))) (w' := w2) rfl rfl rfl (x_pickF (v := (Value.bool (decide (x18 = 0)))) rfl rfl hc17 rfl) ?_
            refine wpR_nil ?_
            exact ⟨decide (x18 = 0), ⟨rfl, e2, e3, trivial⟩, h, rfl⟩
        clear h
        rintro c19 ρ wj ⟨e34, e2, e3, -⟩ ⟨h, rfl⟩
        replace h := hk c19 h
        clear hk
        refine wpR_val (v := (Value.bool c19)) (w' := w2) rfl rfl rfl (x_assign (v := (Value.bool c19)) rfl e34) ?_
        refine wpR_nil ?_
        refine wpC_cond (b := c19) rfl (fun hc20 => ?_) (fun hc20 => ?_)
        · replace h := h.1 hc20
          refine wpC_seq ?_
          refine wpC_cut (fun ρ => True) trivial ?_
          rintro ρ -
          refine wpC_region ?_
          refine wpR_val (v := (Value.int .i64 0)) (w' := w2) rfl rfl rfl (x_assign (v := (Value.int .i64 0)) rfl rfl) ?_
          refine wpR_nil ?_
          refine wpC_ret ?_
          exact ⟨.inl rfl, fun a ha => ⟨_, results_rep1 rfl ha rfl, 0, rfl, h⟩⟩
        · replace h := h.2 hc20
          refine wpC_skip ?_
          refine wpC_seq ?_
          refine wpC_cut (fun ρ => ρ 2 = (Value.pointer (some (Addr.mk b1 0 none))) ∧ ρ 3 = (Value.pointer (some (Addr.mk b2 0 none))) ∧ True) ⟨e2, e3, trivial⟩ ?_
          rintro ρ ⟨e2, e3, -⟩
          refine wpC_region ?_
          refine wpR_val (v := (Value.pointer (some ((Addr.mk b1 0 none).add 2)))) (w' := w2) rfl rfl rfl (x_fieldAddr rfl e2 FA_24_2) ?_
          obtain ⟨x21, q21, h⟩ := h
          refine wpR_val (v := (Value.int .i64 x21)) (w' := w2) rfl rfl rfl (x_load1 rfl rfl SH_3 q21) ?_
          refine wpR_val (v := (Value.pointer (some ((Addr.mk b2 0 none).add 2)))) (w' := w2) rfl rfl rfl (x_fieldAddr rfl e3 FA_24_2) ?_
          obtain ⟨x22, q22, h⟩ := h
          refine wpR_val (v := (Value.int .i64 x22)) (w' := w2) rfl rfl rfl (x_load1 rfl rfl SH_3 q22) ?_
          refine wpR_val (v := (Value.int .i64 (max x21 x22))) (w' := w2) rfl rfl rfl (x_max rfl rfl rfl) ?_
          refine wpR_val (v := (Value.int .i64 (max x21 x22))) (w' := w2) rfl rfl rfl (x_assign (v := (Value.int .i64 (max x21 x22))) rfl rfl) ?_
          refine wpR_nil ?_
          refine wpC_ret ?_
          exact ⟨.inl rfl, fun a ha => ⟨_, results_rep1 rfl ha rfl, max x21 x22, rfl, h⟩⟩

/-- slices.Clone[[]string,string] -/
def F35 (p0 : Sl) (w0 : World) (K : Sl → World → Prop) : Prop :=
  cnd (p0.a.isNone)
    (
    K Sl.nil w0
    )
    (
    nw 9 #[] w0 fun b2 w1 =>
    rn Try.prog (Builtin.append_ #[22, 22] 22 #[Sl.v (⟨some ⟨b2, 0, none⟩, 0, 0⟩ : Sl), Sl.v p0]) Sl.v w1 fun r3 w2 =>
    K r3 w2
    )
set_option maxRecDepth 100000 in
theorem D35 (p0 : Sl) (w0 : World) (K : Sl → World → Prop) (h : F35 p0 w0 K) : callC Try.prog 35 #[(Sl.v p0)] (fun (r : Sl) => (Sl.v r)) w0 K := by
  unfold F35 at h
  refine calls_of_wpC Try.func35 rfl 8 rfl (by simp) ?_
  intro ρ hρ
  have e0 : ρ 0 = (Sl.v p0) := hρ 0
  clear hρ
  refine wpC_seq ?_
  refine wpC_region ?_
  refine wpR_val (v := (Sl.v Sl.nil)) (w' := w0) rfl rfl rfl (x_assign (v := (Sl.v Sl.nil)) rfl rfl) ?_
  refine wpR_nil ?_
  refine wpC_seq ?_
  refine wpC_seq ?_
  refine wpC_cut (fun ρ => ρ 0 = (Sl.v p0) ∧ True) ⟨e0, trivial⟩ ?_
  rintro ρ ⟨e0, -⟩
  refine wpC_region ?_
  refine wpR_val (v := (Sl.v p0)) (w' := w0) rfl rfl rfl (x_move (v := (Sl.v p0)) rfl e0) ?_
  refine wpR_val (v := (Value.bool p0.a.isNone)) (w' := w0) rfl rfl rfl (x_eqlNilS (s := p0) rfl rfl rfl isSliceT_22) ?_
  refine wpR_nil ?_
  refine wpC_cond (b := p0.a.isNone) rfl (fun hc1 => ?_) (fun hc1 => ?_)
  · replace h := h.1 hc1
    refine wpC_seq ?_
    refine wpC_cut (fun ρ => True) trivial ?_
    rintro ρ -
    refine wpC_region ?_
    refine wpR_val (v := (Sl.v Sl.nil)) (w' := w0) rfl rfl rfl (x_assign (v := (Sl.v Sl.nil)) rfl rfl) ?_
    refine wpR_nil ?_
    refine wpC_ret ?_
    exact ⟨.inl rfl, fun a ha => ⟨_, results_rep1 rfl ha rfl, Sl.nil, rfl, h⟩⟩
  · replace h := h.2 hc1
    refine wpC_skip ?_
    refine wpC_seq ?_
    refine wpC_cut (fun ρ => ρ 0 = (Sl.v p0) ∧ True) ⟨e0, trivial⟩ ?_
    rintro ρ ⟨e0, -⟩
    refine wpC_region ?_
    obtain ⟨b2, hb2⟩ : ∃ u, u = w0.heap.size := ⟨_, rfl⟩
    obtain ⟨w1, hw2⟩ : ∃ u, u = w0.alloc (.cells #[] 9) := ⟨_, rfl⟩
    replace h := h b2 w1 hb2 hw2
    refine wpR_val (v := (Sl.v (⟨some ⟨b2, 0, none⟩, 0, 0⟩ : Sl))) (w' := w1) rfl rfl rfl ((x_buildSlice (qs := []) rfl (by rfl) (BS_22_0_ )).trans (by rw [← hb2, ← hw2])) ?_
    refine wpR_val (v := (Sl.v p0)) (w' := w1) rfl rfl rfl (x_move (v := (Sl.v p0)) rfl e0) ?_
    obtain ⟨r3, w2, q3, h⟩ := h
    refine wpR_val (v := (Sl.v r3)) (w' := w2) rfl rfl rfl (x_append (s := (⟨some ⟨b2, 0, none⟩, 0, 0⟩ : Sl)) (u := p0) rfl rfl rfl rfl q3) ?_
    refine wpR_val (v := (Sl.v r3)) (w' := w2) rfl rfl rfl (x_assign (v := (Sl.v r3)) rfl rfl) ?_
    refine wpR_nil ?_
    refine wpC_ret ?_
    exact ⟨.inl rfl, fun a ha => ⟨_, results_rep1 rfl ha rfl, r3, rfl, h⟩⟩

/-- lex.Word -/
def F36 (p0 : ByteArray) (w0 : World) (K : Bool → World → Prop) : Prop :=
  jn (fun J1 => cnd (beqS p0 (ByteArray.mk #[]))
    (
    J1 true w0
    )
    (
    rn Try.prog (Instr.index 9 (Value.string p0) (Value.int .i64 0)) (fun (r : Int) => (Value.int .u8 r)) w0 fun r3 w1 =>
    callC Try.prog 43 #[(Value.int .u8 r3)] (fun (r : Bool) => (Value.bool r)) w1 fun r4 w2 =>
    J1 (!r4) w2
    ))
  fun c5 w3 =>
  cnd (c5 || (decide (20 < (p0.size : Int))))
    (
    K false w3
    )
    (
    callC Try.prog 44 #[(Value.string p0), (Value.func (.func 45) #[] #[])] (fun (r : Int) => (Value.int .i64 r)) w3 fun r9 w4 =>
    K (decide (r9 = (p0.size : Int))) w4
    )
set_option maxRecDepth 100000 in
theorem D36 (p0 : ByteArray) (w0 : World) (K : Bool → World → Prop) (h : F36 p0 w0 K) : callC Try.prog 36 #[(Value.string p0)] (fun (r : Bool) => (Value.bool r)) w0 K := by
  unfold F36 at h
  refine calls_of_wpC Try.func36 rfl 21 rfl (by simp) ?_
  intro ρ hρ
  have e0 : ρ 0 = (Value.string p0) := hρ 0
  clear hρ
  refine wpC_seq ?_
  refine wpC_region ?_
  refine wpR_val (v := (Value.bool false)) (w' := w0) rfl rfl rfl (x_assign (v := (Value.bool false)) rfl rfl) ?_
  refine wpR_nil ?_
  refine wpC_seq ?_
  refine wpC_seq ?_
  refine wpC_cut (fun ρ => ρ 0 = (Value.string p0) ∧ True) ⟨e0, trivial⟩ ?_
  rintro ρ ⟨e0, -⟩
  refine wpC_region ?_
  refine wpR_val (v := (Value.string p0)) (w' := w0) rfl rfl rfl (x_move (v := (Value.string p0)) rfl e0) ?_
  refine wpR_val (v := (Value.bool (beqS p0 (ByteArray.mk #[])))) (w' := w0) rfl rfl rfl (x_eqlS rfl rfl rfl) ?_
  refine wpR_val (v := (Value.bool (beqS p0 (ByteArray.mk #[])))) (w' := w0) rfl rfl rfl (x_move (v := (Value.bool (beqS p0 (ByteArray.mk #[])))) rfl rfl) ?_
  obtain ⟨J1, h, hk⟩ := h
  refine wpR_joinJ 5 (fun x ρ => ρ 10 = Value.bool x ∧ ρ 0 = (Value.string p0) ∧ True) (J1) ?_ ?_
  · clear hk
    rcases Bool.eq_false_or_eq_true (beqS p0 (ByteArray.mk #[])) with hc2 | hc2
    · replace h := h.1 hc2
      refine wpR_pass (wantN rfl rfl rfl hc2) rfl rfl ?_
      refine wpR_pass (wantN rfl rfl rfl hc2) rfl rfl ?_
      refine wpR_pass (wantN rfl rfl rfl hc2) rfl rfl ?_
      refine wpR_pass (wantN rfl rfl rfl hc2) rfl rfl ?_
      refine wpR_val (v := (Value.bool true)) (w' := w0) rfl rfl rfl (x_pickT (v := (Value.bool true)) rfl rfl hc2 rfl) ?_
      refine wpR_nil ?_
      exact ⟨true, ⟨rfl, e0, trivial⟩, h⟩
    · replace h := h.2 hc2
      refine wpR_val (v := (Value.string p0)) (w' := w0) (wantG rfl rfl rfl hc2) rfl rfl (x_move (v := (Value.string p0)) rfl e0) ?_
      obtain ⟨r3, w1, q3, h⟩ := h
      refine wpR_val (v := (Value.int .u8 r3)) (w' := w1) (wantG rfl rfl rfl hc2) rfl rfl (x_index rfl rfl rfl q3) ?_
      refine wpR_enter (wantG rfl rfl rfl hc2) rfl rfl (x_call (vs := [(Value.int .u8 r3)]) rfl rfl (mapl_cons rfl mapl_nil) Try.func43 NN_43 NB_43) (Calls.mono h ?_)
      rintro _ w2 ⟨r4, rfl, h⟩
      refine ⟨_, rfl, ?_⟩
      refine wpR_val (v := (Value.bool (!r4))) (w' := w2) (wantG rfl rfl rfl hc2) rfl rfl (x_not rfl rfl) ?_
      refine wpR_val (v := (Value.bool (!r4))) (w' := w2) rfl rfl rfl (x_pickF (v := (Value.bool (!r4))) rfl rfl hc2 rfl) ?_
      refine wpR_nil ?_
      exact ⟨!r4, ⟨rfl, e0, trivial⟩, h⟩
  clear h
  rintro c5 ρ w3 ⟨e10, e0, -⟩ h
  replace h := hk c5 w3 h
  clear hk
  refine wpR_val (v := (Value.bool c5)) (w' := w3) rfl rfl rfl (x_move (v := (Value.bool c5)) rfl e10) ?_
  refine wpR_joinJ 4 (fun (_ : Unit) ρ => ρ 15 = Value.bool (c5 || (decide (20 < (p0.size : Int)))) ∧ ρ 0 = (Value.string p0) ∧ True) (fun _ w => w3 = w) ?_ ?_
  · clear h
    rcases Bool.eq_false_or_eq_true (c5) with hc7 | hc7
    · skip
      refine wpR_pass (wantN rfl rfl rfl hc7) rfl rfl ?_
      refine wpR_pass (wantN rfl rfl rfl hc7) rfl rfl ?_
      refine wpR_pass (wantN rfl rfl rfl hc7) rfl rfl ?_
      refine wpR_val (v := (Value.bool true)) (w' := w3) rfl rfl rfl (x_pickT (v := (Value.bool true)) rfl rfl hc7 rfl) ?_
      refine wpR_nil ?_
      exact ⟨(), ⟨(by rw [hc7]; rfl), e0, trivial⟩, rfl⟩
    · skip
      refine wpR_val (v := (Value.string p0)) (w' := w3) (wantG rfl rfl rfl hc7) rfl rfl (x_move (v := (Value.string p0)) rfl e0) ?_
      refine wpR_val (v := (Value.int .i64 (p0.size : Int))) (w' := w3) (wantG rfl rfl rfl hc7) rfl rfl (x_lenStr rfl rfl isStrT_9) ?_
      refine wpR_val (v := (Value.bool (decide (20 < (p0.size : Int))))) (w' := w3) (wantG rfl rfl rfl hc7) rfl rfl (x_gtr rfl rfl rfl) ?_
      refine wpR_val (v := (Value.bool (decide (20 < (p0.size : Int))))) (w' := w3) rfl rfl rfl (x_pickF (v := (Value.bool (decide (20 < (p0.size : Int))))) rfl rfl hc7 rfl) ?_
      refine wpR_nil ?_
      exact ⟨(), ⟨(by rw [hc7]; rfl), e0, trivial⟩, rfl⟩
  rintro _ ρ wj ⟨e15, e0, -⟩ rfl
  refine wpR_nil ?_
  refine wpC_cond (b := c5 || (decide (20 < (p0.size : Int)))) e15 (fun hc8 => ?_) (fun hc8 => ?_)
  · replace h := h.1 hc8
    refine wpC_seq ?_
    refine wpC_region ?_
    refine wpR_val (v := (Value.bool false)) (w' := w3) rfl rfl rfl (x_assign (v := (Value.bool false)) rfl rfl) ?_
    refine wpR_nil ?_
    refine wpC_ret ?_
    exact ⟨.inl rfl, fun a ha => ⟨_, results_rep1 rfl ha rfl, false, rfl, h⟩⟩
  · replace h := h.2 hc8
    refine wpC_skip ?_
    refine wpC_seq ?_
    refine wpC_region ?_
    refine wpR_val (v := (Value.string p0)) (w' := w3) rfl rfl rfl (x_move (v := (Value.string p0)) rfl e0) ?_
    refine wpR_enter rfl rfl rfl (x_call (vs := [(Value.string p0), (Value.func (.func 45) #[] #[])]) rfl rfl (mapl_cons rfl (mapl_cons rfl mapl_nil)) Try.func44 NN_44 NB_44) (Calls.mono h ?_)
    rintro _ w4 ⟨r9, rfl, h⟩
    refine ⟨_, rfl, ?_⟩
    refine wpR_val (v := (Value.string p0)) (w' := w4) rfl rfl rfl (x_move (v := (Value.string p0)) rfl e0) ?_
    refine wpR_val (v := (Value.int .i64 (p0.size : Int))) (w' := w4) rfl rfl rfl (x_lenStr rfl rfl isStrT_9) ?_
    refine wpR_val (v := (Value.bool (decide (r9 = (p0.size : Int))))) (w' := w4) rfl rfl rfl (x_eql rfl rfl rfl) ?_
    refine wpR_val (v := (Value.bool (decide (r9 = (p0.size : Int))))) (w' := w4) rfl rfl rfl (x_assign (v := (Value.bool (decide (r9 = (p0.size : Int))))) rfl rfl) ?_
    refine wpR_nil ?_
    refine wpC_ret ?_
    exact ⟨.inl rfl, fun a ha => ⟨_, results_rep1 rfl ha rfl, decide (r9 = (p0.size : Int)), rfl, h⟩⟩

/-- syntax.Right$1 -/
def F37 (p0 : ByteArray) (w0 : World) (K : Bool → World → Prop) : Prop :=
  callC Try.prog 36 #[(Value.string p0)] (fun (r : Bool) => (Value.bool r)) w0 fun r1 w1 =>
  K (!r1) w1
set_option maxRecDepth 100000 in
theorem D37 (p0 : ByteArray) (w0 : World) (K : Bool → World → Prop) (h : F37 p0 w0 K) : callC Try.prog 37 #[(Value.string p0)] (fun (r : Bool) => (Value.bool r)) w0 K := by
  unfold F37 at h
  refine calls_of_wpC Try.func37 rfl 6 rfl (by simp) ?_
  intro ρ hρ
  have e0 : ρ 0 = (Value.string p0) := hρ 0
  clear hρ
  refine wpC_seq ?_
  refine wpC_region ?_
  refine wpR_val (v := (Value.bool false)) (w' := w0) rfl rfl rfl (x_assign (v := (Value.bool false)) rfl rfl) ?_
  refine wpR_nil ?_
  refine wpC_seq ?_
  refine wpC_cut (fun ρ => ρ 0 = (Value.string p0) ∧ True) ⟨e0, trivial⟩ ?_
  rintro ρ ⟨e0, -⟩
  refine wpC_region ?_
  refine wpR_val (v := (Value.string p0)) (w' := w0) rfl rfl rfl (x_move (v := (Value.string p0)) rfl e0) ?_
  refine wpR_enter rfl rfl rfl (x_call (vs := [(Value.string p0)]) rfl rfl (mapl_cons rfl mapl_nil) Try.func36 NN_36 NB_36) (Calls.mono h ?_)
  rintro _ w1 ⟨r1, rfl, h⟩
  refine ⟨_, rfl, ?_⟩
  refine wpR_val (v := (Value.bool (!r1))) (w' := w1) rfl rfl rfl (x_not rfl rfl) ?_
  refine wpR_val (v := (Value.bool (!r1))) (w' := w1) rfl rfl rfl (x_assign (v := (Value.bool (!r1))) rfl rfl) ?_
  refine wpR_nil ?_
  refine wpC_ret ?_
  exact ⟨.inl rfl, fun a ha => ⟨_, results_rep1 rfl ha rfl, !r1, rfl, h⟩⟩

/-- slices.Index[[]string,string] -/
def F38 (p0 : Sl) (p1 : ByteArray) (w0 : World) (K : Int → World → Prop) : Prop :=
  lp (fun (next1 : Int → World → Prop) l1 w1 =>
    cnd (decide (l1 < (p0.len : Int)))
      (
      ix p0 l1 1 fun p3 =>
      ld Value.string p3 w1 fun x4 =>
      cnd (beqS p1 x4)
        (
        K l1 w1
        )
        (
        next1 (IntKind.i64.wrap (l1 + 1)) w1
        )
      )
      (
      K (-1) w1
      )
  ) 0 w0
set_option maxRecDepth 100000 in
theorem D38 (p0 : Sl) (p1 : ByteArray) (w0 : World) (K : Int → World → Prop) (h : F38 p0 p1 w0 K) : callC Try.prog 38 #[(Sl.v p0), (Value.string p1)] (fun (r : Int) => (Value.int .i64 r)) w0 K := by
  unfold F38 at h
  refine calls_of_wpC Try.func38 rfl 19 rfl (by simp) ?_
  intro ρ hρ
  have e0 : ρ 0 = (Sl.v p0) := hρ 0
  have e1 : ρ 1 = (Value.string p1) := hρ 1
  clear hρ
  refine wpC_seq ?_
  refine wpC_region ?_
  refine wpR_val (v := (Value.int .i64 0)) (w' := w0) rfl rfl rfl (x_assign (v := (Value.int .i64 0)) rfl rfl) ?_
  refine wpR_nil ?_
  refine wpC_seq ?_
  refine wpC_seq ?_
  refine wpC_cut (fun ρ => ρ 0 = (Sl.v p0) ∧ ρ 1 = (Value.string p1) ∧ True) ⟨e0, e1, trivial⟩ ?_
  rintro ρ ⟨e0, e1, -⟩
  refine wpC_region ?_
  refine wpR_val (v := (Sl.v p0)) (w' := w0) rfl rfl rfl (x_move (v := (Sl.v p0)) rfl e0) ?_
  refine wpR_val (v := (Value.int .i64 (p0.len : Int))) (w' := w0) rfl rfl rfl (x_lenS (s := p0) rfl rfl isSliceT_22) ?_
  refine wpR_val (v := (Value.int .i64 0)) (w' := w0) rfl rfl rfl (x_move (v := (Value.int .i64 0)) rfl rfl) ?_
  refine wpR_nil ?_
  refine wpC_block ?_
  obtain ⟨I1, μ1, hI1, hr1⟩ := h
  refine wpC_loop (fun (x : Int) ρ => ρ 8 = (Value.int .i64 x) ∧ ρ 0 = (Sl.v p0) ∧ ρ 1 = (Value.string p1) ∧ ρ 7 = (Value.int .i64 (p0.len : Int)) ∧ True) I1 μ1 0 ⟨rfl, e0, e1, rfl, trivial⟩ hI1 ?_
  rintro l1 ρ w1 ⟨e8, e0, e1, e7, -⟩ h
  replace h := hr1 l1 w1 h
  clear hr1 hI1
  refine wpC_seq ?_
  refine wpC_region ?_
  refine wpR_val (v := (Value.bool (decide (l1 < (p0.len : Int))))) (w' := w1) rfl rfl rfl (x_lss rfl e8 e7) ?_
  refine wpR_nil ?_
  refine wpC_seq ?_
  refine wpC_cond (b := decide (l1 < (p0.len : Int))) rfl (fun hc2 => ?_) (fun hc2 => ?_)
  · replace h := h.1 hc2
    refine wpC_skip ?_
    refine wpC_seq ?_
    refine wpC_block ?_
    refine wpC_seq ?_
    refine wpC_cut (fun ρ => ρ 0 = (Sl.v p0) ∧ ρ 1 = (Value.string p1) ∧ ρ 7 = (Value.int .i64 (p0.len : Int)) ∧ ρ 8 = (Value.int .i64 l1) ∧ True) ⟨e0, e1, e7, e8, trivial⟩ ?_
    rintro ρ ⟨e0, e1, e7, e8, -⟩
    refine wpC_region ?_
    refine wpR_val (v := (Value.int .i64 l1)) (w' := w1) rfl rfl rfl (x_move (v := (Value.int .i64 l1)) rfl e8) ?_
    refine wpR_val (v := (Value.int .i64 l1)) (w' := w1) rfl rfl rfl (x_assign (v := (Value.int .i64 l1)) rfl rfl) ?_
    refine wpR_nil ?_
    refine wpC_seq ?_
    refine wpC_cut (fun ρ => ρ 0 = (Sl.v p0) ∧ ρ 1 = (Value.string p1) ∧ ρ 5 = (Value.int .i64 l1) ∧ ρ 7 = (Value.int .i64 (p0.len : Int)) ∧ ρ 8 = (Value.int .i64 l1) ∧ True) ⟨e0, e1, rfl, e7, e8, trivial⟩ ?_
    rintro ρ ⟨e0, e1, e5, e7, e8, -⟩
    refine wpC_region ?_
    refine wpR_val (v := (Value.string p1)) (w' := w1) rfl rfl rfl (x_move (v := (Value.string p1)) rfl e1) ?_
    refine wpR_val (v := (Sl.v p0)) (w' := w1) rfl rfl rfl (x_move (v := (Sl.v p0)) rfl e0) ?_
    refine wpR_val (v := (Value.int .i64 l1)) (w' := w1) rfl rfl rfl (x_move (v := (Value.int .i64 l1)) rfl e5) ?_
    obtain ⟨q3, z3, r3, h⟩ := h
    generalize hp3 : z3.add ((l1 : Int).toNat * 1) = p3 at h
    refine wpR_val (v := (Value.pointer (some p3))) (w' := w1) rfl rfl rfl ((x_indexAddr (s := p0) rfl rfl rfl ES_22 q3 r3).trans (by rw [hp3])) ?_
    obtain ⟨x4, q4, h⟩ := h
    refine wpR_val (v := (Value.string x4)) (w' := w1) rfl rfl rfl (x_load1 rfl rfl SH_9 q4) ?_
    refine wpR_val (v := (Value.bool (beqS p1 x4))) (w' := w1) rfl rfl rfl (x_eqlS rfl rfl rfl) ?_
    refine wpR_nil ?_
    refine wpC_cond (b := beqS p1 x4) rfl (fun hc5 => ?_) (fun hc5 => ?_)
    · replace h := h.1 hc5
      refine wpC_seq ?_
      refine wpC_cut (fun ρ => ρ 5 = (Value.int .i64 l1) ∧ True) ⟨e5, trivial⟩ ?_
      rintro ρ ⟨e5, -⟩
      refine wpC_region ?_
      refine wpR_val (v := (Value.int .i64 l1)) (w' := w1) rfl rfl rfl (x_move (v := (Value.int .i64 l1)) rfl e5) ?_
      refine wpR_val (v := (Value.int .i64 l1)) (w' := w1) rfl rfl rfl (x_assign (v := (Value.int .i64 l1)) rfl rfl) ?_
      refine wpR_nil ?_
      refine wpC_ret ?_
      exact ⟨.inl rfl, fun a ha => ⟨_, results_rep1 rfl ha rfl, l1, rfl, h⟩⟩
    · replace h := h.2 hc5
      refine wpC_skip ?_
      refine wpC_cut (fun ρ => ρ 0 = (Sl.v p0) ∧ ρ 1 = (Value.string p1) ∧ ρ 7 = (Value.int .i64 (p0.len : Int)) ∧ ρ 8 = (Value.int .i64 l1) ∧ True) ⟨e0, e1, e7, e8, trivial⟩ ?_
      rintro ρ ⟨e0, e1, e7, e8, -⟩
      refine wpC_region ?_
      refine wpR_val (v := (Value.int .i64 (IntKind.i64.wrap (l1 + 1)))) (w' := w1) rfl rfl rfl (x_add rfl e8 rfl) ?_
      refine wpR_val (v := (Value.int .i64 (IntKind.i64.wrap (l1 + 1)))) (w' := w1) rfl rfl rfl (x_move (v := (Value.int .i64 (IntKind.i64.wrap (l1 + 1)))) rfl rfl) ?_
      refine wpR_nil ?_
      exact ⟨IntKind.i64.wrap (l1 + 1), ⟨rfl, e0, e1, e7, trivial⟩, h⟩
  · replace h := h.2 hc2
    refine wpC_exit ?_
    refine wpC_seq ?_
    refine wpC_cut (fun ρ => True) trivial ?_
    rintro ρ -
    refine wpC_region ?_
    refine wpR_val (v := (Value.int .i64 (-1))) (w' := w1) rfl rfl rfl (x_assign (v := (Value.int .i64 (-1))) rfl rfl) ?_
    refine wpR_nil ?_
    refine wpC_ret ?_
    exact ⟨.inl rfl, fun a ha => ⟨_, results_rep1 rfl ha rfl, (-1), rfl, h⟩⟩

/-- slices.IndexFunc[[]string,string] -/
def F41 (p0 : Sl) (p1 : Value) (w0 : World) (K : Int → World → Prop) : Prop :=
  lp (fun (next1 : Int → World → Prop) l1 w1 =>
    cnd (decide (l1 < (p0.len : Int)))
      (
      ix p0 l1 1 fun p3 =>
      ld Value.string p3 w1 fun x4 =>
      cv Try.prog p1 [(Value.string x4)] (fun (r : Bool) => (Value.bool r)) w1 fun r5 w2 =>
      cnd (r5)
        (
        K l1 w2
        )
        (
        next1 (IntKind.i64.wrap (l1 + 1)) w2
        )
      )
      (
      K (-1) w1
      )
  ) 0 w0
set_option maxRecDepth 100000 in
theorem D41 (p0 : Sl) (p1 : Value) (w0 : World) (K : Int → World → Prop) (h : F41 p0 p1 w0 K) : callC Try.prog 41 #[(Sl.v p0), p1] (fun (r : Int) => (Value.int .i64 r)) w0 K := by
  unfold F41 at h
  refine calls_of_wpC Try.func41 rfl 19 rfl (by simp) ?_
  intro ρ hρ
  have e0 : ρ 0 = (Sl.v p0) := hρ 0
  have e1 : ρ 1 = p1 := hρ 1
  clear hρ
  refine wpC_seq ?_
  refine wpC_region ?_
  refine wpR_val (v := (Value.int .i64 0)) (w' := w0) rfl rfl rfl (x_assign (v := (Value.int .i64 0)) rfl rfl) ?_
  refine wpR_nil ?_
  refine wpC_seq ?_
  refine wpC_seq ?_
  refine wpC_cut (fun ρ => ρ 0 = (Sl.v p0) ∧ ρ 1 = p1 ∧ True) ⟨e0, e1, trivial⟩ ?_
  rintro ρ ⟨e0, e1, -⟩
  refine wpC_region ?_
  refine wpR_val (v := (Sl.v p0)) (w' := w0) rfl rfl rfl (x_move (v := (Sl.v p0)) rfl e0) ?_
  refine wpR_val (v := (Value.int .i64 (p0.len : Int))) (w' := w0) rfl rfl rfl (x_lenS (s := p0) rfl rfl isSliceT_22) ?_
  refine wpR_val (v := (Value.int .i64 0)) (w' := w0) rfl rfl rfl (x_move (v := (Value.int .i64 0)) rfl rfl) ?_
  refine wpR_nil ?_
  refine wpC_block ?_
  obtain ⟨I1, μ1, hI1, hr1⟩ := h
  refine wpC_loop (fun (x : Int) ρ => ρ 8 = (Value.int .i64 x) ∧ ρ 0 = (Sl.v p0) ∧ ρ 1 = p1 ∧ ρ 7 = (Value.int .i64 (p0.len : Int)) ∧ True) I1 μ1 0 ⟨rfl, e0, e1, rfl, trivial⟩ hI1 ?_
  rintro l1 ρ w1 ⟨e8, e0, e1, e7, -⟩ h
  replace h := hr1 l1 w1 h
  clear hr1 hI1
  refine wpC_seq ?_
  refine wpC_region ?_
  refine wpR_val (v := (Value.bool (decide (l1 < (p0.len : Int))))) (w' := w1) rfl rfl rfl (x_lss rfl e8 e7) ?_
  refine wpR_nil ?_
  refine wpC_seq ?_
  refine wpC_cond (b := decide (l1 < (p0.len : Int))) rfl (fun hc2 => ?_) (fun hc2 => ?_)
  · replace h := h.1 hc2
    refine wpC_skip ?_
    refine wpC_seq ?_
    refine wpC_block ?_
    refine wpC_seq ?_
    refine wpC_cut (fun ρ => ρ 0 = (Sl.v p0) ∧ ρ 1 = p1 ∧ ρ 7 = (Value.int .i64 (p0.len : Int)) ∧ ρ 8 = (Value.int .i64 l1) ∧ True) ⟨e0, e1, e7, e8, trivial⟩ ?_
    rintro ρ ⟨e0, e1, e7, e8, -⟩
    refine wpC_region ?_
    refine wpR_val (v := (Value.int .i64 l1)) (w' := w1) rfl rfl rfl (x_move (v := (Value.int .i64 l1)) rfl e8) ?_
    refine wpR_val (v := (Value.int .i64 l1)) (w' := w1) rfl rfl rfl (x_assign (v := (Value.int .i64 l1)) rfl rfl) ?_
    refine wpR_nil ?_
    refine wpC_seq ?_
    refine wpC_cut (fun ρ => ρ 0 = (Sl.v p0) ∧ ρ 1 = p1 ∧ ρ 5 = (Value.int .i64 l1) ∧ ρ 7 = (Value.int .i64 (p0.len : Int)) ∧ ρ 8 = (Value.int .i64 l1) ∧ True) ⟨e0, e1, rfl, e7, e8, trivial⟩ ?_
    rintro ρ ⟨e0, e1, e5, e7, e8, -⟩
    refine wpC_region ?_
    refine wpR_val (v := p1) (w' := w1) rfl rfl rfl (x_move (v := p1) rfl e1) ?_
    refine wpR_val (v := (Sl.v p0)) (w' := w1) rfl rfl rfl (x_move (v := (Sl.v p0)) rfl e0) ?_
    refine wpR_val (v := (Value.int .i64 l1)) (w' := w1) rfl rfl rfl (x_move (v := (Value.int .i64 l1)) rfl e5) ?_
    obtain ⟨q3, z3, r3, h⟩ := h
    generalize hp3 : z3.add ((l1 : Int).toNat * 1) = p3 at h
    refine wpR_val (v := (Value.pointer (some p3))) (w' := w1) rfl rfl rfl ((x_indexAddr (s := p0) rfl rfl rfl ES_22 q3 r3).trans (by rw [hp3])) ?_
    obtain ⟨x4, q4, h⟩ := h
    refine wpR_val (v := (Value.string x4)) (w' := w1) rfl rfl rfl (x_load1 rfl rfl SH_9 q4) ?_
    obtain ⟨f5, fi5, ca5, fn5, qv5, qf5, qn5, qb5, h⟩ := h
    refine wpR_enter rfl rfl rfl (x_callv (vs := [(Value.string x4)]) rfl ((show _ = p1 from rfl).trans qv5) (mapl_cons rfl mapl_nil) qf5 qn5 qb5) (Calls.mono h ?_)
    rintro _ w2 ⟨r5, rfl, h⟩
    refine ⟨_, rfl, ?_⟩
    refine wpR_nil ?_
    refine wpC_cond (b := r5) rfl (fun hc6 => ?_) (fun hc6 => ?_)
    · replace h := h.1 hc6
      refine wpC_seq ?_
      refine wpC_cut (fun ρ => ρ 5 = (Value.int .i64 l1) ∧ True) ⟨e5, trivial⟩ ?_
      rintro ρ ⟨e5, -⟩
      refine wpC_region ?_
      refine wpR_val (v := (Value.int .i64 l1)) (w' := w2) rfl rfl rfl (x_move (v := (Value.int .i64 l1)) rfl e5) ?_
      refine wpR_val (v := (Value.int .i64 l1)) (w' := w2) rfl rfl rfl (x_assign (v := (Value.int .i64 l1)) rfl rfl) ?_
      refine wpR_nil ?_
      refine wpC_ret ?_
      exact ⟨.inl rfl, fun a ha => ⟨_, results_rep1 rfl ha rfl, l1, rfl, h⟩⟩
    · replace h := h.2 hc6
      refine wpC_skip ?_
      refine wpC_cut (fun ρ => ρ 0 = (Sl.v p0) ∧ ρ 1 = p1 ∧ ρ 7 = (Value.int .i64 (p0.len : Int)) ∧ ρ 8 = (Value.int .i64 l1) ∧ True) ⟨e0, e1, e7, e8, trivial⟩ ?_
      rintro ρ ⟨e0, e1, e7, e8, -⟩
      refine wpC_region ?_
      refine wpR_val (v := (Value.int .i64 (IntKind.i64.wrap (l1 + 1)))) (w' := w2) rfl rfl rfl (x_add rfl e8 rfl) ?_
      refine wpR_val (v := (Value.int .i64 (IntKind.i64.wrap (l1 + 1)))) (w' := w2) rfl rfl rfl (x_move (v := (Value.int .i64 (IntKind.i64.wrap (l1 + 1)))) rfl rfl) ?_
      refine wpR_nil ?_
      exact ⟨IntKind.i64.wrap (l1 + 1), ⟨rfl, e0, e1, e7, trivial⟩, h⟩
  · replace h := h.2 hc2
    refine wpC_exit ?_
    refine wpC_seq ?_
    refine wpC_cut (fun ρ => True) trivial ?_
    rintro ρ -
    refine wpC_region ?_
    refine wpR_val (v := (Value.int .i64 (-1))) (w' := w1) rfl rfl rfl (x_assign (v := (Value.int .i64 (-1))) rfl rfl) ?_
    refine wpR_nil ?_
    refine wpC_ret ?_
    exact ⟨.inl rfl, fun a ha => ⟨_, results_rep1 rfl ha rfl, (-1), rfl, h⟩⟩

/-- linguaref13.number -/
def F42 (p0 : Bool) (w0 : World) (K : Int → World → Prop) : Prop :=
  cnd (p0)
    (
    K 1 w0
    )
    (
    K 0 w0
    )
set_option maxRecDepth 100000 in
theorem D42 (p0 : Bool) (w0 : World) (K : Int → World → Prop) (h : F42 p0 w0 K) : callC Try.prog 42 #[(Value.bool p0)] (fun (r : Int) => (Value.int .i64 r)) w0 K := by
  unfold F42 at h
  refine calls_of_wpC Try.func42 rfl 4 rfl (by simp) ?_
  intro ρ hρ
  have e0 : ρ 0 = (Value.bool p0) := hρ 0
  clear hρ
  refine wpC_seq ?_
  refine wpC_region ?_
  refine wpR_val (v := (Value.int .i64 0)) (w' := w0) rfl rfl rfl (x_assign (v := (Value.int .i64 0)) rfl rfl) ?_
  refine wpR_nil ?_
  refine wpC_seq ?_
  refine wpC_seq ?_
  refine wpC_cut (fun ρ => ρ 0 = (Value.bool p0) ∧ True) ⟨e0, trivial⟩ ?_
  rintro ρ ⟨e0, -⟩
  refine wpC_region ?_
  refine wpR_val (v := (Value.bool p0)) (w' := w0) rfl rfl rfl (x_move (v := (Value.bool p0)) rfl e0) ?_
  refine wpR_nil ?_
  refine wpC_cond (b := p0) rfl (fun hc1 => ?_) (fun hc1 => ?_)
  · replace h := h.1 hc1
    refine wpC_seq ?_
    refine wpC_cut (fun ρ => True) trivial ?_
    rintro ρ -
    refine wpC_region ?_
    refine wpR_val (v := (Value.int .i64 1)) (w' := w0) rfl rfl rfl (x_assign (v := (Value.int .i64 1)) rfl rfl) ?_
    refine wpR_nil ?_
    refine wpC_ret ?_
    exact ⟨.inl rfl, fun a ha => ⟨_, results_rep1 rfl ha rfl, 1, rfl, h⟩⟩
  · replace h := h.2 hc1
    refine wpC_skip ?_
    refine wpC_seq ?_
    refine wpC_cut (fun ρ => True) trivial ?_
    rintro ρ -
    refine wpC_region ?_
    refine wpR_val (v := (Value.int .i64 0)) (w' := w0) rfl rfl rfl (x_assign (v := (Value.int .i64 0)) rfl rfl) ?_
    refine wpR_nil ?_
    refine wpC_ret ?_
    exact ⟨.inl rfl, fun a ha => ⟨_, results_rep1 rfl ha rfl, 0, rfl, h⟩⟩

/-- lex.letter -/
def F43 (p0 : Int) (w0 : World) (K : Bool → World → Prop) : Prop :=
  K ((decide (97 ≤ p0)) && (decide (p0 ≤ 122))) w0
set_option maxRecDepth 100000 in
theorem D43 (p0 : Int) (w0 : World) (K : Bool → World → Prop) (h : F43 p0 w0 K) : callC Try.prog 43 #[(Value.int .u8 p0)] (fun (r : Bool) => (Value.bool r)) w0 K := by
  unfold F43 at h
  refine calls_of_wpC Try.func43 rfl 9 rfl (by simp) ?_
  intro ρ hρ
  have e0 : ρ 0 = (Value.int .u8 p0) := hρ 0
  clear hρ
  refine wpC_seq ?_
  refine wpC_region ?_
  refine wpR_val (v := (Value.bool false)) (w' := w0) rfl rfl rfl (x_assign (v := (Value.bool false)) rfl rfl) ?_
  refine wpR_nil ?_
  refine wpC_seq ?_
  refine wpC_cut (fun ρ => ρ 0 = (Value.int .u8 p0) ∧ True) ⟨e0, trivial⟩ ?_
  rintro ρ ⟨e0, -⟩
  refine wpC_region ?_
  refine wpR_val (v := (Value.int .u8 p0)) (w' := w0) rfl rfl rfl (x_move (v := (Value.int .u8 p0)) rfl e0) ?_
  refine wpR_val (v := (Value.bool (decide (97 ≤ p0)))) (w' := w0) rfl rfl rfl (x_geq rfl rfl rfl) ?_
  refine wpR_val (v := (Value.bool (decide (97 ≤ p0)))) (w' := w0) rfl rfl rfl (x_move (v := (Value.bool (decide (97 ≤ p0)))) rfl rfl) ?_
  refine wpR_joinJ 3 (fun (_ : Unit) ρ => ρ 8 = Value.bool ((decide (97 ≤ p0)) && (decide (p0 ≤ 122))) ∧ True) (fun _ w => w0 = w) ?_ ?_
  · clear h
    rcases Bool.eq_false_or_eq_true (decide (97 ≤ p0)) with hc2 | hc2
    · skip
      refine wpR_val (v := (Value.int .u8 p0)) (w' := w0) (wantG rfl rfl rfl hc2) rfl rfl (x_move (v := (Value.int .u8 p0)) rfl e0) ?_
      refine wpR_val (v := (Value.bool (decide (p0 ≤ 122)))) (w' := w0) (wantG rfl rfl rfl hc2) rfl rfl (x_leq rfl rfl rfl) ?_
      refine wpR_val (v := (Value.bool (decide (p0 ≤ 122)))) (w' := w0) rfl rfl rfl (x_pickT (v := (Value.bool (decide (p0 ≤ 122)))) rfl rfl hc2 rfl) ?_
      refine wpR_nil ?_
      exact ⟨(), ⟨(by rw [hc2]; rfl), trivial⟩, rfl⟩
    · skip
      refine wpR_pass (wantN rfl rfl rfl hc2) rfl rfl ?_
      refine wpR_pass (wantN rfl rfl rfl hc2) rfl rfl ?_
      refine wpR_val (v := (Value.bool false)) (w' := w0) rfl rfl rfl (x_pickF (v := (Value.bool false)) rfl rfl hc2 rfl) ?_
      refine wpR_nil ?_
      exact ⟨(), ⟨(by rw [hc2]; rfl), trivial⟩, rfl⟩
  rintro _ ρ wj ⟨e8, -⟩ rfl
  refine wpR_val (v := (Value.bool ((decide (97 ≤ p0)) && (decide (p0 ≤ 122))))) (w' := w0) rfl rfl rfl (x_assign (v := (Value.bool ((decide (97 ≤ p0)) && (decide (p0 ≤ 122))))) rfl e8) ?_
  refine wpR_nil ?_
  refine wpC_ret ?_
  exact ⟨.inl rfl, fun a ha => ⟨_, results_rep1 rfl ha rfl, (decide (97 ≤ p0)) && (decide (p0 ≤ 122)), rfl, h⟩⟩

/-- lex.span -/
def F44 (p0 : ByteArray) (p1 : Value) (w0 : World) (K : Int → World → Prop) : Prop :=
  lp (fun (next1 : Int → World → Prop) l1 w1 =>
    jn (fun J2 => cnd (decide (l1 < (p0.size : Int)))
      (
      rn Try.prog (Instr.index 9 (Value.string p0) (Value.int .i64 l1)) (fun (r : Int) => (Value.int .u8 r)) w1 fun r4 w2 =>
      cv Try.prog p1 [(Value.int .u8 r4)] (fun (r : Bool) => (Value.bool r)) w2 fun r5 w3 =>
      J2 r5 w3
      )
      (
      J2 false w1
      ))
    fun c6 w4 =>
    cnd (c6)
      (
      next1 (IntKind.i64.wrap (l1 + 1)) w4
      )
      (
      K l1 w4
      )
  ) 0 w0
set_option maxRecDepth 100000 in
theorem D44 (p0 : ByteArray) (p1 : Value) (w0 : World) (K : Int → World → Prop) (h : F44 p0 p1 w0 K) : callC Try.prog 44 #[(Value.string p0), p1] (fun (r : Int) => (Value.int .i64 r)) w0 K := by
  unfold F44 at h
  refine calls_of_wpC Try.func44 rfl 20 rfl (by simp) ?_
  intro ρ hρ
  have e0 : ρ 0 = (Value.string p0) := hρ 0
  have e1 : ρ 1 = p1 := hρ 1
  clear hρ
  refine wpC_seq ?_
  refine wpC_region ?_
  refine wpR_val (v := (Value.int .i64 0)) (w' := w0) rfl rfl rfl (x_assign (v := (Value.int .i64 0)) rfl rfl) ?_
  refine wpR_nil ?_
  refine wpC_seq ?_
  refine wpC_cut (fun ρ => ρ 0 = (Value.string p0) ∧ ρ 1 = p1 ∧ True) ⟨e0, e1, trivial⟩ ?_
  rintro ρ ⟨e0, e1, -⟩
  refine wpC_region ?_
  refine wpR_val (v := (Value.int .i64 0)) (w' := w0) rfl rfl rfl (x_assign (v := (Value.int .i64 0)) rfl rfl) ?_
  refine wpR_nil ?_
  refine wpC_seq ?_
  refine wpC_block ?_
  obtain ⟨I1, μ1, hI1, hr1⟩ := h
  refine wpC_loop (fun (x : Int) ρ => ρ 5 = (Value.int .i64 x) ∧ ρ 0 = (Value.string p0) ∧ ρ 1 = p1 ∧ True) I1 μ1 0 ⟨rfl, e0, e1, trivial⟩ hI1 ?_
  rintro l1 ρ w1 ⟨e5, e0, e1, -⟩ h
  replace h := hr1 l1 w1 h
  clear hr1 hI1
  refine wpC_seq ?_
  refine wpC_seq ?_
  refine wpC_region ?_
  refine wpR_val (v := (Value.int .i64 l1)) (w' := w1) rfl rfl rfl (x_move (v := (Value.int .i64 l1)) rfl e5) ?_
  refine wpR_val (v := (Value.string p0)) (w' := w1) rfl rfl rfl (x_move (v := (Value.string p0)) rfl e0) ?_
  refine wpR_val (v := (Value.int .i64 (p0.size : Int))) (w' := w1) rfl rfl rfl (x_lenStr rfl rfl isStrT_9) ?_
  refine wpR_val (v := (Value.bool (decide (l1 < (p0.size : Int))))) (w' := w1) rfl rfl rfl (x_lss rfl rfl rfl) ?_
  refine wpR_val (v := (Value.bool (decide (l1 < (p0.size : Int))))) (w' := w1) rfl rfl rfl (x_move (v := (Value.bool (decide (l1 < (p0.size : Int))))) rfl rfl) ?_
  obtain ⟨J2, h, hk⟩ := h
  refine wpR_joinJ 6 (fun x ρ => ρ 16 = Value.bool x ∧ ρ 0 = (Value.string p0) ∧ ρ 1 = p1 ∧ ρ 5 = (Value.int .i64 l1) ∧ True) (J2) ?_ ?_
  · clear hk
    rcases Bool.eq_false_or_eq_true (decide (l1 < (p0.size : Int))) with hc3 | hc3
    · replace h := h.1 hc3
      refine wpR_val (v := p1) (w' := w1) (wantG rfl rfl rfl hc3) rfl rfl (x_move (v := p1) rfl e1) ?_
      refine wpR_val (v := (Value.string p0)) (w' := w1) (wantG rfl rfl rfl hc3) rfl rfl (x_move (v := (Value.string p0)) rfl e0) ?_
      refine wpR_val (v := (Value.int .i64 l1)) (w' := w1) (wantG rfl rfl rfl hc3) rfl rfl (x_move (v := (Value.int .i64 l1)) rfl e5) ?_
      obtain ⟨r4, w2, q4, h⟩ := h
      refine wpR_val (v := (Value.int .u8 r4)) (w' := w2) (wantG rfl rfl rfl hc3) rfl rfl (x_index rfl rfl rfl q4) ?_
      obtain ⟨f5, fi5, ca5, fn5, qv5, qf5, qn5, qb5, h⟩ := h
      refine wpR_enter (wantG rfl rfl rfl hc3) rfl rfl (x_callv (vs := [(Value.int .u8 r4)]) rfl ((show _ = p1 from rfl).trans qv5) (mapl_cons rfl mapl_nil) qf5 qn5 qb5) (Calls.mono h ?_)
      rintro _ w3 ⟨r5, rfl, h⟩
      refine ⟨_, rfl, ?_⟩
      refine wpR_val (v := (Value.bool r5)) (w' := w3) rfl rfl rfl (x_pickT (v := (Value.bool r5)) rfl rfl hc3 rfl) ?_
      refine wpR_nil ?_
      exact ⟨r5, ⟨rfl, e0, e1, e5, trivial⟩, h⟩
    · replace h := h.2 hc3
      refine wpR_pass (wantN rfl rfl rfl hc3) rfl rfl ?_
      refine wpR_pass (wantN rfl rfl rfl hc3) rfl rfl ?_
      refine wpR_pass (wantN rfl rfl rfl hc3) rfl rfl ?_
      refine wpR_pass (wantN rfl rfl rfl hc3) rfl rfl ?_
      refine wpR_pass (wantN rfl rfl rfl hc3) rfl rfl ?_
      refine wpR_val (v := (Value.bool false)) (w' := w1) rfl rfl rfl (x_pickF (v := (Value.bool false)) rfl rfl hc3 rfl) ?_
      refine wpR_nil ?_
      exact ⟨false, ⟨rfl, e0, e1, e5, trivial⟩, h⟩
  clear h
  rintro c6 ρ w4 ⟨e16, e0, e1, e5, -⟩ h
  replace h := hk c6 w4 h
  clear hk
  refine wpR_nil ?_
  refine wpC_cond (b := c6) e16 (fun hc7 => ?_) (fun hc7 => ?_)
  · replace h := h.1 hc7
    refine wpC_skip ?_
    refine wpC_block ?_
    refine wpC_region ?_
    refine wpR_val (v := (Value.int .i64 l1)) (w' := w4) rfl rfl rfl (x_move (v := (Value.int .i64 l1)) rfl e5) ?_
    refine wpR_val (v := (Value.int .i64 (IntKind.i64.wrap (l1 + 1)))) (w' := w4) rfl rfl rfl (x_add rfl rfl rfl) ?_
    refine wpR_val (v := (Value.int .i64 (IntKind.i64.wrap (l1 + 1)))) (w' := w4) rfl rfl rfl (x_assign (v := (Value.int .i64 (IntKind.i64.wrap (l1 + 1)))) rfl rfl) ?_
    refine wpR_nil ?_
    exact ⟨IntKind.i64.wrap (l1 + 1), ⟨rfl, e0, e1, trivial⟩, h⟩
  · replace h := h.2 hc7
    refine wpC_exit ?_
    refine wpC_seq ?_
    refine wpC_region ?_
    refine wpR_val (v := (Value.int .i64 l1)) (w' := w4) rfl rfl rfl (x_move (v := (Value.int .i64 l1)) rfl e5) ?_
    refine wpR_val (v := (Value.int .i64 l1)) (w' := w4) rfl rfl rfl (x_assign (v := (Value.int .i64 l1)) rfl rfl) ?_
    refine wpR_nil ?_
    refine wpC_ret ?_
    exact ⟨.inl rfl, fun a ha => ⟨_, results_rep1 rfl ha rfl, l1, rfl, h⟩⟩

/-- lex.Word$1 -/
def F45 (p0 : Int) (w0 : World) (K : Bool → World → Prop) : Prop :=
  callC Try.prog 43 #[(Value.int .u8 p0)] (fun (r : Bool) => (Value.bool r)) w0 fun r1 w1 =>
  jn (fun J2 => cnd (r1)
    (
    J2 true w1
    )
    (
    callC Try.prog 46 #[(Value.int .u8 p0)] (fun (r : Bool) => (Value.bool r)) w1 fun r4 w2 =>
    J2 r4 w2
    ))
  fun c5 w3 =>
  K c5 w3
set_option maxRecDepth 100000 in
theorem D45 (p0 : Int) (w0 : World) (K : Bool → World → Prop) (h : F45 p0 w0 K) : callC Try.prog 45 #[(Value.int .u8 p0)] (fun (r : Bool) => (Value.bool r)) w0 K := by
  unfold F45 at h
  refine calls_of_wpC Try.func45 rfl 9 rfl (by simp) ?_
  intro ρ hρ
  have e0 : ρ 0 = (Value.int .u8 p0) := hρ 0
  clear hρ
  refine wpC_seq ?_
  refine wpC_region ?_
  refine wpR_val (v := (Value.bool false)) (w' := w0) rfl rfl rfl (x_assign (v := (Value.bool false)) rfl rfl) ?_
  refine wpR_nil ?_
  refine wpC_seq ?_
  refine wpC_cut (fun ρ => ρ 0 = (Value.int .u8 p0) ∧ True) ⟨e0, trivial⟩ ?_
  rintro ρ ⟨e0, -⟩
  refine wpC_region ?_
  refine wpR_val (v := (Value.int .u8 p0)) (w' := w0) rfl rfl rfl (x_move (v := (Value.int .u8 p0)) rfl e0) ?_
  refine wpR_enter rfl rfl rfl (x_call (vs := [(Value.int .u8 p0)]) rfl rfl (mapl_cons rfl mapl_nil) Try.func43 NN_43 NB_43) (Calls.mono h ?_)
  rintro _ w1 ⟨r1, rfl, h⟩
  refine ⟨_, rfl, ?_⟩
  refine wpR_val (v := (Value.bool r1)) (w' := w1) rfl rfl rfl (x_move (v := (Value.bool r1)) rfl rfl) ?_
  obtain ⟨J2, h, hk⟩ := h
  refine wpR_joinJ 3 (fun x ρ => ρ 8 = Value.bool x ∧ True) (J2) ?_ ?_
  · clear hk
    rcases Bool.eq_false_or_eq_true (r1) with hc3 | hc3
    · replace h := h.1 hc3
      refine wpR_pass (wantN rfl rfl rfl hc3) rfl rfl ?_
      refine wpR_pass (wantN rfl rfl rfl hc3) rfl rfl ?_
      refine wpR_val (v := (Value.bool true)) (w' := w1) rfl rfl rfl (x_pickT (v := (Value.bool true)) rfl rfl hc3 rfl) ?_
      refine wpR_nil ?_
      exact ⟨true, ⟨rfl, trivial⟩, h⟩
    · replace h := h.2 hc3
      refine wpR_val (v := (Value.int .u8 p0)) (w' := w1) (wantG rfl rfl rfl hc3) rfl rfl (x_move (v := (Value.int .u8 p0)) rfl e0) ?_
      refine wpR_enter (wantG rfl rfl rfl hc3) rfl rfl (x_call (vs := [(Value.int .u8 p0)]) rfl rfl (mapl_cons rfl mapl_nil) Try.func46 NN_46 NB_46) (Calls.mono h ?_)
      rintro _ w2 ⟨r4, rfl, h⟩
      refine ⟨_, rfl, ?_⟩
      refine wpR_val (v := (Value.bool r4)) (w' := w2) rfl rfl rfl (x_pickF (v := (Value.bool r4)) rfl rfl hc3 rfl) ?_
      refine wpR_nil ?_
      exact ⟨r4, ⟨rfl, trivial⟩, h⟩
  clear h
  rintro c5 ρ w3 ⟨e8, -⟩ h
  replace h := hk c5 w3 h
  clear hk
  refine wpR_val (v := (Value.bool c5)) (w' := w3) rfl rfl rfl (x_assign (v := (Value.bool c5)) rfl e8) ?_
  refine wpR_nil ?_
  refine wpC_ret ?_
  exact ⟨.inl rfl, fun a ha => ⟨_, results_rep1 rfl ha rfl, c5, rfl, h⟩⟩

/-- lex.digit -/
def F46 (p0 : Int) (w0 : World) (K : Bool → World → Prop) : Prop :=
  K ((decide (48 ≤ p0)) && (decide (p0 ≤ 57))) w0
set_option maxRecDepth 100000 in
theorem D46 (p0 : Int) (w0 : World) (K : Bool → World → Prop) (h : F46 p0 w0 K) : callC Try.prog 46 #[(Value.int .u8 p0)] (fun (r : Bool) => (Value.bool r)) w0 K := by
  unfold F46 at h
  refine calls_of_wpC Try.func46 rfl 9 rfl (by simp) ?_
  intro ρ hρ
  have e0 : ρ 0 = (Value.int .u8 p0) := hρ 0
  clear hρ
  refine wpC_seq ?_
  refine wpC_region ?_
  refine wpR_val (v := (Value.bool false)) (w' := w0) rfl rfl rfl (x_assign (v := (Value.bool false)) rfl rfl) ?_
  refine wpR_nil ?_
  refine wpC_seq ?_
  refine wpC_cut (fun ρ => ρ 0 = (Value.int .u8 p0) ∧ True) ⟨e0, trivial⟩ ?_
  rintro ρ ⟨e0, -⟩
  refine wpC_region ?_
  refine wpR_val (v := (Value.int .u8 p0)) (w' := w0) rfl rfl rfl (x_move (v := (Value.int .u8 p0)) rfl e0) ?_
  refine wpR_val (v := (Value.bool (decide (48 ≤ p0)))) (w' := w0) rfl rfl rfl (x_geq rfl rfl rfl) ?_
  refine wpR_val (v := (Value.bool (decide (48 ≤ p0)))) (w' := w0) rfl rfl rfl (x_move (v := (Value.bool (decide (48 ≤ p0)))) rfl rfl) ?_
  refine wpR_joinJ 3 (fun (_ : Unit) ρ => ρ 8 = Value.bool ((decide (48 ≤ p0)) && (decide (p0 ≤ 57))) ∧ True) (fun _ w => w0 = w) ?_ ?_
  · clear h
    rcases Bool.eq_false_or_eq_true (decide (48 ≤ p0)) with hc2 | hc2
    · skip
      refine wpR_val (v := (Value.int .u8 p0)) (w' := w0) (wantG rfl rfl rfl hc2) rfl rfl (x_move (v := (Value.int .u8 p0)) rfl e0) ?_
      refine wpR_val (v := (Value.bool (decide (p0 ≤ 57)))) (w' := w0) (wantG rfl rfl rfl hc2) rfl rfl (x_leq rfl rfl rfl) ?_
      refine wpR_val (v := (Value.bool (decide (p0 ≤ 57)))) (w' := w0) rfl rfl rfl (x_pickT (v := (Value.bool (decide (p0 ≤ 57)))) rfl rfl hc2 rfl) ?_
      refine wpR_nil ?_
      exact ⟨(), ⟨(by rw [hc2]; rfl), trivial⟩, rfl⟩
    · skip
      refine wpR_pass (wantN rfl rfl rfl hc2) rfl rfl ?_
      refine wpR_pass (wantN rfl rfl rfl hc2) rfl rfl ?_
      refine wpR_val (v := (Value.bool false)) (w' := w0) rfl rfl rfl (x_pickF (v := (Value.bool false)) rfl rfl hc2 rfl) ?_
      refine wpR_nil ?_
      exact ⟨(), ⟨(by rw [hc2]; rfl), trivial⟩, rfl⟩
  rintro _ ρ wj ⟨e8, -⟩ rfl
  refine wpR_val (v := (Value.bool ((decide (48 ≤ p0)) && (decide (p0 ≤ 57))))) (w' := w0) rfl rfl rfl (x_assign (v := (Value.bool ((decide (48 ≤ p0)) && (decide (p0 ≤ 57))))) rfl e8) ?_
  refine wpR_nil ?_
  refine wpC_ret ?_
  exact ⟨.inl rfl, fun a ha => ⟨_, results_rep1 rfl ha rfl, (decide (48 ≤ p0)) && (decide (p0 ≤ 57)), rfl, h⟩⟩


end Go.Proofs.Ytadlnbdelkbboaa
