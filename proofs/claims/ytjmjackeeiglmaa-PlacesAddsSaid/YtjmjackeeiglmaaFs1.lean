import Derived.Test.YtjmjackeeiglmaaRows
import Derived.Test.YtjmjackeeiglmaaDecRaw
namespace Go.Proofs.Ytjmjackeeiglmaa
open Go.Dec
set_option maxHeartbeats 400000

theorem BD_32_ : ∀ w, (Instr.build 32 #[]).run Try.prog w = .ok (Value.agg #[(Value.int .i64 0), (Value.int .i64 0), (Sl.v Sl.nil)]) w := fun w => by kernel_rfl
theorem BD_32_0_2 (y0 : Int) (y2 : Sl) : ∀ w, (Instr.build 32 #[(0, (Value.int .i64 y0)), (2, (Sl.v y2))]).run Try.prog w = .ok (Value.agg #[(Value.int .i64 y0), (Value.int .i64 0), (Sl.v y2)]) w := fun w => by kernel_rfl
theorem BD_32_1 (y1 : Int) : ∀ w, (Instr.build 32 #[(1, (Value.int .i64 y1))]).run Try.prog w = .ok (Value.agg #[(Value.int .i64 0), (Value.int .i64 y1), (Sl.v Sl.nil)]) w := fun w => by kernel_rfl
theorem BS_22_0_ : ∀ w, (Instr.buildSlice 22 0 #[]).run Try.prog w = .ok (.slice (some ⟨w.heap.size, 0, none⟩) 0 0) (w.alloc (.cells #[] 32)) := fun w => by kernel_rfl
theorem BS_22_1_0 (y0 : Int) (y1 : Int) (y2 : Sl) : ∀ w, (Instr.buildSlice 22 1 #[(0, (Value.agg #[(Value.int .i64 y0), (Value.int .i64 y1), (Sl.v y2)]))]).run Try.prog w = .ok (.slice (some ⟨w.heap.size, 0, none⟩) 1 1) (w.alloc (.cells #[(Value.int .i64 y0), (Value.int .i64 y1), (Sl.v y2)] 32)) := fun w => by kernel_rfl
theorem BS_22_5_0_1_2_3_4 (y0 : Int) (y1 : Int) (y2 : Sl) (y3 : Int) (y4 : Int) (y5 : Sl) (y6 : Int) (y7 : Int) (y8 : Sl) (y9 : Int) (y10 : Int) (y11 : Sl) (y12 : Int) (y13 : Int) (y14 : Sl) : ∀ w, (Instr.buildSlice 22 5 #[(0, (Value.agg #[(Value.int .i64 y0), (Value.int .i64 y1), (Sl.v y2)])), (1, (Value.agg #[(Value.int .i64 y3), (Value.int .i64 y4), (Sl.v y5)])), (2, (Value.agg #[(Value.int .i64 y6), (Value.int .i64 y7), (Sl.v y8)])), (3, (Value.agg #[(Value.int .i64 y9), (Value.int .i64 y10), (Sl.v y11)])), (4, (Value.agg #[(Value.int .i64 y12), (Value.int .i64 y13), (Sl.v y14)]))]).run Try.prog w = .ok (.slice (some ⟨w.heap.size, 0, none⟩) 5 5) (w.alloc (.cells #[(Value.int .i64 y0), (Value.int .i64 y1), (Sl.v y2), (Value.int .i64 y3), (Value.int .i64 y4), (Sl.v y5), (Value.int .i64 y6), (Value.int .i64 y7), (Sl.v y8), (Value.int .i64 y9), (Value.int .i64 y10), (Sl.v y11), (Value.int .i64 y12), (Value.int .i64 y13), (Sl.v y14)] 32)) := fun w => by kernel_rfl
theorem BS_23_0_ : ∀ w, (Instr.buildSlice 23 0 #[]).run Try.prog w = .ok (.slice (some ⟨w.heap.size, 0, none⟩) 0 0) (w.alloc (.cells #[] 3)) := fun w => by kernel_rfl
theorem BS_23_1_0 (y0 : Int) : ∀ w, (Instr.buildSlice 23 1 #[(0, (Value.int .i64 y0))]).run Try.prog w = .ok (.slice (some ⟨w.heap.size, 0, none⟩) 1 1) (w.alloc (.cells #[(Value.int .i64 y0)] 3)) := fun w => by kernel_rfl
theorem BS_23_2_0_1 (y0 : Int) (y1 : Int) : ∀ w, (Instr.buildSlice 23 2 #[(0, (Value.int .i64 y0)), (1, (Value.int .i64 y1))]).run Try.prog w = .ok (.slice (some ⟨w.heap.size, 0, none⟩) 2 2) (w.alloc (.cells #[(Value.int .i64 y0), (Value.int .i64 y1)] 3)) := fun w => by kernel_rfl
theorem BS_23_3_0_1_2 (y0 : Int) (y1 : Int) (y2 : Int) : ∀ w, (Instr.buildSlice 23 3 #[(0, (Value.int .i64 y0)), (1, (Value.int .i64 y1)), (2, (Value.int .i64 y2))]).run Try.prog w = .ok (.slice (some ⟨w.heap.size, 0, none⟩) 3 3) (w.alloc (.cells #[(Value.int .i64 y0), (Value.int .i64 y1), (Value.int .i64 y2)] 3)) := fun w => by kernel_rfl
theorem BS_23_4_0_1_2_3 (y0 : Int) (y1 : Int) (y2 : Int) (y3 : Int) : ∀ w, (Instr.buildSlice 23 4 #[(0, (Value.int .i64 y0)), (1, (Value.int .i64 y1)), (2, (Value.int .i64 y2)), (3, (Value.int .i64 y3))]).run Try.prog w = .ok (.slice (some ⟨w.heap.size, 0, none⟩) 4 4) (w.alloc (.cells #[(Value.int .i64 y0), (Value.int .i64 y1), (Value.int .i64 y2), (Value.int .i64 y3)] 3)) := fun w => by kernel_rfl
theorem BS_23_8_0_1_2_3_4_5_6_7 (y0 : Int) (y1 : Int) (y2 : Int) (y3 : Int) (y4 : Int) (y5 : Int) (y6 : Int) (y7 : Int) : ∀ w, (Instr.buildSlice 23 8 #[(0, (Value.int .i64 y0)), (1, (Value.int .i64 y1)), (2, (Value.int .i64 y2)), (3, (Value.int .i64 y3)), (4, (Value.int .i64 y4)), (5, (Value.int .i64 y5)), (6, (Value.int .i64 y6)), (7, (Value.int .i64 y7))]).run Try.prog w = .ok (.slice (some ⟨w.heap.size, 0, none⟩) 8 8) (w.alloc (.cells #[(Value.int .i64 y0), (Value.int .i64 y1), (Value.int .i64 y2), (Value.int .i64 y3), (Value.int .i64 y4), (Value.int .i64 y5), (Value.int .i64 y6), (Value.int .i64 y7)] 3)) := fun w => by kernel_rfl
theorem ES_22 : elemSize Try.prog 22 = some 3 := by kernel_rfl
theorem ES_23 : elemSize Try.prog 23 = some 1 := by kernel_rfl
theorem ES_37 : elemSize Try.prog 37 = some 1 := by kernel_rfl
theorem FA_32_0 : fieldOff Try.prog 32 0 = some 0 := by kernel_rfl
theorem FA_32_1 : fieldOff Try.prog 32 1 = some 1 := by kernel_rfl
theorem FA_32_2 : fieldOff Try.prog 32 2 = some 2 := by kernel_rfl
theorem IK_3 : intKindT Try.prog 3 = some .i64 := by kernel_rfl
theorem IK_5 : intKindT Try.prog 5 = some .u8 := by kernel_rfl
theorem NB_10 : Try.f10.body.isNone = false := by kernel_rfl
theorem NN_10 : (Try.f10.name == "runtime.NumGoroutine") = false := by kernel_rfl
theorem NB_11 : Try.f11.body.isNone = false := by kernel_rfl
theorem NN_11 : (Try.f11.name == "runtime.NumGoroutine") = false := by kernel_rfl
theorem NB_12 : Try.f12.body.isNone = false := by kernel_rfl
theorem NN_12 : (Try.f12.name == "runtime.NumGoroutine") = false := by kernel_rfl
theorem NB_13 : Try.f13.body.isNone = false := by kernel_rfl
theorem NN_13 : (Try.f13.name == "runtime.NumGoroutine") = false := by kernel_rfl
theorem NB_14 : Try.f14.body.isNone = false := by kernel_rfl
theorem NN_14 : (Try.f14.name == "runtime.NumGoroutine") = false := by kernel_rfl
theorem NB_15 : Try.f15.body.isNone = false := by kernel_rfl
theorem NN_15 : (Try.f15.name == "runtime.NumGoroutine") = false := by kernel_rfl
theorem NB_16 : Try.f16.body.isNone = false := by kernel_rfl
theorem NN_16 : (Try.f16.name == "runtime.NumGoroutine") = false := by kernel_rfl
theorem NB_17 : Try.f17.body.isNone = false := by kernel_rfl
theorem NN_17 : (Try.f17.name == "runtime.NumGoroutine") = false := by kernel_rfl
theorem NB_18 : Try.f18.body.isNone = false := by kernel_rfl
theorem NN_18 : (Try.f18.name == "runtime.NumGoroutine") = false := by kernel_rfl
theorem NB_19 : Try.f19.body.isNone = false := by kernel_rfl
theorem NN_19 : (Try.f19.name == "runtime.NumGoroutine") = false := by kernel_rfl
theorem NB_20 : Try.f20.body.isNone = false := by kernel_rfl
theorem NN_20 : (Try.f20.name == "runtime.NumGoroutine") = false := by kernel_rfl
theorem NB_21 : Try.f21.body.isNone = false := by kernel_rfl
theorem NN_21 : (Try.f21.name == "runtime.NumGoroutine") = false := by kernel_rfl
theorem NB_22 : Try.f22.body.isNone = false := by kernel_rfl
theorem NN_22 : (Try.f22.name == "runtime.NumGoroutine") = false := by kernel_rfl
theorem NB_23 : Try.f23.body.isNone = false := by kernel_rfl
theorem NN_23 : (Try.f23.name == "runtime.NumGoroutine") = false := by kernel_rfl
theorem NB_24 : Try.f24.body.isNone = false := by kernel_rfl
theorem NN_24 : (Try.f24.name == "runtime.NumGoroutine") = false := by kernel_rfl
theorem NB_8 : Try.f8.body.isNone = false := by kernel_rfl
theorem NN_8 : (Try.f8.name == "runtime.NumGoroutine") = false := by kernel_rfl
theorem NB_9 : Try.f9.body.isNone = false := by kernel_rfl
theorem NN_9 : (Try.f9.name == "runtime.NumGoroutine") = false := by kernel_rfl
theorem SH_23 : shapeT Try.prog 23 = some 0 := by kernel_rfl
theorem SH_3 : shapeT Try.prog 3 = some 0 := by kernel_rfl
theorem SH_32 : shapeT Try.prog 32 = some 4 := by kernel_rfl
theorem SH_4 : shapeT Try.prog 4 = some 0 := by kernel_rfl
theorem SZ_3 : sizeT Try.prog 3 = some 1 := by kernel_rfl
theorem SZ_32 : sizeT Try.prog 32 = some 3 := by kernel_rfl
theorem SZ_4 : sizeT Try.prog 4 = some 1 := by kernel_rfl
theorem ZV_32 : (Try.prog.info? 32).bind (·.zero) = some (Value.agg #[(Value.int .i64 0), (Value.int .i64 0), (Sl.v Sl.nil)]) := by kernel_rfl
theorem isBoolT_4 : isBoolT Try.prog 4 = true := by kernel_rfl
theorem isSliceT_22 : isSliceT Try.prog 22 = true := by kernel_rfl
theorem isSliceT_23 : isSliceT Try.prog 23 = true := by kernel_rfl
theorem isSliceT_37 : isSliceT Try.prog 37 = true := by kernel_rfl

/-- lingualaw41.PlacesTells -/
def F3 (p0 : Sl) (p1 : Sl) (w0 : World) (K : Bool → World → Prop) : Prop :=
  callC Try.prog 8 #[] (fun (r : Bool) => (Value.bool r)) w0 fun r1 w1 =>
  callC Try.prog 9 #[(Sl.v p0), (Value.int .i64 30)] (fun (r : Bool) => (Value.bool r)) w1 fun r2 w2 =>
  cnd ((!r2) || (decide (40 < (p1.len : Int))))
    (
    K r1 w2
    )
    (
    jn (fun J6 => cnd (r1)
      (
      callC Try.prog 10 #[(Sl.v p0)] (fun (r : Bool) => (Value.bool r)) w2 fun r8 w3 =>
      callC Try.prog 11 #[(Sl.v p0)] (fun (r : Bool) => (Value.bool r)) w3 fun r9 w4 =>
      J6 (r8 == r9) w4
      )
      (
      J6 false w2
      ))
    fun c10 w5 =>
    jn (fun J11 => cnd (c10)
      (
      callC Try.prog 13 #[(Sl.v p0), (Sl.v p1)] (fun (r : Sl) => (Sl.v r)) w5 fun r13 w6 =>
      callC Try.prog 14 #[(Sl.v p0), (Sl.v p1)] (fun (r : Sl) => (Sl.v r)) w6 fun r14 w7 =>
      callC Try.prog 12 #[(Sl.v r13), (Sl.v r14)] (fun (r : Bool) => (Value.bool r)) w7 fun r15 w8 =>
      J11 r15 w8
      )
      (
      J11 false w5
      ))
    fun c16 w9 =>
    jn (fun J17 => cnd (c16)
      (
      callC Try.prog 15 #[(Sl.v p0), (Sl.v p1)] (fun (r : Sl) => (Sl.v r)) w9 fun r19 w10 =>
      callC Try.prog 16 #[(Sl.v p0), (Sl.v p1)] (fun (r : Sl) => (Sl.v r)) w10 fun r20 w11 =>
      callC Try.prog 12 #[(Sl.v r19), (Sl.v r20)] (fun (r : Bool) => (Value.bool r)) w11 fun r21 w12 =>
      J17 r21 w12
      )
      (
      J17 false w9
      ))
    fun c22 w13 =>
    jn (fun J23 => cnd (c22)
      (
      callC Try.prog 17 #[(Sl.v p0), (Sl.v p1)] (fun (r : Sl) => (Sl.v r)) w13 fun r25 w14 =>
      callC Try.prog 18 #[(Sl.v p0), (Sl.v p1)] (fun (r : Sl) => (Sl.v r)) w14 fun r26 w15 =>
      callC Try.prog 12 #[(Sl.v r25), (Sl.v r26)] (fun (r : Bool) => (Value.bool r)) w15 fun r27 w16 =>
      J23 r27 w16
      )
      (
      J23 false w13
      ))
    fun c28 w17 =>
    K c28 w17
    )
set_option maxRecDepth 100000 in
theorem D3 (p0 : Sl) (p1 : Sl) (w0 : World) (K : Bool → World → Prop) (h : F3 p0 p1 w0 K) : callC Try.prog 3 #[(Sl.v p0), (Sl.v p1)] (fun (r : Bool) => (Value.bool r)) w0 K := by
  unfold F3 at h
  refine calls_of_wpC Try.func3 rfl 51 rfl (by simp) ?_
  intro ρ hρ
  have e0 : ρ 0 = (Sl.v p0) := hρ 0
  have e1 : ρ 1 = (Sl.v p1) := hρ 1
  clear hρ
  refine wpC_seq ?_
  refine wpC_region ?_
  refine wpR_val (v := (Value.bool false)) (w' := w0) rfl rfl rfl (x_assign (v := (Value.bool false)) rfl rfl) ?_
  refine wpR_nil ?_
  refine wpC_seq ?_
  refine wpC_cut (fun ρ => ρ 0 = (Sl.v p0) ∧ ρ 1 = (Sl.v p1) ∧ True) ⟨e0, e1, trivial⟩ ?_
  rintro ρ ⟨e0, e1, -⟩
  refine wpC_region ?_
  refine wpR_enter rfl rfl rfl (x_call (vs := []) rfl rfl mapl_nil Try.func8 NN_8 NB_8) (Calls.mono h ?_)
  rintro _ w1 ⟨r1, rfl, h⟩
  refine ⟨_, rfl, ?_⟩
  refine wpR_val (v := (Value.bool r1)) (w' := w1) rfl rfl rfl (x_assign (v := (Value.bool r1)) rfl rfl) ?_
  refine wpR_nil ?_
  refine wpC_seq ?_
  refine wpC_seq ?_
  refine wpC_cut (fun ρ => ρ 0 = (Sl.v p0) ∧ ρ 1 = (Sl.v p1) ∧ ρ 5 = (Value.bool r1) ∧ True) ⟨e0, e1, rfl, trivial⟩ ?_
  rintro ρ ⟨e0, e1, e5, -⟩
  refine wpC_region ?_
  refine wpR_val (v := (Sl.v p0)) (w' := w1) rfl rfl rfl (x_move (v := (Sl.v p0)) rfl e0) ?_
  refine wpR_enter rfl rfl rfl (x_call (vs := [(Sl.v p0), (Value.int .i64 30)]) rfl rfl (mapl_cons rfl (mapl_cons rfl mapl_nil)) Try.func9 NN_9 NB_9) (Calls.mono h ?_)
  rintro _ w2 ⟨r2, rfl, h⟩
  refine ⟨_, rfl, ?_⟩
  refine wpR_val (v := (Value.bool (!r2))) (w' := w2) rfl rfl rfl (x_not rfl rfl) ?_
  refine wpR_val (v := (Value.bool (!r2))) (w' := w2) rfl rfl rfl (x_move (v := (Value.bool (!r2))) rfl rfl) ?_
  refine wpR_joinJ 4 (fun (_ : Unit) ρ => ρ 14 = Value.bool ((!r2) || (decide (40 < (p1.len : Int)))) ∧ ρ 0 = (Sl.v p0) ∧ ρ 1 = (Sl.v p1) ∧ ρ 5 = (Value.bool r1) ∧ True) (fun _ w => w2 = w) ?_ ?_
  · clear h
    rcases Bool.eq_false_or_eq_true (!r2) with hc4 | hc4
    · skip
      refine wpR_pass (wantN rfl rfl rfl hc4) rfl rfl ?_
      refine wpR_pass (wantN rfl rfl rfl hc4) rfl rfl ?_
      refine wpR_pass (wantN rfl rfl rfl hc4) rfl rfl ?_
      refine wpR_val (v := (Value.bool true)) (w' := w2) rfl rfl rfl (x_pickT (v := (Value.bool true)) rfl rfl hc4 rfl) ?_
      refine wpR_nil ?_
      exact ⟨(), ⟨(by rw [hc4]; rfl), e0, e1, e5, trivial⟩, rfl⟩
    · skip
      refine wpR_val (v := (Sl.v p1)) (w' := w2) (wantG rfl rfl rfl hc4) rfl rfl (x_move (v := (Sl.v p1)) rfl e1) ?_
      refine wpR_val (v := (Value.int .i64 (p1.len : Int))) (w' := w2) (wantG rfl rfl rfl hc4) rfl rfl (x_lenS (s := p1) rfl rfl isSliceT_23) ?_
      refine wpR_val (v := (Value.bool (decide (40 < (p1.len : Int))))) (w' := w2) (wantG rfl rfl rfl hc4) rfl rfl (x_gtr rfl rfl rfl) ?_
      refine wpR_val (v := (Value.bool (decide (40 < (p1.len : Int))))) (w' := w2) rfl rfl rfl (x_pickF (v := (Value.bool (decide (40 < (p1.len : Int))))) rfl rfl hc4 rfl) ?_
      refine wpR_nil ?_
      exact ⟨(), ⟨(by rw [hc4]; rfl), e0, e1, e5, trivial⟩, rfl⟩
  rintro _ ρ wj ⟨e14, e0, e1, e5, -⟩ rfl
  refine wpR_nil ?_
  refine wpC_cond (b := (!r2) || (decide (40 < (p1.len : Int)))) e14 (fun hc5 => ?_) (fun hc5 => ?_)
  · replace h := h.1 hc5
    refine wpC_seq ?_
    refine wpC_region ?_
    refine wpR_val (v := (Value.bool r1)) (w' := w2) rfl rfl rfl (x_move (v := (Value.bool r1)) rfl e5) ?_
    refine wpR_val (v := (Value.bool r1)) (w' := w2) rfl rfl rfl (x_assign (v := (Value.bool r1)) rfl rfl) ?_
    refine wpR_nil ?_
    refine wpC_ret ?_
    exact ⟨.inl rfl, fun a ha => ⟨_, results_rep1 rfl ha rfl, r1, rfl, h⟩⟩
  · replace h := h.2 hc5
    refine wpC_skip ?_
    refine wpC_seq ?_
    refine wpC_region ?_
    refine wpR_val (v := (Value.bool r1)) (w' := w2) rfl rfl rfl (x_move (v := (Value.bool r1)) rfl e5) ?_
    refine wpR_val (v := (Value.bool r1)) (w' := w2) rfl rfl rfl (x_move (v := (Value.bool r1)) rfl rfl) ?_
    obtain ⟨J6, h, hk⟩ := h
    refine wpR_joinJ 6 (fun x ρ => ρ 23 = Value.bool x ∧ ρ 0 = (Sl.v p0) ∧ ρ 1 = (Sl.v p1) ∧ True) (J6) ?_ ?_
    · clear hk
      rcases Bool.eq_false_or_eq_true (r1) with hc7 | hc7
      · replace h := h.1 hc7
        refine wpR_val (v := (Sl.v p0)) (w' := w2) (wantG rfl rfl rfl hc7) rfl rfl (x_move (v := (Sl.v p0)) rfl e0) ?_
        refine wpR_enter (wantG rfl rfl rfl hc7) rfl rfl (x_call (vs := [(Sl.v p0)]) rfl rfl (mapl_cons rfl mapl_nil) Try.func10 NN_10 NB_10) (Calls.mono h ?_)
        rintro _ w3 ⟨r8, rfl, h⟩
        refine ⟨_, rfl, ?_⟩
        refine wpR_val (v := (Sl.v p0)) (w' := w3) (wantG rfl rfl rfl hc7) rfl rfl (x_move (v := (Sl.v p0)) rfl e0) ?_
        refine wpR_enter (wantG rfl rfl rfl hc7) rfl rfl (x_call (vs := [(Sl.v p0)]) rfl rfl (mapl_cons rfl mapl_nil) Try.func11 NN_11 NB_11) (Calls.mono h ?_)
        rintro _ w4 ⟨r9, rfl, h⟩
        refine ⟨_, rfl, ?_⟩
        refine wpR_val (v := (Value.bool (r8 == r9))) (w' := w4) (wantG rfl rfl rfl hc7) rfl rfl (x_eqlB rfl rfl rfl isBoolT_4) ?_
        refine wpR_val (v := (Value.bool (r8 == r9))) (w' := w4) rfl rfl rfl (x_pickT (v := (Value.bool (r8 == r9))) rfl rfl hc7 rfl) ?_
        refine wpR_nil ?_
        exact ⟨r8 == r9, ⟨rfl, e0, e1, trivial⟩, h⟩
      · replace h := h.2 hc7
        refine wpR_pass (wantN rfl rfl rfl hc7) rfl rfl ?_
        refine wpR_pass (wantN rfl rfl rfl hc7) rfl rfl ?_
        refine wpR_pass (wantN rfl rfl rfl hc7) rfl rfl ?_
        refine wpR_pass (wantN rfl rfl rfl hc7) rfl rfl ?_
        refine wpR_pass (wantN rfl rfl rfl hc7) rfl rfl ?_
        refine wpR_val (v := (Value.bool false)) (w' := w2) rfl rfl rfl (x_pickF (v := (Value.bool false)) rfl rfl hc7 rfl) ?_
        refine wpR_nil ?_
        exact ⟨false, ⟨rfl, e0, e1, trivial⟩, h⟩
    clear h
    rintro c10 ρ w5 ⟨e23, e0, e1, -⟩ h
    replace h := hk c10 w5 h
    clear hk
    refine wpR_val (v := (Value.bool c10)) (w' := w5) rfl rfl rfl (x_move (v := (Value.bool c10)) rfl e23) ?_
    obtain ⟨J11, h, hk⟩ := h
    refine wpR_joinJ 8 (fun x ρ => ρ 32 = Value.bool x ∧ ρ 0 = (Sl.v p0) ∧ ρ 1 = (Sl.v p1) ∧ True) (J11) ?_ ?_
    · clear hk
      rcases Bool.eq_false_or_eq_true (c10) with hc12 | hc12
      · replace h := h.1 hc12
        refine wpR_val (v := (Sl.v p0)) (w' := w5) (wantG rfl rfl rfl hc12) rfl rfl (x_move (v := (Sl.v p0)) rfl e0) ?_
        refine wpR_val (v := (Sl.v p1)) (w' := w5) (wantG rfl rfl rfl hc12) rfl rfl (x_move (v := (Sl.v p1)) rfl e1) ?_
        refine wpR_enter (wantG rfl rfl rfl hc12) rfl rfl (x_call (vs := [(Sl.v p0), (Sl.v p1)]) rfl rfl (mapl_cons rfl (mapl_cons rfl mapl_nil)) Try.func13 NN_13 NB_13) (Calls.mono h ?_)
        rintro _ w6 ⟨r13, rfl, h⟩
        refine ⟨_, rfl, ?_⟩
        refine wpR_val (v := (Sl.v p0)) (w' := w6) (wantG rfl rfl rfl hc12) rfl rfl (x_move (v := (Sl.v p0)) rfl e0) ?_
        refine wpR_val (v := (Sl.v p1)) (w' := w6) (wantG rfl rfl rfl hc12) rfl rfl (x_move (v := (Sl.v p1)) rfl e1) ?_
        refine wpR_enter (wantG rfl rfl rfl hc12) rfl rfl (x_call (vs := [(Sl.v p0), (Sl.v p1)]) rfl rfl (mapl_cons rfl (mapl_cons rfl mapl_nil)) Try.func14 NN_14 NB_14) (Calls.mono h ?_)
        rintro _ w7 ⟨r14, rfl, h⟩
        refine ⟨_, rfl, ?_⟩
        refine wpR_enter (wantG rfl rfl rfl hc12) rfl rfl (x_call (vs := [(Sl.v r13), (Sl.v r14)]) rfl rfl (mapl_cons rfl (mapl_cons rfl mapl_nil)) Try.func12 NN_12 NB_12) (Calls.mono h ?_)
        rintro _ w8 ⟨r15, rfl, h⟩
        refine ⟨_, rfl, ?_⟩
        refine wpR_val (v := (Value.bool r15)) (w' := w8) rfl rfl rfl (x_pickT (v := (Value.bool r15)) rfl rfl hc12 rfl) ?_
        refine wpR_nil ?_
        exact ⟨r15, ⟨rfl, e0, e1, trivial⟩, h⟩
      · replace h := h.2 hc12
        refine wpR_pass (wantN rfl rfl rfl hc12) rfl rfl ?_
        refine wpR_pass (wantN rfl rfl rfl hc12) rfl rfl ?_
        refine wpR_pass (wantN rfl rfl rfl hc12) rfl rfl ?_
        refine wpR_pass (wantN rfl rfl rfl hc12) rfl rfl ?_
        refine wpR_pass (wantN rfl rfl rfl hc12) rfl rfl ?_
        refine wpR_pass (wantN rfl rfl rfl hc12) rfl rfl ?_
        refine wpR_pass (wantN rfl rfl rfl hc12) rfl rfl ?_
        refine wpR_val (v := (Value.bool false)) (w' := w5) rfl rfl rfl (x_pickF (v := (Value.bool false)) rfl rfl hc12 rfl) ?_
        refine wpR_nil ?_
        exact ⟨false, ⟨rfl, e0, e1, trivial⟩, h⟩
    clear h
    rintro c16 ρ w9 ⟨e32, e0, e1, -⟩ h
    replace h := hk c16 w9 h
    clear hk
    refine wpR_val (v := (Value.bool c16)) (w' := w9) rfl rfl rfl (x_move (v := (Value.bool c16)) rfl e32) ?_
    obtain ⟨J17, h, hk⟩ := h
    refine wpR_joinJ 8 (fun x ρ => ρ 41 = Value.bool x ∧ ρ 0 = (Sl.v p0) ∧ ρ 1 = (Sl.v p1) ∧ True) (J17) ?_ ?_
    · clear hk
      rcases Bool.eq_false_or_eq_true (c16) with hc18 | hc18
      · replace h := h.1 hc18
        refine wpR_val (v := (Sl.v p0)) (w' := w9) (wantG rfl rfl rfl hc18) rfl rfl (x_move (v := (Sl.v p0)) rfl e0) ?_
        refine wpR_val (v := (Sl.v p1)) (w' := w9) (wantG rfl rfl rfl hc18) rfl rfl (x_move (v := (Sl.v p1)) rfl e1) ?_
        refine wpR_enter (wantG rfl rfl rfl hc18) rfl rfl (x_call (vs := [(Sl.v p0), (Sl.v p1)]) rfl rfl (mapl_cons rfl (mapl_cons rfl mapl_nil)) Try.func15 NN_15 NB_15) (Calls.mono h ?_)
        rintro _ w10 ⟨r19, rfl, h⟩
        refine ⟨_, rfl, ?_⟩
        refine wpR_val (v := (Sl.v p0)) (w' := w10) (wantG rfl rfl rfl hc18) rfl rfl (x_move (v := (Sl.v p0)) rfl e0) ?_
        refine wpR_val (v := (Sl.v p1)) (w' := w10) (wantG rfl rfl rfl hc18) rfl rfl (x_move (v := (Sl.v p1)) rfl e1) ?_
        refine wpR_enter (wantG rfl rfl rfl hc18) rfl rfl (x_call (vs := [(Sl.v p0), (Sl.v p1)]) rfl rfl (mapl_cons rfl (mapl_cons rfl mapl_nil)) Try.func16 NN_16 NB_16) (Calls.mono h ?_)
        rintro _ w11 ⟨r20, rfl, h⟩
        refine ⟨_, rfl, ?_⟩
        refine wpR_enter (wantG rfl rfl rfl hc18) rfl rfl (x_call (vs := [(Sl.v r19), (Sl.v r20)]) rfl rfl (mapl_cons rfl (mapl_cons rfl mapl_nil)) Try.func12 NN_12 NB_12) (Calls.mono h ?_)
        rintro _ w12 ⟨r21, rfl, h⟩
        refine ⟨_, rfl, ?_⟩
        refine wpR_val (v := (Value.bool r21)) (w' := w12) rfl rfl rfl (x_pickT (v := (Value.bool r21)) rfl rfl hc18 rfl) ?_
        refine wpR_nil ?_
        exact ⟨r21, ⟨rfl, e0, e1, trivial⟩, h⟩
      · replace h := h.2 hc18
        refine wpR_pass (wantN rfl rfl rfl hc18) rfl rfl ?_
        refine wpR_pass (wantN rfl rfl rfl hc18) rfl rfl ?_
        refine wpR_pass (wantN rfl rfl rfl hc18) rfl rfl ?_
        refine wpR_pass (wantN rfl rfl rfl hc18) rfl rfl ?_
        refine wpR_pass (wantN rfl rfl rfl hc18) rfl rfl ?_
        refine wpR_pass (wantN rfl rfl rfl hc18) rfl rfl ?_
        refine wpR_pass (wantN rfl rfl rfl hc18) rfl rfl ?_
        refine wpR_val (v := (Value.bool false)) (w' := w9) rfl rfl rfl (x_pickF (v := (Value.bool false)) rfl rfl hc18 rfl) ?_
        refine wpR_nil ?_
        exact ⟨false, ⟨rfl, e0, e1, trivial⟩, h⟩
    clear h
    rintro c22 ρ w13 ⟨e41, e0, e1, -⟩ h
    replace h := hk c22 w13 h
    clear hk
    refine wpR_val (v := (Value.bool c22)) (w' := w13) rfl rfl rfl (x_move (v := (Value.bool c22)) rfl e41) ?_
    obtain ⟨J23, h, hk⟩ := h
    refine wpR_joinJ 8 (fun x ρ => ρ 50 = Value.bool x ∧ True) (J23) ?_ ?_
    · clear hk
      rcases Bool.eq_false_or_eq_true (c22) with hc24 | hc24
      · replace h := h.1 hc24
        refine wpR_val (v := (Sl.v p0)) (w' := w13) (wantG rfl rfl rfl hc24) rfl rfl (x_move (v := (Sl.v p0)) rfl e0) ?_
        refine wpR_val (v := (Sl.v p1)) (w' := w13) (wantG rfl rfl rfl hc24) rfl rfl (x_move (v := (Sl.v p1)) rfl e1) ?_
        refine wpR_enter (wantG rfl rfl rfl hc24) rfl rfl (x_call (vs := [(Sl.v p0), (Sl.v p1)]) rfl rfl (mapl_cons rfl (mapl_cons rfl mapl_nil)) Try.func17 NN_17 NB_17) (Calls.mono h ?_)
        rintro _ w14 ⟨r25, rfl, h⟩
        refine ⟨_, rfl, ?_⟩
        refine wpR_val (v := (Sl.v p0)) (w' := w14) (wantG rfl rfl rfl hc24) rfl rfl (x_move (v := (Sl.v p0)) rfl e0) ?_
        refine wpR_val (v := (Sl.v p1)) (w' := w14) (wantG rfl rfl rfl hc24) rfl rfl (x_move (v := (Sl.v p1)) rfl e1) ?_
        refine wpR_enter (wantG rfl rfl rfl hc24) rfl rfl (x_call (vs := [(Sl.v p0), (Sl.v p1)]) rfl rfl (mapl_cons rfl (mapl_cons rfl mapl_nil)) Try.func18 NN_18 NB_18) (Calls.mono h ?_)
        rintro _ w15 ⟨r26, rfl, h⟩
        refine ⟨_, rfl, ?_⟩
        refine wpR_enter (wantG rfl rfl rfl hc24) rfl rfl (x_call (vs := [(Sl.v r25), (Sl.v r26)]) rfl rfl (mapl_cons rfl (mapl_cons rfl mapl_nil)) Try.func12 NN_12 NB_12) (Calls.mono h ?_)
        rintro _ w16 ⟨r27, rfl, h⟩
        refine ⟨_, rfl, ?_⟩
        refine wpR_val (v := (Value.bool r27)) (w' := w16) rfl rfl rfl (x_pickT (v := (Value.bool r27)) rfl rfl hc24 rfl) ?_
        refine wpR_nil ?_
        exact ⟨r27, ⟨rfl, trivial⟩, h⟩
      · replace h := h.2 hc24
        refine wpR_pass (wantN rfl rfl rfl hc24) rfl rfl ?_
        refine wpR_pass (wantN rfl rfl rfl hc24) rfl rfl ?_
        refine wpR_pass (wantN rfl rfl rfl hc24) rfl rfl ?_
        refine wpR_pass (wantN rfl rfl rfl hc24) rfl rfl ?_
        refine wpR_pass (wantN rfl rfl rfl hc24) rfl rfl ?_
        refine wpR_pass (wantN rfl rfl rfl hc24) rfl rfl ?_
        refine wpR_pass (wantN rfl rfl rfl hc24) rfl rfl ?_
        refine wpR_val (v := (Value.bool false)) (w' := w13) rfl rfl rfl (x_pickF (v := (Value.bool false)) rfl rfl hc24 rfl) ?_
        refine wpR_nil ?_
        exact ⟨false, ⟨rfl, trivial⟩, h⟩
    clear h
    rintro c28 ρ w17 ⟨e50, -⟩ h
    replace h := hk c28 w17 h
    clear hk
    refine wpR_val (v := (Value.bool c28)) (w' := w17) rfl rfl rfl (x_assign (v := (Value.bool c28)) rfl e50) ?_
    refine wpR_nil ?_
    refine wpC_ret ?_
    exact ⟨.inl rfl, fun a ha => ⟨_, results_rep1 rfl ha rfl, c28, rfl, h⟩⟩

/-- lingualaw41.PlacesReach -/
def F4 (p0 : Sl) (p1 : Sl) (p2 : Sl) (w0 : World) (K : Bool → World → Prop) : Prop :=
  callC Try.prog 8 #[] (fun (r : Bool) => (Value.bool r)) w0 fun r1 w1 =>
  callC Try.prog 9 #[(Sl.v p0), (Value.int .i64 30)] (fun (r : Bool) => (Value.bool r)) w1 fun r2 w2 =>
  jn (fun J7 => cnd (((!r2) || (decide (40 < (p1.len : Int)))) || (decide (40 < (p2.len : Int))))
    (
    J7 true w2
    )
    (
    callC Try.prog 10 #[(Sl.v p0)] (fun (r : Bool) => (Value.bool r)) w2 fun r9 w3 =>
    J7 (!r9) w3
    ))
  fun c10 w4 =>
  cnd (c10)
    (
    K r1 w4
    )
    (
    callC Try.prog 13 #[(Sl.v p0), (Sl.v p1)] (fun (r : Sl) => (Sl.v r)) w4 fun r12 w5 =>
    lp (fun (next13 : Int → World → Prop) l13 w6 =>
      cnd (decide (l13 < (r12.len : Int)))
        (
        jn (fun (J16 : Bool → World → Prop) => tk w6 fun w7 =>
          ix r12 l13 1 fun p17 =>
          ld (Value.int .i64) p17 w7 fun x18 =>
          cnd (decide (x18 < 0))
            (
            cnd (true)
              (
              J16 true w7
              )
              (
              cnd (decide (0 < l13))
                (
                ix r12 (IntKind.i64.wrap (l13 - 1)) 1 fun p22 =>
                ld (Value.int .i64) p22 w7 fun x23 =>
                ix r12 l13 1 fun p24 =>
                ld (Value.int .i64) p24 w7 fun x25 =>
                J16 (decide (x25 ≤ x23)) w7
                )
                (
                J16 false w7
                )
              )
            )
            (
            ix r12 l13 1 fun p26 =>
            ld (Value.int .i64) p26 w7 fun x27 =>
            cnd (decide ((p0.len : Int) ≤ x27))
              (
              J16 true w7
              )
              (
              cnd (decide (0 < l13))
                (
                ix r12 (IntKind.i64.wrap (l13 - 1)) 1 fun p30 =>
                ld (Value.int .i64) p30 w7 fun x31 =>
                ix r12 l13 1 fun p32 =>
                ld (Value.int .i64) p32 w7 fun x33 =>
                J16 (decide (x33 ≤ x31)) w7
                )
                (
                J16 false w7
                )
              )
            )
        )
        fun l34 w8 =>
        cnd (l34)
          (
          K false w8
          )
          (
          next13 (IntKind.i64.wrap (l13 + 1)) w8
          )
        )
        (
        lp (fun (next36 : (Bool × Int) → World → Prop) l36 w9 =>
          cnd (decide (l36.2 < (p1.len : Int)))
            (
            jn (fun (J38 : Bool → World → Prop) =>
              ix p1 l36.2 1 fun p40 =>
              ld (Value.int .i64) p40 w9 fun x41 =>
              jp (fun J42 => cnd (decide (x41 < 0))
                (
                J42 true
                )
                (
                ix p1 l36.2 1 fun p44 =>
                ld (Value.int .i64) p44 w9 fun x45 =>
                J42 (decide ((p0.len : Int) ≤ x45))
                ))
              fun c46 =>
              cnd (c46)
                (
                J38 l36.1 w9
                )
                (
                ix p1 l36.2 1 fun p48 =>
                ld (Value.int .i64) p48 w9 fun x49 =>
                callC Try.prog 19 #[(Sl.v r12), (Value.int .i64 x49)] (fun (r : Bool) => (Value.bool r)) w9 fun r50 w11 =>
                cnd (!r50)
                  (
                  K false w11
                  )
                  (
                  jn (fun J52 => cnd (l36.1)
                    (
                    ix p1 l36.2 1 fun p54 =>
                    ld (Value.int .i64) p54 w11 fun x55 =>
                    callC Try.prog 19 #[(Sl.v p2), (Value.int .i64 x55)] (fun (r : Bool) => (Value.bool r)) w11 fun r56 w12 =>
                    J52 r56 w12
                    )
                    (
                    J52 false w11
                    ))
                  fun c57 w13 =>
                  J38 c57 w13
                  )
                )
            )
            fun l39 w10 =>
            next36 (l39, IntKind.i64.wrap (l36.2 + 1)) w10
            )
            (
            callC Try.prog 20 #[(Sl.v p0), (Sl.v r12)] (fun (r : Bool) => (Value.bool r)) w9 fun r58 w14 =>
            cnd (!r58)
              (
              K false w14
              )
              (
              lp (fun (next60 : Int → World → Prop) l60 w15 =>
                cnd (decide (l60 < (r12.len : Int)))
                  (
                  ix r12 l60 1 fun p62 =>
                  ld (Value.int .i64) p62 w15 fun x63 =>
                  callC Try.prog 19 #[(Sl.v p1), (Value.int .i64 x63)] (fun (r : Bool) => (Value.bool r)) w15 fun r64 w16 =>
                  ix r12 l60 1 fun p65 =>
                  ld (Value.int .i64) p65 w16 fun x66 =>
                  ix p0 x66 3 fun p67 =>
                  ld Sl.v (p67.add 2) w16 fun x68 =>
                  lp (fun (next69 : (Bool × Int) → World → Prop) l69 w17 =>
                    cnd (decide (l69.2 < (x68.len : Int)))
                      (
                      jn (fun J71 => cnd (l69.1)
                        (
                        J71 true w17
                        )
                        (
                        ix x68 l69.2 1 fun p73 =>
                        ld (Value.int .i64) p73 w17 fun x74 =>
                        callC Try.prog 19 #[(Sl.v r12), (Value.int .i64 x74)] (fun (r : Bool) => (Value.bool r)) w17 fun r75 w18 =>
                        J71 r75 w18
                        ))
                      fun c76 w19 =>
                      next69 (c76, IntKind.i64.wrap (l69.2 + 1)) w19
                      )
                      (
                      cnd (!l69.1)
                        (
                        K false w17
                        )
                        (
                        jn (fun J78 => cnd (l36.1)
                          (
                          callC Try.prog 20 #[(Sl.v p0), (Sl.v p2)] (fun (r : Bool) => (Value.bool r)) w17 fun r80 w20 =>
                          J78 r80 w20
                          )
                          (
                          J78 false w17
                          ))
                        fun c81 w21 =>
                        jn (fun J82 => cnd (c81)
                          (
                          ix r12 l60 1 fun p84 =>
                          ld (Value.int .i64) p84 w21 fun x85 =>
                          callC Try.prog 19 #[(Sl.v p2), (Value.int .i64 x85)] (fun (r : Bool) => (Value.bool r)) w21 fun r86 w22 =>
                          J82 (!r86) w22
                          )
                          (
                          J82 false w21
                          ))
                        fun c87 w23 =>
                        cnd (c87)
                          (
                          K false w23
                          )
                          (
                          next60 (IntKind.i64.wrap (l60 + 1)) w23
                          )
                        )
                      )
                  ) (r64, 0) w16
                  )
                  (
                  K r1 w15
                  )
              ) 0 w14
              )
            )
        ) (true, 0) w6
        )
    ) 0 w5
    )
set_option maxRecDepth 100000 in
theorem D4 (p0 : Sl) (p1 : Sl) (p2 : Sl) (w0 : World) (K : Bool → World → Prop) (h : F4 p0 p1 p2 w0 K) : callC Try.prog 4 #[(Sl.v p0), (Sl.v p1), (Sl.v p2)] (fun (r : Bool) => (Value.bool r)) w0 K := by
  unfold F4 at h
  refine calls_of_wpC Try.func4 rfl 168 rfl (by simp) ?_
  intro ρ hρ
  have e0 : ρ 0 = (Sl.v p0) := hρ 0
  have e1 : ρ 1 = (Sl.v p1) := hρ 1
  have e2 : ρ 2 = (Sl.v p2) := hρ 2
  clear hρ
  refine wpC_seq ?_
  refine wpC_region ?_
  refine wpR_val (v := (Value.bool false)) (w' := w0) rfl rfl rfl (x_assign (v := (Value.bool false)) rfl rfl) ?_
  refine wpR_nil ?_
  refine wpC_seq ?_
  refine wpC_cut (fun ρ => ρ 0 = (Sl.v p0) ∧ ρ 1 = (Sl.v p1) ∧ ρ 2 = (Sl.v p2) ∧ True) ⟨e0, e1, e2, trivial⟩ ?_
  rintro ρ ⟨e0, e1, e2, -⟩
  refine wpC_region ?_
  refine wpR_enter rfl rfl rfl (x_call (vs := []) rfl rfl mapl_nil Try.func8 NN_8 NB_8) (Calls.mono h ?_)
  rintro _ w1 ⟨r1, rfl, h⟩
  refine ⟨_, rfl, ?_⟩
  refine wpR_val (v := (Value.bool r1)) (w' := w1) rfl rfl rfl (x_assign (v := (Value.bool r1)) rfl rfl) ?_
  refine wpR_nil ?_
  refine wpC_seq ?_
  refine wpC_seq ?_
  refine wpC_cut (fun ρ => ρ 0 = (Sl.v p0) ∧ ρ 1 = (Sl.v p1) ∧ ρ 2 = (Sl.v p2) ∧ ρ 7 = (Value.bool r1) ∧ True) ⟨e0, e1, e2, rfl, trivial⟩ ?_
  rintro ρ ⟨e0, e1, e2, e7, -⟩
  refine wpC_region ?_
  refine wpR_val (v := (Sl.v p0)) (w' := w1) rfl rfl rfl (x_move (v := (Sl.v p0)) rfl e0) ?_
  refine wpR_enter rfl rfl rfl (x_call (vs := [(Sl.v p0), (Value.int .i64 30)]) rfl rfl (mapl_cons rfl (mapl_cons rfl mapl_nil)) Try.func9 NN_9 NB_9) (Calls.mono h ?_)
  rintro _ w2 ⟨r2, rfl, h⟩
  refine ⟨_, rfl, ?_⟩
  refine wpR_val (v := (Value.bool (!r2))) (w' := w2) rfl rfl rfl (x_not rfl rfl) ?_
  refine wpR_val (v := (Value.bool (!r2))) (w' := w2) rfl rfl rfl (x_move (v := (Value.bool (!r2))) rfl rfl) ?_
  refine wpR_joinJ 4 (fun (_ : Unit) ρ => ρ 24 = Value.bool ((!r2) || (decide (40 < (p1.len : Int)))) ∧ ρ 0 = (Sl.v p0) ∧ ρ 1 = (Sl.v p1) ∧ ρ 2 = (Sl.v p2) ∧ ρ 7 = (Value.bool r1) ∧ True) (fun _ w => w2 = w) ?_ ?_
  · clear h
    rcases Bool.eq_false_or_eq_true (!r2) with hc4 | hc4
    · skip
      refine wpR_pass (wantN rfl rfl rfl hc4) rfl rfl ?_
      refine wpR_pass (wantN rfl rfl rfl hc4) rfl rfl ?_
      refine wpR_pass (wantN rfl rfl rfl hc4) rfl rfl ?_
      refine wpR_val (v := (Value.bool true)) (w' := w2) rfl rfl rfl (x_pickT (v := (Value.bool true)) rfl rfl hc4 rfl) ?_
      refine wpR_nil ?_
      exact ⟨(), ⟨(by rw [hc4]; rfl), e0, e1, e2, e7, trivial⟩, rfl⟩
    · skip
      refine wpR_val (v := (Sl.v p1)) (w' := w2) (wantG rfl rfl rfl hc4) rfl rfl (x_move (v := (Sl.v p1)) rfl e1) ?_
      refine wpR_val (v := (Value.int .i64 (p1.len : Int))) (w' := w2) (wantG rfl rfl rfl hc4) rfl rfl (x_lenS (s := p1) rfl rfl isSliceT_23) ?_
      refine wpR_val (v := (Value.bool (decide (40 < (p1.len : Int))))) (w' := w2) (wantG rfl rfl rfl hc4) rfl rfl (x_gtr rfl rfl rfl) ?_
      refine wpR_val (v := (Value.bool (decide (40 < (p1.len : Int))))) (w' := w2) rfl rfl rfl (x_pickF (v := (Value.bool (decide (40 < (p1.len : Int))))) rfl rfl hc4 rfl) ?_
      refine wpR_nil ?_
      exact ⟨(), ⟨(by rw [hc4]; rfl), e0, e1, e2, e7, trivial⟩, rfl⟩
  rintro _ ρ wj ⟨e24, e0, e1, e2, e7, -⟩ rfl
  refine wpR_val (v := (Value.bool ((!r2) || (decide (40 < (p1.len : Int)))))) (w' := w2) rfl rfl rfl (x_move (v := (Value.bool ((!r2) || (decide (40 < (p1.len : Int)))))) rfl e24) ?_
  refine wpR_joinJ 4 (fun (_ : Unit) ρ => ρ 29 = Value.bool (((!r2) || (decide (40 < (p1.len : Int)))) || (decide (40 < (p2.len : Int)))) ∧ ρ 0 = (Sl.v p0) ∧ ρ 1 = (Sl.v p1) ∧ ρ 2 = (Sl.v p2) ∧ ρ 7 = (Value.bool r1) ∧ True) (fun _ w => w2 = w) ?_ ?_
  · clear h
    rcases Bool.eq_false_or_eq_true ((!r2) || (decide (40 < (p1.len : Int)))) with hc6 | hc6
    · skip
      refine wpR_pass (wantN rfl rfl rfl hc6) rfl rfl ?_
      refine wpR_pass (wantN rfl rfl rfl hc6) rfl rfl ?_
      refine wpR_pass (wantN rfl rfl rfl hc6) rfl rfl ?_
      refine wpR_val (v := (Value.bool true)) (w' := w2) rfl rfl rfl (x_pickT (v := (Value.bool true)) rfl rfl hc6 rfl) ?_
      refine wpR_nil ?_
      exact ⟨(), ⟨(by rw [hc6]; rfl), e0, e1, e2, e7, trivial⟩, rfl⟩
    · skip
      refine wpR_val (v := (Sl.v p2)) (w' := w2) (wantG rfl rfl rfl hc6) rfl rfl (x_move (v := (Sl.v p2)) rfl e2) ?_
      refine wpR_val (v := (Value.int .i64 (p2.len : Int))) (w' := w2) (wantG rfl rfl rfl hc6) rfl rfl (x_lenS (s := p2) rfl rfl isSliceT_23) ?_
      refine wpR_val (v := (Value.bool (decide (40 < (p2.len : Int))))) (w' := w2) (wantG rfl rfl rfl hc6) rfl rfl (x_gtr rfl rfl rfl) ?_
      refine wpR_val (v := (Value.bool (decide (40 < (p2.len : Int))))) (w' := w2) rfl rfl rfl (x_pickF (v := (Value.bool (decide (40 < (p2.len : Int))))) rfl rfl hc6 rfl) ?_
      refine wpR_nil ?_
      exact ⟨(), ⟨(by rw [hc6]; rfl), e0, e1, e2, e7, trivial⟩, rfl⟩
  rintro _ ρ wj ⟨e29, e0, e1, e2, e7, -⟩ rfl
  refine wpR_val (v := (Value.bool (((!r2) || (decide (40 < (p1.len : Int)))) || (decide (40 < (p2.len : Int)))))) (w' := w2) rfl rfl rfl (x_move (v := (Value.bool (((!r2) || (decide (40 < (p1.len : Int)))) || (decide (40 < (p2.len : Int)))))) rfl e29) ?_
  obtain ⟨J7, h, hk⟩ := h
  refine wpR_joinJ 4 (fun x ρ => ρ 34 = Value.bool x ∧ ρ 0 = (Sl.v p0) ∧ ρ 1 = (Sl.v p1) ∧ ρ 2 = (Sl.v p2) ∧ ρ 7 = (Value.bool r1) ∧ True) (J7) ?_ ?_
  · clear hk
    rcases Bool.eq_false_or_eq_true (((!r2) || (decide (40 < (p1.len : Int)))) || (decide (40 < (p2.len : Int)))) with hc8 | hc8
    · replace h := h.1 hc8
      refine wpR_pass (wantN rfl rfl rfl hc8) rfl rfl ?_
      refine wpR_pass (wantN rfl rfl rfl hc8) rfl rfl ?_
      refine wpR_pass (wantN rfl rfl rfl hc8) rfl rfl ?_
      refine wpR_val (v := (Value.bool true)) (w' := w2) rfl rfl rfl (x_pickT (v := (Value.bool true)) rfl rfl hc8 rfl) ?_
      refine wpR_nil ?_
      exact ⟨true, ⟨rfl, e0, e1, e2, e7, trivial⟩, h⟩
    · replace h := h.2 hc8
      refine wpR_val (v := (Sl.v p0)) (w' := w2) (wantG rfl rfl rfl hc8) rfl rfl (x_move (v := (Sl.v p0)) rfl e0) ?_
      refine wpR_enter (wantG rfl rfl rfl hc8) rfl rfl (x_call (vs := [(Sl.v p0)]) rfl rfl (mapl_cons rfl mapl_nil) Try.func10 NN_10 NB_10) (Calls.mono h ?_)
      rintro _ w3 ⟨r9, rfl, h⟩
      refine ⟨_, rfl, ?_⟩
      refine wpR_val (v := (Value.bool (!r9))) (w' := w3) (wantG rfl rfl rfl hc8) rfl rfl (x_not rfl rfl) ?_
      refine wpR_val (v := (Value.bool (!r9))) (w' := w3) rfl rfl rfl (x_pickF (v := (Value.bool (!r9))) rfl rfl hc8 rfl) ?_
      refine wpR_nil ?_
      exact ⟨!r9, ⟨rfl, e0, e1, e2, e7, trivial⟩, h⟩
  clear h
  rintro c10 ρ w4 ⟨e34, e0, e1, e2, e7, -⟩ h
  replace h := hk c10 w4 h
  clear hk
  refine wpR_nil ?_
  refine wpC_cond (b := c10) e34 (fun hc11 => ?_) (fun hc11 => ?_)
  · replace h := h.1 hc11
    refine wpC_seq ?_
    refine wpC_region ?_
    refine wpR_val (v := (Value.bool r1)) (w' := w4) rfl rfl rfl (x_move (v := (Value.bool r1)) rfl e7) ?_
    refine wpR_val (v := (Value.bool r1)) (w' := w4) rfl rfl rfl (x_assign (v := (Value.bool r1)) rfl rfl) ?_
    refine wpR_nil ?_
    refine wpC_ret ?_
    exact ⟨.inl rfl, fun a ha => ⟨_, results_rep1 rfl ha rfl, r1, rfl, h⟩⟩
  · replace h := h.2 hc11
    refine wpC_skip ?_
    refine wpC_seq ?_
    refine wpC_region ?_
    refine wpR_val (v := (Sl.v p0)) (w' := w4) rfl rfl rfl (x_move (v := (Sl.v p0)) rfl e0) ?_
    refine wpR_val (v := (Sl.v p1)) (w' := w4) rfl rfl rfl (x_move (v := (Sl.v p1)) rfl e1) ?_
    refine wpR_enter rfl rfl rfl (x_call (vs := [(Sl.v p0), (Sl.v p1)]) rfl rfl (mapl_cons rfl (mapl_cons rfl mapl_nil)) Try.func13 NN_13 NB_13) (Calls.mono h ?_)
    rintro _ w5 ⟨r12, rfl, h⟩
    refine ⟨_, rfl, ?_⟩
    refine wpR_val (v := (Sl.v r12)) (w' := w5) rfl rfl rfl (x_assign (v := (Sl.v r12)) rfl rfl) ?_
    refine wpR_nil ?_
    refine wpC_seq ?_
    refine wpC_seq ?_
    refine wpC_cut (fun ρ => ρ 0 = (Sl.v p0) ∧ ρ 1 = (Sl.v p1) ∧ ρ 2 = (Sl.v p2) ∧ ρ 7 = (Value.bool r1) ∧ ρ 8 = (Sl.v r12) ∧ True) ⟨e0, e1, e2, e7, rfl, trivial⟩ ?_
    rintro ρ ⟨e0, e1, e2, e7, e8, -⟩
    refine wpC_region ?_
    refine wpR_val (v := (Value.int .i64 0)) (w' := w5) rfl rfl rfl (x_assign (v := (Value.int .i64 0)) rfl rfl) ?_
    refine wpR_nil ?_
    refine wpC_block ?_
    obtain ⟨I13, μ13, hI13, hr13⟩ := h
    refine wpC_loop (fun (x : Int) ρ => ρ 9 = (Value.int .i64 x) ∧ ρ 0 = (Sl.v p0) ∧ ρ 1 = (Sl.v p1) ∧ ρ 2 = (Sl.v p2) ∧ ρ 7 = (Value.bool r1) ∧ ρ 8 = (Sl.v r12) ∧ True) I13 μ13 0 ⟨rfl, e0, e1, e2, e7, e8, trivial⟩ hI13 ?_
    rintro l13 ρ w6 ⟨e9, e0, e1, e2, e7, e8, -⟩ h
    replace h := hr13 l13 w6 h
    clear hr13 hI13
    refine wpC_seq ?_
    refine wpC_seq ?_
    refine wpC_region ?_
    refine wpR_val (v := (Value.int .i64 l13)) (w' := w6) rfl rfl rfl (x_move (v := (Value.int .i64 l13)) rfl e9) ?_
    refine wpR_val (v := (Sl.v r12)) (w' := w6) rfl rfl rfl (x_move (v := (Sl.v r12)) rfl e8) ?_
    refine wpR_val (v := (Value.int .i64 (r12.len : Int))) (w' := w6) rfl rfl rfl (x_lenS (s := r12) rfl rfl isSliceT_23) ?_
    refine wpR_val (v := (Value.bool (decide (l13 < (r12.len : Int))))) (w' := w6) rfl rfl rfl (x_lss rfl rfl rfl) ?_
    refine wpR_nil ?_
    refine wpC_cond (b := decide (l13 < (r12.len : Int))) rfl (fun hc14 => ?_) (fun hc14 => ?_)
    · replace h := h.1 hc14
      refine wpC_skip ?_
      refine wpC_seq ?_
      refine wpC_block ?_
      refine wpC_seq ?_
      refine wpC_cut (fun ρ => ρ 0 = (Sl.v p0) ∧ ρ 1 = (Sl.v p1) ∧ ρ 2 = (Sl.v p2) ∧ ρ 7 = (Value.bool r1) ∧ ρ 8 = (Sl.v r12) ∧ ρ 9 = (Value.int .i64 l13) ∧ True) ⟨e0, e1, e2, e7, e8, e9, trivial⟩ ?_
      rintro ρ ⟨e0, e1, e2, e7, e8, e9, -⟩
      obtain ⟨J16, h, hk⟩ := h
      refine wpC_drawJ (by kernel_rfl) (fun (x : Bool) ρ => ρ 74 = (Value.bool x) ∧ ρ 0 = (Sl.v p0) ∧ ρ 1 = (Sl.v p1) ∧ ρ 2 = (Sl.v p2) ∧ ρ 7 = (Value.bool r1) ∧ ρ 8 = (Sl.v r12) ∧ ρ 9 = (Value.int .i64 l13) ∧ True) J16 ?_ ?_
      · clear hk
        unfold tk at h
        generalize w6.drew = w7 at h ⊢
        refine wpD_take (v := (Sl.v r12)) 0 (fun _ => True) rfl (by kernel_rfl) (by kernel_rfl) (by kernel_rfl) rfl rfl rfl trivial (fun w _ => (x_move (v := (Sl.v r12)) rfl e8)) ?_
        refine wpD_take (v := (Value.int .i64 l13)) 1 (fun _ => True) rfl (by kernel_rfl) (by kernel_rfl) (by kernel_rfl) rfl rfl rfl trivial (fun w _ => (x_move (v := (Value.int .i64 l13)) rfl e9)) ?_
        obtain ⟨q17, z17, r17, h⟩ := h
        generalize hp17 : z17.add ((l13).toNat * 1) = p17 at h
        refine wpD_take (v := (Value.pointer (some p17))) 2 (fun _ => True) rfl (by kernel_rfl) (by kernel_rfl) (by kernel_rfl) rfl rfl rfl trivial (fun w _ => ((x_indexAddr (s := r12) rfl rfl rfl ES_23 q17 r17).trans (by rw [hp17]))) ?_
        obtain ⟨x18, q18, h⟩ := h
        refine wpD_take (v := (Value.int .i64 x18)) 3 (fun w => w.cell? p17 = some (Value.int .i64 x18)) rfl (by kernel_rfl) (by kernel_rfl) (by kernel_rfl) rfl rfl rfl q18 (fun w q18 => (x_load1 rfl rfl SH_3 q18)) ?_
        refine wpD_take (v := (Value.bool (decide (x18 < 0)))) 4 (fun _ => True) rfl (by kernel_rfl) (by kernel_rfl) (by kernel_rfl) rfl rfl rfl trivial (fun w _ => (x_lss rfl rfl rfl)) ?_
        refine wpD_take (v := (Value.bool (decide (x18 < 0)))) 5 (fun _ => True) rfl (by kernel_rfl) (by kernel_rfl) (by kernel_rfl) rfl rfl rfl trivial (fun w _ => (x_move (v := (Value.bool (decide (x18 < 0)))) rfl rfl)) ?_
        rcases Bool.eq_false_or_eq_true (decide (x18 < 0)) with hc19 | hc19
        · replace h := h.1 hc19
          refine wpD_pass 6 rfl (by kernel_rfl) (by kernel_rfl) (by kernel_rfl) (wantN rfl rfl rfl hc19) rfl rfl ?_
          refine wpD_pass 7 rfl (by kernel_rfl) (by kernel_rfl) (by kernel_rfl) (wantN rfl rfl rfl hc19) rfl rfl ?_
          refine wpD_pass 8 rfl (by kernel_rfl) (by kernel_rfl) (by kernel_rfl) (wantN rfl rfl rfl hc19) rfl rfl ?_
          refine wpD_pass 9 rfl (by kernel_rfl) (by kernel_rfl) (by kernel_rfl) (wantN rfl rfl rfl hc19) rfl rfl ?_
          refine wpD_pass 10 rfl (by kernel_rfl) (by kernel_rfl) (by kernel_rfl) (wantN rfl rfl rfl hc19) rfl rfl ?_
          refine wpD_pass 11 rfl (by kernel_rfl) (by kernel_rfl) (by kernel_rfl) (wantN rfl rfl rfl hc19) rfl rfl ?_
          refine wpD_pass 12 rfl (by kernel_rfl) (by kernel_rfl) (by kernel_rfl) (wantN rfl rfl rfl hc19) rfl rfl ?_
          refine wpD_take (v := (Value.bool true)) 13 (fun _ => True) rfl (by kernel_rfl) (by kernel_rfl) (by kernel_rfl) rfl rfl rfl trivial (fun w _ => (x_pickT (v := (Value.bool true)) rfl rfl hc19 rfl)) ?_
          refine wpD_take (v := (Value.bool true)) 14 (fun _ => True) rfl (by kernel_rfl) (by kernel_rfl) (by kernel_rfl) rfl rfl rfl trivial (fun w _ => (x_move (v := (Value.bool true)) rfl rfl)) ?_
          rcases Bool.eq_false_or_eq_true (true) with hc20 | hc20
          · replace h := h.1 hc20
            refine wpD_pass 15 rfl (by kernel_rfl) (by kernel_rfl) (by kernel_rfl) (wantN rfl rfl rfl hc20) rfl rfl ?_
            refine wpD_pass 16 rfl (by kernel_rfl) (by kernel_rfl) (by kernel_rfl) (wantN rfl rfl rfl hc20) rfl rfl ?_
            refine wpD_pass 17 rfl (by kernel_rfl) (by kernel_rfl) (by kernel_rfl) (wantN rfl rfl rfl hc20) rfl rfl ?_
            refine wpD_pass 18 rfl (by kernel_rfl) (by kernel_rfl) (by kernel_rfl) (wantU rfl rfl rfl) rfl rfl ?_
            refine wpD_pass 19 rfl (by kernel_rfl) (by kernel_rfl) (by kernel_rfl) (wantU rfl rfl rfl) rfl rfl ?_
            refine wpD_pass 20 rfl (by kernel_rfl) (by kernel_rfl) (by kernel_rfl) (wantU rfl rfl rfl) rfl rfl ?_
            refine wpD_pass 21 rfl (by kernel_rfl) (by kernel_rfl) (by kernel_rfl) (wantU rfl rfl rfl) rfl rfl ?_
            refine wpD_pass 22 rfl (by kernel_rfl) (by kernel_rfl) (by kernel_rfl) (wantU rfl rfl rfl) rfl rfl ?_
            refine wpD_pass 23 rfl (by kernel_rfl) (by kernel_rfl) (by kernel_rfl) (wantU rfl rfl rfl) rfl rfl ?_
            refine wpD_pass 24 rfl (by kernel_rfl) (by kernel_rfl) (by kernel_rfl) (wantU rfl rfl rfl) rfl rfl ?_
            refine wpD_pass 25 rfl (by kernel_rfl) (by kernel_rfl) (by kernel_rfl) (wantU rfl rfl rfl) rfl rfl ?_
            refine wpD_pass 26 rfl (by kernel_rfl) (by kernel_rfl) (by kernel_rfl) (wantU rfl rfl rfl) rfl rfl ?_
            refine wpD_pass 27 rfl (by kernel_rfl) (by kernel_rfl) (by kernel_rfl) (wantU rfl rfl rfl) rfl rfl ?_
            refine wpD_pass 28 rfl (by kernel_rfl) (by kernel_rfl) (by kernel_rfl) (wantN rfl rfl rfl hc20) rfl rfl ?_
            refine wpD_take (v := (Value.bool true)) 29 (fun _ => True) rfl (by kernel_rfl) (by kernel_rfl) (by kernel_rfl) rfl rfl rfl trivial (fun w _ => (x_pickT (v := (Value.bool true)) rfl rfl hc20 rfl)) ?_
            exact wpD_done (by kernel_rfl) ⟨true, ⟨rfl, e0, e1, e2, e7, e8, e9, trivial⟩, h⟩
          · replace h := h.2 hc20
            refine wpD_take (v := (Value.int .i64 l13)) 15 (fun _ => True) rfl (by kernel_rfl) (by kernel_rfl) (by kernel_rfl) (wantG rfl rfl rfl hc20) rfl rfl trivial (fun w _ => (x_move (v := (Value.int .i64 l13)) rfl e9)) ?_
            refine wpD_take (v := (Value.bool (decide (0 < l13)))) 16 (fun _ => True) rfl (by kernel_rfl) (by kernel_rfl) (by kernel_rfl) (wantG rfl rfl rfl hc20) rfl rfl trivial (fun w _ => (x_gtr rfl rfl rfl)) ?_
            refine wpD_take (v := (Value.bool (decide (0 < l13)))) 17 (fun _ => True) rfl (by kernel_rfl) (by kernel_rfl) (by kernel_rfl) (wantG rfl rfl rfl hc20) rfl rfl trivial (fun w _ => (x_move (v := (Value.bool (decide (0 < l13)))) rfl rfl)) ?_
            rcases Bool.eq_false_or_eq_true (decide (0 < l13)) with hc21 | hc21
            · replace h := h.1 hc21
              refine wpD_take (v := (Sl.v r12)) 18 (fun _ => True) rfl (by kernel_rfl) (by kernel_rfl) (by kernel_rfl) (wantG rfl rfl rfl hc21) rfl rfl trivial (fun w _ => (x_move (v := (Sl.v r12)) rfl e8)) ?_
              refine wpD_take (v := (Value.int .i64 l13)) 19 (fun _ => True) rfl (by kernel_rfl) (by kernel_rfl) (by kernel_rfl) (wantG rfl rfl rfl hc21) rfl rfl trivial (fun w _ => (x_move (v := (Value.int .i64 l13)) rfl e9)) ?_
              refine wpD_take (v := (Value.int .i64 (IntKind.i64.wrap (l13 - 1)))) 20 (fun _ => True) rfl (by kernel_rfl) (by kernel_rfl) (by kernel_rfl) (wantG rfl rfl rfl hc21) rfl rfl trivial (fun w _ => (x_sub rfl rfl rfl)) ?_
              obtain ⟨q22, z22, r22, h⟩ := h
              generalize hp22 : z22.add ((IntKind.i64.wrap (l13 - 1)).toNat * 1) = p22 at h
              refine wpD_take (v := (Value.pointer (some p22))) 21 (fun _ => True) rfl (by kernel_rfl) (by kernel_rfl) (by kernel_rfl) (wantG rfl rfl rfl hc21) rfl rfl trivial (fun w _ => ((x_indexAddr (s := r12) rfl rfl rfl ES_23 q22 r22).trans (by rw [hp22]))) ?_
              obtain ⟨x23, q23, h⟩ := h
              refine wpD_take (v := (Value.int .i64 x23)) 22 (fun w => w.cell? p22 = some (Value.int .i64 x23)) rfl (by kernel_rfl) (by kernel_rfl) (by kernel_rfl) (wantG rfl rfl rfl hc21) rfl rfl q23 (fun w q23 => (x_load1 rfl rfl SH_3 q23)) ?_
              refine wpD_take (v := (Sl.v r12)) 23 (fun _ => True) rfl (by kernel_rfl) (by kernel_rfl) (by kernel_rfl) (wantG rfl rfl rfl hc21) rfl rfl trivial (fun w _ => (x_move (v := (Sl.v r12)) rfl e8)) ?_
              refine wpD_take (v := (Value.int .i64 l13)) 24 (fun _ => True) rfl (by kernel_rfl) (by kernel_rfl) (by kernel_rfl) (wantG rfl rfl rfl hc21) rfl rfl trivial (fun w _ => (x_move (v := (Value.int .i64 l13)) rfl e9)) ?_
              obtain ⟨q24, z24, r24, h⟩ := h
              generalize hp24 : z24.add ((l13).toNat * 1) = p24 at h
              refine wpD_take (v := (Value.pointer (some p24))) 25 (fun _ => True) rfl (by kernel_rfl) (by kernel_rfl) (by kernel_rfl) (wantG rfl rfl rfl hc21) rfl rfl trivial (fun w _ => ((x_indexAddr (s := r12) rfl rfl rfl ES_23 q24 r24).trans (by rw [hp24]))) ?_
              obtain ⟨x25, q25, h⟩ := h
              refine wpD_take (v := (Value.int .i64 x25)) 26 (fun w => w.cell? p24 = some (Value.int .i64 x25)) rfl (by kernel_rfl) (by kernel_rfl) (by kernel_rfl) (wantG rfl rfl rfl hc21) rfl rfl q25 (fun w q25 => (x_load1 rfl rfl SH_3 q25)) ?_
              refine wpD_take (v := (Value.bool (decide (x25 ≤ x23)))) 27 (fun _ => True) rfl (by kernel_rfl) (by kernel_rfl) (by kernel_rfl) (wantG rfl rfl rfl hc21) rfl rfl trivial (fun w _ => (x_geq rfl rfl rfl)) ?_
              refine wpD_take (v := (Value.bool (decide (x25 ≤ x23)))) 28 (fun _ => True) rfl (by kernel_rfl) (by kernel_rfl) (by kernel_rfl) (wantG rfl rfl rfl hc20) rfl rfl trivial (fun w _ => (x_pickT (v := (Value.bool (decide (x25 ≤ x23)))) rfl rfl hc21 rfl)) ?_
              refine wpD_take (v := (Value.bool (decide (x25 ≤ x23)))) 29 (fun _ => True) rfl (by kernel_rfl) (by kernel_rfl) (by kernel_rfl) rfl rfl rfl trivial (fun w _ => (x_pickF (v := (Value.bool (decide (x25 ≤ x23)))) rfl rfl hc20 rfl)) ?_
              exact wpD_done (by kernel_rfl) ⟨decide (x25 ≤ x23), ⟨rfl, e0, e1, e2, e7, e8, e9, trivial⟩, h⟩
            · replace h := h.2 hc21
              refine wpD_pass 18 rfl (by kernel_rfl) (by kernel_rfl) (by kernel_rfl) (wantN rfl rfl rfl hc21) rfl rfl ?_
              refine wpD_pass 19 rfl (by kernel_rfl) (by kernel_rfl) (by kernel_rfl) (wantN rfl rfl rfl hc21) rfl rfl ?_
              refine wpD_pass 20 rfl (by kernel_rfl) (by kernel_rfl) (by kernel_rfl) (wantN rfl rfl rfl hc21) rfl rfl ?_
              refine wpD_pass 21 rfl (by kernel_rfl) (by kernel_rfl) (by kernel_rfl) (wantN rfl rfl rfl hc21) rfl rfl ?_
              refine wpD_pass 22 rfl (by kernel_rfl) (by kernel_rfl) (by kernel_rfl) (wantN rfl rfl rfl hc21) rfl rfl ?_
              refine wpD_pass 23 rfl (by kernel_rfl) (by kernel_rfl) (by kernel_rfl) (wantN rfl rfl rfl hc21) rfl rfl ?_
              refine wpD_pass 24 rfl (by kernel_rfl) (by kernel_rfl) (by kernel_rfl) (wantN rfl rfl rfl hc21) rfl rfl ?_
              refine wpD_pass 25 rfl (by kernel_rfl) (by kernel_rfl) (by kernel_rfl) (wantN rfl rfl rfl hc21) rfl rfl ?_
              refine wpD_pass 26 rfl (by kernel_rfl) (by kernel_rfl) (by kernel_rfl) (wantN rfl rfl rfl hc21) rfl rfl ?_
              refine wpD_pass 27 rfl (by kernel_rfl) (by kernel_rfl) (by kernel_rfl) (wantN rfl rfl rfl hc21) rfl rfl ?_
              refine wpD_take (v := (Value.bool false)) 28 (fun _ => True) rfl (by kernel_rfl) (by kernel_rfl) (by kernel_rfl) (wantG rfl rfl rfl hc20) rfl rfl trivial (fun w _ => (x_pickF (v := (Value.bool false)) rfl rfl hc21 rfl)) ?_
              refine wpD_take (v := (Value.bool false)) 29 (fun _ => True) rfl (by kernel_rfl) (by kernel_rfl) (by kernel_rfl) rfl rfl rfl trivial (fun w _ => (x_pickF (v := (Value.bool false)) rfl rfl hc20 rfl)) ?_
              exact wpD_done (by kernel_rfl) ⟨false, ⟨rfl, e0, e1, e2, e7, e8, e9, trivial⟩, h⟩
        · replace h := h.2 hc19
          refine wpD_take (v := (Sl.v r12)) 6 (fun _ => True) rfl (by kernel_rfl) (by kernel_rfl) (by kernel_rfl) (wantG rfl rfl rfl hc19) rfl rfl trivial (fun w _ => (x_move (v := (Sl.v r12)) rfl e8)) ?_
          refine wpD_take (v := (Value.int .i64 l13)) 7 (fun _ => True) rfl (by kernel_rfl) (by kernel_rfl) (by kernel_rfl) (wantG rfl rfl rfl hc19) rfl rfl trivial (fun w _ => (x_move (v := (Value.int .i64 l13)) rfl e9)) ?_
          obtain ⟨q26, z26, r26, h⟩ := h
          generalize hp26 : z26.add ((l13).toNat * 1) = p26 at h
          refine wpD_take (v := (Value.pointer (some p26))) 8 (fun _ => True) rfl (by kernel_rfl) (by kernel_rfl) (by kernel_rfl) (wantG rfl rfl rfl hc19) rfl rfl trivial (fun w _ => ((x_indexAddr (s := r12) rfl rfl rfl ES_23 q26 r26).trans (by rw [hp26]))) ?_
          obtain ⟨x27, q27, h⟩ := h
          refine wpD_take (v := (Value.int .i64 x27)) 9 (fun w => w.cell? p26 = some (Value.int .i64 x27)) rfl (by kernel_rfl) (by kernel_rfl) (by kernel_rfl) (wantG rfl rfl rfl hc19) rfl rfl q27 (fun w q27 => (x_load1 rfl rfl SH_3 q27)) ?_
          refine wpD_take (v := (Sl.v p0)) 10 (fun _ => True) rfl (by kernel_rfl) (by kernel_rfl) (by kernel_rfl) (wantG rfl rfl rfl hc19) rfl rfl trivial (fun w _ => (x_move (v := (Sl.v p0)) rfl e0)) ?_
          refine wpD_take (v := (Value.int .i64 (p0.len : Int))) 11 (fun _ => True) rfl (by kernel_rfl) (by kernel_rfl) (by kernel_rfl) (wantG rfl rfl rfl hc19) rfl rfl trivial (fun w _ => (x_lenS (s := p0) rfl rfl isSliceT_22)) ?_
          refine wpD_take (v := (Value.bool (decide ((p0.len : Int) ≤ x27)))) 12 (fun _ => True) rfl (by kernel_rfl) (by kernel_rfl) (by kernel_rfl) (wantG rfl rfl rfl hc19) rfl rfl trivial (fun w _ => (x_geq rfl rfl rfl)) ?_
          refine wpD_take (v := (Value.bool (decide ((p0.len : Int) ≤ x27)))) 13 (fun _ => True) rfl (by kernel_rfl) (by kernel_rfl) (by kernel_rfl) rfl rfl rfl trivial (fun w _ => (x_pickF (v := (Value.bool (decide ((p0.len : Int) ≤ x27)))) rfl rfl hc19 rfl)) ?_
          refine wpD_take (v := (Value.bool (decide ((p0.len : Int) ≤ x27)))) 14 (fun _ => True) rfl (by kernel_rfl) (by kernel_rfl) (by kernel_rfl) rfl rfl rfl trivial (fun w _ => (x_move (v := (Value.bool (decide ((p0.len : Int) ≤ x27)))) rfl rfl)) ?_
          rcases Bool.eq_false_or_eq_true (decide ((p0.len : Int) ≤ x27)) with hc28 | hc28
          · replace h := h.1 hc28
            refine wpD_pass 15 rfl (by kernel_rfl) (by kernel_rfl) (by kernel_rfl) (wantN rfl rfl rfl hc28) rfl rfl ?_
            refine wpD_pass 16 rfl (by kernel_rfl) (by kernel_rfl) (by kernel_rfl) (wantN rfl rfl rfl hc28) rfl rfl ?_
            refine wpD_pass 17 rfl (by kernel_rfl) (by kernel_rfl) (by kernel_rfl) (wantN rfl rfl rfl hc28) rfl rfl ?_
            refine wpD_pass 18 rfl (by kernel_rfl) (by kernel_rfl) (by kernel_rfl) (wantU rfl rfl rfl) rfl rfl ?_
            refine wpD_pass 19 rfl (by kernel_rfl) (by kernel_rfl) (by kernel_rfl) (wantU rfl rfl rfl) rfl rfl ?_
            refine wpD_pass 20 rfl (by kernel_rfl) (by kernel_rfl) (by kernel_rfl) (wantU rfl rfl rfl) rfl rfl ?_
            refine wpD_pass 21 rfl (by kernel_rfl) (by kernel_rfl) (by kernel_rfl) (wantU rfl rfl rfl) rfl rfl ?_
            refine wpD_pass 22 rfl (by kernel_rfl) (by kernel_rfl) (by kernel_rfl) (wantU rfl rfl rfl) rfl rfl ?_
            refine wpD_pass 23 rfl (by kernel_rfl) (by kernel_rfl) (by kernel_rfl) (wantU rfl rfl rfl) rfl rfl ?_
            refine wpD_pass 24 rfl (by kernel_rfl) (by kernel_rfl) (by kernel_rfl) (wantU rfl rfl rfl) rfl rfl ?_
            refine wpD_pass 25 rfl (by kernel_rfl) (by kernel_rfl) (by kernel_rfl) (wantU rfl rfl rfl) rfl rfl ?_
            refine wpD_pass 26 rfl (by kernel_rfl) (by kernel_rfl) (by kernel_rfl) (wantU rfl rfl rfl) rfl rfl ?_
            refine wpD_pass 27 rfl (by kernel_rfl) (by kernel_rfl) (by kernel_rfl) (wantU rfl rfl rfl) rfl rfl ?_
            refine wpD_pass 28 rfl (by kernel_rfl) (by kernel_rfl) (by kernel_rfl) (wantN rfl rfl rfl hc28) rfl rfl ?_
            refine wpD_take (v := (Value.bool true)) 29 (fun _ => True) rfl (by kernel_rfl) (by kernel_rfl) (by kernel_rfl) rfl rfl rfl trivial (fun w _ => (x_pickT (v := (Value.bool true)) rfl rfl hc28 rfl)) ?_
            exact wpD_done (by kernel_rfl) ⟨true, ⟨rfl, e0, e1, e2, e7, e8, e9, trivial⟩, h⟩
          · replace h := h.2 hc28
            refine wpD_take (v := (Value.int .i64 l13)) 15 (fun _ => True) rfl (by kernel_rfl) (by kernel_rfl) (by kernel_rfl) (wantG rfl rfl rfl hc28) rfl rfl trivial (fun w _ => (x_move (v := (Value.int .i64 l13)) rfl e9)) ?_
            refine wpD_take (v := (Value.bool (decide (0 < l13)))) 16 (fun _ => True) rfl (by kernel_rfl) (by kernel_rfl) (by kernel_rfl) (wantG rfl rfl rfl hc28) rfl rfl trivial (fun w _ => (x_gtr rfl rfl rfl)) ?_
            refine wpD_take (v := (Value.bool (decide (0 < l13)))) 17 (fun _ => True) rfl (by kernel_rfl) (by kernel_rfl) (by kernel_rfl) (wantG rfl rfl rfl hc28) rfl rfl trivial (fun w _ => (x_move (v := (Value.bool (decide (0 < l13)))) rfl rfl)) ?_
            rcases Bool.eq_false_or_eq_true (decide (0 < l13)) with hc29 | hc29
            · replace h := h.1 hc29
              refine wpD_take (v := (Sl.v r12)) 18 (fun _ => True) rfl (by kernel_rfl) (by kernel_rfl) (by kernel_rfl) (wantG rfl rfl rfl hc29) rfl rfl trivial (fun w _ => (x_move (v := (Sl.v r12)) rfl e8)) ?_
              refine wpD_take (v := (Value.int .i64 l13)) 19 (fun _ => True) rfl (by kernel_rfl) (by kernel_rfl) (by kernel_rfl) (wantG rfl rfl rfl hc29) rfl rfl trivial (fun w _ => (x_move (v := (Value.int .i64 l13)) rfl e9)) ?_
              refine wpD_take (v := (Value.int .i64 (IntKind.i64.wrap (l13 - 1)))) 20 (fun _ => True) rfl (by kernel_rfl) (by kernel_rfl) (by kernel_rfl) (wantG rfl rfl rfl hc29) rfl rfl trivial (fun w _ => (x_sub rfl rfl rfl)) ?_
              obtain ⟨q30, z30, r30, h⟩ := h
              generalize hp30 : z30.add ((IntKind.i64.wrap (l13 - 1)).toNat * 1) = p30 at h
              refine wpD_take (v := (Value.pointer (some p30))) 21 (fun _ => True) rfl (by kernel_rfl) (by kernel_rfl) (by kernel_rfl) (wantG rfl rfl rfl hc29) rfl rfl trivial (fun w _ => ((x_indexAddr (s := r12) rfl rfl rfl ES_23 q30 r30).trans (by rw [hp30]))) ?_
              obtain ⟨x31, q31, h⟩ := h
              refine wpD_take (v := (Value.int .i64 x31)) 22 (fun w => w.cell? p30 = some (Value.int .i64 x31)) rfl (by kernel_rfl) (by kernel_rfl) (by kernel_rfl) (wantG rfl rfl rfl hc29) rfl rfl q31 (fun w q31 => (x_load1 rfl rfl SH_3 q31)) ?_
              refine wpD_take (v := (Sl.v r12)) 23 (fun _ => True) rfl (by kernel_rfl) (by kernel_rfl) (by kernel_rfl) (wantG rfl rfl rfl hc29) rfl rfl trivial (fun w _ => (x_move (v := (Sl.v r12)) rfl e8)) ?_
              refine wpD_take (v := (Value.int .i64 l13)) 24 (fun _ => True) rfl (by kernel_rfl) (by kernel_rfl) (by kernel_rfl) (wantG rfl rfl rfl hc29) rfl rfl trivial (fun w _ => (x_move (v := (Value.int .i64 l13)) rfl e9)) ?_
              obtain ⟨q32, z32, r32, h⟩ := h
              generalize hp32 : z32.add ((l13).toNat * 1) = p32 at h
              refine wpD_take (v := (Value.pointer (some p32))) 25 (fun _ => True) rfl (by kernel_rfl) (by kernel_rfl) (by kernel_rfl) (wantG rfl rfl rfl hc29) rfl rfl trivial (fun w _ => ((x_indexAddr (s := r12) rfl rfl rfl ES_23 q32 r32).trans (by rw [hp32]))) ?_
              obtain ⟨x33, q33, h⟩ := h
              refine wpD_take (v := (Value.int .i64 x33)) 26 (fun w => w.cell? p32 = some (Value.int .i64 x33)) rfl (by kernel_rfl) (by kernel_rfl) (by kernel_rfl) (wantG rfl rfl rfl hc29) rfl rfl q33 (fun w q33 => (x_load1 rfl rfl SH_3 q33)) ?_
              refine wpD_take (v := (Value.bool (decide (x33 ≤ x31)))) 27 (fun _ => True) rfl (by kernel_rfl) (by kernel_rfl) (by kernel_rfl) (wantG rfl rfl rfl hc29) rfl rfl trivial (fun w _ => (x_geq rfl rfl rfl)) ?_
              refine wpD_take (v := (Value.bool (decide (x33 ≤ x31)))) 28 (fun _ => True) rfl (by kernel_rfl) (by kernel_rfl) (by kernel_rfl) (wantG rfl rfl rfl hc28) rfl rfl trivial (fun w _ => (x_pickT (v := (Value.bool (decide (x33 ≤ x31)))) rfl rfl hc29 rfl)) ?_
              refine wpD_take (v := (Value.bool (decide (x33 ≤ x31)))) 29 (fun _ => True) rfl (by kernel_rfl) (by kernel_rfl) (by kernel_rfl) rfl rfl rfl trivial (fun w _ => (x_pickF (v := (Value.bool (decide (x33 ≤ x31)))) rfl rfl hc28 rfl)) ?_
              exact wpD_done (by kernel_rfl) ⟨decide (x33 ≤ x31), ⟨rfl, e0, e1, e2, e7, e8, e9, trivial⟩, h⟩
            · replace h := h.2 hc29
              refine wpD_pass 18 rfl (by kernel_rfl) (by kernel_rfl) (by kernel_rfl) (wantN rfl rfl rfl hc29) rfl rfl ?_
              refine wpD_pass 19 rfl (by kernel_rfl) (by kernel_rfl) (by kernel_rfl) (wantN rfl rfl rfl hc29) rfl rfl ?_
              refine wpD_pass 20 rfl (by kernel_rfl) (by kernel_rfl) (by kernel_rfl) (wantN rfl rfl rfl hc29) rfl rfl ?_
              refine wpD_pass 21 rfl (by kernel_rfl) (by kernel_rfl) (by kernel_rfl) (wantN rfl rfl rfl hc29) rfl rfl ?_
              refine wpD_pass 22 rfl (by kernel_rfl) (by kernel_rfl) (by kernel_rfl) (wantN rfl rfl rfl hc29) rfl rfl ?_
              refine wpD_pass 23 rfl (by kernel_rfl) (by kernel_rfl) (by kernel_rfl) (wantN rfl rfl rfl hc29) rfl rfl ?_
              refine wpD_pass 24 rfl (by kernel_rfl) (by kernel_rfl) (by kernel_rfl) (wantN rfl rfl rfl hc29) rfl rfl ?_
              refine wpD_pass 25 rfl (by kernel_rfl) (by kernel_rfl) (by kernel_rfl) (wantN rfl rfl rfl hc29) rfl rfl ?_
              refine wpD_pass 26 rfl (by kernel_rfl) (by kernel_rfl) (by kernel_rfl) (wantN rfl rfl rfl hc29) rfl rfl ?_
              refine wpD_pass 27 rfl (by kernel_rfl) (by kernel_rfl) (by kernel_rfl) (wantN rfl rfl rfl hc29) rfl rfl ?_
              refine wpD_take (v := (Value.bool false)) 28 (fun _ => True) rfl (by kernel_rfl) (by kernel_rfl) (by kernel_rfl) (wantG rfl rfl rfl hc28) rfl rfl trivial (fun w _ => (x_pickF (v := (Value.bool false)) rfl rfl hc29 rfl)) ?_
              refine wpD_take (v := (Value.bool false)) 29 (fun _ => True) rfl (by kernel_rfl) (by kernel_rfl) (by kernel_rfl) rfl rfl rfl trivial (fun w _ => (x_pickF (v := (Value.bool false)) rfl rfl hc28 rfl)) ?_
              exact wpD_done (by kernel_rfl) ⟨false, ⟨rfl, e0, e1, e2, e7, e8, e9, trivial⟩, h⟩
      clear h
      rintro l34 ρ w8 ⟨e74, e0, e1, e2, e7, e8, e9, -⟩ h
      replace h := hk l34 w8 h
      clear hk
      refine wpC_cond (b := l34) e74 (fun hc35 => ?_) (fun hc35 => ?_)
      · replace h := h.1 hc35
        refine wpC_seq ?_
        refine wpC_region ?_
        refine wpR_val (v := (Value.bool false)) (w' := w8) rfl rfl rfl (x_assign (v := (Value.bool false)) rfl rfl) ?_
        refine wpR_nil ?_
        refine wpC_ret ?_
        exact ⟨.inl rfl, fun a ha => ⟨_, results_rep1 rfl ha rfl, false, rfl, h⟩⟩
      · replace h := h.2 hc35
        refine wpC_skip ?_
        refine wpC_region ?_
        refine wpR_val (v := (Value.int .i64 l13)) (w' := w8) rfl rfl rfl (x_move (v := (Value.int .i64 l13)) rfl e9) ?_
        refine wpR_val (v := (Value.int .i64 (IntKind.i64.wrap (l13 + 1)))) (w' := w8) rfl rfl rfl (x_add rfl rfl rfl) ?_
        refine wpR_val (v := (Value.int .i64 (IntKind.i64.wrap (l13 + 1)))) (w' := w8) rfl rfl rfl (x_assign (v := (Value.int .i64 (IntKind.i64.wrap (l13 + 1)))) rfl rfl) ?_
        refine wpR_nil ?_
        exact ⟨IntKind.i64.wrap (l13 + 1), ⟨rfl, e0, e1, e2, e7, e8, trivial⟩, h⟩
    · replace h := h.2 hc14
      refine wpC_exit ?_
      refine wpC_seq ?_
      refine wpC_cut (fun ρ => ρ 0 = (Sl.v p0) ∧ ρ 1 = (Sl.v p1) ∧ ρ 2 = (Sl.v p2) ∧ ρ 7 = (Value.bool r1) ∧ ρ 8 = (Sl.v r12) ∧ True) ⟨e0, e1, e2, e7, e8, trivial⟩ ?_
      rintro ρ ⟨e0, e1, e2, e7, e8, -⟩
      refine wpC_region ?_
      refine wpR_val (v := (Value.bool true)) (w' := w6) rfl rfl rfl (x_assign (v := (Value.bool true)) rfl rfl) ?_
      refine wpR_nil ?_
      refine wpC_seq ?_
      refine wpC_seq ?_
      refine wpC_cut (fun ρ => ρ 0 = (Sl.v p0) ∧ ρ 1 = (Sl.v p1) ∧ ρ 2 = (Sl.v p2) ∧ ρ 7 = (Value.bool r1) ∧ ρ 8 = (Sl.v r12) ∧ ρ 10 = (Value.bool true) ∧ True) ⟨e0, e1, e2, e7, e8, rfl, trivial⟩ ?_
      rintro ρ ⟨e0, e1, e2, e7, e8, e10, -⟩
      refine wpC_region ?_
      refine wpR_val (v := (Value.int .i64 0)) (w' := w6) rfl rfl rfl (x_assign (v := (Value.int .i64 0)) rfl rfl) ?_
      refine wpR_nil ?_
      refine wpC_block ?_
      obtain ⟨I36, μ36, hI36, hr36⟩ := h
      refine wpC_loop (fun (x : Bool × Int) ρ => ρ 10 = (Value.bool x.1) ∧ ρ 11 = (Value.int .i64 x.2) ∧ ρ 0 = (Sl.v p0) ∧ ρ 1 = (Sl.v p1) ∧ ρ 2 = (Sl.v p2) ∧ ρ 7 = (Value.bool r1) ∧ ρ 8 = (Sl.v r12) ∧ True) I36 μ36 (true, 0) ⟨e10, rfl, e0, e1, e2, e7, e8, trivial⟩ hI36 ?_
      rintro l36 ρ w9 ⟨e10, e11, e0, e1, e2, e7, e8, -⟩ h
      replace h := hr36 l36 w9 h
      clear hr36 hI36
      refine wpC_seq ?_
      refine wpC_seq ?_
      refine wpC_region ?_
      refine wpR_val (v := (Value.int .i64 l36.2)) (w' := w9) rfl rfl rfl (x_move (v := (Value.int .i64 l36.2)) rfl e11) ?_
      refine wpR_val (v := (Sl.v p1)) (w' := w9) rfl rfl rfl (x_move (v := (Sl.v p1)) rfl e1) ?_
      refine wpR_val (v := (Value.int .i64 (p1.len : Int))) (w' := w9) rfl rfl rfl (x_lenS (s := p1) rfl rfl isSliceT_23) ?_
      refine wpR_val (v := (Value.bool (decide (l36.2 < (p1.len : Int))))) (w' := w9) rfl rfl rfl (x_lss rfl rfl rfl) ?_
      refine wpR_nil ?_
      refine wpC_cond (b := decide (l36.2 < (p1.len : Int))) rfl (fun hc37 => ?_) (fun hc37 => ?_)
      · replace h := h.1 hc37
        refine wpC_skip ?_
        obtain ⟨J38, h, hk⟩ := h
        refine wpC_seqJ (fun (x : Bool) ρ => ρ 10 = (Value.bool x) ∧ ρ 0 = (Sl.v p0) ∧ ρ 1 = (Sl.v p1) ∧ ρ 2 = (Sl.v p2) ∧ ρ 7 = (Value.bool r1) ∧ ρ 8 = (Sl.v r12) ∧ ρ 11 = (Value.int .i64 l36.2) ∧ True) J38 ?_ ?_
        · clear hk
          refine wpC_block ?_
          refine wpC_seq ?_
          refine wpC_seq ?_
          refine wpC_cut (fun ρ => ρ 0 = (Sl.v p0) ∧ ρ 1 = (Sl.v p1) ∧ ρ 2 = (Sl.v p2) ∧ ρ 7 = (Value.bool r1) ∧ ρ 8 = (Sl.v r12) ∧ ρ 10 = (Value.bool l36.1) ∧ ρ 11 = (Value.int .i64 l36.2) ∧ True) ⟨e0, e1, e2, e7, e8, e10, e11, trivial⟩ ?_
          rintro ρ ⟨e0, e1, e2, e7, e8, e10, e11, -⟩
          refine wpC_region ?_
          refine wpR_val (v := (Sl.v p1)) (w' := w9) rfl rfl rfl (x_move (v := (Sl.v p1)) rfl e1) ?_
          refine wpR_val (v := (Value.int .i64 l36.2)) (w' := w9) rfl rfl rfl (x_move (v := (Value.int .i64 l36.2)) rfl e11) ?_
          obtain ⟨q40, z40, r40, h⟩ := h
          generalize hp40 : z40.add ((l36.2).toNat * 1) = p40 at h
          refine wpR_val (v := (Value.pointer (some p40))) (w' := w9) rfl rfl rfl ((x_indexAddr (s := p1) rfl rfl rfl ES_23 q40 r40).trans (by rw [hp40])) ?_
          obtain ⟨x41, q41, h⟩ := h
          refine wpR_val (v := (Value.int .i64 x41)) (w' := w9) rfl rfl rfl (x_load1 rfl rfl SH_3 q41) ?_
          refine wpR_val (v := (Value.bool (decide (x41 < 0)))) (w' := w9) rfl rfl rfl (x_lss rfl rfl rfl) ?_
          refine wpR_val (v := (Value.bool (decide (x41 < 0)))) (w' := w9) rfl rfl rfl (x_move (v := (Value.bool (decide (x41 < 0)))) rfl rfl) ?_
          obtain ⟨J42, h, hk⟩ := h
          refine wpR_joinJ 8 (fun x ρ => ρ 94 = Value.bool x ∧ ρ 0 = (Sl.v p0) ∧ ρ 1 = (Sl.v p1) ∧ ρ 2 = (Sl.v p2) ∧ ρ 7 = (Value.bool r1) ∧ ρ 8 = (Sl.v r12) ∧ ρ 10 = (Value.bool l36.1) ∧ ρ 11 = (Value.int .i64 l36.2) ∧ True) (fun x w => J42 x ∧ w9 = w) ?_ ?_
          · clear hk
            rcases Bool.eq_false_or_eq_true (decide (x41 < 0)) with hc43 | hc43
            · replace h := h.1 hc43
              refine wpR_pass (wantN rfl rfl rfl hc43) rfl rfl ?_
              refine wpR_pass (wantN rfl rfl rfl hc43) rfl rfl ?_
              refine wpR_pass (wantN rfl rfl rfl hc43) rfl rfl ?_
              refine wpR_pass (wantN rfl rfl rfl hc43) rfl rfl ?_
              refine wpR_pass (wantN rfl rfl rfl hc43) rfl rfl ?_
              refine wpR_pass (wantN rfl rfl rfl hc43) rfl rfl ?_
              refine wpR_pass (wantN rfl rfl rfl hc43) rfl rfl ?_
              refine wpR_val (v := (Value.bool true)) (w' := w9) rfl rfl rfl (x_pickT (v := (Value.bool true)) rfl rfl hc43 rfl) ?_
              refine wpR_nil ?_
              exact ⟨true, ⟨rfl, e0, e1, e2, e7, e8, e10, e11, trivial⟩, h, rfl⟩
            · replace h := h.2 hc43
              refine wpR_val (v := (Sl.v p1)) (w' := w9) (wantG rfl rfl rfl hc43) rfl rfl (x_move (v := (Sl.v p1)) rfl e1) ?_
              refine wpR_val (v := (Value.int .i64 l36.2)) (w' := w9) (wantG rfl rfl rfl hc43) rfl rfl (x_move (v := (Value.int .i64 l36.2)) rfl e11) ?_
              obtain ⟨q44, z44, r44, h⟩ := h
              generalize hp44 : z44.add ((l36.2).toNat * 1) = p44 at h
              refine wpR_val (v := (Value.pointer (some p44))) (w' := w9) (wantG rfl rfl rfl hc43) rfl rfl ((x_indexAddr (s := p1) rfl rfl rfl ES_23 q44 r44).trans (by rw [hp44])) ?_
              obtain ⟨x45, q45, h⟩ := h
              refine wpR_val (v := (Value.int .i64 x45)) (w' := w9) (wantG rfl rfl rfl hc43) rfl rfl (x_load1 rfl rfl SH_3 q45) ?_
              refine wpR_val (v := (Sl.v p0)) (w' := w9) (wantG rfl rfl rfl hc43) rfl rfl (x_move (v := (Sl.v p0)) rfl e0) ?_
              refine wpR_val (v := (Value.int .i64 (p0.len : Int))) (w' := w9) (wantG rfl rfl rfl hc43) rfl rfl (x_lenS (s := p0) rfl rfl isSliceT_22) ?_
              refine wpR_val (v := (Value.bool (decide ((p0.len : Int) ≤ x45)))) (w' := w9) (wantG rfl rfl rfl hc43) rfl rfl (x_geq rfl rfl rfl) ?_
              refine wpR_val (v := (Value.bool (decide ((p0.len : Int) ≤ x45)))) (w' := w9) rfl rfl rfl (x_pickF (v := (Value.bool (decide ((p0.len : Int) ≤ x45)))) rfl rfl hc43 rfl) ?_
              refine wpR_nil ?_
              exact ⟨decide ((p0.len : Int) ≤ x45), ⟨rfl, e0, e1, e2, e7, e8, e10, e11, trivial⟩, h, rfl⟩
          clear h
          rintro c46 ρ wj ⟨e94, e0, e1, e2, e7, e8, e10, e11, -⟩ ⟨h, rfl⟩
          replace h := hk c46 h
          clear hk
          refine wpR_nil ?_
          refine wpC_cond (b := c46) e94 (fun hc47 => ?_) (fun hc47 => ?_)
          · replace h := h.1 hc47
            refine wpC_exit ?_
            exact ⟨l36.1, ⟨e10, e0, e1, e2, e7, e8, e11, trivial⟩, h⟩
          · replace h := h.2 hc47
            refine wpC_skip ?_
            refine wpC_seq ?_
            refine wpC_seq ?_
            refine wpC_region ?_
            refine wpR_val (v := (Sl.v r12)) (w' := w9) rfl rfl rfl (x_move (v := (Sl.v r12)) rfl e8) ?_
            refine wpR_val (v := (Sl.v p1)) (w' := w9) rfl rfl rfl (x_move (v := (Sl.v p1)) rfl e1) ?_
            refine wpR_val (v := (Value.int .i64 l36.2)) (w' := w9) rfl rfl rfl (x_move (v := (Value.int .i64 l36.2)) rfl e11) ?_
            obtain ⟨q48, z48, r48, h⟩ := h
            generalize hp48 : z48.add ((l36.2).toNat * 1) = p48 at h
            refine wpR_val (v := (Value.pointer (some p48))) (w' := w9) rfl rfl rfl ((x_indexAddr (s := p1) rfl rfl rfl ES_23 q48 r48).trans (by rw [hp48])) ?_
            obtain ⟨x49, q49, h⟩ := h
            refine wpR_val (v := (Value.int .i64 x49)) (w' := w9) rfl rfl rfl (x_load1 rfl rfl SH_3 q49) ?_
            refine wpR_enter rfl rfl rfl (x_call (vs := [(Sl.v r12), (Value.int .i64 x49)]) rfl rfl (mapl_cons rfl (mapl_cons rfl mapl_nil)) Try.func19 NN_19 NB_19) (Calls.mono h ?_)
            rintro _ w11 ⟨r50, rfl, h⟩
            refine ⟨_, rfl, ?_⟩
            refine wpR_val (v := (Value.bool (!r50))) (w' := w11) rfl rfl rfl (x_not rfl rfl) ?_
            refine wpR_nil ?_
            refine wpC_cond (b := !r50) rfl (fun hc51 => ?_) (fun hc51 => ?_)
            · replace h := h.1 hc51
              refine wpC_seq ?_
              refine wpC_cut (fun ρ => True) trivial ?_
              rintro ρ -
              refine wpC_region ?_
              refine wpR_val (v := (Value.bool false)) (w' := w11) rfl rfl rfl (x_assign (v := (Value.bool false)) rfl rfl) ?_
              refine wpR_nil ?_
              refine wpC_ret ?_
              exact ⟨.inl rfl, fun a ha => ⟨_, results_rep1 rfl ha rfl, false, rfl, h⟩⟩
            · replace h := h.2 hc51
              refine wpC_skip ?_
              refine wpC_cut (fun ρ => ρ 0 = (Sl.v p0) ∧ ρ 1 = (Sl.v p1) ∧ ρ 2 = (Sl.v p2) ∧ ρ 7 = (Value.bool r1) ∧ ρ 8 = (Sl.v r12) ∧ ρ 10 = (Value.bool l36.1) ∧ ρ 11 = (Value.int .i64 l36.2) ∧ True) ⟨e0, e1, e2, e7, e8, e10, e11, trivial⟩ ?_
              rintro ρ ⟨e0, e1, e2, e7, e8, e10, e11, -⟩
              refine wpC_region ?_
              refine wpR_val (v := (Value.bool l36.1)) (w' := w11) rfl rfl rfl (x_move (v := (Value.bool l36.1)) rfl e10) ?_
              refine wpR_val (v := (Value.bool l36.1)) (w' := w11) rfl rfl rfl (x_move (v := (Value.bool l36.1)) rfl rfl) ?_
              obtain ⟨J52, h, hk⟩ := h
              refine wpR_joinJ 7 (fun x ρ => ρ 110 = Value.bool x ∧ ρ 0 = (Sl.v p0) ∧ ρ 1 = (Sl.v p1) ∧ ρ 2 = (Sl.v p2) ∧ ρ 7 = (Value.bool r1) ∧ ρ 8 = (Sl.v r12) ∧ ρ 11 = (Value.int .i64 l36.2) ∧ True) (J52) ?_ ?_
              · clear hk
                rcases Bool.eq_false_or_eq_true (l36.1) with hc53 | hc53
                · replace h := h.1 hc53
                  refine wpR_val (v := (Sl.v p2)) (w' := w11) (wantG rfl rfl rfl hc53) rfl rfl (x_move (v := (Sl.v p2)) rfl e2) ?_
                  refine wpR_val (v := (Sl.v p1)) (w' := w11) (wantG rfl rfl rfl hc53) rfl rfl (x_move (v := (Sl.v p1)) rfl e1) ?_
                  refine wpR_val (v := (Value.int .i64 l36.2)) (w' := w11) (wantG rfl rfl rfl hc53) rfl rfl (x_move (v := (Value.int .i64 l36.2)) rfl e11) ?_
                  obtain ⟨q54, z54, r54, h⟩ := h
                  generalize hp54 : z54.add ((l36.2).toNat * 1) = p54 at h
                  refine wpR_val (v := (Value.pointer (some p54))) (w' := w11) (wantG rfl rfl rfl hc53) rfl rfl ((x_indexAddr (s := p1) rfl rfl rfl ES_23 q54 r54).trans (by rw [hp54])) ?_
                  obtain ⟨x55, q55, h⟩ := h
                  refine wpR_val (v := (Value.int .i64 x55)) (w' := w11) (wantG rfl rfl rfl hc53) rfl rfl (x_load1 rfl rfl SH_3 q55) ?_
                  refine wpR_enter (wantG rfl rfl rfl hc53) rfl rfl (x_call (vs := [(Sl.v p2), (Value.int .i64 x55)]) rfl rfl (mapl_cons rfl (mapl_cons rfl mapl_nil)) Try.func19 NN_19 NB_19) (Calls.mono h ?_)
                  rintro _ w12 ⟨r56, rfl, h⟩
                  refine ⟨_, rfl, ?_⟩
                  refine wpR_val (v := (Value.bool r56)) (w' := w12) rfl rfl rfl (x_pickT (v := (Value.bool r56)) rfl rfl hc53 rfl) ?_
                  refine wpR_nil ?_
                  exact ⟨r56, ⟨rfl, e0, e1, e2, e7, e8, e11, trivial⟩, h⟩
                · replace h := h.2 hc53
                  refine wpR_pass (wantN rfl rfl rfl hc53) rfl rfl ?_
                  refine wpR_pass (wantN rfl rfl rfl hc53) rfl rfl ?_
                  refine wpR_pass (wantN rfl rfl rfl hc53) rfl rfl ?_
                  refine wpR_pass (wantN rfl rfl rfl hc53) rfl rfl ?_
                  refine wpR_pass (wantN rfl rfl rfl hc53) rfl rfl ?_
                  refine wpR_pass (wantN rfl rfl rfl hc53) rfl rfl ?_
                  refine wpR_val (v := (Value.bool false)) (w' := w11) rfl rfl rfl (x_pickF (v := (Value.bool false)) rfl rfl hc53 rfl) ?_
                  refine wpR_nil ?_
                  exact ⟨false, ⟨rfl, e0, e1, e2, e7, e8, e11, trivial⟩, h⟩
              clear h
              rintro c57 ρ w13 ⟨e110, e0, e1, e2, e7, e8, e11, -⟩ h
              replace h := hk c57 w13 h
              clear hk
              refine wpR_val (v := (Value.bool c57)) (w' := w13) rfl rfl rfl (x_assign (v := (Value.bool c57)) rfl e110) ?_
              refine wpR_nil ?_
              exact ⟨c57, ⟨rfl, e0, e1, e2, e7, e8, e11, trivial⟩, h⟩
        clear h
        rintro l39 ρ w10 ⟨e10, e0, e1, e2, e7, e8, e11, -⟩ h
        replace h := hk l39 w10 h
        clear hk
        refine wpC_region ?_
        refine wpR_val (v := (Value.int .i64 l36.2)) (w' := w10) rfl rfl rfl (x_move (v := (Value.int .i64 l36.2)) rfl e11) ?_
        refine wpR_val (v := (Value.int .i64 (IntKind.i64.wrap (l36.2 + 1)))) (w' := w10) rfl rfl rfl (x_add rfl rfl rfl) ?_
        refine wpR_val (v := (Value.int .i64 (IntKind.i64.wrap (l36.2 + 1)))) (w' := w10) rfl rfl rfl (x_assign (v := (Value.int .i64 (IntKind.i64.wrap (l36.2 + 1)))) rfl rfl) ?_
        refine wpR_nil ?_
        exact ⟨(l39, IntKind.i64.wrap (l36.2 + 1)), ⟨e10, rfl, e0, e1, e2, e7, e8, trivial⟩, h⟩
      · replace h := h.2 hc37
        refine wpC_exit ?_
        refine wpC_seq ?_
        refine wpC_seq ?_
        refine wpC_cut (fun ρ => ρ 0 = (Sl.v p0) ∧ ρ 1 = (Sl.v p1) ∧ ρ 2 = (Sl.v p2) ∧ ρ 7 = (Value.bool r1) ∧ ρ 8 = (Sl.v r12) ∧ ρ 10 = (Value.bool l36.1) ∧ True) ⟨e0, e1, e2, e7, e8, e10, trivial⟩ ?_
        rintro ρ ⟨e0, e1, e2, e7, e8, e10, -⟩
        refine wpC_region ?_
        refine wpR_val (v := (Sl.v p0)) (w' := w9) rfl rfl rfl (x_move (v := (Sl.v p0)) rfl e0) ?_
        refine wpR_val (v := (Sl.v r12)) (w' := w9) rfl rfl rfl (x_move (v := (Sl.v r12)) rfl e8) ?_
        refine wpR_enter rfl rfl rfl (x_call (vs := [(Sl.v p0), (Sl.v r12)]) rfl rfl (mapl_cons rfl (mapl_cons rfl mapl_nil)) Try.func20 NN_20 NB_20) (Calls.mono h ?_)
        rintro _ w14 ⟨r58, rfl, h⟩
        refine ⟨_, rfl, ?_⟩
        refine wpR_val (v := (Value.bool (!r58))) (w' := w14) rfl rfl rfl (x_not rfl rfl) ?_
        refine wpR_nil ?_
        refine wpC_cond (b := !r58) rfl (fun hc59 => ?_) (fun hc59 => ?_)
        · replace h := h.1 hc59
          refine wpC_seq ?_
          refine wpC_cut (fun ρ => True) trivial ?_
          rintro ρ -
          refine wpC_region ?_
          refine wpR_val (v := (Value.bool false)) (w' := w14) rfl rfl rfl (x_assign (v := (Value.bool false)) rfl rfl) ?_
          refine wpR_nil ?_
          refine wpC_ret ?_
          exact ⟨.inl rfl, fun a ha => ⟨_, results_rep1 rfl ha rfl, false, rfl, h⟩⟩
        · replace h := h.2 hc59
          refine wpC_skip ?_
          refine wpC_seq ?_
          refine wpC_seq ?_
          refine wpC_cut (fun ρ => ρ 0 = (Sl.v p0) ∧ ρ 1 = (Sl.v p1) ∧ ρ 2 = (Sl.v p2) ∧ ρ 7 = (Value.bool r1) ∧ ρ 8 = (Sl.v r12) ∧ ρ 10 = (Value.bool l36.1) ∧ True) ⟨e0, e1, e2, e7, e8, e10, trivial⟩ ?_
          rintro ρ ⟨e0, e1, e2, e7, e8, e10, -⟩
          refine wpC_region ?_
          refine wpR_val (v := (Value.int .i64 0)) (w' := w14) rfl rfl rfl (x_assign (v := (Value.int .i64 0)) rfl rfl) ?_
          refine wpR_nil ?_
          refine wpC_block ?_
          obtain ⟨I60, μ60, hI60, hr60⟩ := h
          refine wpC_loop (fun (x : Int) ρ => ρ 12 = (Value.int .i64 x) ∧ ρ 0 = (Sl.v p0) ∧ ρ 1 = (Sl.v p1) ∧ ρ 2 = (Sl.v p2) ∧ ρ 7 = (Value.bool r1) ∧ ρ 8 = (Sl.v r12) ∧ ρ 10 = (Value.bool l36.1) ∧ True) I60 μ60 0 ⟨rfl, e0, e1, e2, e7, e8, e10, trivial⟩ hI60 ?_
          rintro l60 ρ w15 ⟨e12, e0, e1, e2, e7, e8, e10, -⟩ h
          replace h := hr60 l60 w15 h
          clear hr60 hI60
          refine wpC_seq ?_
          refine wpC_seq ?_
          refine wpC_region ?_
          refine wpR_val (v := (Value.int .i64 l60)) (w' := w15) rfl rfl rfl (x_move (v := (Value.int .i64 l60)) rfl e12) ?_
          refine wpR_val (v := (Sl.v r12)) (w' := w15) rfl rfl rfl (x_move (v := (Sl.v r12)) rfl e8) ?_
          refine wpR_val (v := (Value.int .i64 (r12.len : Int))) (w' := w15) rfl rfl rfl (x_lenS (s := r12) rfl rfl isSliceT_23) ?_
          refine wpR_val (v := (Value.bool (decide (l60 < (r12.len : Int))))) (w' := w15) rfl rfl rfl (x_lss rfl rfl rfl) ?_
          refine wpR_nil ?_
          refine wpC_cond (b := decide (l60 < (r12.len : Int))) rfl (fun hc61 => ?_) (fun hc61 => ?_)
          · replace h := h.1 hc61
            refine wpC_skip ?_
            refine wpC_seq ?_
            refine wpC_block ?_
            refine wpC_seq ?_
            refine wpC_cut (fun ρ => ρ 0 = (Sl.v p0) ∧ ρ 1 = (Sl.v p1) ∧ ρ 2 = (Sl.v p2) ∧ ρ 7 = (Value.bool r1) ∧ ρ 8 = (Sl.v r12) ∧ ρ 10 = (Value.bool l36.1) ∧ ρ 12 = (Value.int .i64 l60) ∧ True) ⟨e0, e1, e2, e7, e8, e10, e12, trivial⟩ ?_
            rintro ρ ⟨e0, e1, e2, e7, e8, e10, e12, -⟩
            refine wpC_region ?_
            refine wpR_val (v := (Sl.v p1)) (w' := w15) rfl rfl rfl (x_move (v := (Sl.v p1)) rfl e1) ?_
            refine wpR_val (v := (Sl.v r12)) (w' := w15) rfl rfl rfl (x_move (v := (Sl.v r12)) rfl e8) ?_
            refine wpR_val (v := (Value.int .i64 l60)) (w' := w15) rfl rfl rfl (x_move (v := (Value.int .i64 l60)) rfl e12) ?_
            obtain ⟨q62, z62, r62, h⟩ := h
            generalize hp62 : z62.add ((l60).toNat * 1) = p62 at h
            refine wpR_val (v := (Value.pointer (some p62))) (w' := w15) rfl rfl rfl ((x_indexAddr (s := r12) rfl rfl rfl ES_23 q62 r62).trans (by rw [hp62])) ?_
            obtain ⟨x63, q63, h⟩ := h
            refine wpR_val (v := (Value.int .i64 x63)) (w' := w15) rfl rfl rfl (x_load1 rfl rfl SH_3 q63) ?_
            refine wpR_enter rfl rfl rfl (x_call (vs := [(Sl.v p1), (Value.int .i64 x63)]) rfl rfl (mapl_cons rfl (mapl_cons rfl mapl_nil)) Try.func19 NN_19 NB_19) (Calls.mono h ?_)
            rintro _ w16 ⟨r64, rfl, h⟩
            refine ⟨_, rfl, ?_⟩
            refine wpR_val (v := (Value.bool r64)) (w' := w16) rfl rfl rfl (x_assign (v := (Value.bool r64)) rfl rfl) ?_
            refine wpR_nil ?_
            refine wpC_seq ?_
            refine wpC_cut (fun ρ => ρ 0 = (Sl.v p0) ∧ ρ 1 = (Sl.v p1) ∧ ρ 2 = (Sl.v p2) ∧ ρ 7 = (Value.bool r1) ∧ ρ 8 = (Sl.v r12) ∧ ρ 10 = (Value.bool l36.1) ∧ ρ 12 = (Value.int .i64 l60) ∧ ρ 13 = (Value.bool r64) ∧ True) ⟨e0, e1, e2, e7, e8, e10, e12, rfl, trivial⟩ ?_
            rintro ρ ⟨e0, e1, e2, e7, e8, e10, e12, e13, -⟩
            refine wpC_region ?_
            refine wpR_val (v := (Sl.v p0)) (w' := w16) rfl rfl rfl (x_move (v := (Sl.v p0)) rfl e0) ?_
            refine wpR_val (v := (Sl.v r12)) (w' := w16) rfl rfl rfl (x_move (v := (Sl.v r12)) rfl e8) ?_
            refine wpR_val (v := (Value.int .i64 l60)) (w' := w16) rfl rfl rfl (x_move (v := (Value.int .i64 l60)) rfl e12) ?_
            obtain ⟨q65, z65, r65, h⟩ := h
            generalize hp65 : z65.add ((l60).toNat * 1) = p65 at h
            refine wpR_val (v := (Value.pointer (some p65))) (w' := w16) rfl rfl rfl ((x_indexAddr (s := r12) rfl rfl rfl ES_23 q65 r65).trans (by rw [hp65])) ?_
            obtain ⟨x66, q66, h⟩ := h
            refine wpR_val (v := (Value.int .i64 x66)) (w' := w16) rfl rfl rfl (x_load1 rfl rfl SH_3 q66) ?_
            obtain ⟨q67, z67, r67, h⟩ := h
            generalize hp67 : z67.add ((x66).toNat * 3) = p67 at h
            refine wpR_val (v := (Value.pointer (some p67))) (w' := w16) rfl rfl rfl ((x_indexAddr (s := p0) rfl rfl rfl ES_22 q67 r67).trans (by rw [hp67])) ?_
            refine wpR_val (v := (Value.pointer (some (p67.add 2)))) (w' := w16) rfl rfl rfl (x_fieldAddr rfl rfl FA_32_2) ?_
            obtain ⟨x68, q68, h⟩ := h
            refine wpR_val (v := (Sl.v x68)) (w' := w16) rfl rfl rfl (x_load1 rfl rfl SH_23 q68) ?_
            refine wpR_val (v := (Sl.v x68)) (w' := w16) rfl rfl rfl (x_assign (v := (Sl.v x68)) rfl rfl) ?_
            refine wpR_nil ?_
            refine wpC_seq ?_
            refine wpC_seq ?_
            refine wpC_cut (fun ρ => ρ 0 = (Sl.v p0) ∧ ρ 1 = (Sl.v p1) ∧ ρ 2 = (Sl.v p2) ∧ ρ 7 = (Value.bool r1) ∧ ρ 8 = (Sl.v r12) ∧ ρ 10 = (Value.bool l36.1) ∧ ρ 12 = (Value.int .i64 l60) ∧ ρ 13 = (Value.bool r64) ∧ ρ 14 = (Sl.v x68) ∧ True) ⟨e0, e1, e2, e7, e8, e10, e12, e13, rfl, trivial⟩ ?_
            rintro ρ ⟨e0, e1, e2, e7, e8, e10, e12, e13, e14, -⟩
            refine wpC_region ?_
            refine wpR_val (v := (Value.int .i64 0)) (w' := w16) rfl rfl rfl (x_assign (v := (Value.int .i64 0)) rfl rfl) ?_
            refine wpR_nil ?_
            refine wpC_block ?_
            obtain ⟨I69, μ69, hI69, hr69⟩ := h
            refine wpC_loop (fun (x : Bool × Int) ρ => ρ 13 = (Value.bool x.1) ∧ ρ 15 = (Value.int .i64 x.2) ∧ ρ 0 = (Sl.v p0) ∧ ρ 1 = (Sl.v p1) ∧ ρ 2 = (Sl.v p2) ∧ ρ 7 = (Value.bool r1) ∧ ρ 8 = (Sl.v r12) ∧ ρ 10 = (Value.bool l36.1) ∧ ρ 12 = (Value.int .i64 l60) ∧ ρ 14 = (Sl.v x68) ∧ True) I69 μ69 (r64, 0) ⟨e13, rfl, e0, e1, e2, e7, e8, e10, e12, e14, trivial⟩ hI69 ?_
            rintro l69 ρ w17 ⟨e13, e15, e0, e1, e2, e7, e8, e10, e12, e14, -⟩ h
            replace h := hr69 l69 w17 h
            clear hr69 hI69
            refine wpC_seq ?_
            refine wpC_seq ?_
            refine wpC_region ?_
            refine wpR_val (v := (Value.int .i64 l69.2)) (w' := w17) rfl rfl rfl (x_move (v := (Value.int .i64 l69.2)) rfl e15) ?_
            refine wpR_val (v := (Sl.v x68)) (w' := w17) rfl rfl rfl (x_move (v := (Sl.v x68)) rfl e14) ?_
            refine wpR_val (v := (Value.int .i64 (x68.len : Int))) (w' := w17) rfl rfl rfl (x_lenS (s := x68) rfl rfl isSliceT_23) ?_
            refine wpR_val (v := (Value.bool (decide (l69.2 < (x68.len : Int))))) (w' := w17) rfl rfl rfl (x_lss rfl rfl rfl) ?_
            refine wpR_nil ?_
            refine wpC_cond (b := decide (l69.2 < (x68.len : Int))) rfl (fun hc70 => ?_) (fun hc70 => ?_)
            · replace h := h.1 hc70
              refine wpC_skip ?_
              refine wpC_seq ?_
              refine wpC_block ?_
              refine wpC_cut (fun ρ => ρ 0 = (Sl.v p0) ∧ ρ 1 = (Sl.v p1) ∧ ρ 2 = (Sl.v p2) ∧ ρ 7 = (Value.bool r1) ∧ ρ 8 = (Sl.v r12) ∧ ρ 10 = (Value.bool l36.1) ∧ ρ 12 = (Value.int .i64 l60) ∧ ρ 13 = (Value.bool l69.1) ∧ ρ 14 = (Sl.v x68) ∧ ρ 15 = (Value.int .i64 l69.2) ∧ True) ⟨e0, e1, e2, e7, e8, e10, e12, e13, e14, e15, trivial⟩ ?_
              rintro ρ ⟨e0, e1, e2, e7, e8, e10, e12, e13, e14, e15, -⟩
              refine wpC_region ?_
              refine wpR_val (v := (Value.bool l69.1)) (w' := w17) rfl rfl rfl (x_move (v := (Value.bool l69.1)) rfl e13) ?_
              refine wpR_val (v := (Value.bool l69.1)) (w' := w17) rfl rfl rfl (x_move (v := (Value.bool l69.1)) rfl rfl) ?_
              obtain ⟨J71, h, hk⟩ := h
              refine wpR_joinJ 7 (fun x ρ => ρ 149 = Value.bool x ∧ ρ 0 = (Sl.v p0) ∧ ρ 1 = (Sl.v p1) ∧ ρ 2 = (Sl.v p2) ∧ ρ 7 = (Value.bool r1) ∧ ρ 8 = (Sl.v r12) ∧ ρ 10 = (Value.bool l36.1) ∧ ρ 12 = (Value.int .i64 l60) ∧ ρ 14 = (Sl.v x68) ∧ ρ 15 = (Value.int .i64 l69.2) ∧ True) (J71) ?_ ?_
              · clear hk
                rcases Bool.eq_false_or_eq_true (l69.1) with hc72 | hc72
                · replace h := h.1 hc72
                  refine wpR_pass (wantN rfl rfl rfl hc72) rfl rfl ?_
                  refine wpR_pass (wantN rfl rfl rfl hc72) rfl rfl ?_
                  refine wpR_pass (wantN rfl rfl rfl hc72) rfl rfl ?_
                  refine wpR_pass (wantN rfl rfl rfl hc72) rfl rfl ?_
                  refine wpR_pass (wantN rfl rfl rfl hc72) rfl rfl ?_
                  refine wpR_pass (wantN rfl rfl rfl hc72) rfl rfl ?_
                  refine wpR_val (v := (Value.bool true)) (w' := w17) rfl rfl rfl (x_pickT (v := (Value.bool true)) rfl rfl hc72 rfl) ?_
                  refine wpR_nil ?_
                  exact ⟨true, ⟨rfl, e0, e1, e2, e7, e8, e10, e12, e14, e15, trivial⟩, h⟩
                · replace h := h.2 hc72
                  refine wpR_val (v := (Sl.v r12)) (w' := w17) (wantG rfl rfl rfl hc72) rfl rfl (x_move (v := (Sl.v r12)) rfl e8) ?_
                  refine wpR_val (v := (Sl.v x68)) (w' := w17) (wantG rfl rfl rfl hc72) rfl rfl (x_move (v := (Sl.v x68)) rfl e14) ?_
                  refine wpR_val (v := (Value.int .i64 l69.2)) (w' := w17) (wantG rfl rfl rfl hc72) rfl rfl (x_move (v := (Value.int .i64 l69.2)) rfl e15) ?_
                  obtain ⟨q73, z73, r73, h⟩ := h
                  generalize hp73 : z73.add ((l69.2).toNat * 1) = p73 at h
                  refine wpR_val (v := (Value.pointer (some p73))) (w' := w17) (wantG rfl rfl rfl hc72) rfl rfl ((x_indexAddr (s := x68) rfl rfl rfl ES_23 q73 r73).trans (by rw [hp73])) ?_
                  obtain ⟨x74, q74, h⟩ := h
                  refine wpR_val (v := (Value.int .i64 x74)) (w' := w17) (wantG rfl rfl rfl hc72) rfl rfl (x_load1 rfl rfl SH_3 q74) ?_
                  refine wpR_enter (wantG rfl rfl rfl hc72) rfl rfl (x_call (vs := [(Sl.v r12), (Value.int .i64 x74)]) rfl rfl (mapl_cons rfl (mapl_cons rfl mapl_nil)) Try.func19 NN_19 NB_19) (Calls.mono h ?_)
                  rintro _ w18 ⟨r75, rfl, h⟩
                  refine ⟨_, rfl, ?_⟩
                  refine wpR_val (v := (Value.bool r75)) (w' := w18) rfl rfl rfl (x_pickF (v := (Value.bool r75)) rfl rfl hc72 rfl) ?_
                  refine wpR_nil ?_
                  exact ⟨r75, ⟨rfl, e0, e1, e2, e7, e8, e10, e12, e14, e15, trivial⟩, h⟩
              clear h
              rintro c76 ρ w19 ⟨e149, e0, e1, e2, e7, e8, e10, e12, e14, e15, -⟩ h
              replace h := hk c76 w19 h
              clear hk
              refine wpR_val (v := (Value.bool c76)) (w' := w19) rfl rfl rfl (x_assign (v := (Value.bool c76)) rfl e149) ?_
              refine wpR_nil ?_
              refine wpC_cut (fun ρ => ρ 0 = (Sl.v p0) ∧ ρ 1 = (Sl.v p1) ∧ ρ 2 = (Sl.v p2) ∧ ρ 7 = (Value.bool r1) ∧ ρ 8 = (Sl.v r12) ∧ ρ 10 = (Value.bool l36.1) ∧ ρ 12 = (Value.int .i64 l60) ∧ ρ 13 = (Value.bool c76) ∧ ρ 14 = (Sl.v x68) ∧ ρ 15 = (Value.int .i64 l69.2) ∧ True) ⟨e0, e1, e2, e7, e8, e10, e12, rfl, e14, e15, trivial⟩ ?_
              rintro ρ ⟨e0, e1, e2, e7, e8, e10, e12, e13, e14, e15, -⟩
              refine wpC_region ?_
              refine wpR_val (v := (Value.int .i64 l69.2)) (w' := w19) rfl rfl rfl (x_move (v := (Value.int .i64 l69.2)) rfl e15) ?_
              refine wpR_val (v := (Value.int .i64 (IntKind.i64.wrap (l69.2 + 1)))) (w' := w19) rfl rfl rfl (x_add rfl rfl rfl) ?_
              refine wpR_val (v := (Value.int .i64 (IntKind.i64.wrap (l69.2 + 1)))) (w' := w19) rfl rfl rfl (x_assign (v := (Value.int .i64 (IntKind.i64.wrap (l69.2 + 1)))) rfl rfl) ?_
              refine wpR_nil ?_
              exact ⟨(c76, IntKind.i64.wrap (l69.2 + 1)), ⟨e13, rfl, e0, e1, e2, e7, e8, e10, e12, e14, trivial⟩, h⟩
            · replace h := h.2 hc70
              refine wpC_exit ?_
              refine wpC_seq ?_
              refine wpC_seq ?_
              refine wpC_cut (fun ρ => ρ 0 = (Sl.v p0) ∧ ρ 1 = (Sl.v p1) ∧ ρ 2 = (Sl.v p2) ∧ ρ 7 = (Value.bool r1) ∧ ρ 8 = (Sl.v r12) ∧ ρ 10 = (Value.bool l36.1) ∧ ρ 12 = (Value.int .i64 l60) ∧ ρ 13 = (Value.bool l69.1) ∧ True) ⟨e0, e1, e2, e7, e8, e10, e12, e13, trivial⟩ ?_
              rintro ρ ⟨e0, e1, e2, e7, e8, e10, e12, e13, -⟩
              refine wpC_region ?_
              refine wpR_val (v := (Value.bool l69.1)) (w' := w17) rfl rfl rfl (x_move (v := (Value.bool l69.1)) rfl e13) ?_
              refine wpR_val (v := (Value.bool (!l69.1))) (w' := w17) rfl rfl rfl (x_not rfl rfl) ?_
              refine wpR_nil ?_
              refine wpC_cond (b := !l69.1) rfl (fun hc77 => ?_) (fun hc77 => ?_)
              · replace h := h.1 hc77
                refine wpC_seq ?_
                refine wpC_cut (fun ρ => True) trivial ?_
                rintro ρ -
                refine wpC_region ?_
                refine wpR_val (v := (Value.bool false)) (w' := w17) rfl rfl rfl (x_assign (v := (Value.bool false)) rfl rfl) ?_
                refine wpR_nil ?_
                refine wpC_ret ?_
                exact ⟨.inl rfl, fun a ha => ⟨_, results_rep1 rfl ha rfl, false, rfl, h⟩⟩
              · replace h := h.2 hc77
                refine wpC_skip ?_
                refine wpC_seq ?_
                refine wpC_cut (fun ρ => ρ 0 = (Sl.v p0) ∧ ρ 1 = (Sl.v p1) ∧ ρ 2 = (Sl.v p2) ∧ ρ 7 = (Value.bool r1) ∧ ρ 8 = (Sl.v r12) ∧ ρ 10 = (Value.bool l36.1) ∧ ρ 12 = (Value.int .i64 l60) ∧ True) ⟨e0, e1, e2, e7, e8, e10, e12, trivial⟩ ?_
                rintro ρ ⟨e0, e1, e2, e7, e8, e10, e12, -⟩
                refine wpC_region ?_
                refine wpR_val (v := (Value.bool l36.1)) (w' := w17) rfl rfl rfl (x_move (v := (Value.bool l36.1)) rfl e10) ?_
                refine wpR_val (v := (Value.bool l36.1)) (w' := w17) rfl rfl rfl (x_move (v := (Value.bool l36.1)) rfl rfl) ?_
                obtain ⟨J78, h, hk⟩ := h
                refine wpR_joinJ 4 (fun x ρ => ρ 157 = Value.bool x ∧ ρ 0 = (Sl.v p0) ∧ ρ 1 = (Sl.v p1) ∧ ρ 2 = (Sl.v p2) ∧ ρ 7 = (Value.bool r1) ∧ ρ 8 = (Sl.v r12) ∧ ρ 10 = (Value.bool l36.1) ∧ ρ 12 = (Value.int .i64 l60) ∧ True) (J78) ?_ ?_
                · clear hk
                  rcases Bool.eq_false_or_eq_true (l36.1) with hc79 | hc79
                  · replace h := h.1 hc79
                    refine wpR_val (v := (Sl.v p0)) (w' := w17) (wantG rfl rfl rfl hc79) rfl rfl (x_move (v := (Sl.v p0)) rfl e0) ?_
                    refine wpR_val (v := (Sl.v p2)) (w' := w17) (wantG rfl rfl rfl hc79) rfl rfl (x_move (v := (Sl.v p2)) rfl e2) ?_
                    refine wpR_enter (wantG rfl rfl rfl hc79) rfl rfl (x_call (vs := [(Sl.v p0), (Sl.v p2)]) rfl rfl (mapl_cons rfl (mapl_cons rfl mapl_nil)) Try.func20 NN_20 NB_20) (Calls.mono h ?_)
                    rintro _ w20 ⟨r80, rfl, h⟩
                    refine ⟨_, rfl, ?_⟩
                    refine wpR_val (v := (Value.bool r80)) (w' := w20) rfl rfl rfl (x_pickT (v := (Value.bool r80)) rfl rfl hc79 rfl) ?_
                    refine wpR_nil ?_
                    exact ⟨r80, ⟨rfl, e0, e1, e2, e7, e8, e10, e12, trivial⟩, h⟩
                  · replace h := h.2 hc79
                    refine wpR_pass (wantN rfl rfl rfl hc79) rfl rfl ?_
                    refine wpR_pass (wantN rfl rfl rfl hc79) rfl rfl ?_
                    refine wpR_pass (wantN rfl rfl rfl hc79) rfl rfl ?_
                    refine wpR_val (v := (Value.bool false)) (w' := w17) rfl rfl rfl (x_pickF (v := (Value.bool false)) rfl rfl hc79 rfl) ?_
                    refine wpR_nil ?_
                    exact ⟨false, ⟨rfl, e0, e1, e2, e7, e8, e10, e12, trivial⟩, h⟩
                clear h
                rintro c81 ρ w21 ⟨e157, e0, e1, e2, e7, e8, e10, e12, -⟩ h
                replace h := hk c81 w21 h
                clear hk
                refine wpR_val (v := (Value.bool c81)) (w' := w21) rfl rfl rfl (x_move (v := (Value.bool c81)) rfl e157) ?_
                obtain ⟨J82, h, hk⟩ := h
                refine wpR_joinJ 8 (fun x ρ => ρ 166 = Value.bool x ∧ ρ 0 = (Sl.v p0) ∧ ρ 1 = (Sl.v p1) ∧ ρ 2 = (Sl.v p2) ∧ ρ 7 = (Value.bool r1) ∧ ρ 8 = (Sl.v r12) ∧ ρ 10 = (Value.bool l36.1) ∧ ρ 12 = (Value.int .i64 l60) ∧ True) (J82) ?_ ?_
                · clear hk
                  rcases Bool.eq_false_or_eq_true (c81) with hc83 | hc83
                  · replace h := h.1 hc83
                    refine wpR_val (v := (Sl.v p2)) (w' := w21) (wantG rfl rfl rfl hc83) rfl rfl (x_move (v := (Sl.v p2)) rfl e2) ?_
                    refine wpR_val (v := (Sl.v r12)) (w' := w21) (wantG rfl rfl rfl hc83) rfl rfl (x_move (v := (Sl.v r12)) rfl e8) ?_
                    refine wpR_val (v := (Value.int .i64 l60)) (w' := w21) (wantG rfl rfl rfl hc83) rfl rfl (x_move (v := (Value.int .i64 l60)) rfl e12) ?_
                    obtain ⟨q84, z84, r84, h⟩ := h
                    generalize hp84 : z84.add ((l60).toNat * 1) = p84 at h
                    refine wpR_val (v := (Value.pointer (some p84))) (w' := w21) (wantG rfl rfl rfl hc83) rfl rfl ((x_indexAddr (s := r12) rfl rfl rfl ES_23 q84 r84).trans (by rw [hp84])) ?_
                    obtain ⟨x85, q85, h⟩ := h
                    refine wpR_val (v := (Value.int .i64 x85)) (w' := w21) (wantG rfl rfl rfl hc83) rfl rfl (x_load1 rfl rfl SH_3 q85) ?_
                    refine wpR_enter (wantG rfl rfl rfl hc83) rfl rfl (x_call (vs := [(Sl.v p2), (Value.int .i64 x85)]) rfl rfl (mapl_cons rfl (mapl_cons rfl mapl_nil)) Try.func19 NN_19 NB_19) (Calls.mono h ?_)
                    rintro _ w22 ⟨r86, rfl, h⟩
                    refine ⟨_, rfl, ?_⟩
                    refine wpR_val (v := (Value.bool (!r86))) (w' := w22) (wantG rfl rfl rfl hc83) rfl rfl (x_not rfl rfl) ?_
                    refine wpR_val (v := (Value.bool (!r86))) (w' := w22) rfl rfl rfl (x_pickT (v := (Value.bool (!r86))) rfl rfl hc83 rfl) ?_
                    refine wpR_nil ?_
                    exact ⟨!r86, ⟨rfl, e0, e1, e2, e7, e8, e10, e12, trivial⟩, h⟩
                  · replace h := h.2 hc83
                    refine wpR_pass (wantN rfl rfl rfl hc83) rfl rfl ?_
                    refine wpR_pass (wantN rfl rfl rfl hc83) rfl rfl ?_
                    refine wpR_pass (wantN rfl rfl rfl hc83) rfl rfl ?_
                    refine wpR_pass (wantN rfl rfl rfl hc83) rfl rfl ?_
                    refine wpR_pass (wantN rfl rfl rfl hc83) rfl rfl ?_
                    refine wpR_pass (wantN rfl rfl rfl hc83) rfl rfl ?_
                    refine wpR_pass (wantN rfl rfl rfl hc83) rfl rfl ?_
                    refine wpR_val (v := (Value.bool false)) (w' := w21) rfl rfl rfl (x_pickF (v := (Value.bool false)) rfl rfl hc83 rfl) ?_
                    refine wpR_nil ?_
                    exact ⟨false, ⟨rfl, e0, e1, e2, e7, e8, e10, e12, trivial⟩, h⟩
                clear h
                rintro c87 ρ w23 ⟨e166, e0, e1, e2, e7, e8, e10, e12, -⟩ h
                replace h := hk c87 w23 h
                clear hk
                refine wpR_nil ?_
                refine wpC_cond (b := c87) e166 (fun hc88 => ?_) (fun hc88 => ?_)
                · replace h := h.1 hc88
                  refine wpC_seq ?_
                  refine wpC_region ?_
                  refine wpR_val (v := (Value.bool false)) (w' := w23) rfl rfl rfl (x_assign (v := (Value.bool false)) rfl rfl) ?_
                  refine wpR_nil ?_
                  refine wpC_ret ?_
                  exact ⟨.inl rfl, fun a ha => ⟨_, results_rep1 rfl ha rfl, false, rfl, h⟩⟩
                · replace h := h.2 hc88
                  refine wpC_skip ?_
                  refine wpC_region ?_
                  refine wpR_val (v := (Value.int .i64 l60)) (w' := w23) rfl rfl rfl (x_move (v := (Value.int .i64 l60)) rfl e12) ?_
                  refine wpR_val (v := (Value.int .i64 (IntKind.i64.wrap (l60 + 1)))) (w' := w23) rfl rfl rfl (x_add rfl rfl rfl) ?_
                  refine wpR_val (v := (Value.int .i64 (IntKind.i64.wrap (l60 + 1)))) (w' := w23) rfl rfl rfl (x_assign (v := (Value.int .i64 (IntKind.i64.wrap (l60 + 1)))) rfl rfl) ?_
                  refine wpR_nil ?_
                  exact ⟨IntKind.i64.wrap (l60 + 1), ⟨rfl, e0, e1, e2, e7, e8, e10, trivial⟩, h⟩
          · replace h := h.2 hc61
            refine wpC_exit ?_
            refine wpC_seq ?_
            refine wpC_cut (fun ρ => ρ 7 = (Value.bool r1) ∧ True) ⟨e7, trivial⟩ ?_
            rintro ρ ⟨e7, -⟩
            refine wpC_region ?_
            refine wpR_val (v := (Value.bool r1)) (w' := w15) rfl rfl rfl (x_move (v := (Value.bool r1)) rfl e7) ?_
            refine wpR_val (v := (Value.bool r1)) (w' := w15) rfl rfl rfl (x_assign (v := (Value.bool r1)) rfl rfl) ?_
            refine wpR_nil ?_
            refine wpC_ret ?_
            exact ⟨.inl rfl, fun a ha => ⟨_, results_rep1 rfl ha rfl, r1, rfl, h⟩⟩

/-- lingualaw41.PlacesOrder -/
def F5 (p0 : Sl) (p1 : Sl) (p2 : Int) (w0 : World) (K : Bool → World → Prop) : Prop :=
  callC Try.prog 8 #[] (fun (r : Bool) => (Value.bool r)) w0 fun r1 w1 =>
  callC Try.prog 9 #[(Sl.v p0), (Value.int .i64 30)] (fun (r : Bool) => (Value.bool r)) w1 fun r2 w2 =>
  jn (fun J5 => cnd ((!r2) || (decide (40 < (p1.len : Int))))
    (
    J5 true w2
    )
    (
    callC Try.prog 10 #[(Sl.v p0)] (fun (r : Bool) => (Value.bool r)) w2 fun r7 w3 =>
    J5 (!r7) w3
    ))
  fun c8 w4 =>
  cnd (c8)
    (
    K r1 w4
    )
    (
    callC Try.prog 15 #[(Sl.v p0), (Sl.v p1)] (fun (r : Sl) => (Sl.v r)) w4 fun r10 w5 =>
    lp (fun (next11 : Int → World → Prop) l11 w6 =>
      cnd (decide (l11 < (r10.len : Int)))
        (
        jn (fun (J14 : Bool → World → Prop) => tk w6 fun w7 =>
          ix r10 l11 1 fun p15 =>
          ld (Value.int .i64) p15 w7 fun x16 =>
          cnd (decide (x16 < 0))
            (
            cnd (true)
              (
              cnd (true)
                (
                J14 true w7
                )
                (
                cnd (decide (0 < l11))
                  (
                  ix r10 (IntKind.i64.wrap (l11 - 1)) 1 fun p21 =>
                  ld (Value.int .i64) p21 w7 fun x22 =>
                  ix r10 l11 1 fun p23 =>
                  ld (Value.int .i64) p23 w7 fun x24 =>
                  J14 (decide (x22 ≤ x24)) w7
                  )
                  (
                  J14 false w7
                  )
                )
              )
              (
              ix r10 l11 1 fun p25 =>
              ld (Value.int .i64) p25 w7 fun x26 =>
              callC Try.prog 19 #[(Sl.v p1), (Value.int .i64 x26)] (fun (r : Bool) => (Value.bool r)) w7 fun r27 w8 =>
              (w8.cell? p15 = some (Value.int .i64 x16)) ∧
              cnd (!r27)
                (
                J14 true w8
                )
                (
                cnd (decide (0 < l11))
                  (
                  ix r10 (IntKind.i64.wrap (l11 - 1)) 1 fun p30 =>
                  ld (Value.int .i64) p30 w8 fun x31 =>
                  ix r10 l11 1 fun p32 =>
                  ld (Value.int .i64) p32 w8 fun x33 =>
                  J14 (decide (x31 ≤ x33)) w8
                  )
                  (
                  J14 false w8
                  )
                )
              )
            )
            (
            ix r10 l11 1 fun p34 =>
            ld (Value.int .i64) p34 w7 fun x35 =>
            cnd (decide ((p0.len : Int) ≤ x35))
              (
              cnd (true)
                (
                J14 true w7
                )
                (
                cnd (decide (0 < l11))
                  (
                  ix r10 (IntKind.i64.wrap (l11 - 1)) 1 fun p39 =>
                  ld (Value.int .i64) p39 w7 fun x40 =>
                  ix r10 l11 1 fun p41 =>
                  ld (Value.int .i64) p41 w7 fun x42 =>
                  J14 (decide (x40 ≤ x42)) w7
                  )
                  (
                  J14 false w7
                  )
                )
              )
              (
              ix r10 l11 1 fun p43 =>
              ld (Value.int .i64) p43 w7 fun x44 =>
              callC Try.prog 19 #[(Sl.v p1), (Value.int .i64 x44)] (fun (r : Bool) => (Value.bool r)) w7 fun r45 w9 =>
              (w9.cell? p34 = some (Value.int .i64 x35)) ∧
              (w9.cell? p15 = some (Value.int .i64 x16)) ∧
              cnd (!r45)
                (
                J14 true w9
                )
                (
                cnd (decide (0 < l11))
                  (
                  ix r10 (IntKind.i64.wrap (l11 - 1)) 1 fun p48 =>
                  ld (Value.int .i64) p48 w9 fun x49 =>
                  ix r10 l11 1 fun p50 =>
                  ld (Value.int .i64) p50 w9 fun x51 =>
                  J14 (decide (x49 ≤ x51)) w9
                  )
                  (
                  J14 false w9
                  )
                )
              )
            )
        )
        fun l52 w10 =>
        cnd (l52)
          (
          K false w10
          )
          (
          next11 (IntKind.i64.wrap (l11 + 1)) w10
          )
        )
        (
        lp (fun (next54 : Int → World → Prop) l54 w11 =>
          cnd (decide (l54 < (p1.len : Int)))
            (
            ix p1 l54 1 fun p56 =>
            ld (Value.int .i64) p56 w11 fun x57 =>
            jp (fun J58 => cnd (decide (0 ≤ x57))
              (
              ix p1 l54 1 fun p60 =>
              ld (Value.int .i64) p60 w11 fun x61 =>
              J58 (decide (x61 < (p0.len : Int)))
              )
              (
              J58 false
              ))
            fun c62 =>
            jn (fun J63 => cnd (c62)
              (
              ix p1 l54 1 fun p65 =>
              ld (Value.int .i64) p65 w11 fun x66 =>
              callC Try.prog 19 #[(Sl.v r10), (Value.int .i64 x66)] (fun (r : Bool) => (Value.bool r)) w11 fun r67 w12 =>
              J63 (!r67) w12
              )
              (
              J63 false w11
              ))
            fun c68 w13 =>
            cnd (c68)
              (
              K false w13
              )
              (
              next54 (IntKind.i64.wrap (l54 + 1)) w13
              )
            )
            (
            callC Try.prog 13 #[(Sl.v p0), (Sl.v p1)] (fun (r : Sl) => (Sl.v r)) w11 fun r70 w14 =>
            callC Try.prog 15 #[(Sl.v p0), (Sl.v r70)] (fun (r : Sl) => (Sl.v r)) w14 fun r71 w15 =>
            rn Try.prog (Instr.sliceAt 23 (Sl.v r71) none (some (Value.int .i64 (min (r71.len : Int) (IntKind.i64.wrap p2)))) none) (fun (r : Sl) => (Sl.v r)) w15 fun r72 w16 =>
            lp (fun (next73 : Int → World → Prop) l73 w17 =>
              cnd (decide (l73 < (p0.len : Int)))
                (
                lp (fun (next75 : Int → World → Prop) l75 w18 =>
                  ix p0 l73 3 fun p76 =>
                  ld Sl.v (p76.add 2) w18 fun x77 =>
                  cnd (decide (l75 < (x77.len : Int)))
                    (
                    ix p0 l73 3 fun p79 =>
                    ld Sl.v (p79.add 2) w18 fun x80 =>
                    ix x80 l75 1 fun p81 =>
                    ld (Value.int .i64) p81 w18 fun x82 =>
                    callC Try.prog 19 #[(Sl.v r72), (Value.int .i64 x82)] (fun (r : Bool) => (Value.bool r)) w18 fun r83 w19 =>
                    jn (fun J84 => cnd (r83)
                      (
                      callC Try.prog 19 #[(Sl.v r72), (Value.int .i64 l73)] (fun (r : Bool) => (Value.bool r)) w19 fun r86 w20 =>
                      J84 (!r86) w20
                      )
                      (
                      J84 false w19
                      ))
                    fun c87 w21 =>
                    cnd (c87)
                      (
                      K false w21
                      )
                      (
                      next75 (IntKind.i64.wrap (l75 + 1)) w21
                      )
                    )
                    (
                    next73 (IntKind.i64.wrap (l73 + 1)) w18
                    )
                ) 0 w17
                )
                (
                K r1 w17
                )
            ) 0 w16
            )
        ) 0 w6
        )
    ) 0 w5
    )
set_option maxRecDepth 100000 in
theorem D5 (p0 : Sl) (p1 : Sl) (p2 : Int) (w0 : World) (K : Bool → World → Prop) (h : F5 p0 p1 p2 w0 K) : callC Try.prog 5 #[(Sl.v p0), (Sl.v p1), (Value.int .u8 p2)] (fun (r : Bool) => (Value.bool r)) w0 K := by
  unfold F5 at h
  refine calls_of_wpC Try.func5 rfl 152 rfl (by simp) ?_
  intro ρ hρ
  have e0 : ρ 0 = (Sl.v p0) := hρ 0
  have e1 : ρ 1 = (Sl.v p1) := hρ 1
  have e2 : ρ 2 = (Value.int .u8 p2) := hρ 2
  clear hρ
  refine wpC_seq ?_
  refine wpC_region ?_
  refine wpR_val (v := (Value.bool false)) (w' := w0) rfl rfl rfl (x_assign (v := (Value.bool false)) rfl rfl) ?_
  refine wpR_nil ?_
  refine wpC_seq ?_
  refine wpC_cut (fun ρ => ρ 0 = (Sl.v p0) ∧ ρ 1 = (Sl.v p1) ∧ ρ 2 = (Value.int .u8 p2) ∧ True) ⟨e0, e1, e2, trivial⟩ ?_
  rintro ρ ⟨e0, e1, e2, -⟩
  refine wpC_region ?_
  refine wpR_enter rfl rfl rfl (x_call (vs := []) rfl rfl mapl_nil Try.func8 NN_8 NB_8) (Calls.mono h ?_)
  rintro _ w1 ⟨r1, rfl, h⟩
  refine ⟨_, rfl, ?_⟩
  refine wpR_val (v := (Value.bool r1)) (w' := w1) rfl rfl rfl (x_assign (v := (Value.bool r1)) rfl rfl) ?_
  refine wpR_nil ?_
  refine wpC_seq ?_
  refine wpC_seq ?_
  refine wpC_cut (fun ρ => ρ 0 = (Sl.v p0) ∧ ρ 1 = (Sl.v p1) ∧ ρ 2 = (Value.int .u8 p2) ∧ ρ 7 = (Value.bool r1) ∧ True) ⟨e0, e1, e2, rfl, trivial⟩ ?_
  rintro ρ ⟨e0, e1, e2, e7, -⟩
  refine wpC_region ?_
  refine wpR_val (v := (Sl.v p0)) (w' := w1) rfl rfl rfl (x_move (v := (Sl.v p0)) rfl e0) ?_
  refine wpR_enter rfl rfl rfl (x_call (vs := [(Sl.v p0), (Value.int .i64 30)]) rfl rfl (mapl_cons rfl (mapl_cons rfl mapl_nil)) Try.func9 NN_9 NB_9) (Calls.mono h ?_)
  rintro _ w2 ⟨r2, rfl, h⟩
  refine ⟨_, rfl, ?_⟩
  refine wpR_val (v := (Value.bool (!r2))) (w' := w2) rfl rfl rfl (x_not rfl rfl) ?_
  refine wpR_val (v := (Value.bool (!r2))) (w' := w2) rfl rfl rfl (x_move (v := (Value.bool (!r2))) rfl rfl) ?_
  refine wpR_joinJ 4 (fun (_ : Unit) ρ => ρ 23 = Value.bool ((!r2) || (decide (40 < (p1.len : Int)))) ∧ ρ 0 = (Sl.v p0) ∧ ρ 1 = (Sl.v p1) ∧ ρ 2 = (Value.int .u8 p2) ∧ ρ 7 = (Value.bool r1) ∧ True) (fun _ w => w2 = w) ?_ ?_
  · clear h
    rcases Bool.eq_false_or_eq_true (!r2) with hc4 | hc4
    · skip
      refine wpR_pass (wantN rfl rfl rfl hc4) rfl rfl ?_
      refine wpR_pass (wantN rfl rfl rfl hc4) rfl rfl ?_
      refine wpR_pass (wantN rfl rfl rfl hc4) rfl rfl ?_
      refine wpR_val (v := (Value.bool true)) (w' := w2) rfl rfl rfl (x_pickT (v := (Value.bool true)) rfl rfl hc4 rfl) ?_
      refine wpR_nil ?_
      exact ⟨(), ⟨(by rw [hc4]; rfl), e0, e1, e2, e7, trivial⟩, rfl⟩
    · skip
      refine wpR_val (v := (Sl.v p1)) (w' := w2) (wantG rfl rfl rfl hc4) rfl rfl (x_move (v := (Sl.v p1)) rfl e1) ?_
      refine wpR_val (v := (Value.int .i64 (p1.len : Int))) (w' := w2) (wantG rfl rfl rfl hc4) rfl rfl (x_lenS (s := p1) rfl rfl isSliceT_23) ?_
      refine wpR_val (v := (Value.bool (decide (40 < (p1.len : Int))))) (w' := w2) (wantG rfl rfl rfl hc4) rfl rfl (x_gtr rfl rfl rfl) ?_
      refine wpR_val (v := (Value.bool (decide (40 < (p1.len : Int))))) (w' := w2) rfl rfl rfl (x_pickF (v := (Value.bool (decide (40 < (p1.len : Int))))) rfl rfl hc4 rfl) ?_
      refine wpR_nil ?_
      exact ⟨(), ⟨(by rw [hc4]; rfl), e0, e1, e2, e7, trivial⟩, rfl⟩
  rintro _ ρ wj ⟨e23, e0, e1, e2, e7, -⟩ rfl
  refine wpR_val (v := (Value.bool ((!r2) || (decide (40 < (p1.len : Int)))))) (w' := w2) rfl rfl rfl (x_move (v := (Value.bool ((!r2) || (decide (40 < (p1.len : Int)))))) rfl e23) ?_
  obtain ⟨J5, h, hk⟩ := h
  refine wpR_joinJ 4 (fun x ρ => ρ 28 = Value.bool x ∧ ρ 0 = (Sl.v p0) ∧ ρ 1 = (Sl.v p1) ∧ ρ 2 = (Value.int .u8 p2) ∧ ρ 7 = (Value.bool r1) ∧ True) (J5) ?_ ?_
  · clear hk
    rcases Bool.eq_false_or_eq_true ((!r2) || (decide (40 < (p1.len : Int)))) with hc6 | hc6
    · replace h := h.1 hc6
      refine wpR_pass (wantN rfl rfl rfl hc6) rfl rfl ?_
      refine wpR_pass (wantN rfl rfl rfl hc6) rfl rfl ?_
      refine wpR_pass (wantN rfl rfl rfl hc6) rfl rfl ?_
      refine wpR_val (v := (Value.bool true)) (w' := w2) rfl rfl rfl (x_pickT (v := (Value.bool true)) rfl rfl hc6 rfl) ?_
      refine wpR_nil ?_
      exact ⟨true, ⟨rfl, e0, e1, e2, e7, trivial⟩, h⟩
    · replace h := h.2 hc6
      refine wpR_val (v := (Sl.v p0)) (w' := w2) (wantG rfl rfl rfl hc6) rfl rfl (x_move (v := (Sl.v p0)) rfl e0) ?_
      refine wpR_enter (wantG rfl rfl rfl hc6) rfl rfl (x_call (vs := [(Sl.v p0)]) rfl rfl (mapl_cons rfl mapl_nil) Try.func10 NN_10 NB_10) (Calls.mono h ?_)
      rintro _ w3 ⟨r7, rfl, h⟩
      refine ⟨_, rfl, ?_⟩
      refine wpR_val (v := (Value.bool (!r7))) (w' := w3) (wantG rfl rfl rfl hc6) rfl rfl (x_not rfl rfl) ?_
      refine wpR_val (v := (Value.bool (!r7))) (w' := w3) rfl rfl rfl (x_pickF (v := (Value.bool (!r7))) rfl rfl hc6 rfl) ?_
      refine wpR_nil ?_
      exact ⟨!r7, ⟨rfl, e0, e1, e2, e7, trivial⟩, h⟩
  clear h
  rintro c8 ρ w4 ⟨e28, e0, e1, e2, e7, -⟩ h
  replace h := hk c8 w4 h
  clear hk
  refine wpR_nil ?_
  refine wpC_cond (b := c8) e28 (fun hc9 => ?_) (fun hc9 => ?_)
  · replace h := h.1 hc9
    refine wpC_seq ?_
    refine wpC_region ?_
    refine wpR_val (v := (Value.bool r1)) (w' := w4) rfl rfl rfl (x_move (v := (Value.bool r1)) rfl e7) ?_
    refine wpR_val (v := (Value.bool r1)) (w' := w4) rfl rfl rfl (x_assign (v := (Value.bool r1)) rfl rfl) ?_
    refine wpR_nil ?_
    refine wpC_ret ?_
    exact ⟨.inl rfl, fun a ha => ⟨_, results_rep1 rfl ha rfl, r1, rfl, h⟩⟩
  · replace h := h.2 hc9
    refine wpC_skip ?_
    refine wpC_seq ?_
    refine wpC_region ?_
    refine wpR_val (v := (Sl.v p0)) (w' := w4) rfl rfl rfl (x_move (v := (Sl.v p0)) rfl e0) ?_
    refine wpR_val (v := (Sl.v p1)) (w' := w4) rfl rfl rfl (x_move (v := (Sl.v p1)) rfl e1) ?_
    refine wpR_enter rfl rfl rfl (x_call (vs := [(Sl.v p0), (Sl.v p1)]) rfl rfl (mapl_cons rfl (mapl_cons rfl mapl_nil)) Try.func15 NN_15 NB_15) (Calls.mono h ?_)
    rintro _ w5 ⟨r10, rfl, h⟩
    refine ⟨_, rfl, ?_⟩
    refine wpR_val (v := (Sl.v r10)) (w' := w5) rfl rfl rfl (x_assign (v := (Sl.v r10)) rfl rfl) ?_
    refine wpR_nil ?_
    refine wpC_seq ?_
    refine wpC_seq ?_
    refine wpC_cut (fun ρ => ρ 0 = (Sl.v p0) ∧ ρ 1 = (Sl.v p1) ∧ ρ 2 = (Value.int .u8 p2) ∧ ρ 7 = (Value.bool r1) ∧ ρ 8 = (Sl.v r10) ∧ True) ⟨e0, e1, e2, e7, rfl, trivial⟩ ?_
    rintro ρ ⟨e0, e1, e2, e7, e8, -⟩
    refine wpC_region ?_
    refine wpR_val (v := (Value.int .i64 0)) (w' := w5) rfl rfl rfl (x_assign (v := (Value.int .i64 0)) rfl rfl) ?_
    refine wpR_nil ?_
    refine wpC_block ?_
    obtain ⟨I11, μ11, hI11, hr11⟩ := h
    refine wpC_loop (fun (x : Int) ρ => ρ 9 = (Value.int .i64 x) ∧ ρ 0 = (Sl.v p0) ∧ ρ 1 = (Sl.v p1) ∧ ρ 2 = (Value.int .u8 p2) ∧ ρ 7 = (Value.bool r1) ∧ ρ 8 = (Sl.v r10) ∧ True) I11 μ11 0 ⟨rfl, e0, e1, e2, e7, e8, trivial⟩ hI11 ?_
    rintro l11 ρ w6 ⟨e9, e0, e1, e2, e7, e8, -⟩ h
    replace h := hr11 l11 w6 h
    clear hr11 hI11
    refine wpC_seq ?_
    refine wpC_seq ?_
    refine wpC_region ?_
    refine wpR_val (v := (Value.int .i64 l11)) (w' := w6) rfl rfl rfl (x_move (v := (Value.int .i64 l11)) rfl e9) ?_
    refine wpR_val (v := (Sl.v r10)) (w' := w6) rfl rfl rfl (x_move (v := (Sl.v r10)) rfl e8) ?_
    refine wpR_val (v := (Value.int .i64 (r10.len : Int))) (w' := w6) rfl rfl rfl (x_lenS (s := r10) rfl rfl isSliceT_23) ?_
    refine wpR_val (v := (Value.bool (decide (l11 < (r10.len : Int))))) (w' := w6) rfl rfl rfl (x_lss rfl rfl rfl) ?_
    refine wpR_nil ?_
    refine wpC_cond (b := decide (l11 < (r10.len : Int))) rfl (fun hc12 => ?_) (fun hc12 => ?_)
    · replace h := h.1 hc12
      refine wpC_skip ?_
      refine wpC_seq ?_
      refine wpC_block ?_
      refine wpC_seq ?_
      refine wpC_cut (fun ρ => ρ 0 = (Sl.v p0) ∧ ρ 1 = (Sl.v p1) ∧ ρ 2 = (Value.int .u8 p2) ∧ ρ 7 = (Value.bool r1) ∧ ρ 8 = (Sl.v r10) ∧ ρ 9 = (Value.int .i64 l11) ∧ True) ⟨e0, e1, e2, e7, e8, e9, trivial⟩ ?_
      rintro ρ ⟨e0, e1, e2, e7, e8, e9, -⟩
      obtain ⟨J14, h, hk⟩ := h
      refine wpC_drawJ (by kernel_rfl) (fun (x : Bool) ρ => ρ 77 = (Value.bool x) ∧ ρ 0 = (Sl.v p0) ∧ ρ 1 = (Sl.v p1) ∧ ρ 2 = (Value.int .u8 p2) ∧ ρ 7 = (Value.bool r1) ∧ ρ 8 = (Sl.v r10) ∧ ρ 9 = (Value.int .i64 l11) ∧ True) J14 ?_ ?_
      · clear hk
        unfold tk at h
        generalize w6.drew = w7 at h ⊢
        refine wpD_take (v := (Sl.v r10)) 0 (fun _ => True) rfl (by kernel_rfl) (by kernel_rfl) (by kernel_rfl) rfl rfl rfl trivial (fun w _ => (x_move (v := (Sl.v r10)) rfl e8)) ?_
        refine wpD_take (v := (Value.int .i64 l11)) 1 (fun _ => True) rfl (by kernel_rfl) (by kernel_rfl) (by kernel_rfl) rfl rfl rfl trivial (fun w _ => (x_move (v := (Value.int .i64 l11)) rfl e9)) ?_
        obtain ⟨q15, z15, r15, h⟩ := h
        generalize hp15 : z15.add ((l11).toNat * 1) = p15 at h
        refine wpD_take (v := (Value.pointer (some p15))) 2 (fun _ => True) rfl (by kernel_rfl) (by kernel_rfl) (by kernel_rfl) rfl rfl rfl trivial (fun w _ => ((x_indexAddr (s := r10) rfl rfl rfl ES_23 q15 r15).trans (by rw [hp15]))) ?_
        obtain ⟨x16, q16, h⟩ := h
        refine wpD_take (v := (Value.int .i64 x16)) 3 (fun w => w.cell? p15 = some (Value.int .i64 x16)) rfl (by kernel_rfl) (by kernel_rfl) (by kernel_rfl) rfl rfl rfl q16 (fun w q16 => (x_load1 rfl rfl SH_3 q16)) ?_
        refine wpD_take (v := (Value.bool (decide (x16 < 0)))) 4 (fun _ => True) rfl (by kernel_rfl) (by kernel_rfl) (by kernel_rfl) rfl rfl rfl trivial (fun w _ => (x_lss rfl rfl rfl)) ?_
        refine wpD_take (v := (Value.bool (decide (x16 < 0)))) 5 (fun _ => True) rfl (by kernel_rfl) (by kernel_rfl) (by kernel_rfl) rfl rfl rfl trivial (fun w _ => (x_move (v := (Value.bool (decide (x16 < 0)))) rfl rfl)) ?_
        rcases Bool.eq_false_or_eq_true (decide (x16 < 0)) with hc17 | hc17
        · replace h := h.1 hc17
          refine wpD_pass 6 rfl (by kernel_rfl) (by kernel_rfl) (by kernel_rfl) (wantN rfl rfl rfl hc17) rfl rfl ?_
          refine wpD_pass 7 rfl (by kernel_rfl) (by kernel_rfl) (by kernel_rfl) (wantN rfl rfl rfl hc17) rfl rfl ?_
          refine wpD_pass 8 rfl (by kernel_rfl) (by kernel_rfl) (by kernel_rfl) (wantN rfl rfl rfl hc17) rfl rfl ?_
          refine wpD_pass 9 rfl (by kernel_rfl) (by kernel_rfl) (by kernel_rfl) (wantN rfl rfl rfl hc17) rfl rfl ?_
          refine wpD_pass 10 rfl (by kernel_rfl) (by kernel_rfl) (by kernel_rfl) (wantN rfl rfl rfl hc17) rfl rfl ?_
          refine wpD_pass 11 rfl (by kernel_rfl) (by kernel_rfl) (by kernel_rfl) (wantN rfl rfl rfl hc17) rfl rfl ?_
          refine wpD_pass 12 rfl (by kernel_rfl) (by kernel_rfl) (by kernel_rfl) (wantN rfl rfl rfl hc17) rfl rfl ?_
          refine wpD_take (v := (Value.bool true)) 13 (fun _ => True) rfl (by kernel_rfl) (by kernel_rfl) (by kernel_rfl) rfl rfl rfl trivial (fun w _ => (x_pickT (v := (Value.bool true)) rfl rfl hc17 rfl)) ?_
          refine wpD_take (v := (Value.bool true)) 14 (fun _ => True) rfl (by kernel_rfl) (by kernel_rfl) (by kernel_rfl) rfl rfl rfl trivial (fun w _ => (x_move (v := (Value.bool true)) rfl rfl)) ?_
          rcases Bool.eq_false_or_eq_true (true) with hc18 | hc18
          · replace h := h.1 hc18
            refine wpD_pass 15 rfl (by kernel_rfl) (by kernel_rfl) (by kernel_rfl) (wantN rfl rfl rfl hc18) rfl rfl ?_
            refine wpD_pass 16 rfl (by kernel_rfl) (by kernel_rfl) (by kernel_rfl) (wantN rfl rfl rfl hc18) rfl rfl ?_
            refine wpD_pass 17 rfl (by kernel_rfl) (by kernel_rfl) (by kernel_rfl) (wantN rfl rfl rfl hc18) rfl rfl ?_
            refine wpD_pass 18 rfl (by kernel_rfl) (by kernel_rfl) (by kernel_rfl) (wantN rfl rfl rfl hc18) rfl rfl ?_
            refine wpD_pass 19 rfl (by kernel_rfl) (by kernel_rfl) (by kernel_rfl) (wantN rfl rfl rfl hc18) rfl rfl ?_
            refine wpD_pass 20 rfl (by kernel_rfl) (by kernel_rfl) (by kernel_rfl) (wantN rfl rfl rfl hc18) rfl rfl ?_
            refine wpD_pass 21 rfl (by kernel_rfl) (by kernel_rfl) (by kernel_rfl) (wantN rfl rfl rfl hc18) rfl rfl ?_
            refine wpD_take (v := (Value.bool true)) 22 (fun _ => True) rfl (by kernel_rfl) (by kernel_rfl) (by kernel_rfl) rfl rfl rfl trivial (fun w _ => (x_pickT (v := (Value.bool true)) rfl rfl hc18 rfl)) ?_
            refine wpD_take (v := (Value.bool true)) 23 (fun _ => True) rfl (by kernel_rfl) (by kernel_rfl) (by kernel_rfl) rfl rfl rfl trivial (fun w _ => (x_move (v := (Value.bool true)) rfl rfl)) ?_
            rcases Bool.eq_false_or_eq_true (true) with hc19 | hc19
            · replace h := h.1 hc19
              refine wpD_pass 24 rfl (by kernel_rfl) (by kernel_rfl) (by kernel_rfl) (wantN rfl rfl rfl hc19) rfl rfl ?_
              refine wpD_pass 25 rfl (by kernel_rfl) (by kernel_rfl) (by kernel_rfl) (wantN rfl rfl rfl hc19) rfl rfl ?_
              refine wpD_pass 26 rfl (by kernel_rfl) (by kernel_rfl) (by kernel_rfl) (wantN rfl rfl rfl hc19) rfl rfl ?_
              refine wpD_pass 27 rfl (by kernel_rfl) (by kernel_rfl) (by kernel_rfl) (wantU rfl rfl rfl) rfl rfl ?_
              refine wpD_pass 28 rfl (by kernel_rfl) (by kernel_rfl) (by kernel_rfl) (wantU rfl rfl rfl) rfl rfl ?_
              refine wpD_pass 29 rfl (by kernel_rfl) (by kernel_rfl) (by kernel_rfl) (wantU rfl rfl rfl) rfl rfl ?_
              refine wpD_pass 30 rfl (by kernel_rfl) (by kernel_rfl) (by kernel_rfl) (wantU rfl rfl rfl) rfl rfl ?_
              refine wpD_pass 31 rfl (by kernel_rfl) (by kernel_rfl) (by kernel_rfl) (wantU rfl rfl rfl) rfl rfl ?_
              refine wpD_pass 32 rfl (by kernel_rfl) (by kernel_rfl) (by kernel_rfl) (wantU rfl rfl rfl) rfl rfl ?_
              refine wpD_pass 33 rfl (by kernel_rfl) (by kernel_rfl) (by kernel_rfl) (wantU rfl rfl rfl) rfl rfl ?_
              refine wpD_pass 34 rfl (by kernel_rfl) (by kernel_rfl) (by kernel_rfl) (wantU rfl rfl rfl) rfl rfl ?_
              refine wpD_pass 35 rfl (by kernel_rfl) (by kernel_rfl) (by kernel_rfl) (wantU rfl rfl rfl) rfl rfl ?_
              refine wpD_pass 36 rfl (by kernel_rfl) (by kernel_rfl) (by kernel_rfl) (wantU rfl rfl rfl) rfl rfl ?_
              refine wpD_pass 37 rfl (by kernel_rfl) (by kernel_rfl) (by kernel_rfl) (wantN rfl rfl rfl hc19) rfl rfl ?_
              refine wpD_take (v := (Value.bool true)) 38 (fun _ => True) rfl (by kernel_rfl) (by kernel_rfl) (by kernel_rfl) rfl rfl rfl trivial (fun w _ => (x_pickT (v := (Value.bool true)) rfl rfl hc19 rfl)) ?_
              exact wpD_done (by kernel_rfl) ⟨true, ⟨rfl, e0, e1, e2, e7, e8, e9, trivial⟩, h⟩
            · replace h := h.2 hc19
              refine wpD_take (v := (Value.int .i64 l11)) 24 (fun _ => True) rfl (by kernel_rfl) (by kernel_rfl) (by kernel_rfl) (wantG rfl rfl rfl hc19) rfl rfl trivial (fun w _ => (x_move (v := (Value.int .i64 l11)) rfl e9)) ?_
              refine wpD_take (v := (Value.bool (decide (0 < l11)))) 25 (fun _ => True) rfl (by kernel_rfl) (by kernel_rfl) (by kernel_rfl) (wantG rfl rfl rfl hc19) rfl rfl trivial (fun w _ => (x_gtr rfl rfl rfl)) ?_
              refine wpD_take (v := (Value.bool (decide (0 < l11)))) 26 (fun _ => True) rfl (by kernel_rfl) (by kernel_rfl) (by kernel_rfl) (wantG rfl rfl rfl hc19) rfl rfl trivial (fun w _ => (x_move (v := (Value.bool (decide (0 < l11)))) rfl rfl)) ?_
              rcases Bool.eq_false_or_eq_true (decide (0 < l11)) with hc20 | hc20
              · replace h := h.1 hc20
                refine wpD_take (v := (Sl.v r10)) 27 (fun _ => True) rfl (by kernel_rfl) (by kernel_rfl) (by kernel_rfl) (wantG rfl rfl rfl hc20) rfl rfl trivial (fun w _ => (x_move (v := (Sl.v r10)) rfl e8)) ?_
                refine wpD_take (v := (Value.int .i64 l11)) 28 (fun _ => True) rfl (by kernel_rfl) (by kernel_rfl) (by kernel_rfl) (wantG rfl rfl rfl hc20) rfl rfl trivial (fun w _ => (x_move (v := (Value.int .i64 l11)) rfl e9)) ?_
                refine wpD_take (v := (Value.int .i64 (IntKind.i64.wrap (l11 - 1)))) 29 (fun _ => True) rfl (by kernel_rfl) (by kernel_rfl) (by kernel_rfl) (wantG rfl rfl rfl hc20) rfl rfl trivial (fun w _ => (x_sub rfl rfl rfl)) ?_
                obtain ⟨q21, z21, r21, h⟩ := h
                generalize hp21 : z21.add ((IntKind.i64.wrap (l11 - 1)).toNat * 1) = p21 at h
                refine wpD_take (v := (Value.pointer (some p21))) 30 (fun _ => True) rfl (by kernel_rfl) (by kernel_rfl) (by kernel_rfl) (wantG rfl rfl rfl hc20) rfl rfl trivial (fun w _ => ((x_indexAddr (s := r10) rfl rfl rfl ES_23 q21 r21).trans (by rw [hp21]))) ?_
                obtain ⟨x22, q22, h⟩ := h
                refine wpD_take (v := (Value.int .i64 x22)) 31 (fun w => w.cell? p21 = some (Value.int .i64 x22)) rfl (by kernel_rfl) (by kernel_rfl) (by kernel_rfl) (wantG rfl rfl rfl hc20) rfl rfl q22 (fun w q22 => (x_load1 rfl rfl SH_3 q22)) ?_
                refine wpD_take (v := (Sl.v r10)) 32 (fun _ => True) rfl (by kernel_rfl) (by kernel_rfl) (by kernel_rfl) (wantG rfl rfl rfl hc20) rfl rfl trivial (fun w _ => (x_move (v := (Sl.v r10)) rfl e8)) ?_
                refine wpD_take (v := (Value.int .i64 l11)) 33 (fun _ => True) rfl (by kernel_rfl) (by kernel_rfl) (by kernel_rfl) (wantG rfl rfl rfl hc20) rfl rfl trivial (fun w _ => (x_move (v := (Value.int .i64 l11)) rfl e9)) ?_
                obtain ⟨q23, z23, r23, h⟩ := h
                generalize hp23 : z23.add ((l11).toNat * 1) = p23 at h
                refine wpD_take (v := (Value.pointer (some p23))) 34 (fun _ => True) rfl (by kernel_rfl) (by kernel_rfl) (by kernel_rfl) (wantG rfl rfl rfl hc20) rfl rfl trivial (fun w _ => ((x_indexAddr (s := r10) rfl rfl rfl ES_23 q23 r23).trans (by rw [hp23]))) ?_
                obtain ⟨x24, q24, h⟩ := h
                refine wpD_take (v := (Value.int .i64 x24)) 35 (fun w => w.cell? p23 = some (Value.int .i64 x24)) rfl (by kernel_rfl) (by kernel_rfl) (by kernel_rfl) (wantG rfl rfl rfl hc20) rfl rfl q24 (fun w q24 => (x_load1 rfl rfl SH_3 q24)) ?_
                refine wpD_take (v := (Value.bool (decide (x22 ≤ x24)))) 36 (fun _ => True) rfl (by kernel_rfl) (by kernel_rfl) (by kernel_rfl) (wantG rfl rfl rfl hc20) rfl rfl trivial (fun w _ => (x_leq rfl rfl rfl)) ?_
                refine wpD_take (v := (Value.bool (decide (x22 ≤ x24)))) 37 (fun _ => True) rfl (by kernel_rfl) (by kernel_rfl) (by kernel_rfl) (wantG rfl rfl rfl hc19) rfl rfl trivial (fun w _ => (x_pickT (v := (Value.bool (decide (x22 ≤ x24)))) rfl rfl hc20 rfl)) ?_
                refine wpD_take (v := (Value.bool (decide (x22 ≤ x24)))) 38 (fun _ => True) rfl (by kernel_rfl) (by kernel_rfl) (by kernel_rfl) rfl rfl rfl trivial (fun w _ => (x_pickF (v := (Value.bool (decide (x22 ≤ x24)))) rfl rfl hc19 rfl)) ?_
                exact wpD_done (by kernel_rfl) ⟨decide (x22 ≤ x24), ⟨rfl, e0, e1, e2, e7, e8, e9, trivial⟩, h⟩
              · replace h := h.2 hc20
                refine wpD_pass 27 rfl (by kernel_rfl) (by kernel_rfl) (by kernel_rfl) (wantN rfl rfl rfl hc20) rfl rfl ?_
                refine wpD_pass 28 rfl (by kernel_rfl) (by kernel_rfl) (by kernel_rfl) (wantN rfl rfl rfl hc20) rfl rfl ?_
                refine wpD_pass 29 rfl (by kernel_rfl) (by kernel_rfl) (by kernel_rfl) (wantN rfl rfl rfl hc20) rfl rfl ?_
                refine wpD_pass 30 rfl (by kernel_rfl) (by kernel_rfl) (by kernel_rfl) (wantN rfl rfl rfl hc20) rfl rfl ?_
                refine wpD_pass 31 rfl (by kernel_rfl) (by kernel_rfl) (by kernel_rfl) (wantN rfl rfl rfl hc20) rfl rfl ?_
                refine wpD_pass 32 rfl (by kernel_rfl) (by kernel_rfl) (by kernel_rfl) (wantN rfl rfl rfl hc20) rfl rfl ?_
                refine wpD_pass 33 rfl (by kernel_rfl) (by kernel_rfl) (by kernel_rfl) (wantN rfl rfl rfl hc20) rfl rfl ?_
                refine wpD_pass 34 rfl (by kernel_rfl) (by kernel_rfl) (by kernel_rfl) (wantN rfl rfl rfl hc20) rfl rfl ?_
                refine wpD_pass 35 rfl (by kernel_rfl) (by kernel_rfl) (by kernel_rfl) (wantN rfl rfl rfl hc20) rfl rfl ?_
                refine wpD_pass 36 rfl (by kernel_rfl) (by kernel_rfl) (by kernel_rfl) (wantN rfl rfl rfl hc20) rfl rfl ?_
                refine wpD_take (v := (Value.bool false)) 37 (fun _ => True) rfl (by kernel_rfl) (by kernel_rfl) (by kernel_rfl) (wantG rfl rfl rfl hc19) rfl rfl trivial (fun w _ => (x_pickF (v := (Value.bool false)) rfl rfl hc20 rfl)) ?_
                refine wpD_take (v := (Value.bool false)) 38 (fun _ => True) rfl (by kernel_rfl) (by kernel_rfl) (by kernel_rfl) rfl rfl rfl trivial (fun w _ => (x_pickF (v := (Value.bool false)) rfl rfl hc19 rfl)) ?_
                exact wpD_done (by kernel_rfl) ⟨false, ⟨rfl, e0, e1, e2, e7, e8, e9, trivial⟩, h⟩
          · replace h := h.2 hc18
            refine wpD_take (v := (Sl.v p1)) 15 (fun _ => True) rfl (by kernel_rfl) (by kernel_rfl) (by kernel_rfl) (wantG rfl rfl rfl hc18) rfl rfl trivial (fun w _ => (x_move (v := (Sl.v p1)) rfl e1)) ?_
            refine wpD_take (v := (Sl.v r10)) 16 (fun _ => True) rfl (by kernel_rfl) (by kernel_rfl) (by kernel_rfl) (wantG rfl rfl rfl hc18) rfl rfl trivial (fun w _ => (x_move (v := (Sl.v r10)) rfl e8)) ?_
            refine wpD_take (v := (Value.int .i64 l11)) 17 (fun _ => True) rfl (by kernel_rfl) (by kernel_rfl) (by kernel_rfl) (wantG rfl rfl rfl hc18) rfl rfl trivial (fun w _ => (x_move (v := (Value.int .i64 l11)) rfl e9)) ?_
            obtain ⟨q25, z25, r25, h⟩ := h
            generalize hp25 : z25.add ((l11).toNat * 1) = p25 at h
            refine wpD_take (v := (Value.pointer (some p25))) 18 (fun _ => True) rfl (by kernel_rfl) (by kernel_rfl) (by kernel_rfl) (wantG rfl rfl rfl hc18) rfl rfl trivial (fun w _ => ((x_indexAddr (s := r10) rfl rfl rfl ES_23 q25 r25).trans (by rw [hp25]))) ?_
            obtain ⟨x26, q26, h⟩ := h
            refine wpD_take (v := (Value.int .i64 x26)) 19 (fun w => w.cell? p25 = some (Value.int .i64 x26)) rfl (by kernel_rfl) (by kernel_rfl) (by kernel_rfl) (wantG rfl rfl rfl hc18) rfl rfl q26 (fun w q26 => (x_load1 rfl rfl SH_3 q26)) ?_
            refine wpD_all (rs := [20]) (by kernel_rfl) (by simp) (allD_cons ?_ allD_nil)
            refine stepD_enterL (L' := [(18, fun _ => True), (17, fun _ => True), (16, fun _ => True), (13, fun _ => True), (12, fun _ => True), (11, fun _ => True), (10, fun _ => True), (9, fun _ => True), (8, fun _ => True), (7, fun _ => True), (6, fun _ => True), (5, fun _ => True), (4, fun _ => True), (3, fun w => w.cell? p15 = some (Value.int .i64 x16)), (2, fun _ => True), (1, fun _ => True), (0, fun _ => True)]) rfl (wantG rfl rfl rfl hc18) rfl rfl (x_call (vs := [(Sl.v p1), (Value.int .i64 x26)]) rfl rfl (mapl_cons rfl (mapl_cons rfl mapl_nil)) Try.func19 NN_19 NB_19) (by kernel_rfl) (Calls.mono h ?_)
            rintro _ w8 ⟨r27, rfl, h⟩
            obtain ⟨o3, h⟩ := h
            refine ⟨_, rfl, (held_cons trivial (held_cons trivial (held_cons trivial (held_cons trivial (held_cons trivial (held_cons trivial (held_cons trivial (held_cons trivial (held_cons trivial (held_cons trivial (held_cons trivial (held_cons trivial (held_cons trivial (held_cons o3 (held_cons trivial (held_cons trivial (held_cons trivial held_nil))))))))))))))))), ?_⟩
            refine wpD_take (v := (Value.bool (!r27))) 21 (fun _ => True) rfl (by kernel_rfl) (by kernel_rfl) (by kernel_rfl) (wantG rfl rfl rfl hc18) rfl rfl trivial (fun w _ => (x_not rfl rfl)) ?_
            refine wpD_take (v := (Value.bool (!r27))) 22 (fun _ => True) rfl (by kernel_rfl) (by kernel_rfl) (by kernel_rfl) rfl rfl rfl trivial (fun w _ => (x_pickF (v := (Value.bool (!r27))) rfl rfl hc18 rfl)) ?_
            refine wpD_take (v := (Value.bool (!r27))) 23 (fun _ => True) rfl (by kernel_rfl) (by kernel_rfl) (by kernel_rfl) rfl rfl rfl trivial (fun w _ => (x_move (v := (Value.bool (!r27))) rfl rfl)) ?_
            rcases Bool.eq_false_or_eq_true (!r27) with hc28 | hc28
            · replace h := h.1 hc28
              refine wpD_pass 24 rfl (by kernel_rfl) (by kernel_rfl) (by kernel_rfl) (wantN rfl rfl rfl hc28) rfl rfl ?_
              refine wpD_pass 25 rfl (by kernel_rfl) (by kernel_rfl) (by kernel_rfl) (wantN rfl rfl rfl hc28) rfl rfl ?_
              refine wpD_pass 26 rfl (by kernel_rfl) (by kernel_rfl) (by kernel_rfl) (wantN rfl rfl rfl hc28) rfl rfl ?_
              refine wpD_pass 27 rfl (by kernel_rfl) (by kernel_rfl) (by kernel_rfl) (wantU rfl rfl rfl) rfl rfl ?_
              refine wpD_pass 28 rfl (by kernel_rfl) (by kernel_rfl) (by kernel_rfl) (wantU rfl rfl rfl) rfl rfl ?_
              refine wpD_pass 29 rfl (by kernel_rfl) (by kernel_rfl) (by kernel_rfl) (wantU rfl rfl rfl) rfl rfl ?_
              refine wpD_pass 30 rfl (by kernel_rfl) (by kernel_rfl) (by kernel_rfl) (wantU rfl rfl rfl) rfl rfl ?_
              refine wpD_pass 31 rfl (by kernel_rfl) (by kernel_rfl) (by kernel_rfl) (wantU rfl rfl rfl) rfl rfl ?_
              refine wpD_pass 32 rfl (by kernel_rfl) (by kernel_rfl) (by kernel_rfl) (wantU rfl rfl rfl) rfl rfl ?_
              refine wpD_pass 33 rfl (by kernel_rfl) (by kernel_rfl) (by kernel_rfl) (wantU rfl rfl rfl) rfl rfl ?_
              refine wpD_pass 34 rfl (by kernel_rfl) (by kernel_rfl) (by kernel_rfl) (wantU rfl rfl rfl) rfl rfl ?_
              refine wpD_pass 35 rfl (by kernel_rfl) (by kernel_rfl) (by kernel_rfl) (wantU rfl rfl rfl) rfl rfl ?_
              refine wpD_pass 36 rfl (by kernel_rfl) (by kernel_rfl) (by kernel_rfl) (wantU rfl rfl rfl) rfl rfl ?_
              refine wpD_pass 37 rfl (by kernel_rfl) (by kernel_rfl) (by kernel_rfl) (wantN rfl rfl rfl hc28) rfl rfl ?_
              refine wpD_take (v := (Value.bool true)) 38 (fun _ => True) rfl (by kernel_rfl) (by kernel_rfl) (by kernel_rfl) rfl rfl rfl trivial (fun w _ => (x_pickT (v := (Value.bool true)) rfl rfl hc28 rfl)) ?_
              exact wpD_done (by kernel_rfl) ⟨true, ⟨rfl, e0, e1, e2, e7, e8, e9, trivial⟩, h⟩
            · replace h := h.2 hc28
              refine wpD_take (v := (Value.int .i64 l11)) 24 (fun _ => True) rfl (by kernel_rfl) (by kernel_rfl) (by kernel_rfl) (wantG rfl rfl rfl hc28) rfl rfl trivial (fun w _ => (x_move (v := (Value.int .i64 l11)) rfl e9)) ?_
              refine wpD_take (v := (Value.bool (decide (0 < l11)))) 25 (fun _ => True) rfl (by kernel_rfl) (by kernel_rfl) (by kernel_rfl) (wantG rfl rfl rfl hc28) rfl rfl trivial (fun w _ => (x_gtr rfl rfl rfl)) ?_
              refine wpD_take (v := (Value.bool (decide (0 < l11)))) 26 (fun _ => True) rfl (by kernel_rfl) (by kernel_rfl) (by kernel_rfl) (wantG rfl rfl rfl hc28) rfl rfl trivial (fun w _ => (x_move (v := (Value.bool (decide (0 < l11)))) rfl rfl)) ?_
              rcases Bool.eq_false_or_eq_true (decide (0 < l11)) with hc29 | hc29
              · replace h := h.1 hc29
                refine wpD_take (v := (Sl.v r10)) 27 (fun _ => True) rfl (by kernel_rfl) (by kernel_rfl) (by kernel_rfl) (wantG rfl rfl rfl hc29) rfl rfl trivial (fun w _ => (x_move (v := (Sl.v r10)) rfl e8)) ?_
                refine wpD_take (v := (Value.int .i64 l11)) 28 (fun _ => True) rfl (by kernel_rfl) (by kernel_rfl) (by kernel_rfl) (wantG rfl rfl rfl hc29) rfl rfl trivial (fun w _ => (x_move (v := (Value.int .i64 l11)) rfl e9)) ?_
                refine wpD_take (v := (Value.int .i64 (IntKind.i64.wrap (l11 - 1)))) 29 (fun _ => True) rfl (by kernel_rfl) (by kernel_rfl) (by kernel_rfl) (wantG rfl rfl rfl hc29) rfl rfl trivial (fun w _ => (x_sub rfl rfl rfl)) ?_
                obtain ⟨q30, z30, r30, h⟩ := h
                generalize hp30 : z30.add ((IntKind.i64.wrap (l11 - 1)).toNat * 1) = p30 at h
                refine wpD_take (v := (Value.pointer (some p30))) 30 (fun _ => True) rfl (by kernel_rfl) (by kernel_rfl) (by kernel_rfl) (wantG rfl rfl rfl hc29) rfl rfl trivial (fun w _ => ((x_indexAddr (s := r10) rfl rfl rfl ES_23 q30 r30).trans (by rw [hp30]))) ?_
                obtain ⟨x31, q31, h⟩ := h
                refine wpD_take (v := (Value.int .i64 x31)) 31 (fun w => w.cell? p30 = some (Value.int .i64 x31)) rfl (by kernel_rfl) (by kernel_rfl) (by kernel_rfl) (wantG rfl rfl rfl hc29) rfl rfl q31 (fun w q31 => (x_load1 rfl rfl SH_3 q31)) ?_
                refine wpD_take (v := (Sl.v r10)) 32 (fun _ => True) rfl (by kernel_rfl) (by kernel_rfl) (by kernel_rfl) (wantG rfl rfl rfl hc29) rfl rfl trivial (fun w _ => (x_move (v := (Sl.v r10)) rfl e8)) ?_
                refine wpD_take (v := (Value.int .i64 l11)) 33 (fun _ => True) rfl (by kernel_rfl) (by kernel_rfl) (by kernel_rfl) (wantG rfl rfl rfl hc29) rfl rfl trivial (fun w _ => (x_move (v := (Value.int .i64 l11)) rfl e9)) ?_
                obtain ⟨q32, z32, r32, h⟩ := h
                generalize hp32 : z32.add ((l11).toNat * 1) = p32 at h
                refine wpD_take (v := (Value.pointer (some p32))) 34 (fun _ => True) rfl (by kernel_rfl) (by kernel_rfl) (by kernel_rfl) (wantG rfl rfl rfl hc29) rfl rfl trivial (fun w _ => ((x_indexAddr (s := r10) rfl rfl rfl ES_23 q32 r32).trans (by rw [hp32]))) ?_
                obtain ⟨x33, q33, h⟩ := h
                refine wpD_take (v := (Value.int .i64 x33)) 35 (fun w => w.cell? p32 = some (Value.int .i64 x33)) rfl (by kernel_rfl) (by kernel_rfl) (by kernel_rfl) (wantG rfl rfl rfl hc29) rfl rfl q33 (fun w q33 => (x_load1 rfl rfl SH_3 q33)) ?_
                refine wpD_take (v := (Value.bool (decide (x31 ≤ x33)))) 36 (fun _ => True) rfl (by kernel_rfl) (by kernel_rfl) (by kernel_rfl) (wantG rfl rfl rfl hc29) rfl rfl trivial (fun w _ => (x_leq rfl rfl rfl)) ?_
                refine wpD_take (v := (Value.bool (decide (x31 ≤ x33)))) 37 (fun _ => True) rfl (by kernel_rfl) (by kernel_rfl) (by kernel_rfl) (wantG rfl rfl rfl hc28) rfl rfl trivial (fun w _ => (x_pickT (v := (Value.bool (decide (x31 ≤ x33)))) rfl rfl hc29 rfl)) ?_
                refine wpD_take (v := (Value.bool (decide (x31 ≤ x33)))) 38 (fun _ => True) rfl (by kernel_rfl) (by kernel_rfl) (by kernel_rfl) rfl rfl rfl trivial (fun w _ => (x_pickF (v := (Value.bool (decide (x31 ≤ x33)))) rfl rfl hc28 rfl)) ?_
                exact wpD_done (by kernel_rfl) ⟨decide (x31 ≤ x33), ⟨rfl, e0, e1, e2, e7, e8, e9, trivial⟩, h⟩
              · replace h := h.2 hc29
                refine wpD_pass 27 rfl (by kernel_rfl) (by kernel_rfl) (by kernel_rfl) (wantN rfl rfl rfl hc29) rfl rfl ?_
                refine wpD_pass 28 rfl (by kernel_rfl) (by kernel_rfl) (by kernel_rfl) (wantN rfl rfl rfl hc29) rfl rfl ?_
                refine wpD_pass 29 rfl (by kernel_rfl) (by kernel_rfl) (by kernel_rfl) (wantN rfl rfl rfl hc29) rfl rfl ?_
                refine wpD_pass 30 rfl (by kernel_rfl) (by kernel_rfl) (by kernel_rfl) (wantN rfl rfl rfl hc29) rfl rfl ?_
                refine wpD_pass 31 rfl (by kernel_rfl) (by kernel_rfl) (by kernel_rfl) (wantN rfl rfl rfl hc29) rfl rfl ?_
                refine wpD_pass 32 rfl (by kernel_rfl) (by kernel_rfl) (by kernel_rfl) (wantN rfl rfl rfl hc29) rfl rfl ?_
                refine wpD_pass 33 rfl (by kernel_rfl) (by kernel_rfl) (by kernel_rfl) (wantN rfl rfl rfl hc29) rfl rfl ?_
                refine wpD_pass 34 rfl (by kernel_rfl) (by kernel_rfl) (by kernel_rfl) (wantN rfl rfl rfl hc29) rfl rfl ?_
                refine wpD_pass 35 rfl (by kernel_rfl) (by kernel_rfl) (by kernel_rfl) (wantN rfl rfl rfl hc29) rfl rfl ?_
                refine wpD_pass 36 rfl (by kernel_rfl) (by kernel_rfl) (by kernel_rfl) (wantN rfl rfl rfl hc29) rfl rfl ?_
                refine wpD_take (v := (Value.bool false)) 37 (fun _ => True) rfl (by kernel_rfl) (by kernel_rfl) (by kernel_rfl) (wantG rfl rfl rfl hc28) rfl rfl trivial (fun w _ => (x_pickF (v := (Value.bool false)) rfl rfl hc29 rfl)) ?_
                refine wpD_take (v := (Value.bool false)) 38 (fun _ => True) rfl (by kernel_rfl) (by kernel_rfl) (by kernel_rfl) rfl rfl rfl trivial (fun w _ => (x_pickF (v := (Value.bool false)) rfl rfl hc28 rfl)) ?_
                exact wpD_done (by kernel_rfl) ⟨false, ⟨rfl, e0, e1, e2, e7, e8, e9, trivial⟩, h⟩
        · replace h := h.2 hc17
          refine wpD_take (v := (Sl.v r10)) 6 (fun _ => True) rfl (by kernel_rfl) (by kernel_rfl) (by kernel_rfl) (wantG rfl rfl rfl hc17) rfl rfl trivial (fun w _ => (x_move (v := (Sl.v r10)) rfl e8)) ?_
          refine wpD_take (v := (Value.int .i64 l11)) 7 (fun _ => True) rfl (by kernel_rfl) (by kernel_rfl) (by kernel_rfl) (wantG rfl rfl rfl hc17) rfl rfl trivial (fun w _ => (x_move (v := (Value.int .i64 l11)) rfl e9)) ?_
          obtain ⟨q34, z34, r34, h⟩ := h
          generalize hp34 : z34.add ((l11).toNat * 1) = p34 at h
          refine wpD_take (v := (Value.pointer (some p34))) 8 (fun _ => True) rfl (by kernel_rfl) (by kernel_rfl) (by kernel_rfl) (wantG rfl rfl rfl hc17) rfl rfl trivial (fun w _ => ((x_indexAddr (s := r10) rfl rfl rfl ES_23 q34 r34).trans (by rw [hp34]))) ?_
          obtain ⟨x35, q35, h⟩ := h
          refine wpD_take (v := (Value.int .i64 x35)) 9 (fun w => w.cell? p34 = some (Value.int .i64 x35)) rfl (by kernel_rfl) (by kernel_rfl) (by kernel_rfl) (wantG rfl rfl rfl hc17) rfl rfl q35 (fun w q35 => (x_load1 rfl rfl SH_3 q35)) ?_
          refine wpD_take (v := (Sl.v p0)) 10 (fun _ => True) rfl (by kernel_rfl) (by kernel_rfl) (by kernel_rfl) (wantG rfl rfl rfl hc17) rfl rfl trivial (fun w _ => (x_move (v := (Sl.v p0)) rfl e0)) ?_
          refine wpD_take (v := (Value.int .i64 (p0.len : Int))) 11 (fun _ => True) rfl (by kernel_rfl) (by kernel_rfl) (by kernel_rfl) (wantG rfl rfl rfl hc17) rfl rfl trivial (fun w _ => (x_lenS (s := p0) rfl rfl isSliceT_22)) ?_
          refine wpD_take (v := (Value.bool (decide ((p0.len : Int) ≤ x35)))) 12 (fun _ => True) rfl (by kernel_rfl) (by kernel_rfl) (by kernel_rfl) (wantG rfl rfl rfl hc17) rfl rfl trivial (fun w _ => (x_geq rfl rfl rfl)) ?_
          refine wpD_take (v := (Value.bool (decide ((p0.len : Int) ≤ x35)))) 13 (fun _ => True) rfl (by kernel_rfl) (by kernel_rfl) (by kernel_rfl) rfl rfl rfl trivial (fun w _ => (x_pickF (v := (Value.bool (decide ((p0.len : Int) ≤ x35)))) rfl rfl hc17 rfl)) ?_
          refine wpD_take (v := (Value.bool (decide ((p0.len : Int) ≤ x35)))) 14 (fun _ => True) rfl (by kernel_rfl) (by kernel_rfl) (by kernel_rfl) rfl rfl rfl trivial (fun w _ => (x_move (v := (Value.bool (decide ((p0.len : Int) ≤ x35)))) rfl rfl)) ?_
          rcases Bool.eq_false_or_eq_true (decide ((p0.len : Int) ≤ x35)) with hc36 | hc36
          · replace h := h.1 hc36
            refine wpD_pass 15 rfl (by kernel_rfl) (by kernel_rfl) (by kernel_rfl) (wantN rfl rfl rfl hc36) rfl rfl ?_
            refine wpD_pass 16 rfl (by kernel_rfl) (by kernel_rfl) (by kernel_rfl) (wantN rfl rfl rfl hc36) rfl rfl ?_
            refine wpD_pass 17 rfl (by kernel_rfl) (by kernel_rfl) (by kernel_rfl) (wantN rfl rfl rfl hc36) rfl rfl ?_
            refine wpD_pass 18 rfl (by kernel_rfl) (by kernel_rfl) (by kernel_rfl) (wantN rfl rfl rfl hc36) rfl rfl ?_
            refine wpD_pass 19 rfl (by kernel_rfl) (by kernel_rfl) (by kernel_rfl) (wantN rfl rfl rfl hc36) rfl rfl ?_
            refine wpD_pass 20 rfl (by kernel_rfl) (by kernel_rfl) (by kernel_rfl) (wantN rfl rfl rfl hc36) rfl rfl ?_
            refine wpD_pass 21 rfl (by kernel_rfl) (by kernel_rfl) (by kernel_rfl) (wantN rfl rfl rfl hc36) rfl rfl ?_
            refine wpD_take (v := (Value.bool true)) 22 (fun _ => True) rfl (by kernel_rfl) (by kernel_rfl) (by kernel_rfl) rfl rfl rfl trivial (fun w _ => (x_pickT (v := (Value.bool true)) rfl rfl hc36 rfl)) ?_
            refine wpD_take (v := (Value.bool true)) 23 (fun _ => True) rfl (by kernel_rfl) (by kernel_rfl) (by kernel_rfl) rfl rfl rfl trivial (fun w _ => (x_move (v := (Value.bool true)) rfl rfl)) ?_
            rcases Bool.eq_false_or_eq_true (true) with hc37 | hc37
            · replace h := h.1 hc37
              refine wpD_pass 24 rfl (by kernel_rfl) (by kernel_rfl) (by kernel_rfl) (wantN rfl rfl rfl hc37) rfl rfl ?_
              refine wpD_pass 25 rfl (by kernel_rfl) (by kernel_rfl) (by kernel_rfl) (wantN rfl rfl rfl hc37) rfl rfl ?_
              refine wpD_pass 26 rfl (by kernel_rfl) (by kernel_rfl) (by kernel_rfl) (wantN rfl rfl rfl hc37) rfl rfl ?_
              refine wpD_pass 27 rfl (by kernel_rfl) (by kernel_rfl) (by kernel_rfl) (wantU rfl rfl rfl) rfl rfl ?_
              refine wpD_pass 28 rfl (by kernel_rfl) (by kernel_rfl) (by kernel_rfl) (wantU rfl rfl rfl) rfl rfl ?_
              refine wpD_pass 29 rfl (by kernel_rfl) (by kernel_rfl) (by kernel_rfl) (wantU rfl rfl rfl) rfl rfl ?_
              refine wpD_pass 30 rfl (by kernel_rfl) (by kernel_rfl) (by kernel_rfl) (wantU rfl rfl rfl) rfl rfl ?_
              refine wpD_pass 31 rfl (by kernel_rfl) (by kernel_rfl) (by kernel_rfl) (wantU rfl rfl rfl) rfl rfl ?_
              refine wpD_pass 32 rfl (by kernel_rfl) (by kernel_rfl) (by kernel_rfl) (wantU rfl rfl rfl) rfl rfl ?_
              refine wpD_pass 33 rfl (by kernel_rfl) (by kernel_rfl) (by kernel_rfl) (wantU rfl rfl rfl) rfl rfl ?_
              refine wpD_pass 34 rfl (by kernel_rfl) (by kernel_rfl) (by kernel_rfl) (wantU rfl rfl rfl) rfl rfl ?_
              refine wpD_pass 35 rfl (by kernel_rfl) (by kernel_rfl) (by kernel_rfl) (wantU rfl rfl rfl) rfl rfl ?_
              refine wpD_pass 36 rfl (by kernel_rfl) (by kernel_rfl) (by kernel_rfl) (wantU rfl rfl rfl) rfl rfl ?_
              refine wpD_pass 37 rfl (by kernel_rfl) (by kernel_rfl) (by kernel_rfl) (wantN rfl rfl rfl hc37) rfl rfl ?_
              refine wpD_take (v := (Value.bool true)) 38 (fun _ => True) rfl (by kernel_rfl) (by kernel_rfl) (by kernel_rfl) rfl rfl rfl trivial (fun w _ => (x_pickT (v := (Value.bool true)) rfl rfl hc37 rfl)) ?_
              exact wpD_done (by kernel_rfl) ⟨true, ⟨rfl, e0, e1, e2, e7, e8, e9, trivial⟩, h⟩
            · replace h := h.2 hc37
              refine wpD_take (v := (Value.int .i64 l11)) 24 (fun _ => True) rfl (by kernel_rfl) (by kernel_rfl) (by kernel_rfl) (wantG rfl rfl rfl hc37) rfl rfl trivial (fun w _ => (x_move (v := (Value.int .i64 l11)) rfl e9)) ?_
              refine wpD_take (v := (Value.bool (decide (0 < l11)))) 25 (fun _ => True) rfl (by kernel_rfl) (by kernel_rfl) (by kernel_rfl) (wantG rfl rfl rfl hc37) rfl rfl trivial (fun w _ => (x_gtr rfl rfl rfl)) ?_
              refine wpD_take (v := (Value.bool (decide (0 < l11)))) 26 (fun _ => True) rfl (by kernel_rfl) (by kernel_rfl) (by kernel_rfl) (wantG rfl rfl rfl hc37) rfl rfl trivial (fun w _ => (x_move (v := (Value.bool (decide (0 < l11)))) rfl rfl)) ?_
              rcases Bool.eq_false_or_eq_true (decide (0 < l11)) with hc38 | hc38
              · replace h := h.1 hc38
                refine wpD_take (v := (Sl.v r10)) 27 (fun _ => True) rfl (by kernel_rfl) (by kernel_rfl) (by kernel_rfl) (wantG rfl rfl rfl hc38) rfl rfl trivial (fun w _ => (x_move (v := (Sl.v r10)) rfl e8)) ?_
                refine wpD_take (v := (Value.int .i64 l11)) 28 (fun _ => True) rfl (by kernel_rfl) (by kernel_rfl) (by kernel_rfl) (wantG rfl rfl rfl hc38) rfl rfl trivial (fun w _ => (x_move (v := (Value.int .i64 l11)) rfl e9)) ?_
                refine wpD_take (v := (Value.int .i64 (IntKind.i64.wrap (l11 - 1)))) 29 (fun _ => True) rfl (by kernel_rfl) (by kernel_rfl) (by kernel_rfl) (wantG rfl rfl rfl hc38) rfl rfl trivial (fun w _ => (x_sub rfl rfl rfl)) ?_
                obtain ⟨q39, z39, r39, h⟩ := h
                generalize hp39 : z39.add ((IntKind.i64.wrap (l11 - 1)).toNat * 1) = p39 at h
                refine wpD_take (v := (Value.pointer (some p39))) 30 (fun _ => True) rfl (by kernel_rfl) (by kernel_rfl) (by kernel_rfl) (wantG rfl rfl rfl hc38) rfl rfl trivial (fun w _ => ((x_indexAddr (s := r10) rfl rfl rfl ES_23 q39 r39).trans (by rw [hp39]))) ?_
                obtain ⟨x40, q40, h⟩ := h
                refine wpD_take (v := (Value.int .i64 x40)) 31 (fun w => w.cell? p39 = some (Value.int .i64 x40)) rfl (by kernel_rfl) (by kernel_rfl) (by kernel_rfl) (wantG rfl rfl rfl hc38) rfl rfl q40 (fun w q40 => (x_load1 rfl rfl SH_3 q40)) ?_
                refine wpD_take (v := (Sl.v r10)) 32 (fun _ => True) rfl (by kernel_rfl) (by kernel_rfl) (by kernel_rfl) (wantG rfl rfl rfl hc38) rfl rfl trivial (fun w _ => (x_move (v := (Sl.v r10)) rfl e8)) ?_
                refine wpD_take (v := (Value.int .i64 l11)) 33 (fun _ => True) rfl (by kernel_rfl) (by kernel_rfl) (by kernel_rfl) (wantG rfl rfl rfl hc38) rfl rfl trivial (fun w _ => (x_move (v := (Value.int .i64 l11)) rfl e9)) ?_
                obtain ⟨q41, z41, r41, h⟩ := h
                generalize hp41 : z41.add ((l11).toNat * 1) = p41 at h
                refine wpD_take (v := (Value.pointer (some p41))) 34 (fun _ => True) rfl (by kernel_rfl) (by kernel_rfl) (by kernel_rfl) (wantG rfl rfl rfl hc38) rfl rfl trivial (fun w _ => ((x_indexAddr (s := r10) rfl rfl rfl ES_23 q41 r41).trans (by rw [hp41]))) ?_
                obtain ⟨x42, q42, h⟩ := h
                refine wpD_take (v := (Value.int .i64 x42)) 35 (fun w => w.cell? p41 = some (Value.int .i64 x42)) rfl (by kernel_rfl) (by kernel_rfl) (by kernel_rfl) (wantG rfl rfl rfl hc38) rfl rfl q42 (fun w q42 => (x_load1 rfl rfl SH_3 q42)) ?_
                refine wpD_take (v := (Value.bool (decide (x40 ≤ x42)))) 36 (fun _ => True) rfl (by kernel_rfl) (by kernel_rfl) (by kernel_rfl) (wantG rfl rfl rfl hc38) rfl rfl trivial (fun w _ => (x_leq rfl rfl rfl)) ?_
                refine wpD_take (v := (Value.bool (decide (x40 ≤ x42)))) 37 (fun _ => True) rfl (by kernel_rfl) (by kernel_rfl) (by kernel_rfl) (wantG rfl rfl rfl hc37) rfl rfl trivial (fun w _ => (x_pickT (v := (Value.bool (decide (x40 ≤ x42)))) rfl rfl hc38 rfl)) ?_
                refine wpD_take (v := (Value.bool (decide (x40 ≤ x42)))) 38 (fun _ => True) rfl (by kernel_rfl) (by kernel_rfl) (by kernel_rfl) rfl rfl rfl trivial (fun w _ => (x_pickF (v := (Value.bool (decide (x40 ≤ x42)))) rfl rfl hc37 rfl)) ?_
                exact wpD_done (by kernel_rfl) ⟨decide (x40 ≤ x42), ⟨rfl, e0, e1, e2, e7, e8, e9, trivial⟩, h⟩
              · replace h := h.2 hc38
                refine wpD_pass 27 rfl (by kernel_rfl) (by kernel_rfl) (by kernel_rfl) (wantN rfl rfl rfl hc38) rfl rfl ?_
                refine wpD_pass 28 rfl (by kernel_rfl) (by kernel_rfl) (by kernel_rfl) (wantN rfl rfl rfl hc38) rfl rfl ?_
                refine wpD_pass 29 rfl (by kernel_rfl) (by kernel_rfl) (by kernel_rfl) (wantN rfl rfl rfl hc38) rfl rfl ?_
                refine wpD_pass 30 rfl (by kernel_rfl) (by kernel_rfl) (by kernel_rfl) (wantN rfl rfl rfl hc38) rfl rfl ?_
                refine wpD_pass 31 rfl (by kernel_rfl) (by kernel_rfl) (by kernel_rfl) (wantN rfl rfl rfl hc38) rfl rfl ?_
                refine wpD_pass 32 rfl (by kernel_rfl) (by kernel_rfl) (by kernel_rfl) (wantN rfl rfl rfl hc38) rfl rfl ?_
                refine wpD_pass 33 rfl (by kernel_rfl) (by kernel_rfl) (by kernel_rfl) (wantN rfl rfl rfl hc38) rfl rfl ?_
                refine wpD_pass 34 rfl (by kernel_rfl) (by kernel_rfl) (by kernel_rfl) (wantN rfl rfl rfl hc38) rfl rfl ?_
                refine wpD_pass 35 rfl (by kernel_rfl) (by kernel_rfl) (by kernel_rfl) (wantN rfl rfl rfl hc38) rfl rfl ?_
                refine wpD_pass 36 rfl (by kernel_rfl) (by kernel_rfl) (by kernel_rfl) (wantN rfl rfl rfl hc38) rfl rfl ?_
                refine wpD_take (v := (Value.bool false)) 37 (fun _ => True) rfl (by kernel_rfl) (by kernel_rfl) (by kernel_rfl) (wantG rfl rfl rfl hc37) rfl rfl trivial (fun w _ => (x_pickF (v := (Value.bool false)) rfl rfl hc38 rfl)) ?_
                refine wpD_take (v := (Value.bool false)) 38 (fun _ => True) rfl (by kernel_rfl) (by kernel_rfl) (by kernel_rfl) rfl rfl rfl trivial (fun w _ => (x_pickF (v := (Value.bool false)) rfl rfl hc37 rfl)) ?_
                exact wpD_done (by kernel_rfl) ⟨false, ⟨rfl, e0, e1, e2, e7, e8, e9, trivial⟩, h⟩
          · replace h := h.2 hc36
            refine wpD_take (v := (Sl.v p1)) 15 (fun _ => True) rfl (by kernel_rfl) (by kernel_rfl) (by kernel_rfl) (wantG rfl rfl rfl hc36) rfl rfl trivial (fun w _ => (x_move (v := (Sl.v p1)) rfl e1)) ?_
            refine wpD_take (v := (Sl.v r10)) 16 (fun _ => True) rfl (by kernel_rfl) (by kernel_rfl) (by kernel_rfl) (wantG rfl rfl rfl hc36) rfl rfl trivial (fun w _ => (x_move (v := (Sl.v r10)) rfl e8)) ?_
            refine wpD_take (v := (Value.int .i64 l11)) 17 (fun _ => True) rfl (by kernel_rfl) (by kernel_rfl) (by kernel_rfl) (wantG rfl rfl rfl hc36) rfl rfl trivial (fun w _ => (x_move (v := (Value.int .i64 l11)) rfl e9)) ?_
            obtain ⟨q43, z43, r43, h⟩ := h
            generalize hp43 : z43.add ((l11).toNat * 1) = p43 at h
            refine wpD_take (v := (Value.pointer (some p43))) 18 (fun _ => True) rfl (by kernel_rfl) (by kernel_rfl) (by kernel_rfl) (wantG rfl rfl rfl hc36) rfl rfl trivial (fun w _ => ((x_indexAddr (s := r10) rfl rfl rfl ES_23 q43 r43).trans (by rw [hp43]))) ?_
            obtain ⟨x44, q44, h⟩ := h
            refine wpD_take (v := (Value.int .i64 x44)) 19 (fun w => w.cell? p43 = some (Value.int .i64 x44)) rfl (by kernel_rfl) (by kernel_rfl) (by kernel_rfl) (wantG rfl rfl rfl hc36) rfl rfl q44 (fun w q44 => (x_load1 rfl rfl SH_3 q44)) ?_
            refine wpD_all (rs := [20]) (by kernel_rfl) (by simp) (allD_cons ?_ allD_nil)
            refine stepD_enterL (L' := [(18, fun _ => True), (17, fun _ => True), (16, fun _ => True), (13, fun _ => True), (12, fun _ => True), (11, fun _ => True), (10, fun _ => True), (9, fun w => w.cell? p34 = some (Value.int .i64 x35)), (8, fun _ => True), (7, fun _ => True), (6, fun _ => True), (5, fun _ => True), (4, fun _ => True), (3, fun w => w.cell? p15 = some (Value.int .i64 x16)), (2, fun _ => True), (1, fun _ => True), (0, fun _ => True)]) rfl (wantG rfl rfl rfl hc36) rfl rfl (x_call (vs := [(Sl.v p1), (Value.int .i64 x44)]) rfl rfl (mapl_cons rfl (mapl_cons rfl mapl_nil)) Try.func19 NN_19 NB_19) (by kernel_rfl) (Calls.mono h ?_)
            rintro _ w9 ⟨r45, rfl, h⟩
            obtain ⟨o9, h⟩ := h
            obtain ⟨o3, h⟩ := h
            refine ⟨_, rfl, (held_cons trivial (held_cons trivial (held_cons trivial (held_cons trivial (held_cons trivial (held_cons trivial (held_cons trivial (held_cons o9 (held_cons trivial (held_cons trivial (held_cons trivial (held_cons trivial (held_cons trivial (held_cons o3 (held_cons trivial (held_cons trivial (held_cons trivial held_nil))))))))))))))))), ?_⟩
            refine wpD_take (v := (Value.bool (!r45))) 21 (fun _ => True) rfl (by kernel_rfl) (by kernel_rfl) (by kernel_rfl) (wantG rfl rfl rfl hc36) rfl rfl trivial (fun w _ => (x_not rfl rfl)) ?_
            refine wpD_take (v := (Value.bool (!r45))) 22 (fun _ => True) rfl (by kernel_rfl) (by kernel_rfl) (by kernel_rfl) rfl rfl rfl trivial (fun w _ => (x_pickF (v := (Value.bool (!r45))) rfl rfl hc36 rfl)) ?_
            refine wpD_take (v := (Value.bool (!r45))) 23 (fun _ => True) rfl (by kernel_rfl) (by kernel_rfl) (by kernel_rfl) rfl rfl rfl trivial (fun w _ => (x_move (v := (Value.bool (!r45))) rfl rfl)) ?_
            rcases Bool.eq_false_or_eq_true (!r45) with hc46 | hc46
            · replace h := h.1 hc46
              refine wpD_pass 24 rfl (by kernel_rfl) (by kernel_rfl) (by kernel_rfl) (wantN rfl rfl rfl hc46) rfl rfl ?_
              refine wpD_pass 25 rfl (by kernel_rfl) (by kernel_rfl) (by kernel_rfl) (wantN rfl rfl rfl hc46) rfl rfl ?_
              refine wpD_pass 26 rfl (by kernel_rfl) (by kernel_rfl) (by kernel_rfl) (wantN rfl rfl rfl hc46) rfl rfl ?_
              refine wpD_pass 27 rfl (by kernel_rfl) (by kernel_rfl) (by kernel_rfl) (wantU rfl rfl rfl) rfl rfl ?_
              refine wpD_pass 28 rfl (by kernel_rfl) (by kernel_rfl) (by kernel_rfl) (wantU rfl rfl rfl) rfl rfl ?_
              refine wpD_pass 29 rfl (by kernel_rfl) (by kernel_rfl) (by kernel_rfl) (wantU rfl rfl rfl) rfl rfl ?_
              refine wpD_pass 30 rfl (by kernel_rfl) (by kernel_rfl) (by kernel_rfl) (wantU rfl rfl rfl) rfl rfl ?_
              refine wpD_pass 31 rfl (by kernel_rfl) (by kernel_rfl) (by kernel_rfl) (wantU rfl rfl rfl) rfl rfl ?_
              refine wpD_pass 32 rfl (by kernel_rfl) (by kernel_rfl) (by kernel_rfl) (wantU rfl rfl rfl) rfl rfl ?_
              refine wpD_pass 33 rfl (by kernel_rfl) (by kernel_rfl) (by kernel_rfl) (wantU rfl rfl rfl) rfl rfl ?_
              refine wpD_pass 34 rfl (by kernel_rfl) (by kernel_rfl) (by kernel_rfl) (wantU rfl rfl rfl) rfl rfl ?_
              refine wpD_pass 35 rfl (by kernel_rfl) (by kernel_rfl) (by kernel_rfl) (wantU rfl rfl rfl) rfl rfl ?_
              refine wpD_pass 36 rfl (by kernel_rfl) (by kernel_rfl) (by kernel_rfl) (wantU rfl rfl rfl) rfl rfl ?_
              refine wpD_pass 37 rfl (by kernel_rfl) (by kernel_rfl) (by kernel_rfl) (wantN rfl rfl rfl hc46) rfl rfl ?_
              refine wpD_take (v := (Value.bool true)) 38 (fun _ => True) rfl (by kernel_rfl) (by kernel_rfl) (by kernel_rfl) rfl rfl rfl trivial (fun w _ => (x_pickT (v := (Value.bool true)) rfl rfl hc46 rfl)) ?_
              exact wpD_done (by kernel_rfl) ⟨true, ⟨rfl, e0, e1, e2, e7, e8, e9, trivial⟩, h⟩
            · replace h := h.2 hc46
              refine wpD_take (v := (Value.int .i64 l11)) 24 (fun _ => True) rfl (by kernel_rfl) (by kernel_rfl) (by kernel_rfl) (wantG rfl rfl rfl hc46) rfl rfl trivial (fun w _ => (x_move (v := (Value.int .i64 l11)) rfl e9)) ?_
              refine wpD_take (v := (Value.bool (decide (0 < l11)))) 25 (fun _ => True) rfl (by kernel_rfl) (by kernel_rfl) (by kernel_rfl) (wantG rfl rfl rfl hc46) rfl rfl trivial (fun w _ => (x_gtr rfl rfl rfl)) ?_
              refine wpD_take (v := (Value.bool (decide (0 < l11)))) 26 (fun _ => True) rfl (by kernel_rfl) (by kernel_rfl) (by kernel_rfl) (wantG rfl rfl rfl hc46) rfl rfl trivial (fun w _ => (x_move (v := (Value.bool (decide (0 < l11)))) rfl rfl)) ?_
              rcases Bool.eq_false_or_eq_true (decide (0 < l11)) with hc47 | hc47
              · replace h := h.1 hc47
                refine wpD_take (v := (Sl.v r10)) 27 (fun _ => True) rfl (by kernel_rfl) (by kernel_rfl) (by kernel_rfl) (wantG rfl rfl rfl hc47) rfl rfl trivial (fun w _ => (x_move (v := (Sl.v r10)) rfl e8)) ?_
                refine wpD_take (v := (Value.int .i64 l11)) 28 (fun _ => True) rfl (by kernel_rfl) (by kernel_rfl) (by kernel_rfl) (wantG rfl rfl rfl hc47) rfl rfl trivial (fun w _ => (x_move (v := (Value.int .i64 l11)) rfl e9)) ?_
                refine wpD_take (v := (Value.int .i64 (IntKind.i64.wrap (l11 - 1)))) 29 (fun _ => True) rfl (by kernel_rfl) (by kernel_rfl) (by kernel_rfl) (wantG rfl rfl rfl hc47) rfl rfl trivial (fun w _ => (x_sub rfl rfl rfl)) ?_
                obtain ⟨q48, z48, r48, h⟩ := h
                generalize hp48 : z48.add ((IntKind.i64.wrap (l11 - 1)).toNat * 1) = p48 at h
                refine wpD_take (v := (Value.pointer (some p48))) 30 (fun _ => True) rfl (by kernel_rfl) (by kernel_rfl) (by kernel_rfl) (wantG rfl rfl rfl hc47) rfl rfl trivial (fun w _ => ((x_indexAddr (s := r10) rfl rfl rfl ES_23 q48 r48).trans (by rw [hp48]))) ?_
                obtain ⟨x49, q49, h⟩ := h
                refine wpD_take (v := (Value.int .i64 x49)) 31 (fun w => w.cell? p48 = some (Value.int .i64 x49)) rfl (by kernel_rfl) (by kernel_rfl) (by kernel_rfl) (wantG rfl rfl rfl hc47) rfl rfl q49 (fun w q49 => (x_load1 rfl rfl SH_3 q49)) ?_
                refine wpD_take (v := (Sl.v r10)) 32 (fun _ => True) rfl (by kernel_rfl) (by kernel_rfl) (by kernel_rfl) (wantG rfl rfl rfl hc47) rfl rfl trivial (fun w _ => (x_move (v := (Sl.v r10)) rfl e8)) ?_
                refine wpD_take (v := (Value.int .i64 l11)) 33 (fun _ => True) rfl (by kernel_rfl) (by kernel_rfl) (by kernel_rfl) (wantG rfl rfl rfl hc47) rfl rfl trivial (fun w _ => (x_move (v := (Value.int .i64 l11)) rfl e9)) ?_
                obtain ⟨q50, z50, r50, h⟩ := h
                generalize hp50 : z50.add ((l11).toNat * 1) = p50 at h
                refine wpD_take (v := (Value.pointer (some p50))) 34 (fun _ => True) rfl (by kernel_rfl) (by kernel_rfl) (by kernel_rfl) (wantG rfl rfl rfl hc47) rfl rfl trivial (fun w _ => ((x_indexAddr (s := r10) rfl rfl rfl ES_23 q50 r50).trans (by rw [hp50]))) ?_
                obtain ⟨x51, q51, h⟩ := h
                refine wpD_take (v := (Value.int .i64 x51)) 35 (fun w => w.cell? p50 = some (Value.int .i64 x51)) rfl (by kernel_rfl) (by kernel_rfl) (by kernel_rfl) (wantG rfl rfl rfl hc47) rfl rfl q51 (fun w q51 => (x_load1 rfl rfl SH_3 q51)) ?_
                refine wpD_take (v := (Value.bool (decide (x49 ≤ x51)))) 36 (fun _ => True) rfl (by kernel_rfl) (by kernel_rfl) (by kernel_rfl) (wantG rfl rfl rfl hc47) rfl rfl trivial (fun w _ => (x_leq rfl rfl rfl)) ?_
                refine wpD_take (v := (Value.bool (decide (x49 ≤ x51)))) 37 (fun _ => True) rfl (by kernel_rfl) (by kernel_rfl) (by kernel_rfl) (wantG rfl rfl rfl hc46) rfl rfl trivial (fun w _ => (x_pickT (v := (Value.bool (decide (x49 ≤ x51)))) rfl rfl hc47 rfl)) ?_
                refine wpD_take (v := (Value.bool (decide (x49 ≤ x51)))) 38 (fun _ => True) rfl (by kernel_rfl) (by kernel_rfl) (by kernel_rfl) rfl rfl rfl trivial (fun w _ => (x_pickF (v := (Value.bool (decide (x49 ≤ x51)))) rfl rfl hc46 rfl)) ?_
                exact wpD_done (by kernel_rfl) ⟨decide (x49 ≤ x51), ⟨rfl, e0, e1, e2, e7, e8, e9, trivial⟩, h⟩
              · replace h := h.2 hc47
                refine wpD_pass 27 rfl (by kernel_rfl) (by kernel_rfl) (by kernel_rfl) (wantN rfl rfl rfl hc47) rfl rfl ?_
                refine wpD_pass 28 rfl (by kernel_rfl) (by kernel_rfl) (by kernel_rfl) (wantN rfl rfl rfl hc47) rfl rfl ?_
                refine wpD_pass 29 rfl (by kernel_rfl) (by kernel_rfl) (by kernel_rfl) (wantN rfl rfl rfl hc47) rfl rfl ?_
                refine wpD_pass 30 rfl (by kernel_rfl) (by kernel_rfl) (by kernel_rfl) (wantN rfl rfl rfl hc47) rfl rfl ?_
                refine wpD_pass 31 rfl (by kernel_rfl) (by kernel_rfl) (by kernel_rfl) (wantN rfl rfl rfl hc47) rfl rfl ?_
                refine wpD_pass 32 rfl (by kernel_rfl) (by kernel_rfl) (by kernel_rfl) (wantN rfl rfl rfl hc47) rfl rfl ?_
                refine wpD_pass 33 rfl (by kernel_rfl) (by kernel_rfl) (by kernel_rfl) (wantN rfl rfl rfl hc47) rfl rfl ?_
                refine wpD_pass 34 rfl (by kernel_rfl) (by kernel_rfl) (by kernel_rfl) (wantN rfl rfl rfl hc47) rfl rfl ?_
                refine wpD_pass 35 rfl (by kernel_rfl) (by kernel_rfl) (by kernel_rfl) (wantN rfl rfl rfl hc47) rfl rfl ?_
                refine wpD_pass 36 rfl (by kernel_rfl) (by kernel_rfl) (by kernel_rfl) (wantN rfl rfl rfl hc47) rfl rfl ?_
                refine wpD_take (v := (Value.bool false)) 37 (fun _ => True) rfl (by kernel_rfl) (by kernel_rfl) (by kernel_rfl) (wantG rfl rfl rfl hc46) rfl rfl trivial (fun w _ => (x_pickF (v := (Value.bool false)) rfl rfl hc47 rfl)) ?_
                refine wpD_take (v := (Value.bool false)) 38 (fun _ => True) rfl (by kernel_rfl) (by kernel_rfl) (by kernel_rfl) rfl rfl rfl trivial (fun w _ => (x_pickF (v := (Value.bool false)) rfl rfl hc46 rfl)) ?_
                exact wpD_done (by kernel_rfl) ⟨false, ⟨rfl, e0, e1, e2, e7, e8, e9, trivial⟩, h⟩
      clear h
      rintro l52 ρ w10 ⟨e77, e0, e1, e2, e7, e8, e9, -⟩ h
      replace h := hk l52 w10 h
      clear hk
      refine wpC_cond (b := l52) e77 (fun hc53 => ?_) (fun hc53 => ?_)
      · replace h := h.1 hc53
        refine wpC_seq ?_
        refine wpC_region ?_
        refine wpR_val (v := (Value.bool false)) (w' := w10) rfl rfl rfl (x_assign (v := (Value.bool false)) rfl rfl) ?_
        refine wpR_nil ?_
        refine wpC_ret ?_
        exact ⟨.inl rfl, fun a ha => ⟨_, results_rep1 rfl ha rfl, false, rfl, h⟩⟩
      · replace h := h.2 hc53
        refine wpC_skip ?_
        refine wpC_region ?_
        refine wpR_val (v := (Value.int .i64 l11)) (w' := w10) rfl rfl rfl (x_move (v := (Value.int .i64 l11)) rfl e9) ?_
        refine wpR_val (v := (Value.int .i64 (IntKind.i64.wrap (l11 + 1)))) (w' := w10) rfl rfl rfl (x_add rfl rfl rfl) ?_
        refine wpR_val (v := (Value.int .i64 (IntKind.i64.wrap (l11 + 1)))) (w' := w10) rfl rfl rfl (x_assign (v := (Value.int .i64 (IntKind.i64.wrap (l11 + 1)))) rfl rfl) ?_
        refine wpR_nil ?_
        exact ⟨IntKind.i64.wrap (l11 + 1), ⟨rfl, e0, e1, e2, e7, e8, trivial⟩, h⟩
    · replace h := h.2 hc12
      refine wpC_exit ?_
      refine wpC_seq ?_
      refine wpC_seq ?_
      refine wpC_cut (fun ρ => ρ 0 = (Sl.v p0) ∧ ρ 1 = (Sl.v p1) ∧ ρ 2 = (Value.int .u8 p2) ∧ ρ 7 = (Value.bool r1) ∧ ρ 8 = (Sl.v r10) ∧ True) ⟨e0, e1, e2, e7, e8, trivial⟩ ?_
      rintro ρ ⟨e0, e1, e2, e7, e8, -⟩
      refine wpC_region ?_
      refine wpR_val (v := (Value.int .i64 0)) (w' := w6) rfl rfl rfl (x_assign (v := (Value.int .i64 0)) rfl rfl) ?_
      refine wpR_nil ?_
      refine wpC_block ?_
      obtain ⟨I54, μ54, hI54, hr54⟩ := h
      refine wpC_loop (fun (x : Int) ρ => ρ 10 = (Value.int .i64 x) ∧ ρ 0 = (Sl.v p0) ∧ ρ 1 = (Sl.v p1) ∧ ρ 2 = (Value.int .u8 p2) ∧ ρ 7 = (Value.bool r1) ∧ ρ 8 = (Sl.v r10) ∧ True) I54 μ54 0 ⟨rfl, e0, e1, e2, e7, e8, trivial⟩ hI54 ?_
      rintro l54 ρ w11 ⟨e10, e0, e1, e2, e7, e8, -⟩ h
      replace h := hr54 l54 w11 h
      clear hr54 hI54
      refine wpC_seq ?_
      refine wpC_seq ?_
      refine wpC_region ?_
      refine wpR_val (v := (Value.int .i64 l54)) (w' := w11) rfl rfl rfl (x_move (v := (Value.int .i64 l54)) rfl e10) ?_
      refine wpR_val (v := (Sl.v p1)) (w' := w11) rfl rfl rfl (x_move (v := (Sl.v p1)) rfl e1) ?_
      refine wpR_val (v := (Value.int .i64 (p1.len : Int))) (w' := w11) rfl rfl rfl (x_lenS (s := p1) rfl rfl isSliceT_23) ?_
      refine wpR_val (v := (Value.bool (decide (l54 < (p1.len : Int))))) (w' := w11) rfl rfl rfl (x_lss rfl rfl rfl) ?_
      refine wpR_nil ?_
      refine wpC_cond (b := decide (l54 < (p1.len : Int))) rfl (fun hc55 => ?_) (fun hc55 => ?_)
      · replace h := h.1 hc55
        refine wpC_skip ?_
        refine wpC_seq ?_
        refine wpC_block ?_
        refine wpC_seq ?_
        refine wpC_cut (fun ρ => ρ 0 = (Sl.v p0) ∧ ρ 1 = (Sl.v p1) ∧ ρ 2 = (Value.int .u8 p2) ∧ ρ 7 = (Value.bool r1) ∧ ρ 8 = (Sl.v r10) ∧ ρ 10 = (Value.int .i64 l54) ∧ True) ⟨e0, e1, e2, e7, e8, e10, trivial⟩ ?_
        rintro ρ ⟨e0, e1, e2, e7, e8, e10, -⟩
        refine wpC_region ?_
        refine wpR_val (v := (Sl.v p1)) (w' := w11) rfl rfl rfl (x_move (v := (Sl.v p1)) rfl e1) ?_
        refine wpR_val (v := (Value.int .i64 l54)) (w' := w11) rfl rfl rfl (x_move (v := (Value.int .i64 l54)) rfl e10) ?_
        obtain ⟨q56, z56, r56, h⟩ := h
        generalize hp56 : z56.add ((l54).toNat * 1) = p56 at h
        refine wpR_val (v := (Value.pointer (some p56))) (w' := w11) rfl rfl rfl ((x_indexAddr (s := p1) rfl rfl rfl ES_23 q56 r56).trans (by rw [hp56])) ?_
        obtain ⟨x57, q57, h⟩ := h
        refine wpR_val (v := (Value.int .i64 x57)) (w' := w11) rfl rfl rfl (x_load1 rfl rfl SH_3 q57) ?_
        refine wpR_val (v := (Value.bool (decide (0 ≤ x57)))) (w' := w11) rfl rfl rfl (x_geq rfl rfl rfl) ?_
        refine wpR_val (v := (Value.bool (decide (0 ≤ x57)))) (w' := w11) rfl rfl rfl (x_move (v := (Value.bool (decide (0 ≤ x57)))) rfl rfl) ?_
        obtain ⟨J58, h, hk⟩ := h
        refine wpR_joinJ 8 (fun x ρ => ρ 97 = Value.bool x ∧ ρ 0 = (Sl.v p0) ∧ ρ 1 = (Sl.v p1) ∧ ρ 2 = (Value.int .u8 p2) ∧ ρ 7 = (Value.bool r1) ∧ ρ 8 = (Sl.v r10) ∧ ρ 10 = (Value.int .i64 l54) ∧ True) (fun x w => J58 x ∧ w11 = w) ?_ ?_
        · clear hk
          rcases Bool.eq_false_or_eq_true (decide (0 ≤ x57)) with hc59 | hc59
          · replace h := h.1 hc59
            refine wpR_val (v := (Sl.v p1)) (w' := w11) (wantG rfl rfl rfl hc59) rfl rfl (x_move (v := (Sl.v p1)) rfl e1) ?_
            refine wpR_val (v := (Value.int .i64 l54)) (w' := w11) (wantG rfl rfl rfl hc59) rfl rfl (x_move (v := (Value.int .i64 l54)) rfl e10) ?_
            obtain ⟨q60, z60, r60, h⟩ := h
            generalize hp60 : z60.add ((l54).toNat * 1) = p60 at h
            refine wpR_val (v := (Value.pointer (some p60))) (w' := w11) (wantG rfl rfl rfl hc59) rfl rfl ((x_indexAddr (s := p1) rfl rfl rfl ES_23 q60 r60).trans (by rw [hp60])) ?_
            obtain ⟨x61, q61, h⟩ := h
            refine wpR_val (v := (Value.int .i64 x61)) (w' := w11) (wantG rfl rfl rfl hc59) rfl rfl (x_load1 rfl rfl SH_3 q61) ?_
            refine wpR_val (v := (Sl.v p0)) (w' := w11) (wantG rfl rfl rfl hc59) rfl rfl (x_move (v := (Sl.v p0)) rfl e0) ?_
            refine wpR_val (v := (Value.int .i64 (p0.len : Int))) (w' := w11) (wantG rfl rfl rfl hc59) rfl rfl (x_lenS (s := p0) rfl rfl isSliceT_22) ?_
            refine wpR_val (v := (Value.bool (decide (x61 < (p0.len : Int))))) (w' := w11) (wantG rfl rfl rfl hc59) rfl rfl (x_lss rfl rfl rfl) ?_
            refine wpR_val (v := (Value.bool (decide (x61 < (p0.len : Int))))) (w' := w11) rfl rfl rfl (x_pickT (v := (Value.bool (decide (x61 < (p0.len : Int))))) rfl rfl hc59 rfl) ?_
            refine wpR_nil ?_
            exact ⟨decide (x61 < (p0.len : Int)), ⟨rfl, e0, e1, e2, e7, e8, e10, trivial⟩, h, rfl⟩
          · replace h := h.2 hc59
            refine wpR_pass (wantN rfl rfl rfl hc59) rfl rfl ?_
            refine wpR_pass (wantN rfl rfl rfl hc59) rfl rfl ?_
            refine wpR_pass (wantN rfl rfl rfl hc59) rfl rfl ?_
            refine wpR_pass (wantN rfl rfl rfl hc59) rfl rfl ?_
            refine wpR_pass (wantN rfl rfl rfl hc59) rfl rfl ?_
            refine wpR_pass (wantN rfl rfl rfl hc59) rfl rfl ?_
            refine wpR_pass (wantN rfl rfl rfl hc59) rfl rfl ?_
            refine wpR_val (v := (Value.bool false)) (w' := w11) rfl rfl rfl (x_pickF (v := (Value.bool false)) rfl rfl hc59 rfl) ?_
            refine wpR_nil ?_
            exact ⟨false, ⟨rfl, e0, e1, e2, e7, e8, e10, trivial⟩, h, rfl⟩
        clear h
        rintro c62 ρ wj ⟨e97, e0, e1, e2, e7, e8, e10, -⟩ ⟨h, rfl⟩
        replace h := hk c62 h
        clear hk
        refine wpR_val (v := (Value.bool c62)) (w' := w11) rfl rfl rfl (x_move (v := (Value.bool c62)) rfl e97) ?_
        obtain ⟨J63, h, hk⟩ := h
        refine wpR_joinJ 8 (fun x ρ => ρ 106 = Value.bool x ∧ ρ 0 = (Sl.v p0) ∧ ρ 1 = (Sl.v p1) ∧ ρ 2 = (Value.int .u8 p2) ∧ ρ 7 = (Value.bool r1) ∧ ρ 8 = (Sl.v r10) ∧ ρ 10 = (Value.int .i64 l54) ∧ True) (J63) ?_ ?_
        · clear hk
          rcases Bool.eq_false_or_eq_true (c62) with hc64 | hc64
          · replace h := h.1 hc64
            refine wpR_val (v := (Sl.v r10)) (w' := w11) (wantG rfl rfl rfl hc64) rfl rfl (x_move (v := (Sl.v r10)) rfl e8) ?_
            refine wpR_val (v := (Sl.v p1)) (w' := w11) (wantG rfl rfl rfl hc64) rfl rfl (x_move (v := (Sl.v p1)) rfl e1) ?_
            refine wpR_val (v := (Value.int .i64 l54)) (w' := w11) (wantG rfl rfl rfl hc64) rfl rfl (x_move (v := (Value.int .i64 l54)) rfl e10) ?_
            obtain ⟨q65, z65, r65, h⟩ := h
            generalize hp65 : z65.add ((l54).toNat * 1) = p65 at h
            refine wpR_val (v := (Value.pointer (some p65))) (w' := w11) (wantG rfl rfl rfl hc64) rfl rfl ((x_indexAddr (s := p1) rfl rfl rfl ES_23 q65 r65).trans (by rw [hp65])) ?_
            obtain ⟨x66, q66, h⟩ := h
            refine wpR_val (v := (Value.int .i64 x66)) (w' := w11) (wantG rfl rfl rfl hc64) rfl rfl (x_load1 rfl rfl SH_3 q66) ?_
            refine wpR_enter (wantG rfl rfl rfl hc64) rfl rfl (x_call (vs := [(Sl.v r10), (Value.int .i64 x66)]) rfl rfl (mapl_cons rfl (mapl_cons rfl mapl_nil)) Try.func19 NN_19 NB_19) (Calls.mono h ?_)
            rintro _ w12 ⟨r67, rfl, h⟩
            refine ⟨_, rfl, ?_⟩
            refine wpR_val (v := (Value.bool (!r67))) (w' := w12) (wantG rfl rfl rfl hc64) rfl rfl (x_not rfl rfl) ?_
            refine wpR_val (v := (Value.bool (!r67))) (w' := w12) rfl rfl rfl (x_pickT (v := (Value.bool (!r67))) rfl rfl hc64 rfl) ?_
            refine wpR_nil ?_
            exact ⟨!r67, ⟨rfl, e0, e1, e2, e7, e8, e10, trivial⟩, h⟩
          · replace h := h.2 hc64
            refine wpR_pass (wantN rfl rfl rfl hc64) rfl rfl ?_
            refine wpR_pass (wantN rfl rfl rfl hc64) rfl rfl ?_
            refine wpR_pass (wantN rfl rfl rfl hc64) rfl rfl ?_
            refine wpR_pass (wantN rfl rfl rfl hc64) rfl rfl ?_
            refine wpR_pass (wantN rfl rfl rfl hc64) rfl rfl ?_
            refine wpR_pass (wantN rfl rfl rfl hc64) rfl rfl ?_
            refine wpR_pass (wantN rfl rfl rfl hc64) rfl rfl ?_
            refine wpR_val (v := (Value.bool false)) (w' := w11) rfl rfl rfl (x_pickF (v := (Value.bool false)) rfl rfl hc64 rfl) ?_
            refine wpR_nil ?_
            exact ⟨false, ⟨rfl, e0, e1, e2, e7, e8, e10, trivial⟩, h⟩
        clear h
        rintro c68 ρ w13 ⟨e106, e0, e1, e2, e7, e8, e10, -⟩ h
        replace h := hk c68 w13 h
        clear hk
        refine wpR_nil ?_
        refine wpC_cond (b := c68) e106 (fun hc69 => ?_) (fun hc69 => ?_)
        · replace h := h.1 hc69
          refine wpC_seq ?_
          refine wpC_region ?_
          refine wpR_val (v := (Value.bool false)) (w' := w13) rfl rfl rfl (x_assign (v := (Value.bool false)) rfl rfl) ?_
          refine wpR_nil ?_
          refine wpC_ret ?_
          exact ⟨.inl rfl, fun a ha => ⟨_, results_rep1 rfl ha rfl, false, rfl, h⟩⟩
        · replace h := h.2 hc69
          refine wpC_skip ?_
          refine wpC_region ?_
          refine wpR_val (v := (Value.int .i64 l54)) (w' := w13) rfl rfl rfl (x_move (v := (Value.int .i64 l54)) rfl e10) ?_
          refine wpR_val (v := (Value.int .i64 (IntKind.i64.wrap (l54 + 1)))) (w' := w13) rfl rfl rfl (x_add rfl rfl rfl) ?_
          refine wpR_val (v := (Value.int .i64 (IntKind.i64.wrap (l54 + 1)))) (w' := w13) rfl rfl rfl (x_assign (v := (Value.int .i64 (IntKind.i64.wrap (l54 + 1)))) rfl rfl) ?_
          refine wpR_nil ?_
          exact ⟨IntKind.i64.wrap (l54 + 1), ⟨rfl, e0, e1, e2, e7, e8, trivial⟩, h⟩
      · replace h := h.2 hc55
        refine wpC_exit ?_
        refine wpC_seq ?_
        refine wpC_cut (fun ρ => ρ 0 = (Sl.v p0) ∧ ρ 1 = (Sl.v p1) ∧ ρ 2 = (Value.int .u8 p2) ∧ ρ 7 = (Value.bool r1) ∧ True) ⟨e0, e1, e2, e7, trivial⟩ ?_
        rintro ρ ⟨e0, e1, e2, e7, -⟩
        refine wpC_region ?_
        refine wpR_val (v := (Sl.v p0)) (w' := w11) rfl rfl rfl (x_move (v := (Sl.v p0)) rfl e0) ?_
        refine wpR_val (v := (Sl.v p0)) (w' := w11) rfl rfl rfl (x_move (v := (Sl.v p0)) rfl e0) ?_
        refine wpR_val (v := (Sl.v p1)) (w' := w11) rfl rfl rfl (x_move (v := (Sl.v p1)) rfl e1) ?_
        refine wpR_enter rfl rfl rfl (x_call (vs := [(Sl.v p0), (Sl.v p1)]) rfl rfl (mapl_cons rfl (mapl_cons rfl mapl_nil)) Try.func13 NN_13 NB_13) (Calls.mono h ?_)
        rintro _ w14 ⟨r70, rfl, h⟩
        refine ⟨_, rfl, ?_⟩
        refine wpR_enter rfl rfl rfl (x_call (vs := [(Sl.v p0), (Sl.v r70)]) rfl rfl (mapl_cons rfl (mapl_cons rfl mapl_nil)) Try.func15 NN_15 NB_15) (Calls.mono h ?_)
        rintro _ w15 ⟨r71, rfl, h⟩
        refine ⟨_, rfl, ?_⟩
        refine wpR_val (v := (Sl.v r71)) (w' := w15) rfl rfl rfl (x_assign (v := (Sl.v r71)) rfl rfl) ?_
        refine wpR_nil ?_
        refine wpC_seq ?_
        refine wpC_cut (fun ρ => ρ 0 = (Sl.v p0) ∧ ρ 2 = (Value.int .u8 p2) ∧ ρ 7 = (Value.bool r1) ∧ ρ 11 = (Sl.v r71) ∧ True) ⟨e0, e2, e7, rfl, trivial⟩ ?_
        rintro ρ ⟨e0, e2, e7, e11, -⟩
        refine wpC_region ?_
        refine wpR_val (v := (Sl.v r71)) (w' := w15) rfl rfl rfl (x_move (v := (Sl.v r71)) rfl e11) ?_
        refine wpR_val (v := (Sl.v r71)) (w' := w15) rfl rfl rfl (x_move (v := (Sl.v r71)) rfl e11) ?_
        refine wpR_val (v := (Value.int .i64 (r71.len : Int))) (w' := w15) rfl rfl rfl (x_lenS (s := r71) rfl rfl isSliceT_23) ?_
        refine wpR_val (v := (Value.int .u8 p2)) (w' := w15) rfl rfl rfl (x_move (v := (Value.int .u8 p2)) rfl e2) ?_
        refine wpR_val (v := (Value.int .i64 (IntKind.i64.wrap p2))) (w' := w15) rfl rfl rfl (x_convI rfl rfl IK_3 IK_5) ?_
        refine wpR_val (v := (Value.int .i64 (min (r71.len : Int) (IntKind.i64.wrap p2)))) (w' := w15) rfl rfl rfl (x_min rfl rfl rfl) ?_
        obtain ⟨r72, w16, q72, h⟩ := h
        refine wpR_val (v := (Sl.v r72)) (w' := w16) rfl rfl rfl (x_sliceAt rfl rfl rfl (congrArg some rfl) rfl q72) ?_
        refine wpR_val (v := (Sl.v r72)) (w' := w16) rfl rfl rfl (x_assign (v := (Sl.v r72)) rfl rfl) ?_
        refine wpR_nil ?_
        refine wpC_seq ?_
        refine wpC_seq ?_
        refine wpC_cut (fun ρ => ρ 0 = (Sl.v p0) ∧ ρ 7 = (Value.bool r1) ∧ ρ 12 = (Sl.v r72) ∧ True) ⟨e0, e7, rfl, trivial⟩ ?_
        rintro ρ ⟨e0, e7, e12, -⟩
        refine wpC_region ?_
        refine wpR_val (v := (Value.int .i64 0)) (w' := w16) rfl rfl rfl (x_assign (v := (Value.int .i64 0)) rfl rfl) ?_
        refine wpR_nil ?_
        refine wpC_block ?_
        obtain ⟨I73, μ73, hI73, hr73⟩ := h
        refine wpC_loop (fun (x : Int) ρ => ρ 13 = (Value.int .i64 x) ∧ ρ 0 = (Sl.v p0) ∧ ρ 7 = (Value.bool r1) ∧ ρ 12 = (Sl.v r72) ∧ True) I73 μ73 0 ⟨rfl, e0, e7, e12, trivial⟩ hI73 ?_
        rintro l73 ρ w17 ⟨e13, e0, e7, e12, -⟩ h
        replace h := hr73 l73 w17 h
        clear hr73 hI73
        refine wpC_seq ?_
        refine wpC_seq ?_
        refine wpC_region ?_
        refine wpR_val (v := (Value.int .i64 l73)) (w' := w17) rfl rfl rfl (x_move (v := (Value.int .i64 l73)) rfl e13) ?_
        refine wpR_val (v := (Sl.v p0)) (w' := w17) rfl rfl rfl (x_move (v := (Sl.v p0)) rfl e0) ?_
        refine wpR_val (v := (Value.int .i64 (p0.len : Int))) (w' := w17) rfl rfl rfl (x_lenS (s := p0) rfl rfl isSliceT_22) ?_
        refine wpR_val (v := (Value.bool (decide (l73 < (p0.len : Int))))) (w' := w17) rfl rfl rfl (x_lss rfl rfl rfl) ?_
        refine wpR_nil ?_
        refine wpC_cond (b := decide (l73 < (p0.len : Int))) rfl (fun hc74 => ?_) (fun hc74 => ?_)
        · replace h := h.1 hc74
          refine wpC_skip ?_
          refine wpC_seq ?_
          refine wpC_block ?_
          refine wpC_seq ?_
          refine wpC_cut (fun ρ => ρ 0 = (Sl.v p0) ∧ ρ 7 = (Value.bool r1) ∧ ρ 12 = (Sl.v r72) ∧ ρ 13 = (Value.int .i64 l73) ∧ True) ⟨e0, e7, e12, e13, trivial⟩ ?_
          rintro ρ ⟨e0, e7, e12, e13, -⟩
          refine wpC_region ?_
          refine wpR_val (v := (Value.int .i64 0)) (w' := w17) rfl rfl rfl (x_assign (v := (Value.int .i64 0)) rfl rfl) ?_
          refine wpR_nil ?_
          refine wpC_block ?_
          obtain ⟨I75, μ75, hI75, hr75⟩ := h
          refine wpC_loop (fun (x : Int) ρ => ρ 14 = (Value.int .i64 x) ∧ ρ 0 = (Sl.v p0) ∧ ρ 7 = (Value.bool r1) ∧ ρ 12 = (Sl.v r72) ∧ ρ 13 = (Value.int .i64 l73) ∧ True) I75 μ75 0 ⟨rfl, e0, e7, e12, e13, trivial⟩ hI75 ?_
          rintro l75 ρ w18 ⟨e14, e0, e7, e12, e13, -⟩ h
          replace h := hr75 l75 w18 h
          clear hr75 hI75
          refine wpC_seq ?_
          refine wpC_seq ?_
          refine wpC_region ?_
          refine wpR_val (v := (Value.int .i64 l75)) (w' := w18) rfl rfl rfl (x_move (v := (Value.int .i64 l75)) rfl e14) ?_
          refine wpR_val (v := (Sl.v p0)) (w' := w18) rfl rfl rfl (x_move (v := (Sl.v p0)) rfl e0) ?_
          refine wpR_val (v := (Value.int .i64 l73)) (w' := w18) rfl rfl rfl (x_move (v := (Value.int .i64 l73)) rfl e13) ?_
          obtain ⟨q76, z76, r76, h⟩ := h
          generalize hp76 : z76.add ((l73).toNat * 3) = p76 at h
          refine wpR_val (v := (Value.pointer (some p76))) (w' := w18) rfl rfl rfl ((x_indexAddr (s := p0) rfl rfl rfl ES_22 q76 r76).trans (by rw [hp76])) ?_
          refine wpR_val (v := (Value.pointer (some (p76.add 2)))) (w' := w18) rfl rfl rfl (x_fieldAddr rfl rfl FA_32_2) ?_
          obtain ⟨x77, q77, h⟩ := h
          refine wpR_val (v := (Sl.v x77)) (w' := w18) rfl rfl rfl (x_load1 rfl rfl SH_23 q77) ?_
          refine wpR_val (v := (Value.int .i64 (x77.len : Int))) (w' := w18) rfl rfl rfl (x_lenS (s := x77) rfl rfl isSliceT_23) ?_
          refine wpR_val (v := (Value.bool (decide (l75 < (x77.len : Int))))) (w' := w18) rfl rfl rfl (x_lss rfl rfl rfl) ?_
          refine wpR_nil ?_
          refine wpC_cond (b := decide (l75 < (x77.len : Int))) rfl (fun hc78 => ?_) (fun hc78 => ?_)
          · replace h := h.1 hc78
            refine wpC_skip ?_
            refine wpC_seq ?_
            refine wpC_block ?_
            refine wpC_seq ?_
            refine wpC_cut (fun ρ => ρ 0 = (Sl.v p0) ∧ ρ 7 = (Value.bool r1) ∧ ρ 12 = (Sl.v r72) ∧ ρ 13 = (Value.int .i64 l73) ∧ ρ 14 = (Value.int .i64 l75) ∧ True) ⟨e0, e7, e12, e13, e14, trivial⟩ ?_
            rintro ρ ⟨e0, e7, e12, e13, e14, -⟩
            refine wpC_region ?_
            refine wpR_val (v := (Sl.v r72)) (w' := w18) rfl rfl rfl (x_move (v := (Sl.v r72)) rfl e12) ?_
            refine wpR_val (v := (Sl.v p0)) (w' := w18) rfl rfl rfl (x_move (v := (Sl.v p0)) rfl e0) ?_
            refine wpR_val (v := (Value.int .i64 l73)) (w' := w18) rfl rfl rfl (x_move (v := (Value.int .i64 l73)) rfl e13) ?_
            obtain ⟨q79, z79, r79, h⟩ := h
            generalize hp79 : z79.add ((l73).toNat * 3) = p79 at h
            refine wpR_val (v := (Value.pointer (some p79))) (w' := w18) rfl rfl rfl ((x_indexAddr (s := p0) rfl rfl rfl ES_22 q79 r79).trans (by rw [hp79])) ?_
            refine wpR_val (v := (Value.pointer (some (p79.add 2)))) (w' := w18) rfl rfl rfl (x_fieldAddr rfl rfl FA_32_2) ?_
            obtain ⟨x80, q80, h⟩ := h
            refine wpR_val (v := (Sl.v x80)) (w' := w18) rfl rfl rfl (x_load1 rfl rfl SH_23 q80) ?_
            refine wpR_val (v := (Value.int .i64 l75)) (w' := w18) rfl rfl rfl (x_move (v := (Value.int .i64 l75)) rfl e14) ?_
            obtain ⟨q81, z81, r81, h⟩ := h
            generalize hp81 : z81.add ((l75).toNat * 1) = p81 at h
            refine wpR_val (v := (Value.pointer (some p81))) (w' := w18) rfl rfl rfl ((x_indexAddr (s := x80) rfl rfl rfl ES_23 q81 r81).trans (by rw [hp81])) ?_
            obtain ⟨x82, q82, h⟩ := h
            refine wpR_val (v := (Value.int .i64 x82)) (w' := w18) rfl rfl rfl (x_load1 rfl rfl SH_3 q82) ?_
            refine wpR_enter rfl rfl rfl (x_call (vs := [(Sl.v r72), (Value.int .i64 x82)]) rfl rfl (mapl_cons rfl (mapl_cons rfl mapl_nil)) Try.func19 NN_19 NB_19) (Calls.mono h ?_)
            rintro _ w19 ⟨r83, rfl, h⟩
            refine ⟨_, rfl, ?_⟩
            refine wpR_val (v := (Value.bool r83)) (w' := w19) rfl rfl rfl (x_move (v := (Value.bool r83)) rfl rfl) ?_
            obtain ⟨J84, h, hk⟩ := h
            refine wpR_joinJ 5 (fun x ρ => ρ 150 = Value.bool x ∧ ρ 0 = (Sl.v p0) ∧ ρ 7 = (Value.bool r1) ∧ ρ 12 = (Sl.v r72) ∧ ρ 13 = (Value.int .i64 l73) ∧ ρ 14 = (Value.int .i64 l75) ∧ True) (J84) ?_ ?_
            · clear hk
              rcases Bool.eq_false_or_eq_true (r83) with hc85 | hc85
              · replace h := h.1 hc85
                refine wpR_val (v := (Sl.v r72)) (w' := w19) (wantG rfl rfl rfl hc85) rfl rfl (x_move (v := (Sl.v r72)) rfl e12) ?_
                refine wpR_val (v := (Value.int .i64 l73)) (w' := w19) (wantG rfl rfl rfl hc85) rfl rfl (x_move (v := (Value.int .i64 l73)) rfl e13) ?_
                refine wpR_enter (wantG rfl rfl rfl hc85) rfl rfl (x_call (vs := [(Sl.v r72), (Value.int .i64 l73)]) rfl rfl (mapl_cons rfl (mapl_cons rfl mapl_nil)) Try.func19 NN_19 NB_19) (Calls.mono h ?_)
                rintro _ w20 ⟨r86, rfl, h⟩
                refine ⟨_, rfl, ?_⟩
                refine wpR_val (v := (Value.bool (!r86))) (w' := w20) (wantG rfl rfl rfl hc85) rfl rfl (x_not rfl rfl) ?_
                refine wpR_val (v := (Value.bool (!r86))) (w' := w20) rfl rfl rfl (x_pickT (v := (Value.bool (!r86))) rfl rfl hc85 rfl) ?_
                refine wpR_nil ?_
                exact ⟨!r86, ⟨rfl, e0, e7, e12, e13, e14, trivial⟩, h⟩
              · replace h := h.2 hc85
                refine wpR_pass (wantN rfl rfl rfl hc85) rfl rfl ?_
                refine wpR_pass (wantN rfl rfl rfl hc85) rfl rfl ?_
                refine wpR_pass (wantN rfl rfl rfl hc85) rfl rfl ?_
                refine wpR_pass (wantN rfl rfl rfl hc85) rfl rfl ?_
                refine wpR_val (v := (Value.bool false)) (w' := w19) rfl rfl rfl (x_pickF (v := (Value.bool false)) rfl rfl hc85 rfl) ?_
                refine wpR_nil ?_
                exact ⟨false, ⟨rfl, e0, e7, e12, e13, e14, trivial⟩, h⟩
            clear h
            rintro c87 ρ w21 ⟨e150, e0, e7, e12, e13, e14, -⟩ h
            replace h := hk c87 w21 h
            clear hk
            refine wpR_nil ?_
            refine wpC_cond (b := c87) e150 (fun hc88 => ?_) (fun hc88 => ?_)
            · replace h := h.1 hc88
              refine wpC_seq ?_
              refine wpC_region ?_
              refine wpR_val (v := (Value.bool false)) (w' := w21) rfl rfl rfl (x_assign (v := (Value.bool false)) rfl rfl) ?_
              refine wpR_nil ?_
              refine wpC_ret ?_
              exact ⟨.inl rfl, fun a ha => ⟨_, results_rep1 rfl ha rfl, false, rfl, h⟩⟩
            · replace h := h.2 hc88
              refine wpC_skip ?_
              refine wpC_region ?_
              refine wpR_val (v := (Value.int .i64 l75)) (w' := w21) rfl rfl rfl (x_move (v := (Value.int .i64 l75)) rfl e14) ?_
              refine wpR_val (v := (Value.int .i64 (IntKind.i64.wrap (l75 + 1)))) (w' := w21) rfl rfl rfl (x_add rfl rfl rfl) ?_
              refine wpR_val (v := (Value.int .i64 (IntKind.i64.wrap (l75 + 1)))) (w' := w21) rfl rfl rfl (x_assign (v := (Value.int .i64 (IntKind.i64.wrap (l75 + 1)))) rfl rfl) ?_
              refine wpR_nil ?_
              exact ⟨IntKind.i64.wrap (l75 + 1), ⟨rfl, e0, e7, e12, e13, trivial⟩, h⟩
          · replace h := h.2 hc78
            refine wpC_exit ?_
            refine wpC_cut (fun ρ => ρ 0 = (Sl.v p0) ∧ ρ 7 = (Value.bool r1) ∧ ρ 12 = (Sl.v r72) ∧ ρ 13 = (Value.int .i64 l73) ∧ True) ⟨e0, e7, e12, e13, trivial⟩ ?_
            rintro ρ ⟨e0, e7, e12, e13, -⟩
            refine wpC_region ?_
            refine wpR_val (v := (Value.int .i64 l73)) (w' := w18) rfl rfl rfl (x_move (v := (Value.int .i64 l73)) rfl e13) ?_
            refine wpR_val (v := (Value.int .i64 (IntKind.i64.wrap (l73 + 1)))) (w' := w18) rfl rfl rfl (x_add rfl rfl rfl) ?_
            refine wpR_val (v := (Value.int .i64 (IntKind.i64.wrap (l73 + 1)))) (w' := w18) rfl rfl rfl (x_assign (v := (Value.int .i64 (IntKind.i64.wrap (l73 + 1)))) rfl rfl) ?_
            refine wpR_nil ?_
            exact ⟨IntKind.i64.wrap (l73 + 1), ⟨rfl, e0, e7, e12, trivial⟩, h⟩
        · replace h := h.2 hc74
          refine wpC_exit ?_
          refine wpC_seq ?_
          refine wpC_cut (fun ρ => ρ 7 = (Value.bool r1) ∧ True) ⟨e7, trivial⟩ ?_
          rintro ρ ⟨e7, -⟩
          refine wpC_region ?_
          refine wpR_val (v := (Value.bool r1)) (w' := w17) rfl rfl rfl (x_move (v := (Value.bool r1)) rfl e7) ?_
          refine wpR_val (v := (Value.bool r1)) (w' := w17) rfl rfl rfl (x_assign (v := (Value.bool r1)) rfl rfl) ?_
          refine wpR_nil ?_
          refine wpC_ret ?_
          exact ⟨.inl rfl, fun a ha => ⟨_, results_rep1 rfl ha rfl, r1, rfl, h⟩⟩


end Go.Proofs.Ytjmjackeeiglmaa
