import Derived.Test.YtdcbmadmcmjopaaRows
import Derived.Test.YtdcbmadmcmjopaaDecRaw
namespace Go.Proofs.Ytdcbmadmcmjopaa
open Go.Dec
set_option maxHeartbeats 400000
set_option maxRecDepth 100000

theorem BD_39_0_1 (y0 : Int) (y1 : Int) : ∀ w, (Instr.build 39 #[(0, (Value.int .i64 y0)), (1, (Value.int .i64 y1))]).run Try.prog w = .ok (Value.agg #[(Value.int .i64 y0), (Value.int .i64 y1)]) w := fun w => by kernel_rfl
theorem BD_39_1 (y1 : Int) : ∀ w, (Instr.build 39 #[(1, (Value.int .i64 y1))]).run Try.prog w = .ok (Value.agg #[(Value.int .i64 0), (Value.int .i64 y1)]) w := fun w => by kernel_rfl
theorem BS_22_0_ : ∀ w, (Instr.buildSlice 22 0 #[]).run Try.prog w = .ok (.slice (some ⟨w.heap.size, 0, none⟩) 0 0) (w.alloc (.cells #[] 39)) := fun w => by kernel_rfl
theorem BS_22_1_0 (y0 : Int) (y1 : Int) : ∀ w, (Instr.buildSlice 22 1 #[(0, (Value.agg #[(Value.int .i64 y0), (Value.int .i64 y1)]))]).run Try.prog w = .ok (.slice (some ⟨w.heap.size, 0, none⟩) 1 1) (w.alloc (.cells #[(Value.int .i64 y0), (Value.int .i64 y1)] 39)) := fun w => by kernel_rfl
theorem BS_22_2_0_1 (y0 : Int) (y1 : Int) (y2 : Int) (y3 : Int) : ∀ w, (Instr.buildSlice 22 2 #[(0, (Value.agg #[(Value.int .i64 y0), (Value.int .i64 y1)])), (1, (Value.agg #[(Value.int .i64 y2), (Value.int .i64 y3)]))]).run Try.prog w = .ok (.slice (some ⟨w.heap.size, 0, none⟩) 2 2) (w.alloc (.cells #[(Value.int .i64 y0), (Value.int .i64 y1), (Value.int .i64 y2), (Value.int .i64 y3)] 39)) := fun w => by kernel_rfl
theorem BS_22_3_0_1_2 (y0 : Int) (y1 : Int) (y2 : Int) (y3 : Int) (y4 : Int) (y5 : Int) : ∀ w, (Instr.buildSlice 22 3 #[(0, (Value.agg #[(Value.int .i64 y0), (Value.int .i64 y1)])), (1, (Value.agg #[(Value.int .i64 y2), (Value.int .i64 y3)])), (2, (Value.agg #[(Value.int .i64 y4), (Value.int .i64 y5)]))]).run Try.prog w = .ok (.slice (some ⟨w.heap.size, 0, none⟩) 3 3) (w.alloc (.cells #[(Value.int .i64 y0), (Value.int .i64 y1), (Value.int .i64 y2), (Value.int .i64 y3), (Value.int .i64 y4), (Value.int .i64 y5)] 39)) := fun w => by kernel_rfl
theorem BS_43_1_0 (y0 : Int) : ∀ w, (Instr.buildSlice 43 1 #[(0, (Value.int .i64 y0))]).run Try.prog w = .ok (.slice (some ⟨w.heap.size, 0, none⟩) 1 1) (w.alloc (.cells #[(Value.int .i64 y0)] 3)) := fun w => by kernel_rfl
theorem EQ1_39 : Try.prog.underlying 39 = some (.struct (Try.prog.fieldsOf 39)) := by kernel_rfl
theorem EQ2_39 : Try.prog.stoodInHeld 39 = false := by kernel_rfl
theorem EQ3_39 : Try.prog.eqGuardType Try.prog.depth 39 = false := by kernel_rfl
theorem EQ_39 (y0 : Int) (y1 : Int) (z0 : Int) (z1 : Int) : fieldsEq Try.prog #[(Value.int .i64 y0), (Value.int .i64 y1)] #[(Value.int .i64 z0), (Value.int .i64 z1)] (Try.prog.fieldsOf 39).toList = some (decide (y0 = z0) && (decide (y1 = z1) && true)) := by kernel_rfl
theorem ES_22 : elemSize Try.prog 22 = some 2 := by kernel_rfl
theorem ES_32 : elemSize Try.prog 32 = some 1 := by kernel_rfl
theorem ES_43 : elemSize Try.prog 43 = some 1 := by kernel_rfl
theorem FA_39_0 : fieldOff Try.prog 39 0 = some 0 := by kernel_rfl
theorem FA_39_1 : fieldOff Try.prog 39 1 = some 1 := by kernel_rfl
theorem IK_3 : intKindT Try.prog 3 = some .i64 := by kernel_rfl
theorem IK_5 : intKindT Try.prog 5 = some .u8 := by kernel_rfl
theorem NB_10 : Try.f10.body.isNone = false := by kernel_rfl
theorem NN_10 : (Try.f10.name == "runtime.NumGoroutine") = false := by kernel_rfl
theorem NB_11 : Try.f11.body.isNone = false := by kernel_rfl
theorem NN_11 : (Try.f11.name == "runtime.NumGoroutine") = false := by kernel_rfl
theorem NB_12 : Try.f12.body.isNone = false := by kernel_rfl
theorem NN_12 : (Try.f12.name == "runtime.NumGoroutine") = false := by kernel_rfl
theorem NB_13 : Try.f13.body.isNone = false := by kernel_rfl
theorem NN_13 : (Try.f13.name == "runtime.NumGoroutine") = false := by kernel_rfl
theorem NB_14 : Try.f14.body.isNone = false := by kernel_rfl
theorem NN_14 : (Try.f14.name == "runtime.NumGoroutine") = false := by kernel_rfl
theorem NB_15 : Try.f15.body.isNone = false := by kernel_rfl
theorem NN_15 : (Try.f15.name == "runtime.NumGoroutine") = false := by kernel_rfl
theorem NB_16 : Try.f16.body.isNone = false := by kernel_rfl
theorem NN_16 : (Try.f16.name == "runtime.NumGoroutine") = false := by kernel_rfl
theorem NB_17 : Try.f17.body.isNone = false := by kernel_rfl
theorem NN_17 : (Try.f17.name == "runtime.NumGoroutine") = false := by kernel_rfl
theorem NB_18 : Try.f18.body.isNone = false := by kernel_rfl
theorem NN_18 : (Try.f18.name == "runtime.NumGoroutine") = false := by kernel_rfl
theorem NB_19 : Try.f19.body.isNone = false := by kernel_rfl
theorem NN_19 : (Try.f19.name == "runtime.NumGoroutine") = false := by kernel_rfl
theorem NB_20 : Try.f20.body.isNone = false := by kernel_rfl
theorem NN_20 : (Try.f20.name == "runtime.NumGoroutine") = false := by kernel_rfl
theorem NB_21 : Try.f21.body.isNone = false := by kernel_rfl
theorem NN_21 : (Try.f21.name == "runtime.NumGoroutine") = false := by kernel_rfl
theorem NB_22 : Try.f22.body.isNone = false := by kernel_rfl
theorem NN_22 : (Try.f22.name == "runtime.NumGoroutine") = false := by kernel_rfl
theorem NB_23 : Try.f23.body.isNone = false := by kernel_rfl
theorem NN_23 : (Try.f23.name == "runtime.NumGoroutine") = false := by kernel_rfl
theorem NB_24 : Try.f24.body.isNone = false := by kernel_rfl
theorem NN_24 : (Try.f24.name == "runtime.NumGoroutine") = false := by kernel_rfl
theorem NB_25 : Try.f25.body.isNone = false := by kernel_rfl
theorem NN_25 : (Try.f25.name == "runtime.NumGoroutine") = false := by kernel_rfl
theorem NB_26 : Try.f26.body.isNone = false := by kernel_rfl
theorem NN_26 : (Try.f26.name == "runtime.NumGoroutine") = false := by kernel_rfl
theorem NB_27 : Try.f27.body.isNone = false := by kernel_rfl
theorem NN_27 : (Try.f27.name == "runtime.NumGoroutine") = false := by kernel_rfl
theorem NB_7 : Try.f7.body.isNone = false := by kernel_rfl
theorem NN_7 : (Try.f7.name == "runtime.NumGoroutine") = false := by kernel_rfl
theorem NB_8 : Try.f8.body.isNone = false := by kernel_rfl
theorem NN_8 : (Try.f8.name == "runtime.NumGoroutine") = false := by kernel_rfl
theorem NB_9 : Try.f9.body.isNone = false := by kernel_rfl
theorem NN_9 : (Try.f9.name == "runtime.NumGoroutine") = false := by kernel_rfl
theorem SH_3 : shapeT Try.prog 3 = some 0 := by kernel_rfl
theorem SH_39 : shapeT Try.prog 39 = some 3 := by kernel_rfl
theorem SH_5 : shapeT Try.prog 5 = some 0 := by kernel_rfl
theorem SZ_3 : sizeT Try.prog 3 = some 1 := by kernel_rfl
theorem SZ_39 : sizeT Try.prog 39 = some 2 := by kernel_rfl
theorem ZV_39 : (Try.prog.info? 39).bind (·.zero) = some (Value.agg #[(Value.int .i64 0), (Value.int .i64 0)]) := by kernel_rfl
theorem isBoolT_4 : isBoolT Try.prog 4 = true := by kernel_rfl
theorem isSliceT_22 : isSliceT Try.prog 22 = true := by kernel_rfl
theorem isSliceT_32 : isSliceT Try.prog 32 = true := by kernel_rfl
theorem isSliceT_43 : isSliceT Try.prog 43 = true := by kernel_rfl

/-- lingualaw06.ShareTells -/
def F3 (p0 : Int) (p1 : Int) (p2 : Int) (p3 : Int) (p4 : Sl) (w0 : World) (K : Bool → World → Prop) : Prop :=
  callC Try.prog 7 #[] (fun (r : Bool) => (Value.bool r)) w0 fun r9 w1 =>
  cnd (decide (30 < (p4.len : Int)))
    (
    K r9 w1
    )
    (
    callC Try.prog 8 #[(Value.int .i64 p0), (Value.int .i64 p1), (Value.int .i64 p2), (Value.int .i64 p3)] (fun (r : Sl × Int) => (Value.tuple #[(Sl.v r.1), (Value.int .i64 r.2)])) w1 fun r11 w2 =>
    callC Try.prog 9 #[(Value.int .i64 p0), (Value.int .i64 p1), (Value.int .i64 p2), (Value.int .i64 p3)] (fun (r : Sl × Int) => (Value.tuple #[(Sl.v r.1), (Value.int .i64 r.2)])) w2 fun r12 w3 =>
    callC Try.prog 10 #[(Sl.v p4), (Value.int .i64 p1)] (fun (r : Int × Int) => (Value.tuple #[(Value.int .i64 r.1), (Value.int .i64 r.2)])) w3 fun r13 w4 =>
    callC Try.prog 11 #[(Sl.v p4), (Value.int .i64 p1)] (fun (r : Int × Int) => (Value.tuple #[(Value.int .i64 r.1), (Value.int .i64 r.2)])) w4 fun r14 w5 =>
    jn (fun J15 => cnd (r9)
      (
      callC Try.prog 12 #[(Sl.v r11.1), (Sl.v r12.1)] (fun (r : Bool) => (Value.bool r)) w5 fun r17 w6 =>
      J15 r17 w6
      )
      (
      J15 false w5
      ))
    fun c18 w7 =>
    jn (fun J25 => cnd (((c18 && (decide (r11.2 = r12.2))) && (decide (r13.1 = r14.1))) && (decide (r13.2 = r14.2)))
      (
      callC Try.prog 13 #[(Sl.v p4), (Value.int .i64 p1), (Value.int .i64 p0)] (fun (r : Bool) => (Value.bool r)) w7 fun r27 w8 =>
      callC Try.prog 14 #[(Sl.v p4), (Value.int .i64 p1), (Value.int .i64 p0)] (fun (r : Bool) => (Value.bool r)) w8 fun r28 w9 =>
      J25 (r27 == r28) w9
      )
      (
      J25 false w7
      ))
    fun c29 w10 =>
    K c29 w10
    )
set_option maxRecDepth 100000 in
theorem D3 (p0 : Int) (p1 : Int) (p2 : Int) (p3 : Int) (p4 : Sl) (w0 : World) (K : Bool → World → Prop) (h : F3 p0 p1 p2 p3 p4 w0 K) : callC Try.prog 3 #[(Value.int .i64 p0), (Value.int .i64 p1), (Value.int .i64 p2), (Value.int .i64 p3), (Sl.v p4)] (fun (r : Bool) => (Value.bool r)) w0 K := by
  unfold F3 at h
  refine calls_of_wpC Try.func3 rfl 85 rfl (by simp) ?_
  intro ρ hρ
  have e0 : ρ 0 = (Value.int .i64 p0) := hρ 0
  have e1 : ρ 1 = (Value.int .i64 p1) := hρ 1
  have e2 : ρ 2 = (Value.int .i64 p2) := hρ 2
  have e3 : ρ 3 = (Value.int .i64 p3) := hρ 3
  have e4 : ρ 4 = (Sl.v p4) := hρ 4
  clear hρ
  refine wpC_seq ?_
  refine wpC_region ?_
  refine wpR_val (v := (Value.bool false)) (w' := w0) rfl rfl rfl (x_assign (v := (Value.bool false)) rfl rfl) ?_
  refine wpR_nil ?_
  refine wpC_seq ?_
  refine wpC_cut (fun ρ => ρ 0 = (Value.int .i64 p0) ∧ ρ 1 = (Value.int .i64 p1) ∧ ρ 2 = (Value.int .i64 p2) ∧ ρ 3 = (Value.int .i64 p3) ∧ ρ 4 = (Sl.v p4) ∧ True) ⟨e0, e1, e2, e3, e4, trivial⟩ ?_
  rintro ρ ⟨e0, e1, e2, e3, e4, -⟩
  refine wpC_region ?_
  refine wpR_enter rfl rfl rfl (x_call (vs := []) rfl rfl mapl_nil Try.func7 NN_7 NB_7) (Calls.mono h ?_)
  rintro _ w1 ⟨r9, rfl, h⟩
  refine ⟨_, rfl, ?_⟩
  refine wpR_val (v := (Value.bool r9)) (w' := w1) rfl rfl rfl (x_assign (v := (Value.bool r9)) rfl rfl) ?_
  refine wpR_nil ?_
  refine wpC_seq ?_
  refine wpC_seq ?_
  refine wpC_cut (fun ρ => ρ 0 = (Value.int .i64 p0) ∧ ρ 1 = (Value.int .i64 p1) ∧ ρ 2 = (Value.int .i64 p2) ∧ ρ 3 = (Value.int .i64 p3) ∧ ρ 4 = (Sl.v p4) ∧ ρ 11 = (Value.bool r9) ∧ True) ⟨e0, e1, e2, e3, e4, rfl, trivial⟩ ?_
  rintro ρ ⟨e0, e1, e2, e3, e4, e11, -⟩
  refine wpC_region ?_
  refine wpR_val (v := (Sl.v p4)) (w' := w1) rfl rfl rfl (x_move (v := (Sl.v p4)) rfl e4) ?_
  refine wpR_val (v := (Value.int .i64 (p4.len : Int))) (w' := w1) rfl rfl rfl (x_lenS (s := p4) rfl rfl isSliceT_22) ?_
  refine wpR_val (v := (Value.bool (decide (30 < (p4.len : Int))))) (w' := w1) rfl rfl rfl (x_gtr rfl rfl rfl) ?_
  refine wpR_nil ?_
  refine wpC_cond (b := decide (30 < (p4.len : Int))) rfl (fun hc10 => ?_) (fun hc10 => ?_)
  · replace h := h.1 hc10
    refine wpC_seq ?_
    refine wpC_cut (fun ρ => ρ 11 = (Value.bool r9) ∧ True) ⟨e11, trivial⟩ ?_
    rintro ρ ⟨e11, -⟩
    refine wpC_region ?_
    refine wpR_val (v := (Value.bool r9)) (w' := w1) rfl rfl rfl (x_move (v := (Value.bool r9)) rfl e11) ?_
    refine wpR_val (v := (Value.bool r9)) (w' := w1) rfl rfl rfl (x_assign (v := (Value.bool r9)) rfl rfl) ?_
    refine wpR_nil ?_
    refine wpC_ret ?_
    exact ⟨.inl rfl, fun a ha => ⟨_, results_rep1 rfl ha rfl, r9, rfl, h⟩⟩
  · replace h := h.2 hc10
    refine wpC_skip ?_
    refine wpC_seq ?_
    refine wpC_cut (fun ρ => ρ 0 = (Value.int .i64 p0) ∧ ρ 1 = (Value.int .i64 p1) ∧ ρ 2 = (Value.int .i64 p2) ∧ ρ 3 = (Value.int .i64 p3) ∧ ρ 4 = (Sl.v p4) ∧ ρ 11 = (Value.bool r9) ∧ True) ⟨e0, e1, e2, e3, e4, e11, trivial⟩ ?_
    rintro ρ ⟨e0, e1, e2, e3, e4, e11, -⟩
    refine wpC_region ?_
    refine wpR_val (v := (Value.int .i64 p0)) (w' := w1) rfl rfl rfl (x_move (v := (Value.int .i64 p0)) rfl e0) ?_
    refine wpR_val (v := (Value.int .i64 p1)) (w' := w1) rfl rfl rfl (x_move (v := (Value.int .i64 p1)) rfl e1) ?_
    refine wpR_val (v := (Value.int .i64 p2)) (w' := w1) rfl rfl rfl (x_move (v := (Value.int .i64 p2)) rfl e2) ?_
    refine wpR_val (v := (Value.int .i64 p3)) (w' := w1) rfl rfl rfl (x_move (v := (Value.int .i64 p3)) rfl e3) ?_
    refine wpR_enter rfl rfl rfl (x_call (vs := [(Value.int .i64 p0), (Value.int .i64 p1), (Value.int .i64 p2), (Value.int .i64 p3)]) rfl rfl (mapl_cons rfl (mapl_cons rfl (mapl_cons rfl (mapl_cons rfl mapl_nil)))) Try.func8 NN_8 NB_8) (Calls.mono h ?_)
    rintro _ w2 ⟨r11, rfl, h⟩
    refine ⟨_, rfl, ?_⟩
    refine wpR_val (v := (Value.tuple #[(Sl.v r11.1), (Value.int .i64 r11.2)])) (w' := w2) rfl rfl rfl (x_move (v := (Value.tuple #[(Sl.v r11.1), (Value.int .i64 r11.2)])) rfl rfl) ?_
    refine wpR_val (v := (Sl.v r11.1)) (w' := w2) rfl rfl rfl (x_extract rfl rfl rfl) ?_
    refine wpR_val (v := (Value.int .i64 r11.2)) (w' := w2) rfl rfl rfl (x_extract rfl rfl rfl) ?_
    refine wpR_val (v := (Sl.v r11.1)) (w' := w2) rfl rfl rfl (x_assign (v := (Sl.v r11.1)) rfl rfl) ?_
    refine wpR_val (v := (Value.int .i64 r11.2)) (w' := w2) rfl rfl rfl (x_assign (v := (Value.int .i64 r11.2)) rfl rfl) ?_
    refine wpR_nil ?_
    refine wpC_seq ?_
    refine wpC_cut (fun ρ => ρ 0 = (Value.int .i64 p0) ∧ ρ 1 = (Value.int .i64 p1) ∧ ρ 2 = (Value.int .i64 p2) ∧ ρ 3 = (Value.int .i64 p3) ∧ ρ 4 = (Sl.v p4) ∧ ρ 11 = (Value.bool r9) ∧ ρ 12 = (Sl.v r11.1) ∧ ρ 13 = (Value.int .i64 r11.2) ∧ True) ⟨e0, e1, e2, e3, e4, e11, rfl, rfl, trivial⟩ ?_
    rintro ρ ⟨e0, e1, e2, e3, e4, e11, e12, e13, -⟩
    refine wpC_region ?_
    refine wpR_val (v := (Value.int .i64 p0)) (w' := w2) rfl rfl rfl (x_move (v := (Value.int .i64 p0)) rfl e0) ?_
    refine wpR_val (v := (Value.int .i64 p1)) (w' := w2) rfl rfl rfl (x_move (v := (Value.int .i64 p1)) rfl e1) ?_
    refine wpR_val (v := (Value.int .i64 p2)) (w' := w2) rfl rfl rfl (x_move (v := (Value.int .i64 p2)) rfl e2) ?_
    refine wpR_val (v := (Value.int .i64 p3)) (w' := w2) rfl rfl rfl (x_move (v := (Value.int .i64 p3)) rfl e3) ?_
    refine wpR_enter rfl rfl rfl (x_call (vs := [(Value.int .i64 p0), (Value.int .i64 p1), (Value.int .i64 p2), (Value.int .i64 p3)]) rfl rfl (mapl_cons rfl (mapl_cons rfl (mapl_cons rfl (mapl_cons rfl mapl_nil)))) Try.func9 NN_9 NB_9) (Calls.mono h ?_)
    rintro _ w3 ⟨r12, rfl, h⟩
    refine ⟨_, rfl, ?_⟩
    refine wpR_val (v := (Value.tuple #[(Sl.v r12.1), (Value.int .i64 r12.2)])) (w' := w3) rfl rfl rfl (x_move (v := (Value.tuple #[(Sl.v r12.1), (Value.int .i64 r12.2)])) rfl rfl) ?_
    refine wpR_val (v := (Sl.v r12.1)) (w' := w3) rfl rfl rfl (x_extract rfl rfl rfl) ?_
    refine wpR_val (v := (Value.int .i64 r12.2)) (w' := w3) rfl rfl rfl (x_extract rfl rfl rfl) ?_
    refine wpR_val (v := (Sl.v r12.1)) (w' := w3) rfl rfl rfl (x_assign (v := (Sl.v r12.1)) rfl rfl) ?_
    refine wpR_val (v := (Value.int .i64 r12.2)) (w' := w3) rfl rfl rfl (x_assign (v := (Value.int .i64 r12.2)) rfl rfl) ?_
    refine wpR_nil ?_
    refine wpC_seq ?_
    refine wpC_cut (fun ρ => ρ 0 = (Value.int .i64 p0) ∧ ρ 1 = (Value.int .i64 p1) ∧ ρ 4 = (Sl.v p4) ∧ ρ 11 = (Value.bool r9) ∧ ρ 12 = (Sl.v r11.1) ∧ ρ 13 = (Value.int .i64 r11.2) ∧ ρ 14 = (Sl.v r12.1) ∧ ρ 15 = (Value.int .i64 r12.2) ∧ True) ⟨e0, e1, e4, e11, e12, e13, rfl, rfl, trivial⟩ ?_
    rintro ρ ⟨e0, e1, e4, e11, e12, e13, e14, e15, -⟩
    refine wpC_region ?_
    refine wpR_val (v := (Sl.v p4)) (w' := w3) rfl rfl rfl (x_move (v := (Sl.v p4)) rfl e4) ?_
    refine wpR_val (v := (Value.int .i64 p1)) (w' := w3) rfl rfl rfl (x_move (v := (Value.int .i64 p1)) rfl e1) ?_
    refine wpR_enter rfl rfl rfl (x_call (vs := [(Sl.v p4), (Value.int .i64 p1)]) rfl rfl (mapl_cons rfl (mapl_cons rfl mapl_nil)) Try.func10 NN_10 NB_10) (Calls.mono h ?_)
    rintro _ w4 ⟨r13, rfl, h⟩
    refine ⟨_, rfl, ?_⟩
    refine wpR_val (v := (Value.tuple #[(Value.int .i64 r13.1), (Value.int .i64 r13.2)])) (w' := w4) rfl rfl rfl (x_move (v := (Value.tuple #[(Value.int .i64 r13.1), (Value.int .i64 r13.2)])) rfl rfl) ?_
    refine wpR_val (v := (Value.int .i64 r13.1)) (w' := w4) rfl rfl rfl (x_extract rfl rfl rfl) ?_
    refine wpR_val (v := (Value.int .i64 r13.2)) (w' := w4) rfl rfl rfl (x_extract rfl rfl rfl) ?_
    refine wpR_val (v := (Value.int .i64 r13.1)) (w' := w4) rfl rfl rfl (x_assign (v := (Value.int .i64 r13.1)) rfl rfl) ?_
    refine wpR_val (v := (Value.int .i64 r13.2)) (w' := w4) rfl rfl rfl (x_assign (v := (Value.int .i64 r13.2)) rfl rfl) ?_
    refine wpR_nil ?_
    refine wpC_seq ?_
    refine wpC_cut (fun ρ => ρ 0 = (Value.int .i64 p0) ∧ ρ 1 = (Value.int .i64 p1) ∧ ρ 4 = (Sl.v p4) ∧ ρ 11 = (Value.bool r9) ∧ ρ 12 = (Sl.v r11.1) ∧ ρ 13 = (Value.int .i64 r11.2) ∧ ρ 14 = (Sl.v r12.1) ∧ ρ 15 = (Value.int .i64 r12.2) ∧ ρ 16 = (Value.int .i64 r13.1) ∧ ρ 17 = (Value.int .i64 r13.2) ∧ True) ⟨e0, e1, e4, e11, e12, e13, e14, e15, rfl, rfl, trivial⟩ ?_
    rintro ρ ⟨e0, e1, e4, e11, e12, e13, e14, e15, e16, e17, -⟩
    refine wpC_region ?_
    refine wpR_val (v := (Sl.v p4)) (w' := w4) rfl rfl rfl (x_move (v := (Sl.v p4)) rfl e4) ?_
    refine wpR_val (v := (Value.int .i64 p1)) (w' := w4) rfl rfl rfl (x_move (v := (Value.int .i64 p1)) rfl e1) ?_
    refine wpR_enter rfl rfl rfl (x_call (vs := [(Sl.v p4), (Value.int .i64 p1)]) rfl rfl (mapl_cons rfl (mapl_cons rfl mapl_nil)) Try.func11 NN_11 NB_11) (Calls.mono h ?_)
    rintro _ w5 ⟨r14, rfl, h⟩
    refine ⟨_, rfl, ?_⟩
    refine wpR_val (v := (Value.tuple #[(Value.int .i64 r14.1), (Value.int .i64 r14.2)])) (w' := w5) rfl rfl rfl (x_move (v := (Value.tuple #[(Value.int .i64 r14.1), (Value.int .i64 r14.2)])) rfl rfl) ?_
    refine wpR_val (v := (Value.int .i64 r14.1)) (w' := w5) rfl rfl rfl (x_extract rfl rfl rfl) ?_
    refine wpR_val (v := (Value.int .i64 r14.2)) (w' := w5) rfl rfl rfl (x_extract rfl rfl rfl) ?_
    refine wpR_val (v := (Value.int .i64 r14.1)) (w' := w5) rfl rfl rfl (x_assign (v := (Value.int .i64 r14.1)) rfl rfl) ?_
    refine wpR_val (v := (Value.int .i64 r14.2)) (w' := w5) rfl rfl rfl (x_assign (v := (Value.int .i64 r14.2)) rfl rfl) ?_
    refine wpR_nil ?_
    refine wpC_seq ?_
    refine wpC_cut (fun ρ => ρ 0 = (Value.int .i64 p0) ∧ ρ 1 = (Value.int .i64 p1) ∧ ρ 4 = (Sl.v p4) ∧ ρ 11 = (Value.bool r9) ∧ ρ 12 = (Sl.v r11.1) ∧ ρ 13 = (Value.int .i64 r11.2) ∧ ρ 14 = (Sl.v r12.1) ∧ ρ 15 = (Value.int .i64 r12.2) ∧ ρ 16 = (Value.int .i64 r13.1) ∧ ρ 17 = (Value.int .i64 r13.2) ∧ ρ 18 = (Value.int .i64 r14.1) ∧ ρ 19 = (Value.int .i64 r14.2) ∧ True) ⟨e0, e1, e4, e11, e12, e13, e14, e15, e16, e17, rfl, rfl, trivial⟩ ?_
    rintro ρ ⟨e0, e1, e4, e11, e12, e13, e14, e15, e16, e17, e18, e19, -⟩
    refine wpC_region ?_
    refine wpR_val (v := (Value.bool r9)) (w' := w5) rfl rfl rfl (x_move (v := (Value.bool r9)) rfl e11) ?_
    refine wpR_val (v := (Value.bool r9)) (w' := w5) rfl rfl rfl (x_move (v := (Value.bool r9)) rfl rfl) ?_
    obtain ⟨J15, h, hk⟩ := h
    refine wpR_joinJ 4 (fun x ρ => ρ 58 = Value.bool x ∧ ρ 0 = (Value.int .i64 p0) ∧ ρ 1 = (Value.int .i64 p1) ∧ ρ 4 = (Sl.v p4) ∧ ρ 13 = (Value.int .i64 r11.2) ∧ ρ 15 = (Value.int .i64 r12.2) ∧ ρ 16 = (Value.int .i64 r13.1) ∧ ρ 17 = (Value.int .i64 r13.2) ∧ ρ 18 = (Value.int .i64 r14.1) ∧ ρ 19 = (Value.int .i64 r14.2) ∧ True) (J15) ?_ ?_
    · clear hk
      rcases Bool.eq_false_or_eq_true (r9) with hc16 | hc16
      · replace h := h.1 hc16
        refine wpR_val (v := (Sl.v r11.1)) (w' := w5) (wantG rfl rfl rfl hc16) rfl rfl (x_move (v := (Sl.v r11.1)) rfl e12) ?_
        refine wpR_val (v := (Sl.v r12.1)) (w' := w5) (wantG rfl rfl rfl hc16) rfl rfl (x_move (v := (Sl.v r12.1)) rfl e14) ?_
        refine wpR_enter (wantG rfl rfl rfl hc16) rfl rfl (x_call (vs := [(Sl.v r11.1), (Sl.v r12.1)]) rfl rfl (mapl_cons rfl (mapl_cons rfl mapl_nil)) Try.func12 NN_12 NB_12) (Calls.mono h ?_)
        rintro _ w6 ⟨r17, rfl, h⟩
        refine ⟨_, rfl, ?_⟩
        refine wpR_val (v := (Value.bool r17)) (w' := w6) rfl rfl rfl (x_pickT (v := (Value.bool r17)) rfl rfl hc16 rfl) ?_
        refine wpR_nil ?_
        exact ⟨r17, ⟨rfl, e0, e1, e4, e13, e15, e16, e17, e18, e19, trivial⟩, h⟩
      · replace h := h.2 hc16
        refine wpR_pass (wantN rfl rfl rfl hc16) rfl rfl ?_
        refine wpR_pass (wantN rfl rfl rfl hc16) rfl rfl ?_
        refine wpR_pass (wantN rfl rfl rfl hc16) rfl rfl ?_
        refine wpR_val (v := (Value.bool false)) (w' := w5) rfl rfl rfl (x_pickF (v := (Value.bool false)) rfl rfl hc16 rfl) ?_
        refine wpR_nil ?_
        exact ⟨false, ⟨rfl, e0, e1, e4, e13, e15, e16, e17, e18, e19, trivial⟩, h⟩
    clear h
    rintro c18 ρ w7 ⟨e58, e0, e1, e4, e13, e15, e16, e17, e18, e19, -⟩ h
    replace h := hk c18 w7 h
    clear hk
    refine wpR_val (v := (Value.bool c18)) (w' := w7) rfl rfl rfl (x_move (v := (Value.bool c18)) rfl e58) ?_
    refine wpR_joinJ 4 (fun (_ : Unit) ρ => ρ 63 = Value.bool (c18 && (decide (r11.2 = r12.2))) ∧ ρ 0 = (Value.int .i64 p0) ∧ ρ 1 = (Value.int .i64 p1) ∧ ρ 4 = (Sl.v p4) ∧ ρ 16 = (Value.int .i64 r13.1) ∧ ρ 17 = (Value.int .i64 r13.2) ∧ ρ 18 = (Value.int .i64 r14.1) ∧ ρ 19 = (Value.int .i64 r14.2) ∧ True) (fun _ w => w7 = w) ?_ ?_
    · clear h
      rcases Bool.eq_false_or_eq_true (c18) with hc20 | hc20
      · skip
        refine wpR_val (v := (Value.int .i64 r11.2)) (w' := w7) (wantG rfl rfl rfl hc20) rfl rfl (x_move (v := (Value.int .i64 r11.2)) rfl e13) ?_
        refine wpR_val (v := (Value.int .i64 r12.2)) (w' := w7) (wantG rfl rfl rfl hc20) rfl rfl (x_move (v := (Value.int .i64 r12.2)) rfl e15) ?_
        refine wpR_val (v := (Value.bool (decide (r11.2 = r12.2)))) (w' := w7) (wantG rfl rfl rfl hc20) rfl rfl (x_eql rfl rfl rfl) ?_
        refine wpR_val (v := (Value.bool (decide (r11.2 = r12.2)))) (w' := w7) rfl rfl rfl (x_pickT (v := (Value.bool (decide (r11.2 = r12.2)))) rfl rfl hc20 rfl) ?_
        refine wpR_nil ?_
        exact ⟨(), ⟨(by rw [hc20]; rfl), e0, e1, e4, e16, e17, e18, e19, trivial⟩, rfl⟩
      · skip
        refine wpR_pass (wantN rfl rfl rfl hc20) rfl rfl ?_
        refine wpR_pass (wantN rfl rfl rfl hc20) rfl rfl ?_
        refine wpR_pass (wantN rfl rfl rfl hc20) rfl rfl ?_
        refine wpR_val (v := (Value.bool false)) (w' := w7) rfl rfl rfl (x_pickF (v := (Value.bool false)) rfl rfl hc20 rfl) ?_
        refine wpR_nil ?_
        exact ⟨(), ⟨(by rw [hc20]; rfl), e0, e1, e4, e16, e17, e18, e19, trivial⟩, rfl⟩
    rintro _ ρ wj ⟨e63, e0, e1, e4, e16, e17, e18, e19, -⟩ rfl
    refine wpR_val (v := (Value.bool (c18 && (decide (r11.2 = r12.2))))) (w' := w7) rfl rfl rfl (x_move (v := (Value.bool (c18 && (decide (r11.2 = r12.2))))) rfl e63) ?_
    refine wpR_joinJ 4 (fun (_ : Unit) ρ => ρ 68 = Value.bool ((c18 && (decide (r11.2 = r12.2))) && (decide (r13.1 = r14.1))) ∧ ρ 0 = (Value.int .i64 p0) ∧ ρ 1 = (Value.int .i64 p1) ∧ ρ 4 = (Sl.v p4) ∧ ρ 17 = (Value.int .i64 r13.2) ∧ ρ 19 = (Value.int .i64 r14.2) ∧ True) (fun _ w => w7 = w) ?_ ?_
    · clear h
      rcases Bool.eq_false_or_eq_true (c18 && (decide (r11.2 = r12.2))) with hc22 | hc22
      · skip
        refine wpR_val (v := (Value.int .i64 r13.1)) (w' := w7) (wantG rfl rfl rfl hc22) rfl rfl (x_move (v := (Value.int .i64 r13.1)) rfl e16) ?_
        refine wpR_val (v := (Value.int .i64 r14.1)) (w' := w7) (wantG rfl rfl rfl hc22) rfl rfl (x_move (v := (Value.int .i64 r14.1)) rfl e18) ?_
        refine wpR_val (v := (Value.bool (decide (r13.1 = r14.1)))) (w' := w7) (wantG rfl rfl rfl hc22) rfl rfl (x_eql rfl rfl rfl) ?_
        refine wpR_val (v := (Value.bool (decide (r13.1 = r14.1)))) (w' := w7) rfl rfl rfl (x_pickT (v := (Value.bool (decide (r13.1 = r14.1)))) rfl rfl hc22 rfl) ?_
        refine wpR_nil ?_
        exact ⟨(), ⟨(by rw [hc22]; rfl), e0, e1, e4, e17, e19, trivial⟩, rfl⟩
      · skip
        refine wpR_pass (wantN rfl rfl rfl hc22) rfl rfl ?_
        refine wpR_pass (wantN rfl rfl rfl hc22) rfl rfl ?_
        refine wpR_pass (wantN rfl rfl rfl hc22) rfl rfl ?_
        refine wpR_val (v := (Value.bool false)) (w' := w7) rfl rfl rfl (x_pickF (v := (Value.bool false)) rfl rfl hc22 rfl) ?_
        refine wpR_nil ?_
        exact ⟨(), ⟨(by rw [hc22]; rfl), e0, e1, e4, e17, e19, trivial⟩, rfl⟩
    rintro _ ρ wj ⟨e68, e0, e1, e4, e17, e19, -⟩ rfl
    refine wpR_val (v := (Value.bool ((c18 && (decide (r11.2 = r12.2))) && (decide (r13.1 = r14.1))))) (w' := w7) rfl rfl rfl (x_move (v := (Value.bool ((c18 && (decide (r11.2 = r12.2))) && (decide (r13.1 = r14.1))))) rfl e68) ?_
    refine wpR_joinJ 4 (fun (_ : Unit) ρ => ρ 73 = Value.bool (((c18 && (decide (r11.2 = r12.2))) && (decide (r13.1 = r14.1))) && (decide (r13.2 = r14.2))) ∧ ρ 0 = (Value.int .i64 p0) ∧ ρ 1 = (Value.int .i64 p1) ∧ ρ 4 = (Sl.v p4) ∧ True) (fun _ w => w7 = w) ?_ ?_
    · clear h
      rcases Bool.eq_false_or_eq_true ((c18 && (decide (r11.2 = r12.2))) && (decide (r13.1 = r14.1))) with hc24 | hc24
      · skip
        refine wpR_val (v := (Value.int .i64 r13.2)) (w' := w7) (wantG rfl rfl rfl hc24) rfl rfl (x_move (v := (Value.int .i64 r13.2)) rfl e17) ?_
        refine wpR_val (v := (Value.int .i64 r14.2)) (w' := w7) (wantG rfl rfl rfl hc24) rfl rfl (x_move (v := (Value.int .i64 r14.2)) rfl e19) ?_
        refine wpR_val (v := (Value.bool (decide (r13.2 = r14.2)))) (w' := w7) (wantG rfl rfl rfl hc24) rfl rfl (x_eql rfl rfl rfl) ?_
        refine wpR_val (v := (Value.bool (decide (r13.2 = r14.2)))) (w' := w7) rfl rfl rfl (x_pickT (v := (Value.bool (decide (r13.2 = r14.2)))) rfl rfl hc24 rfl) ?_
        refine wpR_nil ?_
        exact ⟨(), ⟨(by rw [hc24]; rfl), e0, e1, e4, trivial⟩, rfl⟩
      · skip
        refine wpR_pass (wantN rfl rfl rfl hc24) rfl rfl ?_
        refine wpR_pass (wantN rfl rfl rfl hc24) rfl rfl ?_
        refine wpR_pass (wantN rfl rfl rfl hc24) rfl rfl ?_
        refine wpR_val (v := (Value.bool false)) (w' := w7) rfl rfl rfl (x_pickF (v := (Value.bool false)) rfl rfl hc24 rfl) ?_
        refine wpR_nil ?_
        exact ⟨(), ⟨(by rw [hc24]; rfl), e0, e1, e4, trivial⟩, rfl⟩
    rintro _ ρ wj ⟨e73, e0, e1, e4, -⟩ rfl
    refine wpR_val (v := (Value.bool (((c18 && (decide (r11.2 = r12.2))) && (decide (r13.1 = r14.1))) && (decide (r13.2 = r14.2))))) (w' := w7) rfl rfl rfl (x_move (v := (Value.bool (((c18 && (decide (r11.2 = r12.2))) && (decide (r13.1 = r14.1))) && (decide (r13.2 = r14.2))))) rfl e73) ?_
    obtain ⟨J25, h, hk⟩ := h
    refine wpR_joinJ 10 (fun x ρ => ρ 84 = Value.bool x ∧ True) (J25) ?_ ?_
    · clear hk
      rcases Bool.eq_false_or_eq_true (((c18 && (decide (r11.2 = r12.2))) && (decide (r13.1 = r14.1))) && (decide (r13.2 = r14.2))) with hc26 | hc26
      · replace h := h.1 hc26
        refine wpR_val (v := (Sl.v p4)) (w' := w7) (wantG rfl rfl rfl hc26) rfl rfl (x_move (v := (Sl.v p4)) rfl e4) ?_
        refine wpR_val (v := (Value.int .i64 p1)) (w' := w7) (wantG rfl rfl rfl hc26) rfl rfl (x_move (v := (Value.int .i64 p1)) rfl e1) ?_
        refine wpR_val (v := (Value.int .i64 p0)) (w' := w7) (wantG rfl rfl rfl hc26) rfl rfl (x_move (v := (Value.int .i64 p0)) rfl e0) ?_
        refine wpR_enter (wantG rfl rfl rfl hc26) rfl rfl (x_call (vs := [(Sl.v p4), (Value.int .i64 p1), (Value.int .i64 p0)]) rfl rfl (mapl_cons rfl (mapl_cons rfl (mapl_cons rfl mapl_nil))) Try.func13 NN_13 NB_13) (Calls.mono h ?_)
        rintro _ w8 ⟨r27, rfl, h⟩
        refine ⟨_, rfl, ?_⟩
        refine wpR_val (v := (Sl.v p4)) (w' := w8) (wantG rfl rfl rfl hc26) rfl rfl (x_move (v := (Sl.v p4)) rfl e4) ?_
        refine wpR_val (v := (Value.int .i64 p1)) (w' := w8) (wantG rfl rfl rfl hc26) rfl rfl (x_move (v := (Value.int .i64 p1)) rfl e1) ?_
        refine wpR_val (v := (Value.int .i64 p0)) (w' := w8) (wantG rfl rfl rfl hc26) rfl rfl (x_move (v := (Value.int .i64 p0)) rfl e0) ?_
        refine wpR_enter (wantG rfl rfl rfl hc26) rfl rfl (x_call (vs := [(Sl.v p4), (Value.int .i64 p1), (Value.int .i64 p0)]) rfl rfl (mapl_cons rfl (mapl_cons rfl (mapl_cons rfl mapl_nil))) Try.func14 NN_14 NB_14) (Calls.mono h ?_)
        rintro _ w9 ⟨r28, rfl, h⟩
        refine ⟨_, rfl, ?_⟩
        refine wpR_val (v := (Value.bool (r27 == r28))) (w' := w9) (wantG rfl rfl rfl hc26) rfl rfl (x_eqlB rfl rfl rfl isBoolT_4) ?_
        refine wpR_val (v := (Value.bool (r27 == r28))) (w' := w9) rfl rfl rfl (x_pickT (v := (Value.bool (r27 == r28))) rfl rfl hc26 rfl) ?_
        refine wpR_nil ?_
        exact ⟨r27 == r28, ⟨rfl, trivial⟩, h⟩
      · replace h := h.2 hc26
        refine wpR_pass (wantN rfl rfl rfl hc26) rfl rfl ?_
        refine wpR_pass (wantN rfl rfl rfl hc26) rfl rfl ?_
        refine wpR_pass (wantN rfl rfl rfl hc26) rfl rfl ?_
        refine wpR_pass (wantN rfl rfl rfl hc26) rfl rfl ?_
        refine wpR_pass (wantN rfl rfl rfl hc26) rfl rfl ?_
        refine wpR_pass (wantN rfl rfl rfl hc26) rfl rfl ?_
        refine wpR_pass (wantN rfl rfl rfl hc26) rfl rfl ?_
        refine wpR_pass (wantN rfl rfl rfl hc26) rfl rfl ?_
        refine wpR_pass (wantN rfl rfl rfl hc26) rfl rfl ?_
        refine wpR_val (v := (Value.bool false)) (w' := w7) rfl rfl rfl (x_pickF (v := (Value.bool false)) rfl rfl hc26 rfl) ?_
        refine wpR_nil ?_
        exact ⟨false, ⟨rfl, trivial⟩, h⟩
    clear h
    rintro c29 ρ w10 ⟨e84, -⟩ h
    replace h := hk c29 w10 h
    clear hk
    refine wpR_val (v := (Value.bool c29)) (w' := w10) rfl rfl rfl (x_assign (v := (Value.bool c29)) rfl e84) ?_
    refine wpR_nil ?_
    refine wpC_ret ?_
    exact ⟨.inl rfl, fun a ha => ⟨_, results_rep1 rfl ha rfl, c29, rfl, h⟩⟩

/-- lingualaw06.ShareJoins -/
def F4 (p0 : Int) (p1 : Int) (p2 : Int) (p3 : Int) (p4 : Sl) (p5 : Int) (w0 : World) (K : Bool → World → Prop) : Prop :=
  callC Try.prog 7 #[] (fun (r : Bool) => (Value.bool r)) w0 fun r9 w1 =>
  cnd (decide (30 < (p4.len : Int)))
    (
    K r9 w1
    )
    (
    callC Try.prog 15 #[(Value.int .i64 p0), (Value.int .u8 p1), (Value.int .u8 p2)] (fun (r : Int × Int × Int) => (Value.tuple #[(Value.int .i64 r.1), (Value.int .i64 r.2.1), (Value.int .i64 r.2.2)])) w1 fun r11 w2 =>
    callC Try.prog 16 #[(Value.int .i64 p5)] (fun (r : Int) => (Value.int .i64 r)) w2 fun r12 w3 =>
    callC Try.prog 8 #[(Value.int .i64 r11.1), (Value.int .i64 r11.2.1), (Value.int .i64 r11.2.2), (Value.int .i64 p3)] (fun (r : Sl × Int) => (Value.tuple #[(Sl.v r.1), (Value.int .i64 r.2)])) w3 fun r13 w4 =>
    cnd ((!decide (r13.2 = 0)) || (!decide ((r13.1.len : Int) = r11.2.2)))
      (
      K false w4
      )
      (
      callC Try.prog 17 #[(Sl.v r13.1), (Sl.v p4)] (fun (r : Sl) => (Sl.v r)) w4 fun r17 w5 =>
      callC Try.prog 10 #[(Sl.v r17), (Value.int .i64 r11.2.1)] (fun (r : Int × Int) => (Value.tuple #[(Value.int .i64 r.1), (Value.int .i64 r.2)])) w5 fun r18 w6 =>
      cnd (decide (r11.2.1 ≤ (r17.len : Int)))
        (
        jn (fun J24 => cnd ((r9 && (decide (r18.2 = 0))) && (decide (r18.1 = r11.1)))
          (
          callC Try.prog 13 #[(Sl.v r17), (Value.int .i64 r11.2.1), (Value.int .i64 r11.1)] (fun (r : Bool) => (Value.bool r)) w6 fun r26 w7 =>
          J24 r26 w7
          )
          (
          J24 false w6
          ))
        fun c27 w8 =>
        jn (fun J28 => cnd (c27)
          (
          callC Try.prog 13 #[(Sl.v r17), (Value.int .i64 r11.2.1), (Value.int .i64 r12)] (fun (r : Bool) => (Value.bool r)) w8 fun r30 w9 =>
          J28 (r30 == (decide (r12 = r11.1))) w9
          )
          (
          J28 false w8
          ))
        fun c31 w10 =>
        K c31 w10
        )
        (
        jn (fun J36 => cnd ((r9 && (decide (r18.2 = 20))) && (decide (r18.1 = 0)))
          (
          callC Try.prog 13 #[(Sl.v r17), (Value.int .i64 r11.2.1), (Value.int .i64 r11.1)] (fun (r : Bool) => (Value.bool r)) w6 fun r38 w11 =>
          J36 r38 w11
          )
          (
          J36 false w6
          ))
        fun c39 w12 =>
        jn (fun J40 => cnd (c39)
          (
          callC Try.prog 13 #[(Sl.v r17), (Value.int .i64 r11.2.1), (Value.int .i64 r12)] (fun (r : Bool) => (Value.bool r)) w12 fun r42 w13 =>
          J40 r42 w13
          )
          (
          J40 false w12
          ))
        fun c43 w14 =>
        K c43 w14
        )
      )
    )
set_option maxRecDepth 100000 in
theorem D4 (p0 : Int) (p1 : Int) (p2 : Int) (p3 : Int) (p4 : Sl) (p5 : Int) (w0 : World) (K : Bool → World → Prop) (h : F4 p0 p1 p2 p3 p4 p5 w0 K) : callC Try.prog 4 #[(Value.int .i64 p0), (Value.int .u8 p1), (Value.int .u8 p2), (Value.int .i64 p3), (Sl.v p4), (Value.int .i64 p5)] (fun (r : Bool) => (Value.bool r)) w0 K := by
  unfold F4 at h
  refine calls_of_wpC Try.func4 rfl 114 rfl (by simp) ?_
  intro ρ hρ
  have e0 : ρ 0 = (Value.int .i64 p0) := hρ 0
  have e1 : ρ 1 = (Value.int .u8 p1) := hρ 1
  have e2 : ρ 2 = (Value.int .u8 p2) := hρ 2
  have e3 : ρ 3 = (Value.int .i64 p3) := hρ 3
  have e4 : ρ 4 = (Sl.v p4) := hρ 4
  have e5 : ρ 5 = (Value.int .i64 p5) := hρ 5
  clear hρ
  refine wpC_seq ?_
  refine wpC_region ?_
  refine wpR_val (v := (Value.bool false)) (w' := w0) rfl rfl rfl (x_assign (v := (Value.bool false)) rfl rfl) ?_
  refine wpR_nil ?_
  refine wpC_seq ?_
  refine wpC_cut (fun ρ => ρ 0 = (Value.int .i64 p0) ∧ ρ 1 = (Value.int .u8 p1) ∧ ρ 2 = (Value.int .u8 p2) ∧ ρ 3 = (Value.int .i64 p3) ∧ ρ 4 = (Sl.v p4) ∧ ρ 5 = (Value.int .i64 p5) ∧ True) ⟨e0, e1, e2, e3, e4, e5, trivial⟩ ?_
  rintro ρ ⟨e0, e1, e2, e3, e4, e5, -⟩
  refine wpC_region ?_
  refine wpR_enter rfl rfl rfl (x_call (vs := []) rfl rfl mapl_nil Try.func7 NN_7 NB_7) (Calls.mono h ?_)
  rintro _ w1 ⟨r9, rfl, h⟩
  refine ⟨_, rfl, ?_⟩
  refine wpR_val (v := (Value.bool r9)) (w' := w1) rfl rfl rfl (x_assign (v := (Value.bool r9)) rfl rfl) ?_
  refine wpR_nil ?_
  refine wpC_seq ?_
  refine wpC_seq ?_
  refine wpC_cut (fun ρ => ρ 0 = (Value.int .i64 p0) ∧ ρ 1 = (Value.int .u8 p1) ∧ ρ 2 = (Value.int .u8 p2) ∧ ρ 3 = (Value.int .i64 p3) ∧ ρ 4 = (Sl.v p4) ∧ ρ 5 = (Value.int .i64 p5) ∧ ρ 13 = (Value.bool r9) ∧ True) ⟨e0, e1, e2, e3, e4, e5, rfl, trivial⟩ ?_
  rintro ρ ⟨e0, e1, e2, e3, e4, e5, e13, -⟩
  refine wpC_region ?_
  refine wpR_val (v := (Sl.v p4)) (w' := w1) rfl rfl rfl (x_move (v := (Sl.v p4)) rfl e4) ?_
  refine wpR_val (v := (Value.int .i64 (p4.len : Int))) (w' := w1) rfl rfl rfl (x_lenS (s := p4) rfl rfl isSliceT_32) ?_
  refine wpR_val (v := (Value.bool (decide (30 < (p4.len : Int))))) (w' := w1) rfl rfl rfl (x_gtr rfl rfl rfl) ?_
  refine wpR_nil ?_
  refine wpC_cond (b := decide (30 < (p4.len : Int))) rfl (fun hc10 => ?_) (fun hc10 => ?_)
  · replace h := h.1 hc10
    refine wpC_seq ?_
    refine wpC_cut (fun ρ => ρ 13 = (Value.bool r9) ∧ True) ⟨e13, trivial⟩ ?_
    rintro ρ ⟨e13, -⟩
    refine wpC_region ?_
    refine wpR_val (v := (Value.bool r9)) (w' := w1) rfl rfl rfl (x_move (v := (Value.bool r9)) rfl e13) ?_
    refine wpR_val (v := (Value.bool r9)) (w' := w1) rfl rfl rfl (x_assign (v := (Value.bool r9)) rfl rfl) ?_
    refine wpR_nil ?_
    refine wpC_ret ?_
    exact ⟨.inl rfl, fun a ha => ⟨_, results_rep1 rfl ha rfl, r9, rfl, h⟩⟩
  · replace h := h.2 hc10
    refine wpC_skip ?_
    refine wpC_seq ?_
    refine wpC_cut (fun ρ => ρ 0 = (Value.int .i64 p0) ∧ ρ 1 = (Value.int .u8 p1) ∧ ρ 2 = (Value.int .u8 p2) ∧ ρ 3 = (Value.int .i64 p3) ∧ ρ 4 = (Sl.v p4) ∧ ρ 5 = (Value.int .i64 p5) ∧ ρ 13 = (Value.bool r9) ∧ True) ⟨e0, e1, e2, e3, e4, e5, e13, trivial⟩ ?_
    rintro ρ ⟨e0, e1, e2, e3, e4, e5, e13, -⟩
    refine wpC_region ?_
    refine wpR_val (v := (Value.int .i64 p0)) (w' := w1) rfl rfl rfl (x_move (v := (Value.int .i64 p0)) rfl e0) ?_
    refine wpR_val (v := (Value.int .u8 p1)) (w' := w1) rfl rfl rfl (x_move (v := (Value.int .u8 p1)) rfl e1) ?_
    refine wpR_val (v := (Value.int .u8 p2)) (w' := w1) rfl rfl rfl (x_move (v := (Value.int .u8 p2)) rfl e2) ?_
    refine wpR_enter rfl rfl rfl (x_call (vs := [(Value.int .i64 p0), (Value.int .u8 p1), (Value.int .u8 p2)]) rfl rfl (mapl_cons rfl (mapl_cons rfl (mapl_cons rfl mapl_nil))) Try.func15 NN_15 NB_15) (Calls.mono h ?_)
    rintro _ w2 ⟨r11, rfl, h⟩
    refine ⟨_, rfl, ?_⟩
    refine wpR_val (v := (Value.tuple #[(Value.int .i64 r11.1), (Value.int .i64 r11.2.1), (Value.int .i64 r11.2.2)])) (w' := w2) rfl rfl rfl (x_move (v := (Value.tuple #[(Value.int .i64 r11.1), (Value.int .i64 r11.2.1), (Value.int .i64 r11.2.2)])) rfl rfl) ?_
    refine wpR_val (v := (Value.int .i64 r11.1)) (w' := w2) rfl rfl rfl (x_extract rfl rfl rfl) ?_
    refine wpR_val (v := (Value.int .i64 r11.2.1)) (w' := w2) rfl rfl rfl (x_extract rfl rfl rfl) ?_
    refine wpR_val (v := (Value.int .i64 r11.2.2)) (w' := w2) rfl rfl rfl (x_extract rfl rfl rfl) ?_
    refine wpR_val (v := (Value.int .i64 r11.1)) (w' := w2) rfl rfl rfl (x_assign (v := (Value.int .i64 r11.1)) rfl rfl) ?_
    refine wpR_val (v := (Value.int .i64 r11.2.1)) (w' := w2) rfl rfl rfl (x_assign (v := (Value.int .i64 r11.2.1)) rfl rfl) ?_
    refine wpR_val (v := (Value.int .i64 r11.2.2)) (w' := w2) rfl rfl rfl (x_assign (v := (Value.int .i64 r11.2.2)) rfl rfl) ?_
    refine wpR_nil ?_
    refine wpC_seq ?_
    refine wpC_cut (fun ρ => ρ 3 = (Value.int .i64 p3) ∧ ρ 4 = (Sl.v p4) ∧ ρ 5 = (Value.int .i64 p5) ∧ ρ 13 = (Value.bool r9) ∧ ρ 14 = (Value.int .i64 r11.1) ∧ ρ 15 = (Value.int .i64 r11.2.1) ∧ ρ 16 = (Value.int .i64 r11.2.2) ∧ True) ⟨e3, e4, e5, e13, rfl, rfl, rfl, trivial⟩ ?_
    rintro ρ ⟨e3, e4, e5, e13, e14, e15, e16, -⟩
    refine wpC_region ?_
    refine wpR_val (v := (Value.int .i64 p5)) (w' := w2) rfl rfl rfl (x_move (v := (Value.int .i64 p5)) rfl e5) ?_
    refine wpR_enter rfl rfl rfl (x_call (vs := [(Value.int .i64 p5)]) rfl rfl (mapl_cons rfl mapl_nil) Try.func16 NN_16 NB_16) (Calls.mono h ?_)
    rintro _ w3 ⟨r12, rfl, h⟩
    refine ⟨_, rfl, ?_⟩
    refine wpR_val (v := (Value.int .i64 r12)) (w' := w3) rfl rfl rfl (x_assign (v := (Value.int .i64 r12)) rfl rfl) ?_
    refine wpR_nil ?_
    refine wpC_seq ?_
    refine wpC_cut (fun ρ => ρ 3 = (Value.int .i64 p3) ∧ ρ 4 = (Sl.v p4) ∧ ρ 13 = (Value.bool r9) ∧ ρ 14 = (Value.int .i64 r11.1) ∧ ρ 15 = (Value.int .i64 r11.2.1) ∧ ρ 16 = (Value.int .i64 r11.2.2) ∧ ρ 17 = (Value.int .i64 r12) ∧ True) ⟨e3, e4, e13, e14, e15, e16, rfl, trivial⟩ ?_
    rintro ρ ⟨e3, e4, e13, e14, e15, e16, e17, -⟩
    refine wpC_region ?_
    refine wpR_val (v := (Value.int .i64 r11.1)) (w' := w3) rfl rfl rfl (x_move (v := (Value.int .i64 r11.1)) rfl e14) ?_
    refine wpR_val (v := (Value.int .i64 r11.2.1)) (w' := w3) rfl rfl rfl (x_move (v := (Value.int .i64 r11.2.1)) rfl e15) ?_
    refine wpR_val (v := (Value.int .i64 r11.2.2)) (w' := w3) rfl rfl rfl (x_move (v := (Value.int .i64 r11.2.2)) rfl e16) ?_
    refine wpR_val (v := (Value.int .i64 p3)) (w' := w3) rfl rfl rfl (x_move (v := (Value.int .i64 p3)) rfl e3) ?_
    refine wpR_enter rfl rfl rfl (x_call (vs := [(Value.int .i64 r11.1), (Value.int .i64 r11.2.1), (Value.int .i64 r11.2.2), (Value.int .i64 p3)]) rfl rfl (mapl_cons rfl (mapl_cons rfl (mapl_cons rfl (mapl_cons rfl mapl_nil)))) Try.func8 NN_8 NB_8) (Calls.mono h ?_)
    rintro _ w4 ⟨r13, rfl, h⟩
    refine ⟨_, rfl, ?_⟩
    refine wpR_val (v := (Value.tuple #[(Sl.v r13.1), (Value.int .i64 r13.2)])) (w' := w4) rfl rfl rfl (x_move (v := (Value.tuple #[(Sl.v r13.1), (Value.int .i64 r13.2)])) rfl rfl) ?_
    refine wpR_val (v := (Sl.v r13.1)) (w' := w4) rfl rfl rfl (x_extract rfl rfl rfl) ?_
    refine wpR_val (v := (Value.int .i64 r13.2)) (w' := w4) rfl rfl rfl (x_extract rfl rfl rfl) ?_
    refine wpR_val (v := (Sl.v r13.1)) (w' := w4) rfl rfl rfl (x_assign (v := (Sl.v r13.1)) rfl rfl) ?_
    refine wpR_val (v := (Value.int .i64 r13.2)) (w' := w4) rfl rfl rfl (x_assign (v := (Value.int .i64 r13.2)) rfl rfl) ?_
    refine wpR_nil ?_
    refine wpC_seq ?_
    refine wpC_seq ?_
    refine wpC_cut (fun ρ => ρ 4 = (Sl.v p4) ∧ ρ 13 = (Value.bool r9) ∧ ρ 14 = (Value.int .i64 r11.1) ∧ ρ 15 = (Value.int .i64 r11.2.1) ∧ ρ 16 = (Value.int .i64 r11.2.2) ∧ ρ 17 = (Value.int .i64 r12) ∧ ρ 18 = (Sl.v r13.1) ∧ ρ 19 = (Value.int .i64 r13.2) ∧ True) ⟨e4, e13, e14, e15, e16, e17, rfl, rfl, trivial⟩ ?_
    rintro ρ ⟨e4, e13, e14, e15, e16, e17, e18, e19, -⟩
    refine wpC_region ?_
    refine wpR_val (v := (Value.int .i64 r13.2)) (w' := w4) rfl rfl rfl (x_move (v := (Value.int .i64 r13.2)) rfl e19) ?_
    refine wpR_val (v := (Value.bool (!decide (r13.2 = 0)))) (w' := w4) rfl rfl rfl (x_neq rfl rfl rfl) ?_
    refine wpR_val (v := (Value.bool (!decide (r13.2 = 0)))) (w' := w4) rfl rfl rfl (x_move (v := (Value.bool (!decide (r13.2 = 0)))) rfl rfl) ?_
    refine wpR_joinJ 5 (fun (_ : Unit) ρ => ρ 53 = Value.bool ((!decide (r13.2 = 0)) || (!decide ((r13.1.len : Int) = r11.2.2))) ∧ ρ 4 = (Sl.v p4) ∧ ρ 13 = (Value.bool r9) ∧ ρ 14 = (Value.int .i64 r11.1) ∧ ρ 15 = (Value.int .i64 r11.2.1) ∧ ρ 17 = (Value.int .i64 r12) ∧ ρ 18 = (Sl.v r13.1) ∧ True) (fun _ w => w4 = w) ?_ ?_
    · clear h
      rcases Bool.eq_false_or_eq_true (!decide (r13.2 = 0)) with hc15 | hc15
      · skip
        refine wpR_pass (wantN rfl rfl rfl hc15) rfl rfl ?_
        refine wpR_pass (wantN rfl rfl rfl hc15) rfl rfl ?_
        refine wpR_pass (wantN rfl rfl rfl hc15) rfl rfl ?_
        refine wpR_pass (wantN rfl rfl rfl hc15) rfl rfl ?_
        refine wpR_val (v := (Value.bool true)) (w' := w4) rfl rfl rfl (x_pickT (v := (Value.bool true)) rfl rfl hc15 rfl) ?_
        refine wpR_nil ?_
        exact ⟨(), ⟨(by rw [hc15]; rfl), e4, e13, e14, e15, e17, e18, trivial⟩, rfl⟩
      · skip
        refine wpR_val (v := (Sl.v r13.1)) (w' := w4) (wantG rfl rfl rfl hc15) rfl rfl (x_move (v := (Sl.v r13.1)) rfl e18) ?_
        refine wpR_val (v := (Value.int .i64 (r13.1.len : Int))) (w' := w4) (wantG rfl rfl rfl hc15) rfl rfl (x_lenS (s := r13.1) rfl rfl isSliceT_22) ?_
        refine wpR_val (v := (Value.int .i64 r11.2.2)) (w' := w4) (wantG rfl rfl rfl hc15) rfl rfl (x_move (v := (Value.int .i64 r11.2.2)) rfl e16) ?_
        refine wpR_val (v := (Value.bool (!decide ((r13.1.len : Int) = r11.2.2)))) (w' := w4) (wantG rfl rfl rfl hc15) rfl rfl (x_neq rfl rfl rfl) ?_
        refine wpR_val (v := (Value.bool (!decide ((r13.1.len : Int) = r11.2.2)))) (w' := w4) rfl rfl rfl (x_pickF (v := (Value.bool (!decide ((r13.1.len : Int) = r11.2.2)))) rfl rfl hc15 rfl) ?_
        refine wpR_nil ?_
        exact ⟨(), ⟨(by rw [hc15]; rfl), e4, e13, e14, e15, e17, e18, trivial⟩, rfl⟩
    rintro _ ρ wj ⟨e53, e4, e13, e14, e15, e17, e18, -⟩ rfl
    refine wpR_nil ?_
    refine wpC_cond (b := (!decide (r13.2 = 0)) || (!decide ((r13.1.len : Int) = r11.2.2))) e53 (fun hc16 => ?_) (fun hc16 => ?_)
    · replace h := h.1 hc16
      refine wpC_seq ?_
      refine wpC_region ?_
      refine wpR_val (v := (Value.bool false)) (w' := w4) rfl rfl rfl (x_assign (v := (Value.bool false)) rfl rfl) ?_
      refine wpR_nil ?_
      refine wpC_ret ?_
      exact ⟨.inl rfl, fun a ha => ⟨_, results_rep1 rfl ha rfl, false, rfl, h⟩⟩
    · replace h := h.2 hc16
      refine wpC_skip ?_
      refine wpC_seq ?_
      refine wpC_region ?_
      refine wpR_val (v := (Sl.v r13.1)) (w' := w4) rfl rfl rfl (x_move (v := (Sl.v r13.1)) rfl e18) ?_
      refine wpR_val (v := (Sl.v p4)) (w' := w4) rfl rfl rfl (x_move (v := (Sl.v p4)) rfl e4) ?_
      refine wpR_enter rfl rfl rfl (x_call (vs := [(Sl.v r13.1), (Sl.v p4)]) rfl rfl (mapl_cons rfl (mapl_cons rfl mapl_nil)) Try.func17 NN_17 NB_17) (Calls.mono h ?_)
      rintro _ w5 ⟨r17, rfl, h⟩
      refine ⟨_, rfl, ?_⟩
      refine wpR_val (v := (Sl.v r17)) (w' := w5) rfl rfl rfl (x_assign (v := (Sl.v r17)) rfl rfl) ?_
      refine wpR_nil ?_
      refine wpC_seq ?_
      refine wpC_cut (fun ρ => ρ 13 = (Value.bool r9) ∧ ρ 14 = (Value.int .i64 r11.1) ∧ ρ 15 = (Value.int .i64 r11.2.1) ∧ ρ 17 = (Value.int .i64 r12) ∧ ρ 20 = (Sl.v r17) ∧ True) ⟨e13, e14, e15, e17, rfl, trivial⟩ ?_
      rintro ρ ⟨e13, e14, e15, e17, e20, -⟩
      refine wpC_region ?_
      refine wpR_val (v := (Sl.v r17)) (w' := w5) rfl rfl rfl (x_move (v := (Sl.v r17)) rfl e20) ?_
      refine wpR_val (v := (Value.int .i64 r11.2.1)) (w' := w5) rfl rfl rfl (x_move (v := (Value.int .i64 r11.2.1)) rfl e15) ?_
      refine wpR_enter rfl rfl rfl (x_call (vs := [(Sl.v r17), (Value.int .i64 r11.2.1)]) rfl rfl (mapl_cons rfl (mapl_cons rfl mapl_nil)) Try.func10 NN_10 NB_10) (Calls.mono h ?_)
      rintro _ w6 ⟨r18, rfl, h⟩
      refine ⟨_, rfl, ?_⟩
      refine wpR_val (v := (Value.tuple #[(Value.int .i64 r18.1), (Value.int .i64 r18.2)])) (w' := w6) rfl rfl rfl (x_move (v := (Value.tuple #[(Value.int .i64 r18.1), (Value.int .i64 r18.2)])) rfl rfl) ?_
      refine wpR_val (v := (Value.int .i64 r18.1)) (w' := w6) rfl rfl rfl (x_extract rfl rfl rfl) ?_
      refine wpR_val (v := (Value.int .i64 r18.2)) (w' := w6) rfl rfl rfl (x_extract rfl rfl rfl) ?_
      refine wpR_val (v := (Value.int .i64 r18.1)) (w' := w6) rfl rfl rfl (x_assign (v := (Value.int .i64 r18.1)) rfl rfl) ?_
      refine wpR_val (v := (Value.int .i64 r18.2)) (w' := w6) rfl rfl rfl (x_assign (v := (Value.int .i64 r18.2)) rfl rfl) ?_
      refine wpR_nil ?_
      refine wpC_seq ?_
      refine wpC_seq ?_
      refine wpC_cut (fun ρ => ρ 13 = (Value.bool r9) ∧ ρ 14 = (Value.int .i64 r11.1) ∧ ρ 15 = (Value.int .i64 r11.2.1) ∧ ρ 17 = (Value.int .i64 r12) ∧ ρ 20 = (Sl.v r17) ∧ ρ 21 = (Value.int .i64 r18.1) ∧ ρ 22 = (Value.int .i64 r18.2) ∧ True) ⟨e13, e14, e15, e17, e20, rfl, rfl, trivial⟩ ?_
      rintro ρ ⟨e13, e14, e15, e17, e20, e21, e22, -⟩
      refine wpC_region ?_
      refine wpR_val (v := (Sl.v r17)) (w' := w6) rfl rfl rfl (x_move (v := (Sl.v r17)) rfl e20) ?_
      refine wpR_val (v := (Value.int .i64 (r17.len : Int))) (w' := w6) rfl rfl rfl (x_lenS (s := r17) rfl rfl isSliceT_22) ?_
      refine wpR_val (v := (Value.int .i64 r11.2.1)) (w' := w6) rfl rfl rfl (x_move (v := (Value.int .i64 r11.2.1)) rfl e15) ?_
      refine wpR_val (v := (Value.bool (decide (r11.2.1 ≤ (r17.len : Int))))) (w' := w6) rfl rfl rfl (x_geq rfl rfl rfl) ?_
      refine wpR_nil ?_
      refine wpC_cond (b := decide (r11.2.1 ≤ (r17.len : Int))) rfl (fun hc19 => ?_) (fun hc19 => ?_)
      · replace h := h.1 hc19
        refine wpC_seq ?_
        refine wpC_cut (fun ρ => ρ 13 = (Value.bool r9) ∧ ρ 14 = (Value.int .i64 r11.1) ∧ ρ 15 = (Value.int .i64 r11.2.1) ∧ ρ 17 = (Value.int .i64 r12) ∧ ρ 20 = (Sl.v r17) ∧ ρ 21 = (Value.int .i64 r18.1) ∧ ρ 22 = (Value.int .i64 r18.2) ∧ True) ⟨e13, e14, e15, e17, e20, e21, e22, trivial⟩ ?_
        rintro ρ ⟨e13, e14, e15, e17, e20, e21, e22, -⟩
        refine wpC_region ?_
        refine wpR_val (v := (Value.bool r9)) (w' := w6) rfl rfl rfl (x_move (v := (Value.bool r9)) rfl e13) ?_
        refine wpR_val (v := (Value.bool r9)) (w' := w6) rfl rfl rfl (x_move (v := (Value.bool r9)) rfl rfl) ?_
        refine wpR_joinJ 3 (fun (_ : Unit) ρ => ρ 71 = Value.bool (r9 && (decide (r18.2 = 0))) ∧ ρ 14 = (Value.int .i64 r11.1) ∧ ρ 15 = (Value.int .i64 r11.2.1) ∧ ρ 17 = (Value.int .i64 r12) ∧ ρ 20 = (Sl.v r17) ∧ ρ 21 = (Value.int .i64 r18.1) ∧ True) (fun _ w => w6 = w) ?_ ?_
        · clear h
          rcases Bool.eq_false_or_eq_true (r9) with hc21 | hc21
          · skip
            refine wpR_val (v := (Value.int .i64 r18.2)) (w' := w6) (wantG rfl rfl rfl hc21) rfl rfl (x_move (v := (Value.int .i64 r18.2)) rfl e22) ?_
            refine wpR_val (v := (Value.bool (decide (r18.2 = 0)))) (w' := w6) (wantG rfl rfl rfl hc21) rfl rfl (x_eql rfl rfl rfl) ?_
            refine wpR_val (v := (Value.bool (decide (r18.2 = 0)))) (w' := w6) rfl rfl rfl (x_pickT (v := (Value.bool (decide (r18.2 = 0)))) rfl rfl hc21 rfl) ?_
            refine wpR_nil ?_
            exact ⟨(), ⟨(by rw [hc21]; rfl), e14, e15, e17, e20, e21, trivial⟩, rfl⟩
          · skip
            refine wpR_pass (wantN rfl rfl rfl hc21) rfl rfl ?_
            refine wpR_pass (wantN rfl rfl rfl hc21) rfl rfl ?_
            refine wpR_val (v := (Value.bool false)) (w' := w6) rfl rfl rfl (x_pickF (v := (Value.bool false)) rfl rfl hc21 rfl) ?_
            refine wpR_nil ?_
            exact ⟨(), ⟨(by rw [hc21]; rfl), e14, e15, e17, e20, e21, trivial⟩, rfl⟩
        rintro _ ρ wj ⟨e71, e14, e15, e17, e20, e21, -⟩ rfl
        refine wpR_val (v := (Value.bool (r9 && (decide (r18.2 = 0))))) (w' := w6) rfl rfl rfl (x_move (v := (Value.bool (r9 && (decide (r18.2 = 0))))) rfl e71) ?_
        refine wpR_joinJ 4 (fun (_ : Unit) ρ => ρ 76 = Value.bool ((r9 && (decide (r18.2 = 0))) && (decide (r18.1 = r11.1))) ∧ ρ 14 = (Value.int .i64 r11.1) ∧ ρ 15 = (Value.int .i64 r11.2.1) ∧ ρ 17 = (Value.int .i64 r12) ∧ ρ 20 = (Sl.v r17) ∧ True) (fun _ w => w6 = w) ?_ ?_
        · clear h
          rcases Bool.eq_false_or_eq_true (r9 && (decide (r18.2 = 0))) with hc23 | hc23
          · skip
            refine wpR_val (v := (Value.int .i64 r18.1)) (w' := w6) (wantG rfl rfl rfl hc23) rfl rfl (x_move (v := (Value.int .i64 r18.1)) rfl e21) ?_
            refine wpR_val (v := (Value.int .i64 r11.1)) (w' := w6) (wantG rfl rfl rfl hc23) rfl rfl (x_move (v := (Value.int .i64 r11.1)) rfl e14) ?_
            refine wpR_val (v := (Value.bool (decide (r18.1 = r11.1)))) (w' := w6) (wantG rfl rfl rfl hc23) rfl rfl (x_eql rfl rfl rfl) ?_
            refine wpR_val (v := (Value.bool (decide (r18.1 = r11.1)))) (w' := w6) rfl rfl rfl (x_pickT (v := (Value.bool (decide (r18.1 = r11.1)))) rfl rfl hc23 rfl) ?_
            refine wpR_nil ?_
            exact ⟨(), ⟨(by rw [hc23]; rfl), e14, e15, e17, e20, trivial⟩, rfl⟩
          · skip
            refine wpR_pass (wantN rfl rfl rfl hc23) rfl rfl ?_
            refine wpR_pass (wantN rfl rfl rfl hc23) rfl rfl ?_
            refine wpR_pass (wantN rfl rfl rfl hc23) rfl rfl ?_
            refine wpR_val (v := (Value.bool false)) (w' := w6) rfl rfl rfl (x_pickF (v := (Value.bool false)) rfl rfl hc23 rfl) ?_
            refine wpR_nil ?_
            exact ⟨(), ⟨(by rw [hc23]; rfl), e14, e15, e17, e20, trivial⟩, rfl⟩
        rintro _ ρ wj ⟨e76, e14, e15, e17, e20, -⟩ rfl
        refine wpR_val (v := (Value.bool ((r9 && (decide (r18.2 = 0))) && (decide (r18.1 = r11.1))))) (w' := w6) rfl rfl rfl (x_move (v := (Value.bool ((r9 && (decide (r18.2 = 0))) && (decide (r18.1 = r11.1))))) rfl e76) ?_
        obtain ⟨J24, h, hk⟩ := h
        refine wpR_joinJ 5 (fun x ρ => ρ 82 = Value.bool x ∧ ρ 14 = (Value.int .i64 r11.1) ∧ ρ 15 = (Value.int .i64 r11.2.1) ∧ ρ 17 = (Value.int .i64 r12) ∧ ρ 20 = (Sl.v r17) ∧ True) (J24) ?_ ?_
        · clear hk
          rcases Bool.eq_false_or_eq_true ((r9 && (decide (r18.2 = 0))) && (decide (r18.1 = r11.1))) with hc25 | hc25
          · replace h := h.1 hc25
            refine wpR_val (v := (Sl.v r17)) (w' := w6) (wantG rfl rfl rfl hc25) rfl rfl (x_move (v := (Sl.v r17)) rfl e20) ?_
            refine wpR_val (v := (Value.int .i64 r11.2.1)) (w' := w6) (wantG rfl rfl rfl hc25) rfl rfl (x_move (v := (Value.int .i64 r11.2.1)) rfl e15) ?_
            refine wpR_val (v := (Value.int .i64 r11.1)) (w' := w6) (wantG rfl rfl rfl hc25) rfl rfl (x_move (v := (Value.int .i64 r11.1)) rfl e14) ?_
            refine wpR_enter (wantG rfl rfl rfl hc25) rfl rfl (x_call (vs := [(Sl.v r17), (Value.int .i64 r11.2.1), (Value.int .i64 r11.1)]) rfl rfl (mapl_cons rfl (mapl_cons rfl (mapl_cons rfl mapl_nil))) Try.func13 NN_13 NB_13) (Calls.mono h ?_)
            rintro _ w7 ⟨r26, rfl, h⟩
            refine ⟨_, rfl, ?_⟩
            refine wpR_val (v := (Value.bool r26)) (w' := w7) rfl rfl rfl (x_pickT (v := (Value.bool r26)) rfl rfl hc25 rfl) ?_
            refine wpR_nil ?_
            exact ⟨r26, ⟨rfl, e14, e15, e17, e20, trivial⟩, h⟩
          · replace h := h.2 hc25
            refine wpR_pass (wantN rfl rfl rfl hc25) rfl rfl ?_
            refine wpR_pass (wantN rfl rfl rfl hc25) rfl rfl ?_
            refine wpR_pass (wantN rfl rfl rfl hc25) rfl rfl ?_
            refine wpR_pass (wantN rfl rfl rfl hc25) rfl rfl ?_
            refine wpR_val (v := (Value.bool false)) (w' := w6) rfl rfl rfl (x_pickF (v := (Value.bool false)) rfl rfl hc25 rfl) ?_
            refine wpR_nil ?_
            exact ⟨false, ⟨rfl, e14, e15, e17, e20, trivial⟩, h⟩
        clear h
        rintro c27 ρ w8 ⟨e82, e14, e15, e17, e20, -⟩ h
        replace h := hk c27 w8 h
        clear hk
        refine wpR_val (v := (Value.bool c27)) (w' := w8) rfl rfl rfl (x_move (v := (Value.bool c27)) rfl e82) ?_
        obtain ⟨J28, h, hk⟩ := h
        refine wpR_joinJ 9 (fun x ρ => ρ 92 = Value.bool x ∧ True) (J28) ?_ ?_
        · clear hk
          rcases Bool.eq_false_or_eq_true (c27) with hc29 | hc29
          · replace h := h.1 hc29
            refine wpR_val (v := (Sl.v r17)) (w' := w8) (wantG rfl rfl rfl hc29) rfl rfl (x_move (v := (Sl.v r17)) rfl e20) ?_
            refine wpR_val (v := (Value.int .i64 r11.2.1)) (w' := w8) (wantG rfl rfl rfl hc29) rfl rfl (x_move (v := (Value.int .i64 r11.2.1)) rfl e15) ?_
            refine wpR_val (v := (Value.int .i64 r12)) (w' := w8) (wantG rfl rfl rfl hc29) rfl rfl (x_move (v := (Value.int .i64 r12)) rfl e17) ?_
            refine wpR_enter (wantG rfl rfl rfl hc29) rfl rfl (x_call (vs := [(Sl.v r17), (Value.int .i64 r11.2.1), (Value.int .i64 r12)]) rfl rfl (mapl_cons rfl (mapl_cons rfl (mapl_cons rfl mapl_nil))) Try.func13 NN_13 NB_13) (Calls.mono h ?_)
            rintro _ w9 ⟨r30, rfl, h⟩
            refine ⟨_, rfl, ?_⟩
            refine wpR_val (v := (Value.int .i64 r12)) (w' := w9) (wantG rfl rfl rfl hc29) rfl rfl (x_move (v := (Value.int .i64 r12)) rfl e17) ?_
            refine wpR_val (v := (Value.int .i64 r11.1)) (w' := w9) (wantG rfl rfl rfl hc29) rfl rfl (x_move (v := (Value.int .i64 r11.1)) rfl e14) ?_
            refine wpR_val (v := (Value.bool (decide (r12 = r11.1)))) (w' := w9) (wantG rfl rfl rfl hc29) rfl rfl (x_eql rfl rfl rfl) ?_
            refine wpR_val (v := (Value.bool (r30 == (decide (r12 = r11.1))))) (w' := w9) (wantG rfl rfl rfl hc29) rfl rfl (x_eqlB rfl rfl rfl isBoolT_4) ?_
            refine wpR_val (v := (Value.bool (r30 == (decide (r12 = r11.1))))) (w' := w9) rfl rfl rfl (x_pickT (v := (Value.bool (r30 == (decide (r12 = r11.1))))) rfl rfl hc29 rfl) ?_
            refine wpR_nil ?_
            exact ⟨r30 == (decide (r12 = r11.1)), ⟨rfl, trivial⟩, h⟩
          · replace h := h.2 hc29
            refine wpR_pass (wantN rfl rfl rfl hc29) rfl rfl ?_
            refine wpR_pass (wantN rfl rfl rfl hc29) rfl rfl ?_
            refine wpR_pass (wantN rfl rfl rfl hc29) rfl rfl ?_
            refine wpR_pass (wantN rfl rfl rfl hc29) rfl rfl ?_
            refine wpR_pass (wantN rfl rfl rfl hc29) rfl rfl ?_
            refine wpR_pass (wantN rfl rfl rfl hc29) rfl rfl ?_
            refine wpR_pass (wantN rfl rfl rfl hc29) rfl rfl ?_
            refine wpR_pass (wantN rfl rfl rfl hc29) rfl rfl ?_
            refine wpR_val (v := (Value.bool false)) (w' := w8) rfl rfl rfl (x_pickF (v := (Value.bool false)) rfl rfl hc29 rfl) ?_
            refine wpR_nil ?_
            exact ⟨false, ⟨rfl, trivial⟩, h⟩
        clear h
        rintro c31 ρ w10 ⟨e92, -⟩ h
        replace h := hk c31 w10 h
        clear hk
        refine wpR_val (v := (Value.bool c31)) (w' := w10) rfl rfl rfl (x_assign (v := (Value.bool c31)) rfl e92) ?_
        refine wpR_nil ?_
        refine wpC_ret ?_
        exact ⟨.inl rfl, fun a ha => ⟨_, results_rep1 rfl ha rfl, c31, rfl, h⟩⟩
      · replace h := h.2 hc19
        refine wpC_skip ?_
        refine wpC_seq ?_
        refine wpC_cut (fun ρ => ρ 13 = (Value.bool r9) ∧ ρ 14 = (Value.int .i64 r11.1) ∧ ρ 15 = (Value.int .i64 r11.2.1) ∧ ρ 17 = (Value.int .i64 r12) ∧ ρ 20 = (Sl.v r17) ∧ ρ 21 = (Value.int .i64 r18.1) ∧ ρ 22 = (Value.int .i64 r18.2) ∧ True) ⟨e13, e14, e15, e17, e20, e21, e22, trivial⟩ ?_
        rintro ρ ⟨e13, e14, e15, e17, e20, e21, e22, -⟩
        refine wpC_region ?_
        refine wpR_val (v := (Value.bool r9)) (w' := w6) rfl rfl rfl (x_move (v := (Value.bool r9)) rfl e13) ?_
        refine wpR_val (v := (Value.bool r9)) (w' := w6) rfl rfl rfl (x_move (v := (Value.bool r9)) rfl rfl) ?_
        refine wpR_joinJ 3 (fun (_ : Unit) ρ => ρ 97 = Value.bool (r9 && (decide (r18.2 = 20))) ∧ ρ 14 = (Value.int .i64 r11.1) ∧ ρ 15 = (Value.int .i64 r11.2.1) ∧ ρ 17 = (Value.int .i64 r12) ∧ ρ 20 = (Sl.v r17) ∧ ρ 21 = (Value.int .i64 r18.1) ∧ True) (fun _ w => w6 = w) ?_ ?_
        · clear h
          rcases Bool.eq_false_or_eq_true (r9) with hc33 | hc33
          · skip
            refine wpR_val (v := (Value.int .i64 r18.2)) (w' := w6) (wantG rfl rfl rfl hc33) rfl rfl (x_move (v := (Value.int .i64 r18.2)) rfl e22) ?_
            refine wpR_val (v := (Value.bool (decide (r18.2 = 20)))) (w' := w6) (wantG rfl rfl rfl hc33) rfl rfl (x_eql rfl rfl rfl) ?_
            refine wpR_val (v := (Value.bool (decide (r18.2 = 20)))) (w' := w6) rfl rfl rfl (x_pickT (v := (Value.bool (decide (r18.2 = 20)))) rfl rfl hc33 rfl) ?_
            refine wpR_nil ?_
            exact ⟨(), ⟨(by rw [hc33]; rfl), e14, e15, e17, e20, e21, trivial⟩, rfl⟩
          · skip
            refine wpR_pass (wantN rfl rfl rfl hc33) rfl rfl ?_
            refine wpR_pass (wantN rfl rfl rfl hc33) rfl rfl ?_
            refine wpR_val (v := (Value.bool false)) (w' := w6) rfl rfl rfl (x_pickF (v := (Value.bool false)) rfl rfl hc33 rfl) ?_
            refine wpR_nil ?_
            exact ⟨(), ⟨(by rw [hc33]; rfl), e14, e15, e17, e20, e21, trivial⟩, rfl⟩
        rintro _ ρ wj ⟨e97, e14, e15, e17, e20, e21, -⟩ rfl
        refine wpR_val (v := (Value.bool (r9 && (decide (r18.2 = 20))))) (w' := w6) rfl rfl rfl (x_move (v := (Value.bool (r9 && (decide (r18.2 = 20))))) rfl e97) ?_
        refine wpR_joinJ 3 (fun (_ : Unit) ρ => ρ 101 = Value.bool ((r9 && (decide (r18.2 = 20))) && (decide (r18.1 = 0))) ∧ ρ 14 = (Value.int .i64 r11.1) ∧ ρ 15 = (Value.int .i64 r11.2.1) ∧ ρ 17 = (Value.int .i64 r12) ∧ ρ 20 = (Sl.v r17) ∧ True) (fun _ w => w6 = w) ?_ ?_
        · clear h
          rcases Bool.eq_false_or_eq_true (r9 && (decide (r18.2 = 20))) with hc35 | hc35
          · skip
            refine wpR_val (v := (Value.int .i64 r18.1)) (w' := w6) (wantG rfl rfl rfl hc35) rfl rfl (x_move (v := (Value.int .i64 r18.1)) rfl e21) ?_
            refine wpR_val (v := (Value.bool (decide (r18.1 = 0)))) (w' := w6) (wantG rfl rfl rfl hc35) rfl rfl (x_eql rfl rfl rfl) ?_
            refine wpR_val (v := (Value.bool (decide (r18.1 = 0)))) (w' := w6) rfl rfl rfl (x_pickT (v := (Value.bool (decide (r18.1 = 0)))) rfl rfl hc35 rfl) ?_
            refine wpR_nil ?_
            exact ⟨(), ⟨(by rw [hc35]; rfl), e14, e15, e17, e20, trivial⟩, rfl⟩
          · skip
            refine wpR_pass (wantN rfl rfl rfl hc35) rfl rfl ?_
            refine wpR_pass (wantN rfl rfl rfl hc35) rfl rfl ?_
            refine wpR_val (v := (Value.bool false)) (w' := w6) rfl rfl rfl (x_pickF (v := (Value.bool false)) rfl rfl hc35 rfl) ?_
            refine wpR_nil ?_
            exact ⟨(), ⟨(by rw [hc35]; rfl), e14, e15, e17, e20, trivial⟩, rfl⟩
        rintro _ ρ wj ⟨e101, e14, e15, e17, e20, -⟩ rfl
        refine wpR_val (v := (Value.bool ((r9 && (decide (r18.2 = 20))) && (decide (r18.1 = 0))))) (w' := w6) rfl rfl rfl (x_move (v := (Value.bool ((r9 && (decide (r18.2 = 20))) && (decide (r18.1 = 0))))) rfl e101) ?_
        obtain ⟨J36, h, hk⟩ := h
        refine wpR_joinJ 5 (fun x ρ => ρ 107 = Value.bool x ∧ ρ 15 = (Value.int .i64 r11.2.1) ∧ ρ 17 = (Value.int .i64 r12) ∧ ρ 20 = (Sl.v r17) ∧ True) (J36) ?_ ?_
        · clear hk
          rcases Bool.eq_false_or_eq_true ((r9 && (decide (r18.2 = 20))) && (decide (r18.1 = 0))) with hc37 | hc37
          · replace h := h.1 hc37
            refine wpR_val (v := (Sl.v r17)) (w' := w6) (wantG rfl rfl rfl hc37) rfl rfl (x_move (v := (Sl.v r17)) rfl e20) ?_
            refine wpR_val (v := (Value.int .i64 r11.2.1)) (w' := w6) (wantG rfl rfl rfl hc37) rfl rfl (x_move (v := (Value.int .i64 r11.2.1)) rfl e15) ?_
            refine wpR_val (v := (Value.int .i64 r11.1)) (w' := w6) (wantG rfl rfl rfl hc37) rfl rfl (x_move (v := (Value.int .i64 r11.1)) rfl e14) ?_
            refine wpR_enter (wantG rfl rfl rfl hc37) rfl rfl (x_call (vs := [(Sl.v r17), (Value.int .i64 r11.2.1), (Value.int .i64 r11.1)]) rfl rfl (mapl_cons rfl (mapl_cons rfl (mapl_cons rfl mapl_nil))) Try.func13 NN_13 NB_13) (Calls.mono h ?_)
            rintro _ w11 ⟨r38, rfl, h⟩
            refine ⟨_, rfl, ?_⟩
            refine wpR_val (v := (Value.bool r38)) (w' := w11) rfl rfl rfl (x_pickT (v := (Value.bool r38)) rfl rfl hc37 rfl) ?_
            refine wpR_nil ?_
            exact ⟨r38, ⟨rfl, e15, e17, e20, trivial⟩, h⟩
          · replace h := h.2 hc37
            refine wpR_pass (wantN rfl rfl rfl hc37) rfl rfl ?_
            refine wpR_pass (wantN rfl rfl rfl hc37) rfl rfl ?_
            refine wpR_pass (wantN rfl rfl rfl hc37) rfl rfl ?_
            refine wpR_pass (wantN rfl rfl rfl hc37) rfl rfl ?_
            refine wpR_val (v := (Value.bool false)) (w' := w6) rfl rfl rfl (x_pickF (v := (Value.bool false)) rfl rfl hc37 rfl) ?_
            refine wpR_nil ?_
            exact ⟨false, ⟨rfl, e15, e17, e20, trivial⟩, h⟩
        clear h
        rintro c39 ρ w12 ⟨e107, e15, e17, e20, -⟩ h
        replace h := hk c39 w12 h
        clear hk
        refine wpR_val (v := (Value.bool c39)) (w' := w12) rfl rfl rfl (x_move (v := (Value.bool c39)) rfl e107) ?_
        obtain ⟨J40, h, hk⟩ := h
        refine wpR_joinJ 5 (fun x ρ => ρ 113 = Value.bool x ∧ True) (J40) ?_ ?_
        · clear hk
          rcases Bool.eq_false_or_eq_true (c39) with hc41 | hc41
          · replace h := h.1 hc41
            refine wpR_val (v := (Sl.v r17)) (w' := w12) (wantG rfl rfl rfl hc41) rfl rfl (x_move (v := (Sl.v r17)) rfl e20) ?_
            refine wpR_val (v := (Value.int .i64 r11.2.1)) (w' := w12) (wantG rfl rfl rfl hc41) rfl rfl (x_move (v := (Value.int .i64 r11.2.1)) rfl e15) ?_
            refine wpR_val (v := (Value.int .i64 r12)) (w' := w12) (wantG rfl rfl rfl hc41) rfl rfl (x_move (v := (Value.int .i64 r12)) rfl e17) ?_
            refine wpR_enter (wantG rfl rfl rfl hc41) rfl rfl (x_call (vs := [(Sl.v r17), (Value.int .i64 r11.2.1), (Value.int .i64 r12)]) rfl rfl (mapl_cons rfl (mapl_cons rfl (mapl_cons rfl mapl_nil))) Try.func13 NN_13 NB_13) (Calls.mono h ?_)
            rintro _ w13 ⟨r42, rfl, h⟩
            refine ⟨_, rfl, ?_⟩
            refine wpR_val (v := (Value.bool r42)) (w' := w13) rfl rfl rfl (x_pickT (v := (Value.bool r42)) rfl rfl hc41 rfl) ?_
            refine wpR_nil ?_
            exact ⟨r42, ⟨rfl, trivial⟩, h⟩
          · replace h := h.2 hc41
            refine wpR_pass (wantN rfl rfl rfl hc41) rfl rfl ?_
            refine wpR_pass (wantN rfl rfl rfl hc41) rfl rfl ?_
            refine wpR_pass (wantN rfl rfl rfl hc41) rfl rfl ?_
            refine wpR_pass (wantN rfl rfl rfl hc41) rfl rfl ?_
            refine wpR_val (v := (Value.bool false)) (w' := w12) rfl rfl rfl (x_pickF (v := (Value.bool false)) rfl rfl hc41 rfl) ?_
            refine wpR_nil ?_
            exact ⟨false, ⟨rfl, trivial⟩, h⟩
        clear h
        rintro c43 ρ w14 ⟨e113, -⟩ h
        replace h := hk c43 w14 h
        clear hk
        refine wpR_val (v := (Value.bool c43)) (w' := w14) rfl rfl rfl (x_assign (v := (Value.bool c43)) rfl e113) ?_
        refine wpR_nil ?_
        refine wpC_ret ?_
        exact ⟨.inl rfl, fun a ha => ⟨_, results_rep1 rfl ha rfl, c43, rfl, h⟩⟩

/-- lingualaw06.ShareSums -/
def F5 (p0 : Int) (p1 : Int) (p2 : Int) (p3 : Int) (p4 : Int) (p5 : Int) (w0 : World) (K : Bool → World → Prop) : Prop :=
  callC Try.prog 7 #[] (fun (r : Bool) => (Value.bool r)) w0 fun r9 w1 =>
  callC Try.prog 15 #[(Value.int .i64 p0), (Value.int .u8 p2), (Value.int .u8 p3)] (fun (r : Int × Int × Int) => (Value.tuple #[(Value.int .i64 r.1), (Value.int .i64 r.2.1), (Value.int .i64 r.2.2)])) w1 fun r10 w2 =>
  callC Try.prog 16 #[(Value.int .i64 p1)] (fun (r : Int) => (Value.int .i64 r)) w2 fun r11 w3 =>
  callC Try.prog 8 #[(Value.int .i64 r10.1), (Value.int .i64 r10.2.1), (Value.int .i64 r10.2.2), (Value.int .i64 p4)] (fun (r : Sl × Int) => (Value.tuple #[(Sl.v r.1), (Value.int .i64 r.2)])) w3 fun r12 w4 =>
  callC Try.prog 8 #[(Value.int .i64 r11), (Value.int .i64 r10.2.1), (Value.int .i64 r10.2.2), (Value.int .i64 p5)] (fun (r : Sl × Int) => (Value.tuple #[(Sl.v r.1), (Value.int .i64 r.2)])) w4 fun r13 w5 =>
  cnd ((((!decide (r12.2 = 0)) || (!decide (r13.2 = 0))) || (!decide ((r12.1.len : Int) = r10.2.2))) || (!decide ((r13.1.len : Int) = r10.2.2)))
    (
    K false w5
    )
    (
    lp (fun (next21 : (Sl × Sl × Int) → World → Prop) l21 w6 =>
      cnd (decide (l21.2.2 < r10.2.2))
        (
        ix r12.1 l21.2.2 2 fun p23 =>
        ld (Value.int .i64) (p23.add 0) w6 fun x24 =>
        jp (fun J25 => cnd (!decide (x24 = (IntKind.i64.wrap (l21.2.2 + 1))))
          (
          J25 true
          )
          (
          ix r13.1 l21.2.2 2 fun p27 =>
          ld (Value.int .i64) (p27.add 0) w6 fun x28 =>
          J25 (!decide (x28 = (IntKind.i64.wrap (l21.2.2 + 1))))
          ))
        fun c29 =>
        cnd (c29)
          (
          K false w6
          )
          (
          jn (fun (J32 : Sl → World → Prop) => tk w6 fun w7 =>
            ix r12.1 l21.2.2 2 fun p33 =>
            ld (Value.int .i64) (p33.add 1) w7 fun x34 =>
            ix r13.1 l21.2.2 2 fun p35 =>
            ld (Value.int .i64) (p35.add 1) w7 fun x36 =>
            callC Try.prog 16 #[(Value.int .i64 (IntKind.i64.wrap (x34 + x36)))] (fun (r : Int) => (Value.int .i64 r)) w7 fun r37 w8 =>
            (w8.cell? (p35.add 1) = some (Value.int .i64 x36)) ∧
            (w8.cell? (p33.add 1) = some (Value.int .i64 x34)) ∧
            nw 39 #[(Value.int .i64 (IntKind.i64.wrap (l21.2.2 + 1))), (Value.int .i64 r37)] w8 fun b38 w9 =>
            (w9.cell? (p35.add 1) = some (Value.int .i64 x36)) ∧
            (w9.cell? (p33.add 1) = some (Value.int .i64 x34)) ∧
            rn Try.prog (Builtin.append_ #[22, 22] 22 #[Sl.v l21.1, Sl.v (⟨some ⟨b38, 0, none⟩, 1, 1⟩ : Sl)]) Sl.v w9 fun r39 w10 =>
            (w10.cell? (p35.add 1) = some (Value.int .i64 x36)) ∧
            (w10.cell? (p33.add 1) = some (Value.int .i64 x34)) ∧
            J32 r39 w10
          )
          fun l40 w11 =>
          ix r12.1 l21.2.2 2 fun p41 =>
          ld (Value.int .i64) (p41.add 1) w11 fun x42 =>
          callC Try.prog 16 #[(Value.int .i64 (IntKind.i64.wrap (x42 + r11)))] (fun (r : Int) => (Value.int .i64 r)) w11 fun r43 w12 =>
          nw 39 #[(Value.int .i64 (IntKind.i64.wrap (l21.2.2 + 1))), (Value.int .i64 r43)] w12 fun b44 w13 =>
          rn Try.prog (Builtin.append_ #[22, 22] 22 #[Sl.v l21.2.1, Sl.v (⟨some ⟨b44, 0, none⟩, 1, 1⟩ : Sl)]) Sl.v w13 fun r45 w14 =>
          next21 (l40, r45, IntKind.i64.wrap (l21.2.2 + 1)) w14
          )
        )
        (
        callC Try.prog 10 #[(Sl.v l21.1), (Value.int .i64 r10.2.1)] (fun (r : Int × Int) => (Value.tuple #[(Value.int .i64 r.1), (Value.int .i64 r.2)])) w6 fun r46 w15 =>
        callC Try.prog 10 #[(Sl.v l21.2.1), (Value.int .i64 r10.2.1)] (fun (r : Int × Int) => (Value.tuple #[(Value.int .i64 r.1), (Value.int .i64 r.2)])) w15 fun r47 w16 =>
        jn (fun J52 => cnd ((r9 && (decide (r46.2 = 0))) && (decide (r47.2 = 0)))
          (
          callC Try.prog 16 #[(Value.int .i64 (IntKind.i64.wrap (r10.1 + r11)))] (fun (r : Int) => (Value.int .i64 r)) w16 fun r54 w17 =>
          J52 (decide (r46.1 = r54)) w17
          )
          (
          J52 false w16
          ))
        fun c55 w18 =>
        jn (fun J56 => cnd (c55)
          (
          callC Try.prog 16 #[(Value.int .i64 (IntKind.i64.wrap (r10.1 + r11)))] (fun (r : Int) => (Value.int .i64 r)) w18 fun r58 w19 =>
          J56 (decide (r47.1 = r58)) w19
          )
          (
          J56 false w18
          ))
        fun c59 w20 =>
        K c59 w20
        )
    ) (Sl.nil, Sl.nil, 0) w5
    )
set_option maxRecDepth 100000 in
theorem D5 (p0 : Int) (p1 : Int) (p2 : Int) (p3 : Int) (p4 : Int) (p5 : Int) (w0 : World) (K : Bool → World → Prop) (h : F5 p0 p1 p2 p3 p4 p5 w0 K) : callC Try.prog 5 #[(Value.int .i64 p0), (Value.int .i64 p1), (Value.int .u8 p2), (Value.int .u8 p3), (Value.int .i64 p4), (Value.int .i64 p5)] (fun (r : Bool) => (Value.bool r)) w0 K := by
  unfold F5 at h
  refine calls_of_wpC Try.func5 rfl 166 rfl (by simp) ?_
  intro ρ hρ
  have e0 : ρ 0 = (Value.int .i64 p0) := hρ 0
  have e1 : ρ 1 = (Value.int .i64 p1) := hρ 1
  have e2 : ρ 2 = (Value.int .u8 p2) := hρ 2
  have e3 : ρ 3 = (Value.int .u8 p3) := hρ 3
  have e4 : ρ 4 = (Value.int .i64 p4) := hρ 4
  have e5 : ρ 5 = (Value.int .i64 p5) := hρ 5
  clear hρ
  refine wpC_seq ?_
  refine wpC_region ?_
  refine wpR_val (v := (Value.bool false)) (w' := w0) rfl rfl rfl (x_assign (v := (Value.bool false)) rfl rfl) ?_
  refine wpR_nil ?_
  refine wpC_seq ?_
  refine wpC_cut (fun ρ => ρ 0 = (Value.int .i64 p0) ∧ ρ 1 = (Value.int .i64 p1) ∧ ρ 2 = (Value.int .u8 p2) ∧ ρ 3 = (Value.int .u8 p3) ∧ ρ 4 = (Value.int .i64 p4) ∧ ρ 5 = (Value.int .i64 p5) ∧ True) ⟨e0, e1, e2, e3, e4, e5, trivial⟩ ?_
  rintro ρ ⟨e0, e1, e2, e3, e4, e5, -⟩
  refine wpC_region ?_
  refine wpR_enter rfl rfl rfl (x_call (vs := []) rfl rfl mapl_nil Try.func7 NN_7 NB_7) (Calls.mono h ?_)
  rintro _ w1 ⟨r9, rfl, h⟩
  refine ⟨_, rfl, ?_⟩
  refine wpR_val (v := (Value.bool r9)) (w' := w1) rfl rfl rfl (x_assign (v := (Value.bool r9)) rfl rfl) ?_
  refine wpR_nil ?_
  refine wpC_seq ?_
  refine wpC_cut (fun ρ => ρ 0 = (Value.int .i64 p0) ∧ ρ 1 = (Value.int .i64 p1) ∧ ρ 2 = (Value.int .u8 p2) ∧ ρ 3 = (Value.int .u8 p3) ∧ ρ 4 = (Value.int .i64 p4) ∧ ρ 5 = (Value.int .i64 p5) ∧ ρ 13 = (Value.bool r9) ∧ True) ⟨e0, e1, e2, e3, e4, e5, rfl, trivial⟩ ?_
  rintro ρ ⟨e0, e1, e2, e3, e4, e5, e13, -⟩
  refine wpC_region ?_
  refine wpR_val (v := (Value.int .i64 p0)) (w' := w1) rfl rfl rfl (x_move (v := (Value.int .i64 p0)) rfl e0) ?_
  refine wpR_val (v := (Value.int .u8 p2)) (w' := w1) rfl rfl rfl (x_move (v := (Value.int .u8 p2)) rfl e2) ?_
  refine wpR_val (v := (Value.int .u8 p3)) (w' := w1) rfl rfl rfl (x_move (v := (Value.int .u8 p3)) rfl e3) ?_
  refine wpR_enter rfl rfl rfl (x_call (vs := [(Value.int .i64 p0), (Value.int .u8 p2), (Value.int .u8 p3)]) rfl rfl (mapl_cons rfl (mapl_cons rfl (mapl_cons rfl mapl_nil))) Try.func15 NN_15 NB_15) (Calls.mono h ?_)
  rintro _ w2 ⟨r10, rfl, h⟩
  refine ⟨_, rfl, ?_⟩
  refine wpR_val (v := (Value.tuple #[(Value.int .i64 r10.1), (Value.int .i64 r10.2.1), (Value.int .i64 r10.2.2)])) (w' := w2) rfl rfl rfl (x_move (v := (Value.tuple #[(Value.int .i64 r10.1), (Value.int .i64 r10.2.1), (Value.int .i64 r10.2.2)])) rfl rfl) ?_
  refine wpR_val (v := (Value.int .i64 r10.1)) (w' := w2) rfl rfl rfl (x_extract rfl rfl rfl) ?_
  refine wpR_val (v := (Value.int .i64 r10.2.1)) (w' := w2) rfl rfl rfl (x_extract rfl rfl rfl) ?_
  refine wpR_val (v := (Value.int .i64 r10.2.2)) (w' := w2) rfl rfl rfl (x_extract rfl rfl rfl) ?_
  refine wpR_val (v := (Value.int .i64 r10.1)) (w' := w2) rfl rfl rfl (x_assign (v := (Value.int .i64 r10.1)) rfl rfl) ?_
  refine wpR_val (v := (Value.int .i64 r10.2.1)) (w' := w2) rfl rfl rfl (x_assign (v := (Value.int .i64 r10.2.1)) rfl rfl) ?_
  refine wpR_val (v := (Value.int .i64 r10.2.2)) (w' := w2) rfl rfl rfl (x_assign (v := (Value.int .i64 r10.2.2)) rfl rfl) ?_
  refine wpR_nil ?_
  refine wpC_seq ?_
  refine wpC_cut (fun ρ => ρ 1 = (Value.int .i64 p1) ∧ ρ 4 = (Value.int .i64 p4) ∧ ρ 5 = (Value.int .i64 p5) ∧ ρ 13 = (Value.bool r9) ∧ ρ 14 = (Value.int .i64 r10.1) ∧ ρ 15 = (Value.int .i64 r10.2.1) ∧ ρ 16 = (Value.int .i64 r10.2.2) ∧ True) ⟨e1, e4, e5, e13, rfl, rfl, rfl, trivial⟩ ?_
  rintro ρ ⟨e1, e4, e5, e13, e14, e15, e16, -⟩
  refine wpC_region ?_
  refine wpR_val (v := (Value.int .i64 p1)) (w' := w2) rfl rfl rfl (x_move (v := (Value.int .i64 p1)) rfl e1) ?_
  refine wpR_enter rfl rfl rfl (x_call (vs := [(Value.int .i64 p1)]) rfl rfl (mapl_cons rfl mapl_nil) Try.func16 NN_16 NB_16) (Calls.mono h ?_)
  rintro _ w3 ⟨r11, rfl, h⟩
  refine ⟨_, rfl, ?_⟩
  refine wpR_val (v := (Value.int .i64 r11)) (w' := w3) rfl rfl rfl (x_assign (v := (Value.int .i64 r11)) rfl rfl) ?_
  refine wpR_nil ?_
  refine wpC_seq ?_
  refine wpC_cut (fun ρ => ρ 4 = (Value.int .i64 p4) ∧ ρ 5 = (Value.int .i64 p5) ∧ ρ 13 = (Value.bool r9) ∧ ρ 14 = (Value.int .i64 r10.1) ∧ ρ 15 = (Value.int .i64 r10.2.1) ∧ ρ 16 = (Value.int .i64 r10.2.2) ∧ ρ 17 = (Value.int .i64 r11) ∧ True) ⟨e4, e5, e13, e14, e15, e16, rfl, trivial⟩ ?_
  rintro ρ ⟨e4, e5, e13, e14, e15, e16, e17, -⟩
  refine wpC_region ?_
  refine wpR_val (v := (Value.int .i64 r10.1)) (w' := w3) rfl rfl rfl (x_move (v := (Value.int .i64 r10.1)) rfl e14) ?_
  refine wpR_val (v := (Value.int .i64 r10.2.1)) (w' := w3) rfl rfl rfl (x_move (v := (Value.int .i64 r10.2.1)) rfl e15) ?_
  refine wpR_val (v := (Value.int .i64 r10.2.2)) (w' := w3) rfl rfl rfl (x_move (v := (Value.int .i64 r10.2.2)) rfl e16) ?_
  refine wpR_val (v := (Value.int .i64 p4)) (w' := w3) rfl rfl rfl (x_move (v := (Value.int .i64 p4)) rfl e4) ?_
  refine wpR_enter rfl rfl rfl (x_call (vs := [(Value.int .i64 r10.1), (Value.int .i64 r10.2.1), (Value.int .i64 r10.2.2), (Value.int .i64 p4)]) rfl rfl (mapl_cons rfl (mapl_cons rfl (mapl_cons rfl (mapl_cons rfl mapl_nil)))) Try.func8 NN_8 NB_8) (Calls.mono h ?_)
  rintro _ w4 ⟨r12, rfl, h⟩
  refine ⟨_, rfl, ?_⟩
  refine wpR_val (v := (Value.tuple #[(Sl.v r12.1), (Value.int .i64 r12.2)])) (w' := w4) rfl rfl rfl (x_move (v := (Value.tuple #[(Sl.v r12.1), (Value.int .i64 r12.2)])) rfl rfl) ?_
  refine wpR_val (v := (Sl.v r12.1)) (w' := w4) rfl rfl rfl (x_extract rfl rfl rfl) ?_
  refine wpR_val (v := (Value.int .i64 r12.2)) (w' := w4) rfl rfl rfl (x_extract rfl rfl rfl) ?_
  refine wpR_val (v := (Sl.v r12.1)) (w' := w4) rfl rfl rfl (x_assign (v := (Sl.v r12.1)) rfl rfl) ?_
  refine wpR_val (v := (Value.int .i64 r12.2)) (w' := w4) rfl rfl rfl (x_assign (v := (Value.int .i64 r12.2)) rfl rfl) ?_
  refine wpR_nil ?_
  refine wpC_seq ?_
  refine wpC_cut (fun ρ => ρ 5 = (Value.int .i64 p5) ∧ ρ 13 = (Value.bool r9) ∧ ρ 14 = (Value.int .i64 r10.1) ∧ ρ 15 = (Value.int .i64 r10.2.1) ∧ ρ 16 = (Value.int .i64 r10.2.2) ∧ ρ 17 = (Value.int .i64 r11) ∧ ρ 18 = (Sl.v r12.1) ∧ ρ 19 = (Value.int .i64 r12.2) ∧ True) ⟨e5, e13, e14, e15, e16, e17, rfl, rfl, trivial⟩ ?_
  rintro ρ ⟨e5, e13, e14, e15, e16, e17, e18, e19, -⟩
  refine wpC_region ?_
  refine wpR_val (v := (Value.int .i64 r11)) (w' := w4) rfl rfl rfl (x_move (v := (Value.int .i64 r11)) rfl e17) ?_
  refine wpR_val (v := (Value.int .i64 r10.2.1)) (w' := w4) rfl rfl rfl (x_move (v := (Value.int .i64 r10.2.1)) rfl e15) ?_
  refine wpR_val (v := (Value.int .i64 r10.2.2)) (w' := w4) rfl rfl rfl (x_move (v := (Value.int .i64 r10.2.2)) rfl e16) ?_
  refine wpR_val (v := (Value.int .i64 p5)) (w' := w4) rfl rfl rfl (x_move (v := (Value.int .i64 p5)) rfl e5) ?_
  refine wpR_enter rfl rfl rfl (x_call (vs := [(Value.int .i64 r11), (Value.int .i64 r10.2.1), (Value.int .i64 r10.2.2), (Value.int .i64 p5)]) rfl rfl (mapl_cons rfl (mapl_cons rfl (mapl_cons rfl (mapl_cons rfl mapl_nil)))) Try.func8 NN_8 NB_8) (Calls.mono h ?_)
  rintro _ w5 ⟨r13, rfl, h⟩
  refine ⟨_, rfl, ?_⟩
  refine wpR_val (v := (Value.tuple #[(Sl.v r13.1), (Value.int .i64 r13.2)])) (w' := w5) rfl rfl rfl (x_move (v := (Value.tuple #[(Sl.v r13.1), (Value.int .i64 r13.2)])) rfl rfl) ?_
  refine wpR_val (v := (Sl.v r13.1)) (w' := w5) rfl rfl rfl (x_extract rfl rfl rfl) ?_
  refine wpR_val (v := (Value.int .i64 r13.2)) (w' := w5) rfl rfl rfl (x_extract rfl rfl rfl) ?_
  refine wpR_val (v := (Sl.v r13.1)) (w' := w5) rfl rfl rfl (x_assign (v := (Sl.v r13.1)) rfl rfl) ?_
  refine wpR_val (v := (Value.int .i64 r13.2)) (w' := w5) rfl rfl rfl (x_assign (v := (Value.int .i64 r13.2)) rfl rfl) ?_
  refine wpR_nil ?_
  refine wpC_seq ?_
  refine wpC_seq ?_
  refine wpC_cut (fun ρ => ρ 13 = (Value.bool r9) ∧ ρ 14 = (Value.int .i64 r10.1) ∧ ρ 15 = (Value.int .i64 r10.2.1) ∧ ρ 16 = (Value.int .i64 r10.2.2) ∧ ρ 17 = (Value.int .i64 r11) ∧ ρ 18 = (Sl.v r12.1) ∧ ρ 19 = (Value.int .i64 r12.2) ∧ ρ 20 = (Sl.v r13.1) ∧ ρ 21 = (Value.int .i64 r13.2) ∧ True) ⟨e13, e14, e15, e16, e17, e18, e19, rfl, rfl, trivial⟩ ?_
  rintro ρ ⟨e13, e14, e15, e16, e17, e18, e19, e20, e21, -⟩
  refine wpC_region ?_
  refine wpR_val (v := (Value.int .i64 r12.2)) (w' := w5) rfl rfl rfl (x_move (v := (Value.int .i64 r12.2)) rfl e19) ?_
  refine wpR_val (v := (Value.bool (!decide (r12.2 = 0)))) (w' := w5) rfl rfl rfl (x_neq rfl rfl rfl) ?_
  refine wpR_val (v := (Value.bool (!decide (r12.2 = 0)))) (w' := w5) rfl rfl rfl (x_move (v := (Value.bool (!decide (r12.2 = 0)))) rfl rfl) ?_
  refine wpR_joinJ 3 (fun (_ : Unit) ρ => ρ 61 = Value.bool ((!decide (r12.2 = 0)) || (!decide (r13.2 = 0))) ∧ ρ 13 = (Value.bool r9) ∧ ρ 14 = (Value.int .i64 r10.1) ∧ ρ 15 = (Value.int .i64 r10.2.1) ∧ ρ 16 = (Value.int .i64 r10.2.2) ∧ ρ 17 = (Value.int .i64 r11) ∧ ρ 18 = (Sl.v r12.1) ∧ ρ 20 = (Sl.v r13.1) ∧ True) (fun _ w => w5 = w) ?_ ?_
  · clear h
    rcases Bool.eq_false_or_eq_true (!decide (r12.2 = 0)) with hc15 | hc15
    · skip
      refine wpR_pass (wantN rfl rfl rfl hc15) rfl rfl ?_
      refine wpR_pass (wantN rfl rfl rfl hc15) rfl rfl ?_
      refine wpR_val (v := (Value.bool true)) (w' := w5) rfl rfl rfl (x_pickT (v := (Value.bool true)) rfl rfl hc15 rfl) ?_
      refine wpR_nil ?_
      exact ⟨(), ⟨(by rw [hc15]; rfl), e13, e14, e15, e16, e17, e18, e20, trivial⟩, rfl⟩
    · skip
      refine wpR_val (v := (Value.int .i64 r13.2)) (w' := w5) (wantG rfl rfl rfl hc15) rfl rfl (x_move (v := (Value.int .i64 r13.2)) rfl e21) ?_
      refine wpR_val (v := (Value.bool (!decide (r13.2 = 0)))) (w' := w5) (wantG rfl rfl rfl hc15) rfl rfl (x_neq rfl rfl rfl) ?_
      refine wpR_val (v := (Value.bool (!decide (r13.2 = 0)))) (w' := w5) rfl rfl rfl (x_pickF (v := (Value.bool (!decide (r13.2 = 0)))) rfl rfl hc15 rfl) ?_
      refine wpR_nil ?_
      exact ⟨(), ⟨(by rw [hc15]; rfl), e13, e14, e15, e16, e17, e18, e20, trivial⟩, rfl⟩
  rintro _ ρ wj ⟨e61, e13, e14, e15, e16, e17, e18, e20, -⟩ rfl
  refine wpR_val (v := (Value.bool ((!decide (r12.2 = 0)) || (!decide (r13.2 = 0))))) (w' := w5) rfl rfl rfl (x_move (v := (Value.bool ((!decide (r12.2 = 0)) || (!decide (r13.2 = 0))))) rfl e61) ?_
  refine wpR_joinJ 5 (fun (_ : Unit) ρ => ρ 67 = Value.bool (((!decide (r12.2 = 0)) || (!decide (r13.2 = 0))) || (!decide ((r12.1.len : Int) = r10.2.2))) ∧ ρ 13 = (Value.bool r9) ∧ ρ 14 = (Value.int .i64 r10.1) ∧ ρ 15 = (Value.int .i64 r10.2.1) ∧ ρ 16 = (Value.int .i64 r10.2.2) ∧ ρ 17 = (Value.int .i64 r11) ∧ ρ 18 = (Sl.v r12.1) ∧ ρ 20 = (Sl.v r13.1) ∧ True) (fun _ w => w5 = w) ?_ ?_
  · clear h
    rcases Bool.eq_false_or_eq_true ((!decide (r12.2 = 0)) || (!decide (r13.2 = 0))) with hc17 | hc17
    · skip
      refine wpR_pass (wantN rfl rfl rfl hc17) rfl rfl ?_
      refine wpR_pass (wantN rfl rfl rfl hc17) rfl rfl ?_
      refine wpR_pass (wantN rfl rfl rfl hc17) rfl rfl ?_
      refine wpR_pass (wantN rfl rfl rfl hc17) rfl rfl ?_
      refine wpR_val (v := (Value.bool true)) (w' := w5) rfl rfl rfl (x_pickT (v := (Value.bool true)) rfl rfl hc17 rfl) ?_
      refine wpR_nil ?_
      exact ⟨(), ⟨(by rw [hc17]; rfl), e13, e14, e15, e16, e17, e18, e20, trivial⟩, rfl⟩
    · skip
      refine wpR_val (v := (Sl.v r12.1)) (w' := w5) (wantG rfl rfl rfl hc17) rfl rfl (x_move (v := (Sl.v r12.1)) rfl e18) ?_
      refine wpR_val (v := (Value.int .i64 (r12.1.len : Int))) (w' := w5) (wantG rfl rfl rfl hc17) rfl rfl (x_lenS (s := r12.1) rfl rfl isSliceT_22) ?_
      refine wpR_val (v := (Value.int .i64 r10.2.2)) (w' := w5) (wantG rfl rfl rfl hc17) rfl rfl (x_move (v := (Value.int .i64 r10.2.2)) rfl e16) ?_
      refine wpR_val (v := (Value.bool (!decide ((r12.1.len : Int) = r10.2.2)))) (w' := w5) (wantG rfl rfl rfl hc17) rfl rfl (x_neq rfl rfl rfl) ?_
      refine wpR_val (v := (Value.bool (!decide ((r12.1.len : Int) = r10.2.2)))) (w' := w5) rfl rfl rfl (x_pickF (v := (Value.bool (!decide ((r12.1.len : Int) = r10.2.2)))) rfl rfl hc17 rfl) ?_
      refine wpR_nil ?_
      exact ⟨(), ⟨(by rw [hc17]; rfl), e13, e14, e15, e16, e17, e18, e20, trivial⟩, rfl⟩
  rintro _ ρ wj ⟨e67, e13, e14, e15, e16, e17, e18, e20, -⟩ rfl
  refine wpR_val (v := (Value.bool (((!decide (r12.2 = 0)) || (!decide (r13.2 = 0))) || (!decide ((r12.1.len : Int) = r10.2.2))))) (w' := w5) rfl rfl rfl (x_move (v := (Value.bool (((!decide (r12.2 = 0)) || (!decide (r13.2 = 0))) || (!decide ((r12.1.len : Int) = r10.2.2))))) rfl e67) ?_
  refine wpR_joinJ 5 (fun (_ : Unit) ρ => ρ 73 = Value.bool ((((!decide (r12.2 = 0)) || (!decide (r13.2 = 0))) || (!decide ((r12.1.len : Int) = r10.2.2))) || (!decide ((r13.1.len : Int) = r10.2.2))) ∧ ρ 13 = (Value.bool r9) ∧ ρ 14 = (Value.int .i64 r10.1) ∧ ρ 15 = (Value.int .i64 r10.2.1) ∧ ρ 16 = (Value.int .i64 r10.2.2) ∧ ρ 17 = (Value.int .i64 r11) ∧ ρ 18 = (Sl.v r12.1) ∧ ρ 20 = (Sl.v r13.1) ∧ True) (fun _ w => w5 = w) ?_ ?_
  · clear h
    rcases Bool.eq_false_or_eq_true (((!decide (r12.2 = 0)) || (!decide (r13.2 = 0))) || (!decide ((r12.1.len : Int) = r10.2.2))) with hc19 | hc19
    · skip
      refine wpR_pass (wantN rfl rfl rfl hc19) rfl rfl ?_
      refine wpR_pass (wantN rfl rfl rfl hc19) rfl rfl ?_
      refine wpR_pass (wantN rfl rfl rfl hc19) rfl rfl ?_
      refine wpR_pass (wantN rfl rfl rfl hc19) rfl rfl ?_
      refine wpR_val (v := (Value.bool true)) (w' := w5) rfl rfl rfl (x_pickT (v := (Value.bool true)) rfl rfl hc19 rfl) ?_
      refine wpR_nil ?_
      exact ⟨(), ⟨(by rw [hc19]; rfl), e13, e14, e15, e16, e17, e18, e20, trivial⟩, rfl⟩
    · skip
      refine wpR_val (v := (Sl.v r13.1)) (w' := w5) (wantG rfl rfl rfl hc19) rfl rfl (x_move (v := (Sl.v r13.1)) rfl e20) ?_
      refine wpR_val (v := (Value.int .i64 (r13.1.len : Int))) (w' := w5) (wantG rfl rfl rfl hc19) rfl rfl (x_lenS (s := r13.1) rfl rfl isSliceT_22) ?_
      refine wpR_val (v := (Value.int .i64 r10.2.2)) (w' := w5) (wantG rfl rfl rfl hc19) rfl rfl (x_move (v := (Value.int .i64 r10.2.2)) rfl e16) ?_
      refine wpR_val (v := (Value.bool (!decide ((r13.1.len : Int) = r10.2.2)))) (w' := w5) (wantG rfl rfl rfl hc19) rfl rfl (x_neq rfl rfl rfl) ?_
      refine wpR_val (v := (Value.bool (!decide ((r13.1.len : Int) = r10.2.2)))) (w' := w5) rfl rfl rfl (x_pickF (v := (Value.bool (!decide ((r13.1.len : Int) = r10.2.2)))) rfl rfl hc19 rfl) ?_
      refine wpR_nil ?_
      exact ⟨(), ⟨(by rw [hc19]; rfl), e13, e14, e15, e16, e17, e18, e20, trivial⟩, rfl⟩
  rintro _ ρ wj ⟨e73, e13, e14, e15, e16, e17, e18, e20, -⟩ rfl
  refine wpR_nil ?_
  refine wpC_cond (b := (((!decide (r12.2 = 0)) || (!decide (r13.2 = 0))) || (!decide ((r12.1.len : Int) = r10.2.2))) || (!decide ((r13.1.len : Int) = r10.2.2))) e73 (fun hc20 => ?_) (fun hc20 => ?_)
  · replace h := h.1 hc20
    refine wpC_seq ?_
    refine wpC_region ?_
    refine wpR_val (v := (Value.bool false)) (w' := w5) rfl rfl rfl (x_assign (v := (Value.bool false)) rfl rfl) ?_
    refine wpR_nil ?_
    refine wpC_ret ?_
    exact ⟨.inl rfl, fun a ha => ⟨_, results_rep1 rfl ha rfl, false, rfl, h⟩⟩
  · replace h := h.2 hc20
    refine wpC_skip ?_
    refine wpC_seq ?_
    refine wpC_region ?_
    refine wpR_val (v := (Sl.v Sl.nil)) (w' := w5) rfl rfl rfl (x_assign (v := (Sl.v Sl.nil)) rfl rfl) ?_
    refine wpR_nil ?_
    refine wpC_seq ?_
    refine wpC_cut (fun ρ => ρ 13 = (Value.bool r9) ∧ ρ 14 = (Value.int .i64 r10.1) ∧ ρ 15 = (Value.int .i64 r10.2.1) ∧ ρ 16 = (Value.int .i64 r10.2.2) ∧ ρ 17 = (Value.int .i64 r11) ∧ ρ 18 = (Sl.v r12.1) ∧ ρ 20 = (Sl.v r13.1) ∧ ρ 22 = (Sl.v Sl.nil) ∧ True) ⟨e13, e14, e15, e16, e17, e18, e20, rfl, trivial⟩ ?_
    rintro ρ ⟨e13, e14, e15, e16, e17, e18, e20, e22, -⟩
    refine wpC_region ?_
    refine wpR_val (v := (Sl.v Sl.nil)) (w' := w5) rfl rfl rfl (x_assign (v := (Sl.v Sl.nil)) rfl rfl) ?_
    refine wpR_nil ?_
    refine wpC_seq ?_
    refine wpC_seq ?_
    refine wpC_cut (fun ρ => ρ 13 = (Value.bool r9) ∧ ρ 14 = (Value.int .i64 r10.1) ∧ ρ 15 = (Value.int .i64 r10.2.1) ∧ ρ 16 = (Value.int .i64 r10.2.2) ∧ ρ 17 = (Value.int .i64 r11) ∧ ρ 18 = (Sl.v r12.1) ∧ ρ 20 = (Sl.v r13.1) ∧ ρ 22 = (Sl.v Sl.nil) ∧ ρ 23 = (Sl.v Sl.nil) ∧ True) ⟨e13, e14, e15, e16, e17, e18, e20, e22, rfl, trivial⟩ ?_
    rintro ρ ⟨e13, e14, e15, e16, e17, e18, e20, e22, e23, -⟩
    refine wpC_region ?_
    refine wpR_val (v := (Value.int .i64 0)) (w' := w5) rfl rfl rfl (x_assign (v := (Value.int .i64 0)) rfl rfl) ?_
    refine wpR_nil ?_
    refine wpC_block ?_
    obtain ⟨I21, μ21, hI21, hr21⟩ := h
    refine wpC_loop (fun (x : Sl × Sl × Int) ρ => ρ 22 = (Sl.v x.1) ∧ ρ 23 = (Sl.v x.2.1) ∧ ρ 24 = (Value.int .i64 x.2.2) ∧ ρ 13 = (Value.bool r9) ∧ ρ 14 = (Value.int .i64 r10.1) ∧ ρ 15 = (Value.int .i64 r10.2.1) ∧ ρ 16 = (Value.int .i64 r10.2.2) ∧ ρ 17 = (Value.int .i64 r11) ∧ ρ 18 = (Sl.v r12.1) ∧ ρ 20 = (Sl.v r13.1) ∧ True) I21 μ21 (Sl.nil, Sl.nil, 0) ⟨e22, e23, rfl, e13, e14, e15, e16, e17, e18, e20, trivial⟩ hI21 ?_
    rintro l21 ρ w6 ⟨e22, e23, e24, e13, e14, e15, e16, e17, e18, e20, -⟩ h
    replace h := hr21 l21 w6 h
    clear hr21 hI21
    refine wpC_seq ?_
    refine wpC_seq ?_
    refine wpC_region ?_
    refine wpR_val (v := (Value.int .i64 l21.2.2)) (w' := w6) rfl rfl rfl (x_move (v := (Value.int .i64 l21.2.2)) rfl e24) ?_
    refine wpR_val (v := (Value.int .i64 r10.2.2)) (w' := w6) rfl rfl rfl (x_move (v := (Value.int .i64 r10.2.2)) rfl e16) ?_
    refine wpR_val (v := (Value.bool (decide (l21.2.2 < r10.2.2)))) (w' := w6) rfl rfl rfl (x_lss rfl rfl rfl) ?_
    refine wpR_nil ?_
    refine wpC_cond (b := decide (l21.2.2 < r10.2.2)) rfl (fun hc22 => ?_) (fun hc22 => ?_)
    · replace h := h.1 hc22
      refine wpC_skip ?_
      refine wpC_seq ?_
      refine wpC_block ?_
      refine wpC_seq ?_
      refine wpC_seq ?_
      refine wpC_cut (fun ρ => ρ 13 = (Value.bool r9) ∧ ρ 14 = (Value.int .i64 r10.1) ∧ ρ 15 = (Value.int .i64 r10.2.1) ∧ ρ 16 = (Value.int .i64 r10.2.2) ∧ ρ 17 = (Value.int .i64 r11) ∧ ρ 18 = (Sl.v r12.1) ∧ ρ 20 = (Sl.v r13.1) ∧ ρ 22 = (Sl.v l21.1) ∧ ρ 23 = (Sl.v l21.2.1) ∧ ρ 24 = (Value.int .i64 l21.2.2) ∧ True) ⟨e13, e14, e15, e16, e17, e18, e20, e22, e23, e24, trivial⟩ ?_
      rintro ρ ⟨e13, e14, e15, e16, e17, e18, e20, e22, e23, e24, -⟩
      refine wpC_region ?_
      refine wpR_val (v := (Sl.v r12.1)) (w' := w6) rfl rfl rfl (x_move (v := (Sl.v r12.1)) rfl e18) ?_
      refine wpR_val (v := (Value.int .i64 l21.2.2)) (w' := w6) rfl rfl rfl (x_move (v := (Value.int .i64 l21.2.2)) rfl e24) ?_
      obtain ⟨q23, z23, r23, h⟩ := h
      generalize hp23 : z23.add ((l21.2.2 : Int).toNat * 2) = p23 at h
      refine wpR_val (v := (Value.pointer (some p23))) (w' := w6) rfl rfl rfl ((x_indexAddr (s := r12.1) rfl rfl rfl ES_22 q23 r23).trans (by rw [hp23])) ?_
      refine wpR_val (v := (Value.pointer (some (p23.add 0)))) (w' := w6) rfl rfl rfl (x_fieldAddr rfl rfl FA_39_0) ?_
      obtain ⟨x24, q24, h⟩ := h
      refine wpR_val (v := (Value.int .i64 x24)) (w' := w6) rfl rfl rfl (x_load1 rfl rfl SH_3 q24) ?_
      refine wpR_val (v := (Value.int .i64 l21.2.2)) (w' := w6) rfl rfl rfl (x_move (v := (Value.int .i64 l21.2.2)) rfl e24) ?_
      refine wpR_val (v := (Value.int .i64 (IntKind.i64.wrap (l21.2.2 + 1)))) (w' := w6) rfl rfl rfl (x_add rfl rfl rfl) ?_
      refine wpR_val (v := (Value.bool (!decide (x24 = (IntKind.i64.wrap (l21.2.2 + 1)))))) (w' := w6) rfl rfl rfl (x_neq rfl rfl rfl) ?_
      refine wpR_val (v := (Value.bool (!decide (x24 = (IntKind.i64.wrap (l21.2.2 + 1)))))) (w' := w6) rfl rfl rfl (x_move (v := (Value.bool (!decide (x24 = (IntKind.i64.wrap (l21.2.2 + 1)))))) rfl rfl) ?_
      obtain ⟨J25, h, hk⟩ := h
      refine wpR_joinJ 9 (fun x ρ => ρ 96 = Value.bool x ∧ ρ 13 = (Value.bool r9) ∧ ρ 14 = (Value.int .i64 r10.1) ∧ ρ 15 = (Value.int .i64 r10.2.1) ∧ ρ 16 = (Value.int .i64 r10.2.2) ∧ ρ 17 = (Value.int .i64 r11) ∧ ρ 18 = (Sl.v r12.1) ∧ ρ 20 = (Sl.v r13.1) ∧ ρ 22 = (Sl.v l21.1) ∧ ρ 23 = (Sl.v l21.2.1) ∧ ρ 24 = (Value.int .i64 l21.2.2) ∧ True) (fun x w => J25 x ∧ w6 = w) ?_ ?_
      · clear hk
        rcases Bool.eq_false_or_eq_true (!decide (x24 = (IntKind.i64.wrap (l21.2.2 + 1)))) with hc26 | hc26
        · replace h := h.1 hc26
          refine wpR_pass (wantN rfl rfl rfl hc26) rfl rfl ?_
          refine wpR_pass (wantN rfl rfl rfl hc26) rfl rfl ?_
          refine wpR_pass (wantN rfl rfl rfl hc26) rfl rfl ?_
          refine wpR_pass (wantN rfl rfl rfl hc26) rfl rfl ?_
          refine wpR_pass (wantN rfl rfl rfl hc26) rfl rfl ?_
          refine wpR_pass (wantN rfl rfl rfl hc26) rfl rfl ?_
          refine wpR_pass (wantN rfl rfl rfl hc26) rfl rfl ?_
          refine wpR_pass (wantN rfl rfl rfl hc26) rfl rfl ?_
          refine wpR_val (v := (Value.bool true)) (w' := w6) rfl rfl rfl (x_pickT (v := (Value.bool true)) rfl rfl hc26 rfl) ?_
          refine wpR_nil ?_
          exact ⟨true, ⟨rfl, e13, e14, e15, e16, e17, e18, e20, e22, e23, e24, trivial⟩, h, rfl⟩
        · replace h := h.2 hc26
          refine wpR_val (v := (Sl.v r13.1)) (w' := w6) (wantG rfl rfl rfl hc26) rfl rfl (x_move (v := (Sl.v r13.1)) rfl e20) ?_
          refine wpR_val (v := (Value.int .i64 l21.2.2)) (w' := w6) (wantG rfl rfl rfl hc26) rfl rfl (x_move (v := (Value.int .i64 l21.2.2)) rfl e24) ?_
          obtain ⟨q27, z27, r27, h⟩ := h
          generalize hp27 : z27.add ((l21.2.2 : Int).toNat * 2) = p27 at h
          refine wpR_val (v := (Value.pointer (some p27))) (w' := w6) (wantG rfl rfl rfl hc26) rfl rfl ((x_indexAddr (s := r13.1) rfl rfl rfl ES_22 q27 r27).trans (by rw [hp27])) ?_
          refine wpR_val (v := (Value.pointer (some (p27.add 0)))) (w' := w6) (wantG rfl rfl rfl hc26) rfl rfl (x_fieldAddr rfl rfl FA_39_0) ?_
          obtain ⟨x28, q28, h⟩ := h
          refine wpR_val (v := (Value.int .i64 x28)) (w' := w6) (wantG rfl rfl rfl hc26) rfl rfl (x_load1 rfl rfl SH_3 q28) ?_
          refine wpR_val (v := (Value.int .i64 l21.2.2)) (w' := w6) (wantG rfl rfl rfl hc26) rfl rfl (x_move (v := (Value.int .i64 l21.2.2)) rfl e24) ?_
          refine wpR_val (v := (Value.int .i64 (IntKind.i64.wrap (l21.2.2 + 1)))) (w' := w6) (wantG rfl rfl rfl hc26) rfl rfl (x_add rfl rfl rfl) ?_
          refine wpR_val (v := (Value.bool (!decide (x28 = (IntKind.i64.wrap (l21.2.2 + 1)))))) (w' := w6) (wantG rfl rfl rfl hc26) rfl rfl (x_neq rfl rfl rfl) ?_
          refine wpR_val (v := (Value.bool (!decide (x28 = (IntKind.i64.wrap (l21.2.2 + 1)))))) (w' := w6) rfl rfl rfl (x_pickF (v := (Value.bool (!decide (x28 = (IntKind.i64.wrap (l21.2.2 + 1)))))) rfl rfl hc26 rfl) ?_
          refine wpR_nil ?_
          exact ⟨!decide (x28 = (IntKind.i64.wrap (l21.2.2 + 1))), ⟨rfl, e13, e14, e15, e16, e17, e18, e20, e22, e23, e24, trivial⟩, h, rfl⟩
      clear h
      rintro c29 ρ wj ⟨e96, e13, e14, e15, e16, e17, e18, e20, e22, e23, e24, -⟩ ⟨h, rfl⟩
      replace h := hk c29 h
      clear hk
      refine wpR_nil ?_
      refine wpC_cond (b := c29) e96 (fun hc30 => ?_) (fun hc30 => ?_)
      · replace h := h.1 hc30
        refine wpC_seq ?_
        refine wpC_region ?_
        refine wpR_val (v := (Value.bool false)) (w' := w6) rfl rfl rfl (x_assign (v := (Value.bool false)) rfl rfl) ?_
        refine wpR_nil ?_
        refine wpC_ret ?_
        exact ⟨.inl rfl, fun a ha => ⟨_, results_rep1 rfl ha rfl, false, rfl, h⟩⟩
      · replace h := h.2 hc30
        refine wpC_skip ?_
        refine wpC_seq ?_
        obtain ⟨J32, h, hk⟩ := h
        refine wpC_drawJ (by kernel_rfl) (fun (x : Sl) ρ => ρ 22 = (Sl.v x) ∧ ρ 13 = (Value.bool r9) ∧ ρ 14 = (Value.int .i64 r10.1) ∧ ρ 15 = (Value.int .i64 r10.2.1) ∧ ρ 16 = (Value.int .i64 r10.2.2) ∧ ρ 17 = (Value.int .i64 r11) ∧ ρ 18 = (Sl.v r12.1) ∧ ρ 20 = (Sl.v r13.1) ∧ ρ 23 = (Sl.v l21.2.1) ∧ ρ 24 = (Value.int .i64 l21.2.2) ∧ True) J32 ?_ ?_
        · clear hk
          unfold tk at h
          generalize w6.drew = w7 at h ⊢
          refine wpD_take (v := (Sl.v l21.1)) 0 (fun _ => True) rfl (by kernel_rfl) (by kernel_rfl) (by kernel_rfl) rfl rfl rfl trivial (fun w _ => (x_move (v := (Sl.v l21.1)) rfl e22)) ?_
          refine wpD_take (v := (Value.int .i64 l21.2.2)) 1 (fun _ => True) rfl (by kernel_rfl) (by kernel_rfl) (by kernel_rfl) rfl rfl rfl trivial (fun w _ => (x_move (v := (Value.int .i64 l21.2.2)) rfl e24)) ?_
          refine wpD_take (v := (Value.int .i64 (IntKind.i64.wrap (l21.2.2 + 1)))) 2 (fun _ => True) rfl (by kernel_rfl) (by kernel_rfl) (by kernel_rfl) rfl rfl rfl trivial (fun w _ => (x_add rfl rfl rfl)) ?_
          refine wpD_take (v := (Sl.v r12.1)) 3 (fun _ => True) rfl (by kernel_rfl) (by kernel_rfl) (by kernel_rfl) rfl rfl rfl trivial (fun w _ => (x_move (v := (Sl.v r12.1)) rfl e18)) ?_
          refine wpD_take (v := (Value.int .i64 l21.2.2)) 4 (fun _ => True) rfl (by kernel_rfl) (by kernel_rfl) (by kernel_rfl) rfl rfl rfl trivial (fun w _ => (x_move (v := (Value.int .i64 l21.2.2)) rfl e24)) ?_
          obtain ⟨q33, z33, r33, h⟩ := h
          generalize hp33 : z33.add ((l21.2.2 : Int).toNat * 2) = p33 at h
          refine wpD_take (v := (Value.pointer (some p33))) 5 (fun _ => True) rfl (by kernel_rfl) (by kernel_rfl) (by kernel_rfl) rfl rfl rfl trivial (fun w _ => ((x_indexAddr (s := r12.1) rfl rfl rfl ES_22 q33 r33).trans (by rw [hp33]))) ?_
          refine wpD_take (v := (Value.pointer (some (p33.add 1)))) 6 (fun _ => True) rfl (by kernel_rfl) (by kernel_rfl) (by kernel_rfl) rfl rfl rfl trivial (fun w _ => (x_fieldAddr rfl rfl FA_39_1)) ?_
          obtain ⟨x34, q34, h⟩ := h
          refine wpD_take (v := (Value.int .i64 x34)) 7 (fun w => w.cell? (p33.add 1) = some (Value.int .i64 x34)) rfl (by kernel_rfl) (by kernel_rfl) (by kernel_rfl) rfl rfl rfl q34 (fun w q34 => (x_load1 rfl rfl SH_3 q34)) ?_
          refine wpD_take (v := (Sl.v r13.1)) 8 (fun _ => True) rfl (by kernel_rfl) (by kernel_rfl) (by kernel_rfl) rfl rfl rfl trivial (fun w _ => (x_move (v := (Sl.v r13.1)) rfl e20)) ?_
          refine wpD_take (v := (Value.int .i64 l21.2.2)) 9 (fun _ => True) rfl (by kernel_rfl) (by kernel_rfl) (by kernel_rfl) rfl rfl rfl trivial (fun w _ => (x_move (v := (Value.int .i64 l21.2.2)) rfl e24)) ?_
          obtain ⟨q35, z35, r35, h⟩ := h
          generalize hp35 : z35.add ((l21.2.2 : Int).toNat * 2) = p35 at h
          refine wpD_take (v := (Value.pointer (some p35))) 10 (fun _ => True) rfl (by kernel_rfl) (by kernel_rfl) (by kernel_rfl) rfl rfl rfl trivial (fun w _ => ((x_indexAddr (s := r13.1) rfl rfl rfl ES_22 q35 r35).trans (by rw [hp35]))) ?_
          refine wpD_take (v := (Value.pointer (some (p35.add 1)))) 11 (fun _ => True) rfl (by kernel_rfl) (by kernel_rfl) (by kernel_rfl) rfl rfl rfl trivial (fun w _ => (x_fieldAddr rfl rfl FA_39_1)) ?_
          obtain ⟨x36, q36, h⟩ := h
          refine wpD_take (v := (Value.int .i64 x36)) 12 (fun w => w.cell? (p35.add 1) = some (Value.int .i64 x36)) rfl (by kernel_rfl) (by kernel_rfl) (by kernel_rfl) rfl rfl rfl q36 (fun w q36 => (x_load1 rfl rfl SH_3 q36)) ?_
          refine wpD_take (v := (Value.int .i64 (IntKind.i64.wrap (x34 + x36)))) 13 (fun _ => True) rfl (by kernel_rfl) (by kernel_rfl) (by kernel_rfl) rfl rfl rfl trivial (fun w _ => (x_add rfl rfl rfl)) ?_
          refine wpD_all (rs := [14]) (by kernel_rfl) (by simp) (allD_cons ?_ allD_nil)
          refine stepD_enterL (L' := [(12, fun w => w.cell? (p35.add 1) = some (Value.int .i64 x36)), (11, fun _ => True), (10, fun _ => True), (9, fun _ => True), (8, fun _ => True), (7, fun w => w.cell? (p33.add 1) = some (Value.int .i64 x34)), (6, fun _ => True), (5, fun _ => True), (4, fun _ => True), (3, fun _ => True), (2, fun _ => True), (1, fun _ => True), (0, fun _ => True)]) rfl rfl rfl rfl (x_call (vs := [(Value.int .i64 (IntKind.i64.wrap (x34 + x36)))]) rfl rfl (mapl_cons rfl mapl_nil) Try.func16 NN_16 NB_16) (by kernel_rfl) (Calls.mono h ?_)
          rintro _ w8 ⟨r37, rfl, h⟩
          obtain ⟨o12, h⟩ := h
          obtain ⟨o7, h⟩ := h
          refine ⟨_, rfl, (held_cons o12 (held_cons trivial (held_cons trivial (held_cons trivial (held_cons trivial (held_cons o7 (held_cons trivial (held_cons trivial (held_cons trivial (held_cons trivial (held_cons trivial (held_cons trivial (held_cons trivial held_nil))))))))))))), ?_⟩
          refine wpD_take (v := (Value.agg #[(Value.int .i64 (IntKind.i64.wrap (l21.2.2 + 1))), (Value.int .i64 r37)])) 15 (fun _ => True) rfl (by kernel_rfl) (by kernel_rfl) (by kernel_rfl) rfl rfl rfl trivial (fun w _ => (x_build (qs := [(0, (Value.int .i64 (IntKind.i64.wrap (l21.2.2 + 1)))), (1, (Value.int .i64 r37))]) rfl (by rfl) (BD_39_0_1 (IntKind.i64.wrap (l21.2.2 + 1)) r37 _))) ?_
          refine wpD_all (rs := [16]) (by kernel_rfl) (by simp) (allD_cons ?_ allD_nil)
          obtain ⟨b38, hb38⟩ : ∃ u, u = w8.heap.size := ⟨_, rfl⟩
          obtain ⟨w9, hw38⟩ : ∃ u, u = w8.alloc (.cells #[(Value.int .i64 (IntKind.i64.wrap (l21.2.2 + 1))), (Value.int .i64 r37)] 39) := ⟨_, rfl⟩
          replace h := h b38 w9 hb38 hw38
          obtain ⟨o12, h⟩ := h
          obtain ⟨o7, h⟩ := h
          refine stepD_valL (L' := [(12, fun w => w.cell? (p35.add 1) = some (Value.int .i64 x36)), (11, fun _ => True), (10, fun _ => True), (9, fun _ => True), (8, fun _ => True), (7, fun w => w.cell? (p33.add 1) = some (Value.int .i64 x34)), (6, fun _ => True), (5, fun _ => True), (4, fun _ => True), (3, fun _ => True), (2, fun _ => True), (1, fun _ => True), (0, fun _ => True)]) (v := (Sl.v (⟨some ⟨b38, 0, none⟩, 1, 1⟩ : Sl))) (w' := w9) rfl rfl rfl rfl ((x_buildSlice (qs := [(0, (Value.agg #[(Value.int .i64 (IntKind.i64.wrap (l21.2.2 + 1))), (Value.int .i64 r37)]))]) rfl (by rfl) (BS_22_1_0 (IntKind.i64.wrap (l21.2.2 + 1)) r37)).trans (by rw [← hb38, ← hw38])) (by kernel_rfl) (held_cons o12 (held_cons trivial (held_cons trivial (held_cons trivial (held_cons trivial (held_cons o7 (held_cons trivial (held_cons trivial (held_cons trivial (held_cons trivial (held_cons trivial (held_cons trivial (held_cons trivial held_nil))))))))))))) ?_
          refine wpD_all (rs := [17]) (by kernel_rfl) (by simp) (allD_cons ?_ allD_nil)
          obtain ⟨r39, w10, q39, h⟩ := h
          obtain ⟨o12, h⟩ := h
          obtain ⟨o7, h⟩ := h
          refine stepD_valL (L' := [(12, fun w => w.cell? (p35.add 1) = some (Value.int .i64 x36)), (11, fun _ => True), (10, fun _ => True), (9, fun _ => True), (8, fun _ => True), (7, fun w => w.cell? (p33.add 1) = some (Value.int .i64 x34)), (6, fun _ => True), (5, fun _ => True), (4, fun _ => True), (3, fun _ => True), (2, fun _ => True), (1, fun _ => True)]) (v := (Sl.v r39)) (w' := w10) rfl rfl rfl rfl (x_append (s := l21.1) (u := (⟨some ⟨b38, 0, none⟩, 1, 1⟩ : Sl)) rfl rfl rfl rfl q39) (by kernel_rfl) (held_cons o12 (held_cons trivial (held_cons trivial (held_cons trivial (held_cons trivial (held_cons o7 (held_cons trivial (held_cons trivial (held_cons trivial (held_cons trivial (held_cons trivial (held_cons trivial held_nil)))))))))))) ?_
          refine wpD_take (v := (Sl.v r39)) 18 (fun _ => True) rfl (by kernel_rfl) (by kernel_rfl) (by kernel_rfl) rfl rfl rfl trivial (fun w _ => (x_assign (v := (Sl.v r39)) rfl rfl)) ?_
          exact wpD_done (by kernel_rfl) ⟨r39, ⟨rfl, e13, e14, e15, e16, e17, e18, e20, e23, e24, trivial⟩, h⟩
        clear h
        rintro l40 ρ w11 ⟨e22, e13, e14, e15, e16, e17, e18, e20, e23, e24, -⟩ h
        replace h := hk l40 w11 h
        clear hk
        refine wpC_region ?_
        refine wpR_val (v := (Sl.v l21.2.1)) (w' := w11) rfl rfl rfl (x_move (v := (Sl.v l21.2.1)) rfl e23) ?_
        refine wpR_val (v := (Value.int .i64 l21.2.2)) (w' := w11) rfl rfl rfl (x_move (v := (Value.int .i64 l21.2.2)) rfl e24) ?_
        refine wpR_val (v := (Value.int .i64 (IntKind.i64.wrap (l21.2.2 + 1)))) (w' := w11) rfl rfl rfl (x_add rfl rfl rfl) ?_
        refine wpR_val (v := (Sl.v r12.1)) (w' := w11) rfl rfl rfl (x_move (v := (Sl.v r12.1)) rfl e18) ?_
        refine wpR_val (v := (Value.int .i64 l21.2.2)) (w' := w11) rfl rfl rfl (x_move (v := (Value.int .i64 l21.2.2)) rfl e24) ?_
        obtain ⟨q41, z41, r41, h⟩ := h
        generalize hp41 : z41.add ((l21.2.2 : Int).toNat * 2) = p41 at h
        refine wpR_val (v := (Value.pointer (some p41))) (w' := w11) rfl rfl rfl ((x_indexAddr (s := r12.1) rfl rfl rfl ES_22 q41 r41).trans (by rw [hp41])) ?_
        refine wpR_val (v := (Value.pointer (some (p41.add 1)))) (w' := w11) rfl rfl rfl (x_fieldAddr rfl rfl FA_39_1) ?_
        obtain ⟨x42, q42, h⟩ := h
        refine wpR_val (v := (Value.int .i64 x42)) (w' := w11) rfl rfl rfl (x_load1 rfl rfl SH_3 q42) ?_
        refine wpR_val (v := (Value.int .i64 r11)) (w' := w11) rfl rfl rfl (x_move (v := (Value.int .i64 r11)) rfl e17) ?_
        refine wpR_val (v := (Value.int .i64 (IntKind.i64.wrap (x42 + r11)))) (w' := w11) rfl rfl rfl (x_add rfl rfl rfl) ?_
        refine wpR_enter rfl rfl rfl (x_call (vs := [(Value.int .i64 (IntKind.i64.wrap (x42 + r11)))]) rfl rfl (mapl_cons rfl mapl_nil) Try.func16 NN_16 NB_16) (Calls.mono h ?_)
        rintro _ w12 ⟨r43, rfl, h⟩
        refine ⟨_, rfl, ?_⟩
        refine wpR_val (v := (Value.agg #[(Value.int .i64 (IntKind.i64.wrap (l21.2.2 + 1))), (Value.int .i64 r43)])) (w' := w12) rfl rfl rfl (x_build (qs := [(0, (Value.int .i64 (IntKind.i64.wrap (l21.2.2 + 1)))), (1, (Value.int .i64 r43))]) rfl (by rfl) (BD_39_0_1 (IntKind.i64.wrap (l21.2.2 + 1)) r43 _)) ?_
        obtain ⟨b44, hb44⟩ : ∃ u, u = w12.heap.size := ⟨_, rfl⟩
        obtain ⟨w13, hw44⟩ : ∃ u, u = w12.alloc (.cells #[(Value.int .i64 (IntKind.i64.wrap (l21.2.2 + 1))), (Value.int .i64 r43)] 39) := ⟨_, rfl⟩
        replace h := h b44 w13 hb44 hw44
        refine wpR_val (v := (Sl.v (⟨some ⟨b44, 0, none⟩, 1, 1⟩ : Sl))) (w' := w13) rfl rfl rfl ((x_buildSlice (qs := [(0, (Value.agg #[(Value.int .i64 (IntKind.i64.wrap (l21.2.2 + 1))), (Value.int .i64 r43)]))]) rfl (by rfl) (BS_22_1_0 (IntKind.i64.wrap (l21.2.2 + 1)) r43)).trans (by rw [← hb44, ← hw44])) ?_
        obtain ⟨r45, w14, q45, h⟩ := h
        refine wpR_val (v := (Sl.v r45)) (w' := w14) rfl rfl rfl (x_append (s := l21.2.1) (u := (⟨some ⟨b44, 0, none⟩, 1, 1⟩ : Sl)) rfl rfl rfl rfl q45) ?_
        refine wpR_val (v := (Sl.v r45)) (w' := w14) rfl rfl rfl (x_assign (v := (Sl.v r45)) rfl rfl) ?_
        refine wpR_nil ?_
        refine wpC_cut (fun ρ => ρ 13 = (Value.bool r9) ∧ ρ 14 = (Value.int .i64 r10.1) ∧ ρ 15 = (Value.int .i64 r10.2.1) ∧ ρ 16 = (Value.int .i64 r10.2.2) ∧ ρ 17 = (Value.int .i64 r11) ∧ ρ 18 = (Sl.v r12.1) ∧ ρ 20 = (Sl.v r13.1) ∧ ρ 22 = (Sl.v l40) ∧ ρ 23 = (Sl.v r45) ∧ ρ 24 = (Value.int .i64 l21.2.2) ∧ True) ⟨e13, e14, e15, e16, e17, e18, e20, e22, rfl, e24, trivial⟩ ?_
        rintro ρ ⟨e13, e14, e15, e16, e17, e18, e20, e22, e23, e24, -⟩
        refine wpC_region ?_
        refine wpR_val (v := (Value.int .i64 l21.2.2)) (w' := w14) rfl rfl rfl (x_move (v := (Value.int .i64 l21.2.2)) rfl e24) ?_
        refine wpR_val (v := (Value.int .i64 (IntKind.i64.wrap (l21.2.2 + 1)))) (w' := w14) rfl rfl rfl (x_add rfl rfl rfl) ?_
        refine wpR_val (v := (Value.int .i64 (IntKind.i64.wrap (l21.2.2 + 1)))) (w' := w14) rfl rfl rfl (x_assign (v := (Value.int .i64 (IntKind.i64.wrap (l21.2.2 + 1)))) rfl rfl) ?_
        refine wpR_nil ?_
        exact ⟨(l40, r45, IntKind.i64.wrap (l21.2.2 + 1)), ⟨e22, e23, rfl, e13, e14, e15, e16, e17, e18, e20, trivial⟩, h⟩
    · replace h := h.2 hc22
      refine wpC_exit ?_
      refine wpC_seq ?_
      refine wpC_cut (fun ρ => ρ 13 = (Value.bool r9) ∧ ρ 14 = (Value.int .i64 r10.1) ∧ ρ 15 = (Value.int .i64 r10.2.1) ∧ ρ 17 = (Value.int .i64 r11) ∧ ρ 22 = (Sl.v l21.1) ∧ ρ 23 = (Sl.v l21.2.1) ∧ True) ⟨e13, e14, e15, e17, e22, e23, trivial⟩ ?_
      rintro ρ ⟨e13, e14, e15, e17, e22, e23, -⟩
      refine wpC_region ?_
      refine wpR_val (v := (Sl.v l21.1)) (w' := w6) rfl rfl rfl (x_move (v := (Sl.v l21.1)) rfl e22) ?_
      refine wpR_val (v := (Value.int .i64 r10.2.1)) (w' := w6) rfl rfl rfl (x_move (v := (Value.int .i64 r10.2.1)) rfl e15) ?_
      refine wpR_enter rfl rfl rfl (x_call (vs := [(Sl.v l21.1), (Value.int .i64 r10.2.1)]) rfl rfl (mapl_cons rfl (mapl_cons rfl mapl_nil)) Try.func10 NN_10 NB_10) (Calls.mono h ?_)
      rintro _ w15 ⟨r46, rfl, h⟩
      refine ⟨_, rfl, ?_⟩
      refine wpR_val (v := (Value.tuple #[(Value.int .i64 r46.1), (Value.int .i64 r46.2)])) (w' := w15) rfl rfl rfl (x_move (v := (Value.tuple #[(Value.int .i64 r46.1), (Value.int .i64 r46.2)])) rfl rfl) ?_
      refine wpR_val (v := (Value.int .i64 r46.1)) (w' := w15) rfl rfl rfl (x_extract rfl rfl rfl) ?_
      refine wpR_val (v := (Value.int .i64 r46.2)) (w' := w15) rfl rfl rfl (x_extract rfl rfl rfl) ?_
      refine wpR_val (v := (Value.int .i64 r46.1)) (w' := w15) rfl rfl rfl (x_assign (v := (Value.int .i64 r46.1)) rfl rfl) ?_
      refine wpR_val (v := (Value.int .i64 r46.2)) (w' := w15) rfl rfl rfl (x_assign (v := (Value.int .i64 r46.2)) rfl rfl) ?_
      refine wpR_nil ?_
      refine wpC_seq ?_
      refine wpC_cut (fun ρ => ρ 13 = (Value.bool r9) ∧ ρ 14 = (Value.int .i64 r10.1) ∧ ρ 15 = (Value.int .i64 r10.2.1) ∧ ρ 17 = (Value.int .i64 r11) ∧ ρ 23 = (Sl.v l21.2.1) ∧ ρ 25 = (Value.int .i64 r46.1) ∧ ρ 26 = (Value.int .i64 r46.2) ∧ True) ⟨e13, e14, e15, e17, e23, rfl, rfl, trivial⟩ ?_
      rintro ρ ⟨e13, e14, e15, e17, e23, e25, e26, -⟩
      refine wpC_region ?_
      refine wpR_val (v := (Sl.v l21.2.1)) (w' := w15) rfl rfl rfl (x_move (v := (Sl.v l21.2.1)) rfl e23) ?_
      refine wpR_val (v := (Value.int .i64 r10.2.1)) (w' := w15) rfl rfl rfl (x_move (v := (Value.int .i64 r10.2.1)) rfl e15) ?_
      refine wpR_enter rfl rfl rfl (x_call (vs := [(Sl.v l21.2.1), (Value.int .i64 r10.2.1)]) rfl rfl (mapl_cons rfl (mapl_cons rfl mapl_nil)) Try.func10 NN_10 NB_10) (Calls.mono h ?_)
      rintro _ w16 ⟨r47, rfl, h⟩
      refine ⟨_, rfl, ?_⟩
      refine wpR_val (v := (Value.tuple #[(Value.int .i64 r47.1), (Value.int .i64 r47.2)])) (w' := w16) rfl rfl rfl (x_move (v := (Value.tuple #[(Value.int .i64 r47.1), (Value.int .i64 r47.2)])) rfl rfl) ?_
      refine wpR_val (v := (Value.int .i64 r47.1)) (w' := w16) rfl rfl rfl (x_extract rfl rfl rfl) ?_
      refine wpR_val (v := (Value.int .i64 r47.2)) (w' := w16) rfl rfl rfl (x_extract rfl rfl rfl) ?_
      refine wpR_val (v := (Value.int .i64 r47.1)) (w' := w16) rfl rfl rfl (x_assign (v := (Value.int .i64 r47.1)) rfl rfl) ?_
      refine wpR_val (v := (Value.int .i64 r47.2)) (w' := w16) rfl rfl rfl (x_assign (v := (Value.int .i64 r47.2)) rfl rfl) ?_
      refine wpR_nil ?_
      refine wpC_seq ?_
      refine wpC_cut (fun ρ => ρ 13 = (Value.bool r9) ∧ ρ 14 = (Value.int .i64 r10.1) ∧ ρ 17 = (Value.int .i64 r11) ∧ ρ 25 = (Value.int .i64 r46.1) ∧ ρ 26 = (Value.int .i64 r46.2) ∧ ρ 27 = (Value.int .i64 r47.1) ∧ ρ 28 = (Value.int .i64 r47.2) ∧ True) ⟨e13, e14, e17, e25, e26, rfl, rfl, trivial⟩ ?_
      rintro ρ ⟨e13, e14, e17, e25, e26, e27, e28, -⟩
      refine wpC_region ?_
      refine wpR_val (v := (Value.bool r9)) (w' := w16) rfl rfl rfl (x_move (v := (Value.bool r9)) rfl e13) ?_
      refine wpR_val (v := (Value.bool r9)) (w' := w16) rfl rfl rfl (x_move (v := (Value.bool r9)) rfl rfl) ?_
      refine wpR_joinJ 3 (fun (_ : Unit) ρ => ρ 145 = Value.bool (r9 && (decide (r46.2 = 0))) ∧ ρ 14 = (Value.int .i64 r10.1) ∧ ρ 17 = (Value.int .i64 r11) ∧ ρ 25 = (Value.int .i64 r46.1) ∧ ρ 27 = (Value.int .i64 r47.1) ∧ ρ 28 = (Value.int .i64 r47.2) ∧ True) (fun _ w => w16 = w) ?_ ?_
      · clear h
        rcases Bool.eq_false_or_eq_true (r9) with hc49 | hc49
        · skip
          refine wpR_val (v := (Value.int .i64 r46.2)) (w' := w16) (wantG rfl rfl rfl hc49) rfl rfl (x_move (v := (Value.int .i64 r46.2)) rfl e26) ?_
          refine wpR_val (v := (Value.bool (decide (r46.2 = 0)))) (w' := w16) (wantG rfl rfl rfl hc49) rfl rfl (x_eql rfl rfl rfl) ?_
          refine wpR_val (v := (Value.bool (decide (r46.2 = 0)))) (w' := w16) rfl rfl rfl (x_pickT (v := (Value.bool (decide (r46.2 = 0)))) rfl rfl hc49 rfl) ?_
          refine wpR_nil ?_
          exact ⟨(), ⟨(by rw [hc49]; rfl), e14, e17, e25, e27, e28, trivial⟩, rfl⟩
        · skip
          refine wpR_pass (wantN rfl rfl rfl hc49) rfl rfl ?_
          refine wpR_pass (wantN rfl rfl rfl hc49) rfl rfl ?_
          refine wpR_val (v := (Value.bool false)) (w' := w16) rfl rfl rfl (x_pickF (v := (Value.bool false)) rfl rfl hc49 rfl) ?_
          refine wpR_nil ?_
          exact ⟨(), ⟨(by rw [hc49]; rfl), e14, e17, e25, e27, e28, trivial⟩, rfl⟩
      rintro _ ρ wj ⟨e145, e14, e17, e25, e27, e28, -⟩ rfl
      refine wpR_val (v := (Value.bool (r9 && (decide (r46.2 = 0))))) (w' := w16) rfl rfl rfl (x_move (v := (Value.bool (r9 && (decide (r46.2 = 0))))) rfl e145) ?_
      refine wpR_joinJ 3 (fun (_ : Unit) ρ => ρ 149 = Value.bool ((r9 && (decide (r46.2 = 0))) && (decide (r47.2 = 0))) ∧ ρ 14 = (Value.int .i64 r10.1) ∧ ρ 17 = (Value.int .i64 r11) ∧ ρ 25 = (Value.int .i64 r46.1) ∧ ρ 27 = (Value.int .i64 r47.1) ∧ True) (fun _ w => w16 = w) ?_ ?_
      · clear h
        rcases Bool.eq_false_or_eq_true (r9 && (decide (r46.2 = 0))) with hc51 | hc51
        · skip
          refine wpR_val (v := (Value.int .i64 r47.2)) (w' := w16) (wantG rfl rfl rfl hc51) rfl rfl (x_move (v := (Value.int .i64 r47.2)) rfl e28) ?_
          refine wpR_val (v := (Value.bool (decide (r47.2 = 0)))) (w' := w16) (wantG rfl rfl rfl hc51) rfl rfl (x_eql rfl rfl rfl) ?_
          refine wpR_val (v := (Value.bool (decide (r47.2 = 0)))) (w' := w16) rfl rfl rfl (x_pickT (v := (Value.bool (decide (r47.2 = 0)))) rfl rfl hc51 rfl) ?_
          refine wpR_nil ?_
          exact ⟨(), ⟨(by rw [hc51]; rfl), e14, e17, e25, e27, trivial⟩, rfl⟩
        · skip
          refine wpR_pass (wantN rfl rfl rfl hc51) rfl rfl ?_
          refine wpR_pass (wantN rfl rfl rfl hc51) rfl rfl ?_
          refine wpR_val (v := (Value.bool false)) (w' := w16) rfl rfl rfl (x_pickF (v := (Value.bool false)) rfl rfl hc51 rfl) ?_
          refine wpR_nil ?_
          exact ⟨(), ⟨(by rw [hc51]; rfl), e14, e17, e25, e27, trivial⟩, rfl⟩
      rintro _ ρ wj ⟨e149, e14, e17, e25, e27, -⟩ rfl
      refine wpR_val (v := (Value.bool ((r9 && (decide (r46.2 = 0))) && (decide (r47.2 = 0))))) (w' := w16) rfl rfl rfl (x_move (v := (Value.bool ((r9 && (decide (r46.2 = 0))) && (decide (r47.2 = 0))))) rfl e149) ?_
      obtain ⟨J52, h, hk⟩ := h
      refine wpR_joinJ 7 (fun x ρ => ρ 157 = Value.bool x ∧ ρ 14 = (Value.int .i64 r10.1) ∧ ρ 17 = (Value.int .i64 r11) ∧ ρ 27 = (Value.int .i64 r47.1) ∧ True) (J52) ?_ ?_
      · clear hk
        rcases Bool.eq_false_or_eq_true ((r9 && (decide (r46.2 = 0))) && (decide (r47.2 = 0))) with hc53 | hc53
        · replace h := h.1 hc53
          refine wpR_val (v := (Value.int .i64 r46.1)) (w' := w16) (wantG rfl rfl rfl hc53) rfl rfl (x_move (v := (Value.int .i64 r46.1)) rfl e25) ?_
          refine wpR_val (v := (Value.int .i64 r10.1)) (w' := w16) (wantG rfl rfl rfl hc53) rfl rfl (x_move (v := (Value.int .i64 r10.1)) rfl e14) ?_
          refine wpR_val (v := (Value.int .i64 r11)) (w' := w16) (wantG rfl rfl rfl hc53) rfl rfl (x_move (v := (Value.int .i64 r11)) rfl e17) ?_
          refine wpR_val (v := (Value.int .i64 (IntKind.i64.wrap (r10.1 + r11)))) (w' := w16) (wantG rfl rfl rfl hc53) rfl rfl (x_add rfl rfl rfl) ?_
          refine wpR_enter (wantG rfl rfl rfl hc53) rfl rfl (x_call (vs := [(Value.int .i64 (IntKind.i64.wrap (r10.1 + r11)))]) rfl rfl (mapl_cons rfl mapl_nil) Try.func16 NN_16 NB_16) (Calls.mono h ?_)
          rintro _ w17 ⟨r54, rfl, h⟩
          refine ⟨_, rfl, ?_⟩
          refine wpR_val (v := (Value.bool (decide (r46.1 = r54)))) (w' := w17) (wantG rfl rfl rfl hc53) rfl rfl (x_eql rfl rfl rfl) ?_
          refine wpR_val (v := (Value.bool (decide (r46.1 = r54)))) (w' := w17) rfl rfl rfl (x_pickT (v := (Value.bool (decide (r46.1 = r54)))) rfl rfl hc53 rfl) ?_
          refine wpR_nil ?_
          exact ⟨decide (r46.1 = r54), ⟨rfl, e14, e17, e27, trivial⟩, h⟩
        · replace h := h.2 hc53
          refine wpR_pass (wantN rfl rfl rfl hc53) rfl rfl ?_
          refine wpR_pass (wantN rfl rfl rfl hc53) rfl rfl ?_
          refine wpR_pass (wantN rfl rfl rfl hc53) rfl rfl ?_
          refine wpR_pass (wantN rfl rfl rfl hc53) rfl rfl ?_
          refine wpR_pass (wantN rfl rfl rfl hc53) rfl rfl ?_
          refine wpR_pass (wantN rfl rfl rfl hc53) rfl rfl ?_
          refine wpR_val (v := (Value.bool false)) (w' := w16) rfl rfl rfl (x_pickF (v := (Value.bool false)) rfl rfl hc53 rfl) ?_
          refine wpR_nil ?_
          exact ⟨false, ⟨rfl, e14, e17, e27, trivial⟩, h⟩
      clear h
      rintro c55 ρ w18 ⟨e157, e14, e17, e27, -⟩ h
      replace h := hk c55 w18 h
      clear hk
      refine wpR_val (v := (Value.bool c55)) (w' := w18) rfl rfl rfl (x_move (v := (Value.bool c55)) rfl e157) ?_
      obtain ⟨J56, h, hk⟩ := h
      refine wpR_joinJ 7 (fun x ρ => ρ 165 = Value.bool x ∧ True) (J56) ?_ ?_
      · clear hk
        rcases Bool.eq_false_or_eq_true (c55) with hc57 | hc57
        · replace h := h.1 hc57
          refine wpR_val (v := (Value.int .i64 r47.1)) (w' := w18) (wantG rfl rfl rfl hc57) rfl rfl (x_move (v := (Value.int .i64 r47.1)) rfl e27) ?_
          refine wpR_val (v := (Value.int .i64 r10.1)) (w' := w18) (wantG rfl rfl rfl hc57) rfl rfl (x_move (v := (Value.int .i64 r10.1)) rfl e14) ?_
          refine wpR_val (v := (Value.int .i64 r11)) (w' := w18) (wantG rfl rfl rfl hc57) rfl rfl (x_move (v := (Value.int .i64 r11)) rfl e17) ?_
          refine wpR_val (v := (Value.int .i64 (IntKind.i64.wrap (r10.1 + r11)))) (w' := w18) (wantG rfl rfl rfl hc57) rfl rfl (x_add rfl rfl rfl) ?_
          refine wpR_enter (wantG rfl rfl rfl hc57) rfl rfl (x_call (vs := [(Value.int .i64 (IntKind.i64.wrap (r10.1 + r11)))]) rfl rfl (mapl_cons rfl mapl_nil) Try.func16 NN_16 NB_16) (Calls.mono h ?_)
          rintro _ w19 ⟨r58, rfl, h⟩
          refine ⟨_, rfl, ?_⟩
          refine wpR_val (v := (Value.bool (decide (r47.1 = r58)))) (w' := w19) (wantG rfl rfl rfl hc57) rfl rfl (x_eql rfl rfl rfl) ?_
          refine wpR_val (v := (Value.bool (decide (r47.1 = r58)))) (w' := w19) rfl rfl rfl (x_pickT (v := (Value.bool (decide (r47.1 = r58)))) rfl rfl hc57 rfl) ?_
          refine wpR_nil ?_
          exact ⟨decide (r47.1 = r58), ⟨rfl, trivial⟩, h⟩
        · replace h := h.2 hc57
          refine wpR_pass (wantN rfl rfl rfl hc57) rfl rfl ?_
          refine wpR_pass (wantN rfl rfl rfl hc57) rfl rfl ?_
          refine wpR_pass (wantN rfl rfl rfl hc57) rfl rfl ?_
          refine wpR_pass (wantN rfl rfl rfl hc57) rfl rfl ?_
          refine wpR_pass (wantN rfl rfl rfl hc57) rfl rfl ?_
          refine wpR_pass (wantN rfl rfl rfl hc57) rfl rfl ?_
          refine wpR_val (v := (Value.bool false)) (w' := w18) rfl rfl rfl (x_pickF (v := (Value.bool false)) rfl rfl hc57 rfl) ?_
          refine wpR_nil ?_
          exact ⟨false, ⟨rfl, trivial⟩, h⟩
      clear h
      rintro c59 ρ w20 ⟨e165, -⟩ h
      replace h := hk c59 w20 h
      clear hk
      refine wpR_val (v := (Value.bool c59)) (w' := w20) rfl rfl rfl (x_assign (v := (Value.bool c59)) rfl e165) ?_
      refine wpR_nil ?_
      refine wpC_ret ?_
      exact ⟨.inl rfl, fun a ha => ⟨_, results_rep1 rfl ha rfl, c59, rfl, h⟩⟩

/-- lingualaw06.ShareChanges -/
def F6 (p0 : Int) (p1 : Int) (p2 : Int) (p3 : Int) (p4 : Int) (p5 : Int) (w0 : World) (K : Bool → World → Prop) : Prop :=
  callC Try.prog 7 #[] (fun (r : Bool) => (Value.bool r)) w0 fun r9 w1 =>
  callC Try.prog 15 #[(Value.int .i64 p0), (Value.int .u8 p1), (Value.int .u8 p2)] (fun (r : Int × Int × Int) => (Value.tuple #[(Value.int .i64 r.1), (Value.int .i64 r.2.1), (Value.int .i64 r.2.2)])) w1 fun r10 w2 =>
  callC Try.prog 16 #[(Value.int .i64 p5)] (fun (r : Int) => (Value.int .i64 r)) w2 fun r11 w3 =>
  callC Try.prog 8 #[(Value.int .i64 r10.1), (Value.int .i64 r10.2.1), (Value.int .i64 r10.2.2), (Value.int .i64 p3)] (fun (r : Sl × Int) => (Value.tuple #[(Sl.v r.1), (Value.int .i64 r.2)])) w3 fun r12 w4 =>
  cnd ((!decide (r12.2 = 0)) || (!decide ((r12.1.len : Int) = r10.2.2)))
    (
    K false w4
    )
    (
    r10.2.2 ≠ 0 ∧
    nw 39 #[] w4 fun b17 w5 =>
    rn Try.prog (Builtin.append_ #[22, 22] 22 #[Sl.v (⟨some ⟨b17, 0, none⟩, 0, 0⟩ : Sl), Sl.v r12.1]) Sl.v w5 fun r18 w6 =>
    ix r18 ((IntKind.i64.wrap p4).tmod r10.2.2) 2 fun p19 =>
    ld (Value.int .i64) (p19.add 1) w6 fun x20 =>
    callC Try.prog 16 #[(Value.int .i64 (IntKind.i64.wrap (x20 + r11)))] (fun (r : Int) => (Value.int .i64 r)) w6 fun r21 w7 =>
    ix r18 ((IntKind.i64.wrap p4).tmod r10.2.2) 2 fun p22 =>
    st (p22.add 1) [(Value.int .i64 r21)] w7 fun w8 =>
    callC Try.prog 10 #[(Sl.v r18), (Value.int .i64 r10.2.1)] (fun (r : Int × Int) => (Value.tuple #[(Value.int .i64 r.1), (Value.int .i64 r.2)])) w8 fun r24 w9 =>
    jn (fun (J26 : (Int × Int) → World → Prop) => tk w9 fun w10 =>
      (
        nw 39 #[] w10 fun b27 w11 =>
        (
          rn Try.prog (Instr.sliceAt 22 (Sl.v r12.1) none (some (Value.int .i64 ((IntKind.i64.wrap p4).tmod r10.2.2))) none) (fun (r : Sl) => (Sl.v r)) w11 fun r28 w12 =>
          (
            rn Try.prog (Builtin.append_ #[22, 22] 22 #[Sl.v (⟨some ⟨b27, 0, none⟩, 0, 0⟩ : Sl), Sl.v r28]) Sl.v w12 fun r29 w13 =>
            rn Try.prog (Instr.sliceAt 22 (Sl.v r12.1) (some (Value.int .i64 (IntKind.i64.wrap (((IntKind.i64.wrap p4).tmod r10.2.2) + 1)))) none none) (fun (r : Sl) => (Sl.v r)) w13 fun r30 w14 =>
            rn Try.prog (Builtin.append_ #[22, 22] 22 #[Sl.v r29, Sl.v r30]) Sl.v w14 fun r31 w15 =>
            callC Try.prog 10 #[(Sl.v r31), (Value.int .i64 r10.2.1)] (fun (r : Int × Int) => (Value.tuple #[(Value.int .i64 r.1), (Value.int .i64 r.2)])) w15 fun r32 w16 =>
            J26 (r32.1, r32.2) w16
          )
          ∧
          (
            rn Try.prog (Instr.sliceAt 22 (Sl.v r12.1) (some (Value.int .i64 (IntKind.i64.wrap (((IntKind.i64.wrap p4).tmod r10.2.2) + 1)))) none none) (fun (r : Sl) => (Sl.v r)) w12 fun r33 w17 =>
            rn Try.prog (Builtin.append_ #[22, 22] 22 #[Sl.v (⟨some ⟨b27, 0, none⟩, 0, 0⟩ : Sl), Sl.v r28]) Sl.v w17 fun r34 w18 =>
            rn Try.prog (Builtin.append_ #[22, 22] 22 #[Sl.v r34, Sl.v r33]) Sl.v w18 fun r35 w19 =>
            callC Try.prog 10 #[(Sl.v r35), (Value.int .i64 r10.2.1)] (fun (r : Int × Int) => (Value.tuple #[(Value.int .i64 r.1), (Value.int .i64 r.2)])) w19 fun r36 w20 =>
            J26 (r36.1, r36.2) w20
          )
        )
        ∧
        (
          rn Try.prog (Instr.sliceAt 22 (Sl.v r12.1) (some (Value.int .i64 (IntKind.i64.wrap (((IntKind.i64.wrap p4).tmod r10.2.2) + 1)))) none none) (fun (r : Sl) => (Sl.v r)) w11 fun r37 w21 =>
          rn Try.prog (Instr.sliceAt 22 (Sl.v r12.1) none (some (Value.int .i64 ((IntKind.i64.wrap p4).tmod r10.2.2))) none) (fun (r : Sl) => (Sl.v r)) w21 fun r38 w22 =>
          rn Try.prog (Builtin.append_ #[22, 22] 22 #[Sl.v (⟨some ⟨b27, 0, none⟩, 0, 0⟩ : Sl), Sl.v r38]) Sl.v w22 fun r39 w23 =>
          rn Try.prog (Builtin.append_ #[22, 22] 22 #[Sl.v r39, Sl.v r37]) Sl.v w23 fun r40 w24 =>
          callC Try.prog 10 #[(Sl.v r40), (Value.int .i64 r10.2.1)] (fun (r : Int × Int) => (Value.tuple #[(Value.int .i64 r.1), (Value.int .i64 r.2)])) w24 fun r41 w25 =>
          J26 (r41.1, r41.2) w25
        )
      )
      ∧
      (
        rn Try.prog (Instr.sliceAt 22 (Sl.v r12.1) none (some (Value.int .i64 ((IntKind.i64.wrap p4).tmod r10.2.2))) none) (fun (r : Sl) => (Sl.v r)) w10 fun r42 w26 =>
        (
          nw 39 #[] w26 fun b43 w27 =>
          (
            rn Try.prog (Builtin.append_ #[22, 22] 22 #[Sl.v (⟨some ⟨b43, 0, none⟩, 0, 0⟩ : Sl), Sl.v r42]) Sl.v w27 fun r44 w28 =>
            rn Try.prog (Instr.sliceAt 22 (Sl.v r12.1) (some (Value.int .i64 (IntKind.i64.wrap (((IntKind.i64.wrap p4).tmod r10.2.2) + 1)))) none none) (fun (r : Sl) => (Sl.v r)) w28 fun r45 w29 =>
            rn Try.prog (Builtin.append_ #[22, 22] 22 #[Sl.v r44, Sl.v r45]) Sl.v w29 fun r46 w30 =>
            callC Try.prog 10 #[(Sl.v r46), (Value.int .i64 r10.2.1)] (fun (r : Int × Int) => (Value.tuple #[(Value.int .i64 r.1), (Value.int .i64 r.2)])) w30 fun r47 w31 =>
            J26 (r47.1, r47.2) w31
          )
          ∧
          (
            rn Try.prog (Instr.sliceAt 22 (Sl.v r12.1) (some (Value.int .i64 (IntKind.i64.wrap (((IntKind.i64.wrap p4).tmod r10.2.2) + 1)))) none none) (fun (r : Sl) => (Sl.v r)) w27 fun r48 w32 =>
            rn Try.prog (Builtin.append_ #[22, 22] 22 #[Sl.v (⟨some ⟨b43, 0, none⟩, 0, 0⟩ : Sl), Sl.v r42]) Sl.v w32 fun r49 w33 =>
            rn Try.prog (Builtin.append_ #[22, 22] 22 #[Sl.v r49, Sl.v r48]) Sl.v w33 fun r50 w34 =>
            callC Try.prog 10 #[(Sl.v r50), (Value.int .i64 r10.2.1)] (fun (r : Int × Int) => (Value.tuple #[(Value.int .i64 r.1), (Value.int .i64 r.2)])) w34 fun r51 w35 =>
            J26 (r51.1, r51.2) w35
          )
        )
        ∧
        (
          rn Try.prog (Instr.sliceAt 22 (Sl.v r12.1) (some (Value.int .i64 (IntKind.i64.wrap (((IntKind.i64.wrap p4).tmod r10.2.2) + 1)))) none none) (fun (r : Sl) => (Sl.v r)) w26 fun r52 w36 =>
          nw 39 #[] w36 fun b53 w37 =>
          rn Try.prog (Builtin.append_ #[22, 22] 22 #[Sl.v (⟨some ⟨b53, 0, none⟩, 0, 0⟩ : Sl), Sl.v r42]) Sl.v w37 fun r54 w38 =>
          rn Try.prog (Builtin.append_ #[22, 22] 22 #[Sl.v r54, Sl.v r52]) Sl.v w38 fun r55 w39 =>
          callC Try.prog 10 #[(Sl.v r55), (Value.int .i64 r10.2.1)] (fun (r : Int × Int) => (Value.tuple #[(Value.int .i64 r.1), (Value.int .i64 r.2)])) w39 fun r56 w40 =>
          J26 (r56.1, r56.2) w40
        )
      )
      ∧
      (
        rn Try.prog (Instr.sliceAt 22 (Sl.v r12.1) (some (Value.int .i64 (IntKind.i64.wrap (((IntKind.i64.wrap p4).tmod r10.2.2) + 1)))) none none) (fun (r : Sl) => (Sl.v r)) w10 fun r57 w41 =>
        (
          nw 39 #[] w41 fun b58 w42 =>
          rn Try.prog (Instr.sliceAt 22 (Sl.v r12.1) none (some (Value.int .i64 ((IntKind.i64.wrap p4).tmod r10.2.2))) none) (fun (r : Sl) => (Sl.v r)) w42 fun r59 w43 =>
          rn Try.prog (Builtin.append_ #[22, 22] 22 #[Sl.v (⟨some ⟨b58, 0, none⟩, 0, 0⟩ : Sl), Sl.v r59]) Sl.v w43 fun r60 w44 =>
          rn Try.prog (Builtin.append_ #[22, 22] 22 #[Sl.v r60, Sl.v r57]) Sl.v w44 fun r61 w45 =>
          callC Try.prog 10 #[(Sl.v r61), (Value.int .i64 r10.2.1)] (fun (r : Int × Int) => (Value.tuple #[(Value.int .i64 r.1), (Value.int .i64 r.2)])) w45 fun r62 w46 =>
          J26 (r62.1, r62.2) w46
        )
        ∧
        (
          rn Try.prog (Instr.sliceAt 22 (Sl.v r12.1) none (some (Value.int .i64 ((IntKind.i64.wrap p4).tmod r10.2.2))) none) (fun (r : Sl) => (Sl.v r)) w41 fun r63 w47 =>
          nw 39 #[] w47 fun b64 w48 =>
          rn Try.prog (Builtin.append_ #[22, 22] 22 #[Sl.v (⟨some ⟨b64, 0, none⟩, 0, 0⟩ : Sl), Sl.v r63]) Sl.v w48 fun r65 w49 =>
          rn Try.prog (Builtin.append_ #[22, 22] 22 #[Sl.v r65, Sl.v r57]) Sl.v w49 fun r66 w50 =>
          callC Try.prog 10 #[(Sl.v r66), (Value.int .i64 r10.2.1)] (fun (r : Int × Int) => (Value.tuple #[(Value.int .i64 r.1), (Value.int .i64 r.2)])) w50 fun r67 w51 =>
          J26 (r67.1, r67.2) w51
        )
      )
    )
    fun l68 w52 =>
    cnd (((decide (r10.2.1 < r10.2.2)) && ((!decide (l68.2 = 0)) || (!decide (l68.1 = r10.1)))) || ((decide (r10.2.2 = r10.2.1)) && (!decide (l68.2 = 20))))
      (
      K false w52
      )
      (
      cnd (decide (r11 = 0))
        (
        K ((r9 && (decide (r24.2 = 0))) && (decide (r24.1 = r10.1))) w52
        )
        (
        cnd (decide (r10.2.1 < r10.2.2))
          (
          K ((r9 && (decide (r24.2 = 18))) && (decide (r24.1 = 0))) w52
          )
          (
          K ((r9 && (decide (r24.2 = 0))) && (!decide (r24.1 = r10.1))) w52
          )
        )
      )
    )
set_option maxRecDepth 100000 in
theorem D6 (p0 : Int) (p1 : Int) (p2 : Int) (p3 : Int) (p4 : Int) (p5 : Int) (w0 : World) (K : Bool → World → Prop) (h : F6 p0 p1 p2 p3 p4 p5 w0 K) : callC Try.prog 6 #[(Value.int .i64 p0), (Value.int .u8 p1), (Value.int .u8 p2), (Value.int .i64 p3), (Value.int .u8 p4), (Value.int .i64 p5)] (fun (r : Bool) => (Value.bool r)) w0 K := by
  unfold F6 at h
  refine calls_of_wpC Try.func6 rfl 148 rfl (by simp) ?_
  intro ρ hρ
  have e0 : ρ 0 = (Value.int .i64 p0) := hρ 0
  have e1 : ρ 1 = (Value.int .u8 p1) := hρ 1
  have e2 : ρ 2 = (Value.int .u8 p2) := hρ 2
  have e3 : ρ 3 = (Value.int .i64 p3) := hρ 3
  have e4 : ρ 4 = (Value.int .u8 p4) := hρ 4
  have e5 : ρ 5 = (Value.int .i64 p5) := hρ 5
  clear hρ
  refine wpC_seq ?_
  refine wpC_region ?_
  refine wpR_val (v := (Value.bool false)) (w' := w0) rfl rfl rfl (x_assign (v := (Value.bool false)) rfl rfl) ?_
  refine wpR_nil ?_
  refine wpC_seq ?_
  refine wpC_cut (fun ρ => ρ 0 = (Value.int .i64 p0) ∧ ρ 1 = (Value.int .u8 p1) ∧ ρ 2 = (Value.int .u8 p2) ∧ ρ 3 = (Value.int .i64 p3) ∧ ρ 4 = (Value.int .u8 p4) ∧ ρ 5 = (Value.int .i64 p5) ∧ True) ⟨e0, e1, e2, e3, e4, e5, trivial⟩ ?_
  rintro ρ ⟨e0, e1, e2, e3, e4, e5, -⟩
  refine wpC_region ?_
  refine wpR_enter rfl rfl rfl (x_call (vs := []) rfl rfl mapl_nil Try.func7 NN_7 NB_7) (Calls.mono h ?_)
  rintro _ w1 ⟨r9, rfl, h⟩
  refine ⟨_, rfl, ?_⟩
  refine wpR_val (v := (Value.bool r9)) (w' := w1) rfl rfl rfl (x_assign (v := (Value.bool r9)) rfl rfl) ?_
  refine wpR_nil ?_
  refine wpC_seq ?_
  refine wpC_cut (fun ρ => ρ 0 = (Value.int .i64 p0) ∧ ρ 1 = (Value.int .u8 p1) ∧ ρ 2 = (Value.int .u8 p2) ∧ ρ 3 = (Value.int .i64 p3) ∧ ρ 4 = (Value.int .u8 p4) ∧ ρ 5 = (Value.int .i64 p5) ∧ ρ 13 = (Value.bool r9) ∧ True) ⟨e0, e1, e2, e3, e4, e5, rfl, trivial⟩ ?_
  rintro ρ ⟨e0, e1, e2, e3, e4, e5, e13, -⟩
  refine wpC_region ?_
  refine wpR_val (v := (Value.int .i64 p0)) (w' := w1) rfl rfl rfl (x_move (v := (Value.int .i64 p0)) rfl e0) ?_
  refine wpR_val (v := (Value.int .u8 p1)) (w' := w1) rfl rfl rfl (x_move (v := (Value.int .u8 p1)) rfl e1) ?_
  refine wpR_val (v := (Value.int .u8 p2)) (w' := w1) rfl rfl rfl (x_move (v := (Value.int .u8 p2)) rfl e2) ?_
  refine wpR_enter rfl rfl rfl (x_call (vs := [(Value.int .i64 p0), (Value.int .u8 p1), (Value.int .u8 p2)]) rfl rfl (mapl_cons rfl (mapl_cons rfl (mapl_cons rfl mapl_nil))) Try.func15 NN_15 NB_15) (Calls.mono h ?_)
  rintro _ w2 ⟨r10, rfl, h⟩
  refine ⟨_, rfl, ?_⟩
  refine wpR_val (v := (Value.tuple #[(Value.int .i64 r10.1), (Value.int .i64 r10.2.1), (Value.int .i64 r10.2.2)])) (w' := w2) rfl rfl rfl (x_move (v := (Value.tuple #[(Value.int .i64 r10.1), (Value.int .i64 r10.2.1), (Value.int .i64 r10.2.2)])) rfl rfl) ?_
  refine wpR_val (v := (Value.int .i64 r10.1)) (w' := w2) rfl rfl rfl (x_extract rfl rfl rfl) ?_
  refine wpR_val (v := (Value.int .i64 r10.2.1)) (w' := w2) rfl rfl rfl (x_extract rfl rfl rfl) ?_
  refine wpR_val (v := (Value.int .i64 r10.2.2)) (w' := w2) rfl rfl rfl (x_extract rfl rfl rfl) ?_
  refine wpR_val (v := (Value.int .i64 r10.1)) (w' := w2) rfl rfl rfl (x_assign (v := (Value.int .i64 r10.1)) rfl rfl) ?_
  refine wpR_val (v := (Value.int .i64 r10.2.1)) (w' := w2) rfl rfl rfl (x_assign (v := (Value.int .i64 r10.2.1)) rfl rfl) ?_
  refine wpR_val (v := (Value.int .i64 r10.2.2)) (w' := w2) rfl rfl rfl (x_assign (v := (Value.int .i64 r10.2.2)) rfl rfl) ?_
  refine wpR_nil ?_
  refine wpC_seq ?_
  refine wpC_cut (fun ρ => ρ 3 = (Value.int .i64 p3) ∧ ρ 4 = (Value.int .u8 p4) ∧ ρ 5 = (Value.int .i64 p5) ∧ ρ 13 = (Value.bool r9) ∧ ρ 14 = (Value.int .i64 r10.1) ∧ ρ 15 = (Value.int .i64 r10.2.1) ∧ ρ 16 = (Value.int .i64 r10.2.2) ∧ True) ⟨e3, e4, e5, e13, rfl, rfl, rfl, trivial⟩ ?_
  rintro ρ ⟨e3, e4, e5, e13, e14, e15, e16, -⟩
  refine wpC_region ?_
  refine wpR_val (v := (Value.int .i64 p5)) (w' := w2) rfl rfl rfl (x_move (v := (Value.int .i64 p5)) rfl e5) ?_
  refine wpR_enter rfl rfl rfl (x_call (vs := [(Value.int .i64 p5)]) rfl rfl (mapl_cons rfl mapl_nil) Try.func16 NN_16 NB_16) (Calls.mono h ?_)
  rintro _ w3 ⟨r11, rfl, h⟩
  refine ⟨_, rfl, ?_⟩
  refine wpR_val (v := (Value.int .i64 r11)) (w' := w3) rfl rfl rfl (x_assign (v := (Value.int .i64 r11)) rfl rfl) ?_
  refine wpR_nil ?_
  refine wpC_seq ?_
  refine wpC_cut (fun ρ => ρ 3 = (Value.int .i64 p3) ∧ ρ 4 = (Value.int .u8 p4) ∧ ρ 13 = (Value.bool r9) ∧ ρ 14 = (Value.int .i64 r10.1) ∧ ρ 15 = (Value.int .i64 r10.2.1) ∧ ρ 16 = (Value.int .i64 r10.2.2) ∧ ρ 17 = (Value.int .i64 r11) ∧ True) ⟨e3, e4, e13, e14, e15, e16, rfl, trivial⟩ ?_
  rintro ρ ⟨e3, e4, e13, e14, e15, e16, e17, -⟩
  refine wpC_region ?_
  refine wpR_val (v := (Value.int .i64 r10.1)) (w' := w3) rfl rfl rfl (x_move (v := (Value.int .i64 r10.1)) rfl e14) ?_
  refine wpR_val (v := (Value.int .i64 r10.2.1)) (w' := w3) rfl rfl rfl (x_move (v := (Value.int .i64 r10.2.1)) rfl e15) ?_
  refine wpR_val (v := (Value.int .i64 r10.2.2)) (w' := w3) rfl rfl rfl (x_move (v := (Value.int .i64 r10.2.2)) rfl e16) ?_
  refine wpR_val (v := (Value.int .i64 p3)) (w' := w3) rfl rfl rfl (x_move (v := (Value.int .i64 p3)) rfl e3) ?_
  refine wpR_enter rfl rfl rfl (x_call (vs := [(Value.int .i64 r10.1), (Value.int .i64 r10.2.1), (Value.int .i64 r10.2.2), (Value.int .i64 p3)]) rfl rfl (mapl_cons rfl (mapl_cons rfl (mapl_cons rfl (mapl_cons rfl mapl_nil)))) Try.func8 NN_8 NB_8) (Calls.mono h ?_)
  rintro _ w4 ⟨r12, rfl, h⟩
  refine ⟨_, rfl, ?_⟩
  refine wpR_val (v := (Value.tuple #[(Sl.v r12.1), (Value.int .i64 r12.2)])) (w' := w4) rfl rfl rfl (x_move (v := (Value.tuple #[(Sl.v r12.1), (Value.int .i64 r12.2)])) rfl rfl) ?_
  refine wpR_val (v := (Sl.v r12.1)) (w' := w4) rfl rfl rfl (x_extract rfl rfl rfl) ?_
  refine wpR_val (v := (Value.int .i64 r12.2)) (w' := w4) rfl rfl rfl (x_extract rfl rfl rfl) ?_
  refine wpR_val (v := (Sl.v r12.1)) (w' := w4) rfl rfl rfl (x_assign (v := (Sl.v r12.1)) rfl rfl) ?_
  refine wpR_val (v := (Value.int .i64 r12.2)) (w' := w4) rfl rfl rfl (x_assign (v := (Value.int .i64 r12.2)) rfl rfl) ?_
  refine wpR_nil ?_
  refine wpC_seq ?_
  refine wpC_seq ?_
  refine wpC_cut (fun ρ => ρ 4 = (Value.int .u8 p4) ∧ ρ 13 = (Value.bool r9) ∧ ρ 14 = (Value.int .i64 r10.1) ∧ ρ 15 = (Value.int .i64 r10.2.1) ∧ ρ 16 = (Value.int .i64 r10.2.2) ∧ ρ 17 = (Value.int .i64 r11) ∧ ρ 18 = (Sl.v r12.1) ∧ ρ 19 = (Value.int .i64 r12.2) ∧ True) ⟨e4, e13, e14, e15, e16, e17, rfl, rfl, trivial⟩ ?_
  rintro ρ ⟨e4, e13, e14, e15, e16, e17, e18, e19, -⟩
  refine wpC_region ?_
  refine wpR_val (v := (Value.int .i64 r12.2)) (w' := w4) rfl rfl rfl (x_move (v := (Value.int .i64 r12.2)) rfl e19) ?_
  refine wpR_val (v := (Value.bool (!decide (r12.2 = 0)))) (w' := w4) rfl rfl rfl (x_neq rfl rfl rfl) ?_
  refine wpR_val (v := (Value.bool (!decide (r12.2 = 0)))) (w' := w4) rfl rfl rfl (x_move (v := (Value.bool (!decide (r12.2 = 0)))) rfl rfl) ?_
  refine wpR_joinJ 5 (fun (_ : Unit) ρ => ρ 52 = Value.bool ((!decide (r12.2 = 0)) || (!decide ((r12.1.len : Int) = r10.2.2))) ∧ ρ 4 = (Value.int .u8 p4) ∧ ρ 13 = (Value.bool r9) ∧ ρ 14 = (Value.int .i64 r10.1) ∧ ρ 15 = (Value.int .i64 r10.2.1) ∧ ρ 16 = (Value.int .i64 r10.2.2) ∧ ρ 17 = (Value.int .i64 r11) ∧ ρ 18 = (Sl.v r12.1) ∧ True) (fun _ w => w4 = w) ?_ ?_
  · clear h
    rcases Bool.eq_false_or_eq_true (!decide (r12.2 = 0)) with hc14 | hc14
    · skip
      refine wpR_pass (wantN rfl rfl rfl hc14) rfl rfl ?_
      refine wpR_pass (wantN rfl rfl rfl hc14) rfl rfl ?_
      refine wpR_pass (wantN rfl rfl rfl hc14) rfl rfl ?_
      refine wpR_pass (wantN rfl rfl rfl hc14) rfl rfl ?_
      refine wpR_val (v := (Value.bool true)) (w' := w4) rfl rfl rfl (x_pickT (v := (Value.bool true)) rfl rfl hc14 rfl) ?_
      refine wpR_nil ?_
      exact ⟨(), ⟨(by rw [hc14]; rfl), e4, e13, e14, e15, e16, e17, e18, trivial⟩, rfl⟩
    · skip
      refine wpR_val (v := (Sl.v r12.1)) (w' := w4) (wantG rfl rfl rfl hc14) rfl rfl (x_move (v := (Sl.v r12.1)) rfl e18) ?_
      refine wpR_val (v := (Value.int .i64 (r12.1.len : Int))) (w' := w4) (wantG rfl rfl rfl hc14) rfl rfl (x_lenS (s := r12.1) rfl rfl isSliceT_22) ?_
      refine wpR_val (v := (Value.int .i64 r10.2.2)) (w' := w4) (wantG rfl rfl rfl hc14) rfl rfl (x_move (v := (Value.int .i64 r10.2.2)) rfl e16) ?_
      refine wpR_val (v := (Value.bool (!decide ((r12.1.len : Int) = r10.2.2)))) (w' := w4) (wantG rfl rfl rfl hc14) rfl rfl (x_neq rfl rfl rfl) ?_
      refine wpR_val (v := (Value.bool (!decide ((r12.1.len : Int) = r10.2.2)))) (w' := w4) rfl rfl rfl (x_pickF (v := (Value.bool (!decide ((r12.1.len : Int) = r10.2.2)))) rfl rfl hc14 rfl) ?_
      refine wpR_nil ?_
      exact ⟨(), ⟨(by rw [hc14]; rfl), e4, e13, e14, e15, e16, e17, e18, trivial⟩, rfl⟩
  rintro _ ρ wj ⟨e52, e4, e13, e14, e15, e16, e17, e18, -⟩ rfl
  refine wpR_nil ?_
  refine wpC_cond (b := (!decide (r12.2 = 0)) || (!decide ((r12.1.len : Int) = r10.2.2))) e52 (fun hc15 => ?_) (fun hc15 => ?_)
  · replace h := h.1 hc15
    refine wpC_seq ?_
    refine wpC_region ?_
    refine wpR_val (v := (Value.bool false)) (w' := w4) rfl rfl rfl (x_assign (v := (Value.bool false)) rfl rfl) ?_
    refine wpR_nil ?_
    refine wpC_ret ?_
    exact ⟨.inl rfl, fun a ha => ⟨_, results_rep1 rfl ha rfl, false, rfl, h⟩⟩
  · replace h := h.2 hc15
    refine wpC_skip ?_
    refine wpC_seq ?_
    refine wpC_region ?_
    refine wpR_val (v := (Value.int .u8 p4)) (w' := w4) rfl rfl rfl (x_move (v := (Value.int .u8 p4)) rfl e4) ?_
    refine wpR_val (v := (Value.int .i64 (IntKind.i64.wrap p4))) (w' := w4) rfl rfl rfl (x_convI rfl rfl IK_3 IK_5) ?_
    refine wpR_val (v := (Value.int .i64 r10.2.2)) (w' := w4) rfl rfl rfl (x_move (v := (Value.int .i64 r10.2.2)) rfl e16) ?_
    obtain ⟨q16, h⟩ := h
    refine wpR_val (v := (Value.int .i64 ((IntKind.i64.wrap p4).tmod r10.2.2))) (w' := w4) rfl rfl rfl (x_rem rfl rfl rfl q16) ?_
    refine wpR_val (v := (Value.int .i64 ((IntKind.i64.wrap p4).tmod r10.2.2))) (w' := w4) rfl rfl rfl (x_assign (v := (Value.int .i64 ((IntKind.i64.wrap p4).tmod r10.2.2))) rfl rfl) ?_
    refine wpR_nil ?_
    refine wpC_seq ?_
    refine wpC_cut (fun ρ => ρ 13 = (Value.bool r9) ∧ ρ 14 = (Value.int .i64 r10.1) ∧ ρ 15 = (Value.int .i64 r10.2.1) ∧ ρ 16 = (Value.int .i64 r10.2.2) ∧ ρ 17 = (Value.int .i64 r11) ∧ ρ 18 = (Sl.v r12.1) ∧ ρ 20 = (Value.int .i64 ((IntKind.i64.wrap p4).tmod r10.2.2)) ∧ True) ⟨e13, e14, e15, e16, e17, e18, rfl, trivial⟩ ?_
    rintro ρ ⟨e13, e14, e15, e16, e17, e18, e20, -⟩
    refine wpC_region ?_
    obtain ⟨b17, hb17⟩ : ∃ u, u = w4.heap.size := ⟨_, rfl⟩
    obtain ⟨w5, hw17⟩ : ∃ u, u = w4.alloc (.cells #[] 39) := ⟨_, rfl⟩
    replace h := h b17 w5 hb17 hw17
    refine wpR_val (v := (Sl.v (⟨some ⟨b17, 0, none⟩, 0, 0⟩ : Sl))) (w' := w5) rfl rfl rfl ((x_buildSlice (qs := []) rfl (by rfl) (BS_22_0_ )).trans (by rw [← hb17, ← hw17])) ?_
    refine wpR_val (v := (Sl.v r12.1)) (w' := w5) rfl rfl rfl (x_move (v := (Sl.v r12.1)) rfl e18) ?_
    obtain ⟨r18, w6, q18, h⟩ := h
    refine wpR_val (v := (Sl.v r18)) (w' := w6) rfl rfl rfl (x_append (s := (⟨some ⟨b17, 0, none⟩, 0, 0⟩ : Sl)) (u := r12.1) rfl rfl rfl rfl q18) ?_
    refine wpR_val (v := (Sl.v r18)) (w' := w6) rfl rfl rfl (x_assign (v := (Sl.v r18)) rfl rfl) ?_
    refine wpR_nil ?_
    refine wpC_seq ?_
    refine wpC_cut (fun ρ => ρ 13 = (Value.bool r9) ∧ ρ 14 = (Value.int .i64 r10.1) ∧ ρ 15 = (Value.int .i64 r10.2.1) ∧ ρ 16 = (Value.int .i64 r10.2.2) ∧ ρ 17 = (Value.int .i64 r11) ∧ ρ 18 = (Sl.v r12.1) ∧ ρ 20 = (Value.int .i64 ((IntKind.i64.wrap p4).tmod r10.2.2)) ∧ ρ 21 = (Sl.v r18) ∧ True) ⟨e13, e14, e15, e16, e17, e18, e20, rfl, trivial⟩ ?_
    rintro ρ ⟨e13, e14, e15, e16, e17, e18, e20, e21, -⟩
    refine wpC_region ?_
    refine wpR_val (v := (Sl.v r18)) (w' := w6) rfl rfl rfl (x_move (v := (Sl.v r18)) rfl e21) ?_
    refine wpR_val (v := (Value.int .i64 ((IntKind.i64.wrap p4).tmod r10.2.2))) (w' := w6) rfl rfl rfl (x_move (v := (Value.int .i64 ((IntKind.i64.wrap p4).tmod r10.2.2))) rfl e20) ?_
    refine wpR_val (v := (Sl.v r18)) (w' := w6) rfl rfl rfl (x_move (v := (Sl.v r18)) rfl e21) ?_
    refine wpR_val (v := (Value.int .i64 ((IntKind.i64.wrap p4).tmod r10.2.2))) (w' := w6) rfl rfl rfl (x_move (v := (Value.int .i64 ((IntKind.i64.wrap p4).tmod r10.2.2))) rfl e20) ?_
    obtain ⟨q19, z19, r19, h⟩ := h
    generalize hp19 : z19.add (((IntKind.i64.wrap p4).tmod r10.2.2 : Int).toNat * 2) = p19 at h
    refine wpR_val (v := (Value.pointer (some p19))) (w' := w6) rfl rfl rfl ((x_indexAddr (s := r18) rfl rfl rfl ES_22 q19 r19).trans (by rw [hp19])) ?_
    refine wpR_val (v := (Value.pointer (some (p19.add 1)))) (w' := w6) rfl rfl rfl (x_fieldAddr rfl rfl FA_39_1) ?_
    obtain ⟨x20, q20, h⟩ := h
    refine wpR_val (v := (Value.int .i64 x20)) (w' := w6) rfl rfl rfl (x_load1 rfl rfl SH_3 q20) ?_
    refine wpR_val (v := (Value.int .i64 r11)) (w' := w6) rfl rfl rfl (x_move (v := (Value.int .i64 r11)) rfl e17) ?_
    refine wpR_val (v := (Value.int .i64 (IntKind.i64.wrap (x20 + r11)))) (w' := w6) rfl rfl rfl (x_add rfl rfl rfl) ?_
    refine wpR_enter rfl rfl rfl (x_call (vs := [(Value.int .i64 (IntKind.i64.wrap (x20 + r11)))]) rfl rfl (mapl_cons rfl mapl_nil) Try.func16 NN_16 NB_16) (Calls.mono h ?_)
    rintro _ w7 ⟨r21, rfl, h⟩
    refine ⟨_, rfl, ?_⟩
    obtain ⟨q22, z22, r22, h⟩ := h
    generalize hp22 : z22.add (((IntKind.i64.wrap p4).tmod r10.2.2 : Int).toNat * 2) = p22 at h
    refine wpR_val (v := (Value.pointer (some p22))) (w' := w7) rfl rfl rfl ((x_indexAddr (s := r18) rfl rfl rfl ES_22 q22 r22).trans (by rw [hp22])) ?_
    refine wpR_val (v := (Value.pointer (some (p22.add 1)))) (w' := w7) rfl rfl rfl (x_fieldAddr rfl rfl FA_39_1) ?_
    obtain ⟨q23, h⟩ := h
    obtain ⟨w8, hw23⟩ : ∃ u, u = setAll w7 (p22.add 1) [(Value.int .i64 r21)] 0 := ⟨_, rfl⟩
    replace h := h w8 hw23
    refine wpR_skp (w' := w8) rfl rfl ((x_store (v := (Value.int .i64 r21)) rfl rfl rfl SZ_3 (ones (by rfl)) q23).trans (by rw [hw23]; rfl)) ?_
    refine wpR_nil ?_
    refine wpC_seq ?_
    refine wpC_cut (fun ρ => ρ 13 = (Value.bool r9) ∧ ρ 14 = (Value.int .i64 r10.1) ∧ ρ 15 = (Value.int .i64 r10.2.1) ∧ ρ 16 = (Value.int .i64 r10.2.2) ∧ ρ 17 = (Value.int .i64 r11) ∧ ρ 18 = (Sl.v r12.1) ∧ ρ 20 = (Value.int .i64 ((IntKind.i64.wrap p4).tmod r10.2.2)) ∧ ρ 21 = (Sl.v r18) ∧ True) ⟨e13, e14, e15, e16, e17, e18, e20, e21, trivial⟩ ?_
    rintro ρ ⟨e13, e14, e15, e16, e17, e18, e20, e21, -⟩
    refine wpC_region ?_
    refine wpR_val (v := (Sl.v r18)) (w' := w8) rfl rfl rfl (x_move (v := (Sl.v r18)) rfl e21) ?_
    refine wpR_val (v := (Value.int .i64 r10.2.1)) (w' := w8) rfl rfl rfl (x_move (v := (Value.int .i64 r10.2.1)) rfl e15) ?_
    refine wpR_enter rfl rfl rfl (x_call (vs := [(Sl.v r18), (Value.int .i64 r10.2.1)]) rfl rfl (mapl_cons rfl (mapl_cons rfl mapl_nil)) Try.func10 NN_10 NB_10) (Calls.mono h ?_)
    rintro _ w9 ⟨r24, rfl, h⟩
    refine ⟨_, rfl, ?_⟩
    refine wpR_val (v := (Value.tuple #[(Value.int .i64 r24.1), (Value.int .i64 r24.2)])) (w' := w9) rfl rfl rfl (x_move (v := (Value.tuple #[(Value.int .i64 r24.1), (Value.int .i64 r24.2)])) rfl rfl) ?_
    refine wpR_val (v := (Value.int .i64 r24.1)) (w' := w9) rfl rfl rfl (x_extract rfl rfl rfl) ?_
    refine wpR_val (v := (Value.int .i64 r24.2)) (w' := w9) rfl rfl rfl (x_extract rfl rfl rfl) ?_
    refine wpR_val (v := (Value.int .i64 r24.1)) (w' := w9) rfl rfl rfl (x_assign (v := (Value.int .i64 r24.1)) rfl rfl) ?_
    refine wpR_val (v := (Value.int .i64 r24.2)) (w' := w9) rfl rfl rfl (x_assign (v := (Value.int .i64 r24.2)) rfl rfl) ?_
    refine wpR_nil ?_
    refine wpC_seq ?_
    refine wpC_cut (fun ρ => ρ 13 = (Value.bool r9) ∧ ρ 14 = (Value.int .i64 r10.1) ∧ ρ 15 = (Value.int .i64 r10.2.1) ∧ ρ 16 = (Value.int .i64 r10.2.2) ∧ ρ 17 = (Value.int .i64 r11) ∧ ρ 18 = (Sl.v r12.1) ∧ ρ 20 = (Value.int .i64 ((IntKind.i64.wrap p4).tmod r10.2.2)) ∧ ρ 22 = (Value.int .i64 r24.1) ∧ ρ 23 = (Value.int .i64 r24.2) ∧ True) ⟨e13, e14, e15, e16, e17, e18, e20, rfl, rfl, trivial⟩ ?_
    rintro ρ ⟨e13, e14, e15, e16, e17, e18, e20, e22, e23, -⟩
    obtain ⟨J26, h, hk⟩ := h
    refine wpC_drawJ (by kernel_rfl) (fun (x : Int × Int) ρ => ρ 24 = (Value.int .i64 x.1) ∧ ρ 25 = (Value.int .i64 x.2) ∧ ρ 13 = (Value.bool r9) ∧ ρ 14 = (Value.int .i64 r10.1) ∧ ρ 15 = (Value.int .i64 r10.2.1) ∧ ρ 16 = (Value.int .i64 r10.2.2) ∧ ρ 17 = (Value.int .i64 r11) ∧ ρ 22 = (Value.int .i64 r24.1) ∧ ρ 23 = (Value.int .i64 r24.2) ∧ True) J26 ?_ ?_
    · clear hk
      unfold tk at h
      generalize w9.drew = w10 at h ⊢
      refine wpD_take (v := (Sl.v r12.1)) 1 (fun _ => True) rfl (by kernel_rfl) (by kernel_rfl) (by kernel_rfl) rfl rfl rfl trivial (fun w _ => (x_move (v := (Sl.v r12.1)) rfl e18)) ?_
      refine wpD_take (v := (Value.int .i64 ((IntKind.i64.wrap p4).tmod r10.2.2))) 2 (fun _ => True) rfl (by kernel_rfl) (by kernel_rfl) (by kernel_rfl) rfl rfl rfl trivial (fun w _ => (x_move (v := (Value.int .i64 ((IntKind.i64.wrap p4).tmod r10.2.2))) rfl e20)) ?_
      refine wpD_take (v := (Sl.v r12.1)) 5 (fun _ => True) rfl (by kernel_rfl) (by kernel_rfl) (by kernel_rfl) rfl rfl rfl trivial (fun w _ => (x_move (v := (Sl.v r12.1)) rfl e18)) ?_
      refine wpD_take (v := (Value.int .i64 ((IntKind.i64.wrap p4).tmod r10.2.2))) 6 (fun _ => True) rfl (by kernel_rfl) (by kernel_rfl) (by kernel_rfl) rfl rfl rfl trivial (fun w _ => (x_move (v := (Value.int .i64 ((IntKind.i64.wrap p4).tmod r10.2.2))) rfl e20)) ?_
      refine wpD_take (v := (Value.int .i64 (IntKind.i64.wrap (((IntKind.i64.wrap p4).tmod r10.2.2) + 1)))) 7 (fun _ => True) rfl (by kernel_rfl) (by kernel_rfl) (by kernel_rfl) rfl rfl rfl trivial (fun w _ => (x_add rfl rfl rfl)) ?_
      refine wpD_take (v := (Value.int .i64 r10.2.1)) 10 (fun _ => True) rfl (by kernel_rfl) (by kernel_rfl) (by kernel_rfl) rfl rfl rfl trivial (fun w _ => (x_move (v := (Value.int .i64 r10.2.1)) rfl e15)) ?_
      refine wpD_all (rs := [0, 3, 8]) (by kernel_rfl) (by simp) (allD_cons ?_ (allD_cons ?_ (allD_cons ?_ allD_nil)))
      · replace h := h.1
        obtain ⟨b27, hb27⟩ : ∃ u, u = w10.heap.size := ⟨_, rfl⟩
        obtain ⟨w11, hw27⟩ : ∃ u, u = w10.alloc (.cells #[] 39) := ⟨_, rfl⟩
        replace h := h b27 w11 hb27 hw27
        refine stepD_valL (L' := [(10, fun _ => True), (7, fun _ => True), (6, fun _ => True), (5, fun _ => True), (2, fun _ => True), (1, fun _ => True)]) (v := (Sl.v (⟨some ⟨b27, 0, none⟩, 0, 0⟩ : Sl))) (w' := w11) rfl rfl rfl rfl ((x_buildSlice (qs := []) rfl (by rfl) (BS_22_0_ )).trans (by rw [← hb27, ← hw27])) (by kernel_rfl) (held_cons trivial (held_cons trivial (held_cons trivial (held_cons trivial (held_cons trivial (held_cons trivial held_nil)))))) ?_
        refine wpD_all (rs := [3, 8]) (by kernel_rfl) (by simp) (allD_cons ?_ (allD_cons ?_ allD_nil))
        · replace h := h.1
          obtain ⟨r28, w12, q28, h⟩ := h
          refine stepD_valL (L' := [(10, fun _ => True), (7, fun _ => True), (6, fun _ => True), (5, fun _ => True)]) (v := (Sl.v r28)) (w' := w12) rfl rfl rfl rfl (x_sliceAt rfl rfl rfl (congrArg some rfl) rfl q28) (by kernel_rfl) (held_cons trivial (held_cons trivial (held_cons trivial (held_cons trivial held_nil)))) ?_
          refine wpD_all (rs := [4, 8]) (by kernel_rfl) (by simp) (allD_cons ?_ (allD_cons ?_ allD_nil))
          · replace h := h.1
            obtain ⟨r29, w13, q29, h⟩ := h
            refine stepD_valL (L' := [(10, fun _ => True), (7, fun _ => True), (6, fun _ => True), (5, fun _ => True)]) (v := (Sl.v r29)) (w' := w13) rfl rfl rfl rfl (x_append (s := (⟨some ⟨b27, 0, none⟩, 0, 0⟩ : Sl)) (u := r28) rfl rfl rfl rfl q29) (by kernel_rfl) (held_cons trivial (held_cons trivial (held_cons trivial (held_cons trivial held_nil)))) ?_
            refine wpD_all (rs := [8]) (by kernel_rfl) (by simp) (allD_cons ?_ allD_nil)
            obtain ⟨r30, w14, q30, h⟩ := h
            refine stepD_valL (L' := [(10, fun _ => True), (6, fun _ => True)]) (v := (Sl.v r30)) (w' := w14) rfl rfl rfl rfl (x_sliceAt rfl rfl (congrArg some rfl) rfl rfl q30) (by kernel_rfl) (held_cons trivial (held_cons trivial held_nil)) ?_
            refine wpD_all (rs := [9]) (by kernel_rfl) (by simp) (allD_cons ?_ allD_nil)
            obtain ⟨r31, w15, q31, h⟩ := h
            refine stepD_valL (L' := [(10, fun _ => True), (6, fun _ => True)]) (v := (Sl.v r31)) (w' := w15) rfl rfl rfl rfl (x_append (s := r29) (u := r30) rfl rfl rfl rfl q31) (by kernel_rfl) (held_cons trivial (held_cons trivial held_nil)) ?_
            refine wpD_all (rs := [11]) (by kernel_rfl) (by simp) (allD_cons ?_ allD_nil)
            refine stepD_enterL (L' := [(6, fun _ => True)]) rfl rfl rfl rfl (x_call (vs := [(Sl.v r31), (Value.int .i64 r10.2.1)]) rfl rfl (mapl_cons rfl (mapl_cons rfl mapl_nil)) Try.func10 NN_10 NB_10) (by kernel_rfl) (Calls.mono h ?_)
            rintro _ w16 ⟨r32, rfl, h⟩
            refine ⟨_, rfl, (held_cons trivial held_nil), ?_⟩
            refine wpD_take (v := (Value.tuple #[(Value.int .i64 r32.1), (Value.int .i64 r32.2)])) 12 (fun _ => True) rfl (by kernel_rfl) (by kernel_rfl) (by kernel_rfl) rfl rfl rfl trivial (fun w _ => (x_move (v := (Value.tuple #[(Value.int .i64 r32.1), (Value.int .i64 r32.2)])) rfl rfl)) ?_
            refine wpD_take (v := (Value.int .i64 r32.1)) 13 (fun _ => True) rfl (by kernel_rfl) (by kernel_rfl) (by kernel_rfl) rfl rfl rfl trivial (fun w _ => (x_extract rfl rfl rfl)) ?_
            refine wpD_take (v := (Value.int .i64 r32.2)) 14 (fun _ => True) rfl (by kernel_rfl) (by kernel_rfl) (by kernel_rfl) rfl rfl rfl trivial (fun w _ => (x_extract rfl rfl rfl)) ?_
            refine wpD_take (v := (Value.int .i64 r32.1)) 15 (fun _ => True) rfl (by kernel_rfl) (by kernel_rfl) (by kernel_rfl) rfl rfl rfl trivial (fun w _ => (x_assign (v := (Value.int .i64 r32.1)) rfl rfl)) ?_
            refine wpD_take (v := (Value.int .i64 r32.2)) 16 (fun _ => True) rfl (by kernel_rfl) (by kernel_rfl) (by kernel_rfl) rfl rfl rfl trivial (fun w _ => (x_assign (v := (Value.int .i64 r32.2)) rfl rfl)) ?_
            exact wpD_done (by kernel_rfl) ⟨(r32.1, r32.2), ⟨rfl, rfl, e13, e14, e15, e16, e17, e22, e23, trivial⟩, h⟩
          · replace h := h.2
            obtain ⟨r33, w17, q33, h⟩ := h
            refine stepD_valL (L' := [(10, fun _ => True), (6, fun _ => True)]) (v := (Sl.v r33)) (w' := w17) rfl rfl rfl rfl (x_sliceAt rfl rfl (congrArg some rfl) rfl rfl q33) (by kernel_rfl) (held_cons trivial (held_cons trivial held_nil)) ?_
            refine wpD_all (rs := [4]) (by kernel_rfl) (by simp) (allD_cons ?_ allD_nil)
            obtain ⟨r34, w18, q34, h⟩ := h
            refine stepD_valL (L' := [(10, fun _ => True), (6, fun _ => True)]) (v := (Sl.v r34)) (w' := w18) rfl rfl rfl rfl (x_append (s := (⟨some ⟨b27, 0, none⟩, 0, 0⟩ : Sl)) (u := r28) rfl rfl rfl rfl q34) (by kernel_rfl) (held_cons trivial (held_cons trivial held_nil)) ?_
            refine wpD_all (rs := [9]) (by kernel_rfl) (by simp) (allD_cons ?_ allD_nil)
            obtain ⟨r35, w19, q35, h⟩ := h
            refine stepD_valL (L' := [(10, fun _ => True), (6, fun _ => True)]) (v := (Sl.v r35)) (w' := w19) rfl rfl rfl rfl (x_append (s := r34) (u := r33) rfl rfl rfl rfl q35) (by kernel_rfl) (held_cons trivial (held_cons trivial held_nil)) ?_
            refine wpD_all (rs := [11]) (by kernel_rfl) (by simp) (allD_cons ?_ allD_nil)
            refine stepD_enterL (L' := [(6, fun _ => True)]) rfl rfl rfl rfl (x_call (vs := [(Sl.v r35), (Value.int .i64 r10.2.1)]) rfl rfl (mapl_cons rfl (mapl_cons rfl mapl_nil)) Try.func10 NN_10 NB_10) (by kernel_rfl) (Calls.mono h ?_)
            rintro _ w20 ⟨r36, rfl, h⟩
            refine ⟨_, rfl, (held_cons trivial held_nil), ?_⟩
            refine wpD_take (v := (Value.tuple #[(Value.int .i64 r36.1), (Value.int .i64 r36.2)])) 12 (fun _ => True) rfl (by kernel_rfl) (by kernel_rfl) (by kernel_rfl) rfl rfl rfl trivial (fun w _ => (x_move (v := (Value.tuple #[(Value.int .i64 r36.1), (Value.int .i64 r36.2)])) rfl rfl)) ?_
            refine wpD_take (v := (Value.int .i64 r36.1)) 13 (fun _ => True) rfl (by kernel_rfl) (by kernel_rfl) (by kernel_rfl) rfl rfl rfl trivial (fun w _ => (x_extract rfl rfl rfl)) ?_
            refine wpD_take (v := (Value.int .i64 r36.2)) 14 (fun _ => True) rfl (by kernel_rfl) (by kernel_rfl) (by kernel_rfl) rfl rfl rfl trivial (fun w _ => (x_extract rfl rfl rfl)) ?_
            refine wpD_take (v := (Value.int .i64 r36.1)) 15 (fun _ => True) rfl (by kernel_rfl) (by kernel_rfl) (by kernel_rfl) rfl rfl rfl trivial (fun w _ => (x_assign (v := (Value.int .i64 r36.1)) rfl rfl)) ?_
            refine wpD_take (v := (Value.int .i64 r36.2)) 16 (fun _ => True) rfl (by kernel_rfl) (by kernel_rfl) (by kernel_rfl) rfl rfl rfl trivial (fun w _ => (x_assign (v := (Value.int .i64 r36.2)) rfl rfl)) ?_
            exact wpD_done (by kernel_rfl) ⟨(r36.1, r36.2), ⟨rfl, rfl, e13, e14, e15, e16, e17, e22, e23, trivial⟩, h⟩
        · replace h := h.2
          obtain ⟨r37, w21, q37, h⟩ := h
          refine stepD_valL (L' := [(10, fun _ => True), (6, fun _ => True), (2, fun _ => True), (1, fun _ => True)]) (v := (Sl.v r37)) (w' := w21) rfl rfl rfl rfl (x_sliceAt rfl rfl (congrArg some rfl) rfl rfl q37) (by kernel_rfl) (held_cons trivial (held_cons trivial (held_cons trivial (held_cons trivial held_nil)))) ?_
          refine wpD_all (rs := [3]) (by kernel_rfl) (by simp) (allD_cons ?_ allD_nil)
          obtain ⟨r38, w22, q38, h⟩ := h
          refine stepD_valL (L' := [(10, fun _ => True), (6, fun _ => True)]) (v := (Sl.v r38)) (w' := w22) rfl rfl rfl rfl (x_sliceAt rfl rfl rfl (congrArg some rfl) rfl q38) (by kernel_rfl) (held_cons trivial (held_cons trivial held_nil)) ?_
          refine wpD_all (rs := [4]) (by kernel_rfl) (by simp) (allD_cons ?_ allD_nil)
          obtain ⟨r39, w23, q39, h⟩ := h
          refine stepD_valL (L' := [(10, fun _ => True), (6, fun _ => True)]) (v := (Sl.v r39)) (w' := w23) rfl rfl rfl rfl (x_append (s := (⟨some ⟨b27, 0, none⟩, 0, 0⟩ : Sl)) (u := r38) rfl rfl rfl rfl q39) (by kernel_rfl) (held_cons trivial (held_cons trivial held_nil)) ?_
          refine wpD_all (rs := [9]) (by kernel_rfl) (by simp) (allD_cons ?_ allD_nil)
          obtain ⟨r40, w24, q40, h⟩ := h
          refine stepD_valL (L' := [(10, fun _ => True), (6, fun _ => True)]) (v := (Sl.v r40)) (w' := w24) rfl rfl rfl rfl (x_append (s := r39) (u := r37) rfl rfl rfl rfl q40) (by kernel_rfl) (held_cons trivial (held_cons trivial held_nil)) ?_
          refine wpD_all (rs := [11]) (by kernel_rfl) (by simp) (allD_cons ?_ allD_nil)
          refine stepD_enterL (L' := [(6, fun _ => True)]) rfl rfl rfl rfl (x_call (vs := [(Sl.v r40), (Value.int .i64 r10.2.1)]) rfl rfl (mapl_cons rfl (mapl_cons rfl mapl_nil)) Try.func10 NN_10 NB_10) (by kernel_rfl) (Calls.mono h ?_)
          rintro _ w25 ⟨r41, rfl, h⟩
          refine ⟨_, rfl, (held_cons trivial held_nil), ?_⟩
          refine wpD_take (v := (Value.tuple #[(Value.int .i64 r41.1), (Value.int .i64 r41.2)])) 12 (fun _ => True) rfl (by kernel_rfl) (by kernel_rfl) (by kernel_rfl) rfl rfl rfl trivial (fun w _ => (x_move (v := (Value.tuple #[(Value.int .i64 r41.1), (Value.int .i64 r41.2)])) rfl rfl)) ?_
          refine wpD_take (v := (Value.int .i64 r41.1)) 13 (fun _ => True) rfl (by kernel_rfl) (by kernel_rfl) (by kernel_rfl) rfl rfl rfl trivial (fun w _ => (x_extract rfl rfl rfl)) ?_
          refine wpD_take (v := (Value.int .i64 r41.2)) 14 (fun _ => True) rfl (by kernel_rfl) (by kernel_rfl) (by kernel_rfl) rfl rfl rfl trivial (fun w _ => (x_extract rfl rfl rfl)) ?_
          refine wpD_take (v := (Value.int .i64 r41.1)) 15 (fun _ => True) rfl (by kernel_rfl) (by kernel_rfl) (by kernel_rfl) rfl rfl rfl trivial (fun w _ => (x_assign (v := (Value.int .i64 r41.1)) rfl rfl)) ?_
          refine wpD_take (v := (Value.int .i64 r41.2)) 16 (fun _ => True) rfl (by kernel_rfl) (by kernel_rfl) (by kernel_rfl) rfl rfl rfl trivial (fun w _ => (x_assign (v := (Value.int .i64 r41.2)) rfl rfl)) ?_
          exact wpD_done (by kernel_rfl) ⟨(r41.1, r41.2), ⟨rfl, rfl, e13, e14, e15, e16, e17, e22, e23, trivial⟩, h⟩
      · replace h := h.2.1
        obtain ⟨r42, w26, q42, h⟩ := h
        refine stepD_valL (L' := [(10, fun _ => True), (7, fun _ => True), (6, fun _ => True), (5, fun _ => True)]) (v := (Sl.v r42)) (w' := w26) rfl rfl rfl rfl (x_sliceAt rfl rfl rfl (congrArg some rfl) rfl q42) (by kernel_rfl) (held_cons trivial (held_cons trivial (held_cons trivial (held_cons trivial held_nil)))) ?_
        refine wpD_all (rs := [0, 8]) (by kernel_rfl) (by simp) (allD_cons ?_ (allD_cons ?_ allD_nil))
        · replace h := h.1
          obtain ⟨b43, hb43⟩ : ∃ u, u = w26.heap.size := ⟨_, rfl⟩
          obtain ⟨w27, hw43⟩ : ∃ u, u = w26.alloc (.cells #[] 39) := ⟨_, rfl⟩
          replace h := h b43 w27 hb43 hw43
          refine stepD_valL (L' := [(10, fun _ => True), (7, fun _ => True), (6, fun _ => True), (5, fun _ => True)]) (v := (Sl.v (⟨some ⟨b43, 0, none⟩, 0, 0⟩ : Sl))) (w' := w27) rfl rfl rfl rfl ((x_buildSlice (qs := []) rfl (by rfl) (BS_22_0_ )).trans (by rw [← hb43, ← hw43])) (by kernel_rfl) (held_cons trivial (held_cons trivial (held_cons trivial (held_cons trivial held_nil)))) ?_
          refine wpD_all (rs := [4, 8]) (by kernel_rfl) (by simp) (allD_cons ?_ (allD_cons ?_ allD_nil))
          · replace h := h.1
            obtain ⟨r44, w28, q44, h⟩ := h
            refine stepD_valL (L' := [(10, fun _ => True), (7, fun _ => True), (6, fun _ => True), (5, fun _ => True)]) (v := (Sl.v r44)) (w' := w28) rfl rfl rfl rfl (x_append (s := (⟨some ⟨b43, 0, none⟩, 0, 0⟩ : Sl)) (u := r42) rfl rfl rfl rfl q44) (by kernel_rfl) (held_cons trivial (held_cons trivial (held_cons trivial (held_cons trivial held_nil)))) ?_
            refine wpD_all (rs := [8]) (by kernel_rfl) (by simp) (allD_cons ?_ allD_nil)
            obtain ⟨r45, w29, q45, h⟩ := h
            refine stepD_valL (L' := [(10, fun _ => True), (6, fun _ => True)]) (v := (Sl.v r45)) (w' := w29) rfl rfl rfl rfl (x_sliceAt rfl rfl (congrArg some rfl) rfl rfl q45) (by kernel_rfl) (held_cons trivial (held_cons trivial held_nil)) ?_
            refine wpD_all (rs := [9]) (by kernel_rfl) (by simp) (allD_cons ?_ allD_nil)
            obtain ⟨r46, w30, q46, h⟩ := h
            refine stepD_valL (L' := [(10, fun _ => True), (6, fun _ => True)]) (v := (Sl.v r46)) (w' := w30) rfl rfl rfl rfl (x_append (s := r44) (u := r45) rfl rfl rfl rfl q46) (by kernel_rfl) (held_cons trivial (held_cons trivial held_nil)) ?_
            refine wpD_all (rs := [11]) (by kernel_rfl) (by simp) (allD_cons ?_ allD_nil)
            refine stepD_enterL (L' := [(6, fun _ => True)]) rfl rfl rfl rfl (x_call (vs := [(Sl.v r46), (Value.int .i64 r10.2.1)]) rfl rfl (mapl_cons rfl (mapl_cons rfl mapl_nil)) Try.func10 NN_10 NB_10) (by kernel_rfl) (Calls.mono h ?_)
            rintro _ w31 ⟨r47, rfl, h⟩
            refine ⟨_, rfl, (held_cons trivial held_nil), ?_⟩
            refine wpD_take (v := (Value.tuple #[(Value.int .i64 r47.1), (Value.int .i64 r47.2)])) 12 (fun _ => True) rfl (by kernel_rfl) (by kernel_rfl) (by kernel_rfl) rfl rfl rfl trivial (fun w _ => (x_move (v := (Value.tuple #[(Value.int .i64 r47.1), (Value.int .i64 r47.2)])) rfl rfl)) ?_
            refine wpD_take (v := (Value.int .i64 r47.1)) 13 (fun _ => True) rfl (by kernel_rfl) (by kernel_rfl) (by kernel_rfl) rfl rfl rfl trivial (fun w _ => (x_extract rfl rfl rfl)) ?_
            refine wpD_take (v := (Value.int .i64 r47.2)) 14 (fun _ => True) rfl (by kernel_rfl) (by kernel_rfl) (by kernel_rfl) rfl rfl rfl trivial (fun w _ => (x_extract rfl rfl rfl)) ?_
            refine wpD_take (v := (Value.int .i64 r47.1)) 15 (fun _ => True) rfl (by kernel_rfl) (by kernel_rfl) (by kernel_rfl) rfl rfl rfl trivial (fun w _ => (x_assign (v := (Value.int .i64 r47.1)) rfl rfl)) ?_
            refine wpD_take (v := (Value.int .i64 r47.2)) 16 (fun _ => True) rfl (by kernel_rfl) (by kernel_rfl) (by kernel_rfl) rfl rfl rfl trivial (fun w _ => (x_assign (v := (Value.int .i64 r47.2)) rfl rfl)) ?_
            exact wpD_done (by kernel_rfl) ⟨(r47.1, r47.2), ⟨rfl, rfl, e13, e14, e15, e16, e17, e22, e23, trivial⟩, h⟩
          · replace h := h.2
            obtain ⟨r48, w32, q48, h⟩ := h
            refine stepD_valL (L' := [(10, fun _ => True), (6, fun _ => True)]) (v := (Sl.v r48)) (w' := w32) rfl rfl rfl rfl (x_sliceAt rfl rfl (congrArg some rfl) rfl rfl q48) (by kernel_rfl) (held_cons trivial (held_cons trivial held_nil)) ?_
            refine wpD_all (rs := [4]) (by kernel_rfl) (by simp) (allD_cons ?_ allD_nil)
            obtain ⟨r49, w33, q49, h⟩ := h
            refine stepD_valL (L' := [(10, fun _ => True), (6, fun _ => True)]) (v := (Sl.v r49)) (w' := w33) rfl rfl rfl rfl (x_append (s := (⟨some ⟨b43, 0, none⟩, 0, 0⟩ : Sl)) (u := r42) rfl rfl rfl rfl q49) (by kernel_rfl) (held_cons trivial (held_cons trivial held_nil)) ?_
            refine wpD_all (rs := [9]) (by kernel_rfl) (by simp) (allD_cons ?_ allD_nil)
            obtain ⟨r50, w34, q50, h⟩ := h
            refine stepD_valL (L' := [(10, fun _ => True), (6, fun _ => True)]) (v := (Sl.v r50)) (w' := w34) rfl rfl rfl rfl (x_append (s := r49) (u := r48) rfl rfl rfl rfl q50) (by kernel_rfl) (held_cons trivial (held_cons trivial held_nil)) ?_
            refine wpD_all (rs := [11]) (by kernel_rfl) (by simp) (allD_cons ?_ allD_nil)
            refine stepD_enterL (L' := [(6, fun _ => True)]) rfl rfl rfl rfl (x_call (vs := [(Sl.v r50), (Value.int .i64 r10.2.1)]) rfl rfl (mapl_cons rfl (mapl_cons rfl mapl_nil)) Try.func10 NN_10 NB_10) (by kernel_rfl) (Calls.mono h ?_)
            rintro _ w35 ⟨r51, rfl, h⟩
            refine ⟨_, rfl, (held_cons trivial held_nil), ?_⟩
            refine wpD_take (v := (Value.tuple #[(Value.int .i64 r51.1), (Value.int .i64 r51.2)])) 12 (fun _ => True) rfl (by kernel_rfl) (by kernel_rfl) (by kernel_rfl) rfl rfl rfl trivial (fun w _ => (x_move (v := (Value.tuple #[(Value.int .i64 r51.1), (Value.int .i64 r51.2)])) rfl rfl)) ?_
            refine wpD_take (v := (Value.int .i64 r51.1)) 13 (fun _ => True) rfl (by kernel_rfl) (by kernel_rfl) (by kernel_rfl) rfl rfl rfl trivial (fun w _ => (x_extract rfl rfl rfl)) ?_
            refine wpD_take (v := (Value.int .i64 r51.2)) 14 (fun _ => True) rfl (by kernel_rfl) (by kernel_rfl) (by kernel_rfl) rfl rfl rfl trivial (fun w _ => (x_extract rfl rfl rfl)) ?_
            refine wpD_take (v := (Value.int .i64 r51.1)) 15 (fun _ => True) rfl (by kernel_rfl) (by kernel_rfl) (by kernel_rfl) rfl rfl rfl trivial (fun w _ => (x_assign (v := (Value.int .i64 r51.1)) rfl rfl)) ?_
            refine wpD_take (v := (Value.int .i64 r51.2)) 16 (fun _ => True) rfl (by kernel_rfl) (by kernel_rfl) (by kernel_rfl) rfl rfl rfl trivial (fun w _ => (x_assign (v := (Value.int .i64 r51.2)) rfl rfl)) ?_
            exact wpD_done (by kernel_rfl) ⟨(r51.1, r51.2), ⟨rfl, rfl, e13, e14, e15, e16, e17, e22, e23, trivial⟩, h⟩
        · replace h := h.2
          obtain ⟨r52, w36, q52, h⟩ := h
          refine stepD_valL (L' := [(10, fun _ => True), (6, fun _ => True)]) (v := (Sl.v r52)) (w' := w36) rfl rfl rfl rfl (x_sliceAt rfl rfl (congrArg some rfl) rfl rfl q52) (by kernel_rfl) (held_cons trivial (held_cons trivial held_nil)) ?_
          refine wpD_all (rs := [0]) (by kernel_rfl) (by simp) (allD_cons ?_ allD_nil)
          obtain ⟨b53, hb53⟩ : ∃ u, u = w36.heap.size := ⟨_, rfl⟩
          obtain ⟨w37, hw53⟩ : ∃ u, u = w36.alloc (.cells #[] 39) := ⟨_, rfl⟩
          replace h := h b53 w37 hb53 hw53
          refine stepD_valL (L' := [(10, fun _ => True), (6, fun _ => True)]) (v := (Sl.v (⟨some ⟨b53, 0, none⟩, 0, 0⟩ : Sl))) (w' := w37) rfl rfl rfl rfl ((x_buildSlice (qs := []) rfl (by rfl) (BS_22_0_ )).trans (by rw [← hb53, ← hw53])) (by kernel_rfl) (held_cons trivial (held_cons trivial held_nil)) ?_
          refine wpD_all (rs := [4]) (by kernel_rfl) (by simp) (allD_cons ?_ allD_nil)
          obtain ⟨r54, w38, q54, h⟩ := h
          refine stepD_valL (L' := [(10, fun _ => True), (6, fun _ => True)]) (v := (Sl.v r54)) (w' := w38) rfl rfl rfl rfl (x_append (s := (⟨some ⟨b53, 0, none⟩, 0, 0⟩ : Sl)) (u := r42) rfl rfl rfl rfl q54) (by kernel_rfl) (held_cons trivial (held_cons trivial held_nil)) ?_
          refine wpD_all (rs := [9]) (by kernel_rfl) (by simp) (allD_cons ?_ allD_nil)
          obtain ⟨r55, w39, q55, h⟩ := h
          refine stepD_valL (L' := [(10, fun _ => True), (6, fun _ => True)]) (v := (Sl.v r55)) (w' := w39) rfl rfl rfl rfl (x_append (s := r54) (u := r52) rfl rfl rfl rfl q55) (by kernel_rfl) (held_cons trivial (held_cons trivial held_nil)) ?_
          refine wpD_all (rs := [11]) (by kernel_rfl) (by simp) (allD_cons ?_ allD_nil)
          refine stepD_enterL (L' := [(6, fun _ => True)]) rfl rfl rfl rfl (x_call (vs := [(Sl.v r55), (Value.int .i64 r10.2.1)]) rfl rfl (mapl_cons rfl (mapl_cons rfl mapl_nil)) Try.func10 NN_10 NB_10) (by kernel_rfl) (Calls.mono h ?_)
          rintro _ w40 ⟨r56, rfl, h⟩
          refine ⟨_, rfl, (held_cons trivial held_nil), ?_⟩
          refine wpD_take (v := (Value.tuple #[(Value.int .i64 r56.1), (Value.int .i64 r56.2)])) 12 (fun _ => True) rfl (by kernel_rfl) (by kernel_rfl) (by kernel_rfl) rfl rfl rfl trivial (fun w _ => (x_move (v := (Value.tuple #[(Value.int .i64 r56.1), (Value.int .i64 r56.2)])) rfl rfl)) ?_
          refine wpD_take (v := (Value.int .i64 r56.1)) 13 (fun _ => True) rfl (by kernel_rfl) (by kernel_rfl) (by kernel_rfl) rfl rfl rfl trivial (fun w _ => (x_extract rfl rfl rfl)) ?_
          refine wpD_take (v := (Value.int .i64 r56.2)) 14 (fun _ => True) rfl (by kernel_rfl) (by kernel_rfl) (by kernel_rfl) rfl rfl rfl trivial (fun w _ => (x_extract rfl rfl rfl)) ?_
          refine wpD_take (v := (Value.int .i64 r56.1)) 15 (fun _ => True) rfl (by kernel_rfl) (by kernel_rfl) (by kernel_rfl) rfl rfl rfl trivial (fun w _ => (x_assign (v := (Value.int .i64 r56.1)) rfl rfl)) ?_
          refine wpD_take (v := (Value.int .i64 r56.2)) 16 (fun _ => True) rfl (by kernel_rfl) (by kernel_rfl) (by kernel_rfl) rfl rfl rfl trivial (fun w _ => (x_assign (v := (Value.int .i64 r56.2)) rfl rfl)) ?_
          exact wpD_done (by kernel_rfl) ⟨(r56.1, r56.2), ⟨rfl, rfl, e13, e14, e15, e16, e17, e22, e23, trivial⟩, h⟩
      · replace h := h.2.2
        obtain ⟨r57, w41, q57, h⟩ := h
        refine stepD_valL (L' := [(10, fun _ => True), (6, fun _ => True), (2, fun _ => True), (1, fun _ => True)]) (v := (Sl.v r57)) (w' := w41) rfl rfl rfl rfl (x_sliceAt rfl rfl (congrArg some rfl) rfl rfl q57) (by kernel_rfl) (held_cons trivial (held_cons trivial (held_cons trivial (held_cons trivial held_nil)))) ?_
        refine wpD_all (rs := [0, 3]) (by kernel_rfl) (by simp) (allD_cons ?_ (allD_cons ?_ allD_nil))
        · replace h := h.1
          obtain ⟨b58, hb58⟩ : ∃ u, u = w41.heap.size := ⟨_, rfl⟩
          obtain ⟨w42, hw58⟩ : ∃ u, u = w41.alloc (.cells #[] 39) := ⟨_, rfl⟩
          replace h := h b58 w42 hb58 hw58
          refine stepD_valL (L' := [(10, fun _ => True), (6, fun _ => True), (2, fun _ => True), (1, fun _ => True)]) (v := (Sl.v (⟨some ⟨b58, 0, none⟩, 0, 0⟩ : Sl))) (w' := w42) rfl rfl rfl rfl ((x_buildSlice (qs := []) rfl (by rfl) (BS_22_0_ )).trans (by rw [← hb58, ← hw58])) (by kernel_rfl) (held_cons trivial (held_cons trivial (held_cons trivial (held_cons trivial held_nil)))) ?_
          refine wpD_all (rs := [3]) (by kernel_rfl) (by simp) (allD_cons ?_ allD_nil)
          obtain ⟨r59, w43, q59, h⟩ := h
          refine stepD_valL (L' := [(10, fun _ => True), (6, fun _ => True)]) (v := (Sl.v r59)) (w' := w43) rfl rfl rfl rfl (x_sliceAt rfl rfl rfl (congrArg some rfl) rfl q59) (by kernel_rfl) (held_cons trivial (held_cons trivial held_nil)) ?_
          refine wpD_all (rs := [4]) (by kernel_rfl) (by simp) (allD_cons ?_ allD_nil)
          obtain ⟨r60, w44, q60, h⟩ := h
          refine stepD_valL (L' := [(10, fun _ => True), (6, fun _ => True)]) (v := (Sl.v r60)) (w' := w44) rfl rfl rfl rfl (x_append (s := (⟨some ⟨b58, 0, none⟩, 0, 0⟩ : Sl)) (u := r59) rfl rfl rfl rfl q60) (by kernel_rfl) (held_cons trivial (held_cons trivial held_nil)) ?_
          refine wpD_all (rs := [9]) (by kernel_rfl) (by simp) (allD_cons ?_ allD_nil)
          obtain ⟨r61, w45, q61, h⟩ := h
          refine stepD_valL (L' := [(10, fun _ => True), (6, fun _ => True)]) (v := (Sl.v r61)) (w' := w45) rfl rfl rfl rfl (x_append (s := r60) (u := r57) rfl rfl rfl rfl q61) (by kernel_rfl) (held_cons trivial (held_cons trivial held_nil)) ?_
          refine wpD_all (rs := [11]) (by kernel_rfl) (by simp) (allD_cons ?_ allD_nil)
          refine stepD_enterL (L' := [(6, fun _ => True)]) rfl rfl rfl rfl (x_call (vs := [(Sl.v r61), (Value.int .i64 r10.2.1)]) rfl rfl (mapl_cons rfl (mapl_cons rfl mapl_nil)) Try.func10 NN_10 NB_10) (by kernel_rfl) (Calls.mono h ?_)
          rintro _ w46 ⟨r62, rfl, h⟩
          refine ⟨_, rfl, (held_cons trivial held_nil), ?_⟩
          refine wpD_take (v := (Value.tuple #[(Value.int .i64 r62.1), (Value.int .i64 r62.2)])) 12 (fun _ => True) rfl (by kernel_rfl) (by kernel_rfl) (by kernel_rfl) rfl rfl rfl trivial (fun w _ => (x_move (v := (Value.tuple #[(Value.int .i64 r62.1), (Value.int .i64 r62.2)])) rfl rfl)) ?_
          refine wpD_take (v := (Value.int .i64 r62.1)) 13 (fun _ => True) rfl (by kernel_rfl) (by kernel_rfl) (by kernel_rfl) rfl rfl rfl trivial (fun w _ => (x_extract rfl rfl rfl)) ?_
          refine wpD_take (v := (Value.int .i64 r62.2)) 14 (fun _ => True) rfl (by kernel_rfl) (by kernel_rfl) (by kernel_rfl) rfl rfl rfl trivial (fun w _ => (x_extract rfl rfl rfl)) ?_
          refine wpD_take (v := (Value.int .i64 r62.1)) 15 (fun _ => True) rfl (by kernel_rfl) (by kernel_rfl) (by kernel_rfl) rfl rfl rfl trivial (fun w _ => (x_assign (v := (Value.int .i64 r62.1)) rfl rfl)) ?_
          refine wpD_take (v := (Value.int .i64 r62.2)) 16 (fun _ => True) rfl (by kernel_rfl) (by kernel_rfl) (by kernel_rfl) rfl rfl rfl trivial (fun w _ => (x_assign (v := (Value.int .i64 r62.2)) rfl rfl)) ?_
          exact wpD_done (by kernel_rfl) ⟨(r62.1, r62.2), ⟨rfl, rfl, e13, e14, e15, e16, e17, e22, e23, trivial⟩, h⟩
        · replace h := h.2
          obtain ⟨r63, w47, q63, h⟩ := h
          refine stepD_valL (L' := [(10, fun _ => True), (6, fun _ => True)]) (v := (Sl.v r63)) (w' := w47) rfl rfl rfl rfl (x_sliceAt rfl rfl rfl (congrArg some rfl) rfl q63) (by kernel_rfl) (held_cons trivial (held_cons trivial held_nil)) ?_
          refine wpD_all (rs := [0]) (by kernel_rfl) (by simp) (allD_cons ?_ allD_nil)
          obtain ⟨b64, hb64⟩ : ∃ u, u = w47.heap.size := ⟨_, rfl⟩
          obtain ⟨w48, hw64⟩ : ∃ u, u = w47.alloc (.cells #[] 39) := ⟨_, rfl⟩
          replace h := h b64 w48 hb64 hw64
          refine stepD_valL (L' := [(10, fun _ => True), (6, fun _ => True)]) (v := (Sl.v (⟨some ⟨b64, 0, none⟩, 0, 0⟩ : Sl))) (w' := w48) rfl rfl rfl rfl ((x_buildSlice (qs := []) rfl (by rfl) (BS_22_0_ )).trans (by rw [← hb64, ← hw64])) (by kernel_rfl) (held_cons trivial (held_cons trivial held_nil)) ?_
          refine wpD_all (rs := [4]) (by kernel_rfl) (by simp) (allD_cons ?_ allD_nil)
          obtain ⟨r65, w49, q65, h⟩ := h
          refine stepD_valL (L' := [(10, fun _ => True), (6, fun _ => True)]) (v := (Sl.v r65)) (w' := w49) rfl rfl rfl rfl (x_append (s := (⟨some ⟨b64, 0, none⟩, 0, 0⟩ : Sl)) (u := r63) rfl rfl rfl rfl q65) (by kernel_rfl) (held_cons trivial (held_cons trivial held_nil)) ?_
          refine wpD_all (rs := [9]) (by kernel_rfl) (by simp) (allD_cons ?_ allD_nil)
          obtain ⟨r66, w50, q66, h⟩ := h
          refine stepD_valL (L' := [(10, fun _ => True), (6, fun _ => True)]) (v := (Sl.v r66)) (w' := w50) rfl rfl rfl rfl (x_append (s := r65) (u := r57) rfl rfl rfl rfl q66) (by kernel_rfl) (held_cons trivial (held_cons trivial held_nil)) ?_
          refine wpD_all (rs := [11]) (by kernel_rfl) (by simp) (allD_cons ?_ allD_nil)
          refine stepD_enterL (L' := [(6, fun _ => True)]) rfl rfl rfl rfl (x_call (vs := [(Sl.v r66), (Value.int .i64 r10.2.1)]) rfl rfl (mapl_cons rfl (mapl_cons rfl mapl_nil)) Try.func10 NN_10 NB_10) (by kernel_rfl) (Calls.mono h ?_)
          rintro _ w51 ⟨r67, rfl, h⟩
          refine ⟨_, rfl, (held_cons trivial held_nil), ?_⟩
          refine wpD_take (v := (Value.tuple #[(Value.int .i64 r67.1), (Value.int .i64 r67.2)])) 12 (fun _ => True) rfl (by kernel_rfl) (by kernel_rfl) (by kernel_rfl) rfl rfl rfl trivial (fun w _ => (x_move (v := (Value.tuple #[(Value.int .i64 r67.1), (Value.int .i64 r67.2)])) rfl rfl)) ?_
          refine wpD_take (v := (Value.int .i64 r67.1)) 13 (fun _ => True) rfl (by kernel_rfl) (by kernel_rfl) (by kernel_rfl) rfl rfl rfl trivial (fun w _ => (x_extract rfl rfl rfl)) ?_
          refine wpD_take (v := (Value.int .i64 r67.2)) 14 (fun _ => True) rfl (by kernel_rfl) (by kernel_rfl) (by kernel_rfl) rfl rfl rfl trivial (fun w _ => (x_extract rfl rfl rfl)) ?_
          refine wpD_take (v := (Value.int .i64 r67.1)) 15 (fun _ => True) rfl (by kernel_rfl) (by kernel_rfl) (by kernel_rfl) rfl rfl rfl trivial (fun w _ => (x_assign (v := (Value.int .i64 r67.1)) rfl rfl)) ?_
          refine wpD_take (v := (Value.int .i64 r67.2)) 16 (fun _ => True) rfl (by kernel_rfl) (by kernel_rfl) (by kernel_rfl) rfl rfl rfl trivial (fun w _ => (x_assign (v := (Value.int .i64 r67.2)) rfl rfl)) ?_
          exact wpD_done (by kernel_rfl) ⟨(r67.1, r67.2), ⟨rfl, rfl, e13, e14, e15, e16, e17, e22, e23, trivial⟩, h⟩
    clear h
    rintro l68 ρ w52 ⟨e24, e25, e13, e14, e15, e16, e17, e22, e23, -⟩ h
    replace h := hk l68 w52 h
    clear hk
    refine wpC_seq ?_
    refine wpC_seq ?_
    refine wpC_region ?_
    refine wpR_val (v := (Value.int .i64 r10.2.2)) (w' := w52) rfl rfl rfl (x_move (v := (Value.int .i64 r10.2.2)) rfl e16) ?_
    refine wpR_val (v := (Value.int .i64 r10.2.1)) (w' := w52) rfl rfl rfl (x_move (v := (Value.int .i64 r10.2.1)) rfl e15) ?_
    refine wpR_val (v := (Value.bool (decide (r10.2.1 < r10.2.2)))) (w' := w52) rfl rfl rfl (x_gtr rfl rfl rfl) ?_
    refine wpR_val (v := (Value.bool (decide (r10.2.1 < r10.2.2)))) (w' := w52) rfl rfl rfl (x_move (v := (Value.bool (decide (r10.2.1 < r10.2.2)))) rfl rfl) ?_
    refine wpR_joinJ 8 (fun (_ : Unit) ρ => ρ 104 = Value.bool ((decide (r10.2.1 < r10.2.2)) && ((!decide (l68.2 = 0)) || (!decide (l68.1 = r10.1)))) ∧ ρ 13 = (Value.bool r9) ∧ ρ 14 = (Value.int .i64 r10.1) ∧ ρ 15 = (Value.int .i64 r10.2.1) ∧ ρ 16 = (Value.int .i64 r10.2.2) ∧ ρ 17 = (Value.int .i64 r11) ∧ ρ 22 = (Value.int .i64 r24.1) ∧ ρ 23 = (Value.int .i64 r24.2) ∧ ρ 25 = (Value.int .i64 l68.2) ∧ True) (fun _ w => w52 = w) ?_ ?_
    · clear h
      rcases Bool.eq_false_or_eq_true (decide (r10.2.1 < r10.2.2)) with hc70 | hc70
      · skip
        refine wpR_val (v := (Value.int .i64 l68.2)) (w' := w52) (wantG rfl rfl rfl hc70) rfl rfl (x_move (v := (Value.int .i64 l68.2)) rfl e25) ?_
        refine wpR_val (v := (Value.bool (!decide (l68.2 = 0)))) (w' := w52) (wantG rfl rfl rfl hc70) rfl rfl (x_neq rfl rfl rfl) ?_
        refine wpR_val (v := (Value.bool (!decide (l68.2 = 0)))) (w' := w52) (wantG rfl rfl rfl hc70) rfl rfl (x_move (v := (Value.bool (!decide (l68.2 = 0)))) rfl rfl) ?_
        refine wpR_joinJ 4 (fun (_ : Unit) ρ => ρ 103 = Value.bool ((!decide (l68.2 = 0)) || (!decide (l68.1 = r10.1))) ∧ ρ 13 = (Value.bool r9) ∧ ρ 14 = (Value.int .i64 r10.1) ∧ ρ 15 = (Value.int .i64 r10.2.1) ∧ ρ 16 = (Value.int .i64 r10.2.2) ∧ ρ 17 = (Value.int .i64 r11) ∧ ρ 22 = (Value.int .i64 r24.1) ∧ ρ 23 = (Value.int .i64 r24.2) ∧ ρ 25 = (Value.int .i64 l68.2) ∧ ρ 96 = (Value.bool (decide (r10.2.1 < r10.2.2))) ∧ True) (fun _ w => w52 = w) ?_ ?_
        · clear h
          rcases Bool.eq_false_or_eq_true (!decide (l68.2 = 0)) with hc76 | hc76
          · skip
            refine wpR_pass (wantN rfl rfl rfl hc76) rfl rfl ?_
            refine wpR_pass (wantN rfl rfl rfl hc76) rfl rfl ?_
            refine wpR_pass (wantN rfl rfl rfl hc76) rfl rfl ?_
            refine wpR_val (v := (Value.bool true)) (w' := w52) (wantG rfl rfl rfl hc70) rfl rfl (x_pickT (v := (Value.bool true)) rfl rfl hc76 rfl) ?_
            refine wpR_nil ?_
            exact ⟨(), ⟨(by rw [hc76]; rfl), e13, e14, e15, e16, e17, e22, e23, e25, rfl, trivial⟩, rfl⟩
          · skip
            refine wpR_val (v := (Value.int .i64 l68.1)) (w' := w52) (wantG rfl rfl rfl hc76) rfl rfl (x_move (v := (Value.int .i64 l68.1)) rfl e24) ?_
            refine wpR_val (v := (Value.int .i64 r10.1)) (w' := w52) (wantG rfl rfl rfl hc76) rfl rfl (x_move (v := (Value.int .i64 r10.1)) rfl e14) ?_
            refine wpR_val (v := (Value.bool (!decide (l68.1 = r10.1)))) (w' := w52) (wantG rfl rfl rfl hc76) rfl rfl (x_neq rfl rfl rfl) ?_
            refine wpR_val (v := (Value.bool (!decide (l68.1 = r10.1)))) (w' := w52) (wantG rfl rfl rfl hc70) rfl rfl (x_pickF (v := (Value.bool (!decide (l68.1 = r10.1)))) rfl rfl hc76 rfl) ?_
            refine wpR_nil ?_
            exact ⟨(), ⟨(by rw [hc76]; rfl), e13, e14, e15, e16, e17, e22, e23, e25, rfl, trivial⟩, rfl⟩
        rintro _ ρ wj ⟨e103, e13, e14, e15, e16, e17, e22, e23, e25, e96, -⟩ rfl
        refine wpR_val (v := (Value.bool ((!decide (l68.2 = 0)) || (!decide (l68.1 = r10.1))))) (w' := w52) rfl rfl rfl (x_pickT (v := (Value.bool ((!decide (l68.2 = 0)) || (!decide (l68.1 = r10.1))))) rfl e96 hc70 e103) ?_
        refine wpR_nil ?_
        exact ⟨(), ⟨(by rw [hc70]; rfl), e13, e14, e15, e16, e17, e22, e23, e25, trivial⟩, rfl⟩
      · skip
        refine wpR_pass (wantN rfl rfl rfl hc70) rfl rfl ?_
        refine wpR_pass (wantN rfl rfl rfl hc70) rfl rfl ?_
        refine wpR_pass (wantN rfl rfl rfl hc70) rfl rfl ?_
        refine wpR_pass (wantU rfl rfl rfl) rfl rfl ?_
        refine wpR_pass (wantU rfl rfl rfl) rfl rfl ?_
        refine wpR_pass (wantU rfl rfl rfl) rfl rfl ?_
        refine wpR_pass (wantN rfl rfl rfl hc70) rfl rfl ?_
        refine wpR_val (v := (Value.bool false)) (w' := w52) rfl rfl rfl (x_pickF (v := (Value.bool false)) rfl rfl hc70 rfl) ?_
        refine wpR_nil ?_
        exact ⟨(), ⟨(by rw [hc70]; rfl), e13, e14, e15, e16, e17, e22, e23, e25, trivial⟩, rfl⟩
    rintro _ ρ wj ⟨e104, e13, e14, e15, e16, e17, e22, e23, e25, -⟩ rfl
    refine wpR_val (v := (Value.bool ((decide (r10.2.1 < r10.2.2)) && ((!decide (l68.2 = 0)) || (!decide (l68.1 = r10.1)))))) (w' := w52) rfl rfl rfl (x_move (v := (Value.bool ((decide (r10.2.1 < r10.2.2)) && ((!decide (l68.2 = 0)) || (!decide (l68.1 = r10.1)))))) rfl e104) ?_
    refine wpR_joinJ 8 (fun (_ : Unit) ρ => ρ 113 = Value.bool (((decide (r10.2.1 < r10.2.2)) && ((!decide (l68.2 = 0)) || (!decide (l68.1 = r10.1)))) || ((decide (r10.2.2 = r10.2.1)) && (!decide (l68.2 = 20)))) ∧ ρ 13 = (Value.bool r9) ∧ ρ 14 = (Value.int .i64 r10.1) ∧ ρ 15 = (Value.int .i64 r10.2.1) ∧ ρ 16 = (Value.int .i64 r10.2.2) ∧ ρ 17 = (Value.int .i64 r11) ∧ ρ 22 = (Value.int .i64 r24.1) ∧ ρ 23 = (Value.int .i64 r24.2) ∧ True) (fun _ w => w52 = w) ?_ ?_
    · clear h
      rcases Bool.eq_false_or_eq_true ((decide (r10.2.1 < r10.2.2)) && ((!decide (l68.2 = 0)) || (!decide (l68.1 = r10.1)))) with hc78 | hc78
      · skip
        refine wpR_pass (wantN rfl rfl rfl hc78) rfl rfl ?_
        refine wpR_pass (wantN rfl rfl rfl hc78) rfl rfl ?_
        refine wpR_pass (wantN rfl rfl rfl hc78) rfl rfl ?_
        refine wpR_pass (wantN rfl rfl rfl hc78) rfl rfl ?_
        refine wpR_pass (wantU rfl rfl rfl) rfl rfl ?_
        refine wpR_pass (wantU rfl rfl rfl) rfl rfl ?_
        refine wpR_pass (wantN rfl rfl rfl hc78) rfl rfl ?_
        refine wpR_val (v := (Value.bool true)) (w' := w52) rfl rfl rfl (x_pickT (v := (Value.bool true)) rfl rfl hc78 rfl) ?_
        refine wpR_nil ?_
        exact ⟨(), ⟨(by rw [hc78]; rfl), e13, e14, e15, e16, e17, e22, e23, trivial⟩, rfl⟩
      · skip
        refine wpR_val (v := (Value.int .i64 r10.2.2)) (w' := w52) (wantG rfl rfl rfl hc78) rfl rfl (x_move (v := (Value.int .i64 r10.2.2)) rfl e16) ?_
        refine wpR_val (v := (Value.int .i64 r10.2.1)) (w' := w52) (wantG rfl rfl rfl hc78) rfl rfl (x_move (v := (Value.int .i64 r10.2.1)) rfl e15) ?_
        refine wpR_val (v := (Value.bool (decide (r10.2.2 = r10.2.1)))) (w' := w52) (wantG rfl rfl rfl hc78) rfl rfl (x_eql rfl rfl rfl) ?_
        refine wpR_val (v := (Value.bool (decide (r10.2.2 = r10.2.1)))) (w' := w52) (wantG rfl rfl rfl hc78) rfl rfl (x_move (v := (Value.bool (decide (r10.2.2 = r10.2.1)))) rfl rfl) ?_
        refine wpR_joinJ 3 (fun (_ : Unit) ρ => ρ 112 = Value.bool ((decide (r10.2.2 = r10.2.1)) && (!decide (l68.2 = 20))) ∧ ρ 13 = (Value.bool r9) ∧ ρ 14 = (Value.int .i64 r10.1) ∧ ρ 15 = (Value.int .i64 r10.2.1) ∧ ρ 16 = (Value.int .i64 r10.2.2) ∧ ρ 17 = (Value.int .i64 r11) ∧ ρ 22 = (Value.int .i64 r24.1) ∧ ρ 23 = (Value.int .i64 r24.2) ∧ ρ 105 = (Value.bool ((decide (r10.2.1 < r10.2.2)) && ((!decide (l68.2 = 0)) || (!decide (l68.1 = r10.1))))) ∧ True) (fun _ w => w52 = w) ?_ ?_
        · clear h
          rcases Bool.eq_false_or_eq_true (decide (r10.2.2 = r10.2.1)) with hc84 | hc84
          · skip
            refine wpR_val (v := (Value.int .i64 l68.2)) (w' := w52) (wantG rfl rfl rfl hc84) rfl rfl (x_move (v := (Value.int .i64 l68.2)) rfl e25) ?_
            refine wpR_val (v := (Value.bool (!decide (l68.2 = 20)))) (w' := w52) (wantG rfl rfl rfl hc84) rfl rfl (x_neq rfl rfl rfl) ?_
            refine wpR_val (v := (Value.bool (!decide (l68.2 = 20)))) (w' := w52) (wantG rfl rfl rfl hc78) rfl rfl (x_pickT (v := (Value.bool (!decide (l68.2 = 20)))) rfl rfl hc84 rfl) ?_
            refine wpR_nil ?_
            exact ⟨(), ⟨(by rw [hc84]; rfl), e13, e14, e15, e16, e17, e22, e23, rfl, trivial⟩, rfl⟩
          · skip
            refine wpR_pass (wantN rfl rfl rfl hc84) rfl rfl ?_
            refine wpR_pass (wantN rfl rfl rfl hc84) rfl rfl ?_
            refine wpR_val (v := (Value.bool false)) (w' := w52) (wantG rfl rfl rfl hc78) rfl rfl (x_pickF (v := (Value.bool false)) rfl rfl hc84 rfl) ?_
            refine wpR_nil ?_
            exact ⟨(), ⟨(by rw [hc84]; rfl), e13, e14, e15, e16, e17, e22, e23, rfl, trivial⟩, rfl⟩
        rintro _ ρ wj ⟨e112, e13, e14, e15, e16, e17, e22, e23, e105, -⟩ rfl
        refine wpR_val (v := (Value.bool ((decide (r10.2.2 = r10.2.1)) && (!decide (l68.2 = 20))))) (w' := w52) rfl rfl rfl (x_pickF (v := (Value.bool ((decide (r10.2.2 = r10.2.1)) && (!decide (l68.2 = 20))))) rfl e105 hc78 e112) ?_
        refine wpR_nil ?_
        exact ⟨(), ⟨(by rw [hc78]; rfl), e13, e14, e15, e16, e17, e22, e23, trivial⟩, rfl⟩
    rintro _ ρ wj ⟨e113, e13, e14, e15, e16, e17, e22, e23, -⟩ rfl
    refine wpR_nil ?_
    refine wpC_cond (b := ((decide (r10.2.1 < r10.2.2)) && ((!decide (l68.2 = 0)) || (!decide (l68.1 = r10.1)))) || ((decide (r10.2.2 = r10.2.1)) && (!decide (l68.2 = 20)))) e113 (fun hc85 => ?_) (fun hc85 => ?_)
    · replace h := h.1 hc85
      refine wpC_seq ?_
      refine wpC_region ?_
      refine wpR_val (v := (Value.bool false)) (w' := w52) rfl rfl rfl (x_assign (v := (Value.bool false)) rfl rfl) ?_
      refine wpR_nil ?_
      refine wpC_ret ?_
      exact ⟨.inl rfl, fun a ha => ⟨_, results_rep1 rfl ha rfl, false, rfl, h⟩⟩
    · replace h := h.2 hc85
      refine wpC_skip ?_
      refine wpC_seq ?_
      refine wpC_seq ?_
      refine wpC_region ?_
      refine wpR_val (v := (Value.int .i64 r11)) (w' := w52) rfl rfl rfl (x_move (v := (Value.int .i64 r11)) rfl e17) ?_
      refine wpR_val (v := (Value.bool (decide (r11 = 0)))) (w' := w52) rfl rfl rfl (x_eql rfl rfl rfl) ?_
      refine wpR_nil ?_
      refine wpC_cond (b := decide (r11 = 0)) rfl (fun hc86 => ?_) (fun hc86 => ?_)
      · replace h := h.1 hc86
        refine wpC_seq ?_
        refine wpC_cut (fun ρ => ρ 13 = (Value.bool r9) ∧ ρ 14 = (Value.int .i64 r10.1) ∧ ρ 22 = (Value.int .i64 r24.1) ∧ ρ 23 = (Value.int .i64 r24.2) ∧ True) ⟨e13, e14, e22, e23, trivial⟩ ?_
        rintro ρ ⟨e13, e14, e22, e23, -⟩
        refine wpC_region ?_
        refine wpR_val (v := (Value.bool r9)) (w' := w52) rfl rfl rfl (x_move (v := (Value.bool r9)) rfl e13) ?_
        refine wpR_val (v := (Value.bool r9)) (w' := w52) rfl rfl rfl (x_move (v := (Value.bool r9)) rfl rfl) ?_
        refine wpR_joinJ 3 (fun (_ : Unit) ρ => ρ 120 = Value.bool (r9 && (decide (r24.2 = 0))) ∧ ρ 14 = (Value.int .i64 r10.1) ∧ ρ 22 = (Value.int .i64 r24.1) ∧ True) (fun _ w => w52 = w) ?_ ?_
        · clear h
          rcases Bool.eq_false_or_eq_true (r9) with hc88 | hc88
          · skip
            refine wpR_val (v := (Value.int .i64 r24.2)) (w' := w52) (wantG rfl rfl rfl hc88) rfl rfl (x_move (v := (Value.int .i64 r24.2)) rfl e23) ?_
            refine wpR_val (v := (Value.bool (decide (r24.2 = 0)))) (w' := w52) (wantG rfl rfl rfl hc88) rfl rfl (x_eql rfl rfl rfl) ?_
            refine wpR_val (v := (Value.bool (decide (r24.2 = 0)))) (w' := w52) rfl rfl rfl (x_pickT (v := (Value.bool (decide (r24.2 = 0)))) rfl rfl hc88 rfl) ?_
            refine wpR_nil ?_
            exact ⟨(), ⟨(by rw [hc88]; rfl), e14, e22, trivial⟩, rfl⟩
          · skip
            refine wpR_pass (wantN rfl rfl rfl hc88) rfl rfl ?_
            refine wpR_pass (wantN rfl rfl rfl hc88) rfl rfl ?_
            refine wpR_val (v := (Value.bool false)) (w' := w52) rfl rfl rfl (x_pickF (v := (Value.bool false)) rfl rfl hc88 rfl) ?_
            refine wpR_nil ?_
            exact ⟨(), ⟨(by rw [hc88]; rfl), e14, e22, trivial⟩, rfl⟩
        rintro _ ρ wj ⟨e120, e14, e22, -⟩ rfl
        refine wpR_val (v := (Value.bool (r9 && (decide (r24.2 = 0))))) (w' := w52) rfl rfl rfl (x_move (v := (Value.bool (r9 && (decide (r24.2 = 0))))) rfl e120) ?_
        refine wpR_joinJ 4 (fun (_ : Unit) ρ => ρ 125 = Value.bool ((r9 && (decide (r24.2 = 0))) && (decide (r24.1 = r10.1))) ∧ True) (fun _ w => w52 = w) ?_ ?_
        · clear h
          rcases Bool.eq_false_or_eq_true (r9 && (decide (r24.2 = 0))) with hc90 | hc90
          · skip
            refine wpR_val (v := (Value.int .i64 r24.1)) (w' := w52) (wantG rfl rfl rfl hc90) rfl rfl (x_move (v := (Value.int .i64 r24.1)) rfl e22) ?_
            refine wpR_val (v := (Value.int .i64 r10.1)) (w' := w52) (wantG rfl rfl rfl hc90) rfl rfl (x_move (v := (Value.int .i64 r10.1)) rfl e14) ?_
            refine wpR_val (v := (Value.bool (decide (r24.1 = r10.1)))) (w' := w52) (wantG rfl rfl rfl hc90) rfl rfl (x_eql rfl rfl rfl) ?_
            refine wpR_val (v := (Value.bool (decide (r24.1 = r10.1)))) (w' := w52) rfl rfl rfl (x_pickT (v := (Value.bool (decide (r24.1 = r10.1)))) rfl rfl hc90 rfl) ?_
            refine wpR_nil ?_
            exact ⟨(), ⟨(by rw [hc90]; rfl), trivial⟩, rfl⟩
          · skip
            refine wpR_pass (wantN rfl rfl rfl hc90) rfl rfl ?_
            refine wpR_pass (wantN rfl rfl rfl hc90) rfl rfl ?_
            refine wpR_pass (wantN rfl rfl rfl hc90) rfl rfl ?_
            refine wpR_val (v := (Value.bool false)) (w' := w52) rfl rfl rfl (x_pickF (v := (Value.bool false)) rfl rfl hc90 rfl) ?_
            refine wpR_nil ?_
            exact ⟨(), ⟨(by rw [hc90]; rfl), trivial⟩, rfl⟩
        rintro _ ρ wj ⟨e125, -⟩ rfl
        refine wpR_val (v := (Value.bool ((r9 && (decide (r24.2 = 0))) && (decide (r24.1 = r10.1))))) (w' := w52) rfl rfl rfl (x_assign (v := (Value.bool ((r9 && (decide (r24.2 = 0))) && (decide (r24.1 = r10.1))))) rfl e125) ?_
        refine wpR_nil ?_
        refine wpC_ret ?_
        exact ⟨.inl rfl, fun a ha => ⟨_, results_rep1 rfl ha rfl, (r9 && (decide (r24.2 = 0))) && (decide (r24.1 = r10.1)), rfl, h⟩⟩
      · replace h := h.2 hc86
        refine wpC_skip ?_
        refine wpC_seq ?_
        refine wpC_seq ?_
        refine wpC_cut (fun ρ => ρ 13 = (Value.bool r9) ∧ ρ 14 = (Value.int .i64 r10.1) ∧ ρ 15 = (Value.int .i64 r10.2.1) ∧ ρ 16 = (Value.int .i64 r10.2.2) ∧ ρ 22 = (Value.int .i64 r24.1) ∧ ρ 23 = (Value.int .i64 r24.2) ∧ True) ⟨e13, e14, e15, e16, e22, e23, trivial⟩ ?_
        rintro ρ ⟨e13, e14, e15, e16, e22, e23, -⟩
        refine wpC_region ?_
        refine wpR_val (v := (Value.int .i64 r10.2.2)) (w' := w52) rfl rfl rfl (x_move (v := (Value.int .i64 r10.2.2)) rfl e16) ?_
        refine wpR_val (v := (Value.int .i64 r10.2.1)) (w' := w52) rfl rfl rfl (x_move (v := (Value.int .i64 r10.2.1)) rfl e15) ?_
        refine wpR_val (v := (Value.bool (decide (r10.2.1 < r10.2.2)))) (w' := w52) rfl rfl rfl (x_gtr rfl rfl rfl) ?_
        refine wpR_nil ?_
        refine wpC_cond (b := decide (r10.2.1 < r10.2.2)) rfl (fun hc91 => ?_) (fun hc91 => ?_)
        · replace h := h.1 hc91
          refine wpC_seq ?_
          refine wpC_cut (fun ρ => ρ 13 = (Value.bool r9) ∧ ρ 22 = (Value.int .i64 r24.1) ∧ ρ 23 = (Value.int .i64 r24.2) ∧ True) ⟨e13, e22, e23, trivial⟩ ?_
          rintro ρ ⟨e13, e22, e23, -⟩
          refine wpC_region ?_
          refine wpR_val (v := (Value.bool r9)) (w' := w52) rfl rfl rfl (x_move (v := (Value.bool r9)) rfl e13) ?_
          refine wpR_val (v := (Value.bool r9)) (w' := w52) rfl rfl rfl (x_move (v := (Value.bool r9)) rfl rfl) ?_
          refine wpR_joinJ 3 (fun (_ : Unit) ρ => ρ 133 = Value.bool (r9 && (decide (r24.2 = 18))) ∧ ρ 22 = (Value.int .i64 r24.1) ∧ True) (fun _ w => w52 = w) ?_ ?_
          · clear h
            rcases Bool.eq_false_or_eq_true (r9) with hc93 | hc93
            · skip
              refine wpR_val (v := (Value.int .i64 r24.2)) (w' := w52) (wantG rfl rfl rfl hc93) rfl rfl (x_move (v := (Value.int .i64 r24.2)) rfl e23) ?_
              refine wpR_val (v := (Value.bool (decide (r24.2 = 18)))) (w' := w52) (wantG rfl rfl rfl hc93) rfl rfl (x_eql rfl rfl rfl) ?_
              refine wpR_val (v := (Value.bool (decide (r24.2 = 18)))) (w' := w52) rfl rfl rfl (x_pickT (v := (Value.bool (decide (r24.2 = 18)))) rfl rfl hc93 rfl) ?_
              refine wpR_nil ?_
              exact ⟨(), ⟨(by rw [hc93]; rfl), e22, trivial⟩, rfl⟩
            · skip
              refine wpR_pass (wantN rfl rfl rfl hc93) rfl rfl ?_
              refine wpR_pass (wantN rfl rfl rfl hc93) rfl rfl ?_
              refine wpR_val (v := (Value.bool false)) (w' := w52) rfl rfl rfl (x_pickF (v := (Value.bool false)) rfl rfl hc93 rfl) ?_
              refine wpR_nil ?_
              exact ⟨(), ⟨(by rw [hc93]; rfl), e22, trivial⟩, rfl⟩
          rintro _ ρ wj ⟨e133, e22, -⟩ rfl
          refine wpR_val (v := (Value.bool (r9 && (decide (r24.2 = 18))))) (w' := w52) rfl rfl rfl (x_move (v := (Value.bool (r9 && (decide (r24.2 = 18))))) rfl e133) ?_
          refine wpR_joinJ 3 (fun (_ : Unit) ρ => ρ 137 = Value.bool ((r9 && (decide (r24.2 = 18))) && (decide (r24.1 = 0))) ∧ True) (fun _ w => w52 = w) ?_ ?_
          · clear h
            rcases Bool.eq_false_or_eq_true (r9 && (decide (r24.2 = 18))) with hc95 | hc95
            · skip
              refine wpR_val (v := (Value.int .i64 r24.1)) (w' := w52) (wantG rfl rfl rfl hc95) rfl rfl (x_move (v := (Value.int .i64 r24.1)) rfl e22) ?_
              refine wpR_val (v := (Value.bool (decide (r24.1 = 0)))) (w' := w52) (wantG rfl rfl rfl hc95) rfl rfl (x_eql rfl rfl rfl) ?_
              refine wpR_val (v := (Value.bool (decide (r24.1 = 0)))) (w' := w52) rfl rfl rfl (x_pickT (v := (Value.bool (decide (r24.1 = 0)))) rfl rfl hc95 rfl) ?_
              refine wpR_nil ?_
              exact ⟨(), ⟨(by rw [hc95]; rfl), trivial⟩, rfl⟩
            · skip
              refine wpR_pass (wantN rfl rfl rfl hc95) rfl rfl ?_
              refine wpR_pass (wantN rfl rfl rfl hc95) rfl rfl ?_
              refine wpR_val (v := (Value.bool false)) (w' := w52) rfl rfl rfl (x_pickF (v := (Value.bool false)) rfl rfl hc95 rfl) ?_
              refine wpR_nil ?_
              exact ⟨(), ⟨(by rw [hc95]; rfl), trivial⟩, rfl⟩
          rintro _ ρ wj ⟨e137, -⟩ rfl
          refine wpR_val (v := (Value.bool ((r9 && (decide (r24.2 = 18))) && (decide (r24.1 = 0))))) (w' := w52) rfl rfl rfl (x_assign (v := (Value.bool ((r9 && (decide (r24.2 = 18))) && (decide (r24.1 = 0))))) rfl e137) ?_
          refine wpR_nil ?_
          refine wpC_ret ?_
          exact ⟨.inl rfl, fun a ha => ⟨_, results_rep1 rfl ha rfl, (r9 && (decide (r24.2 = 18))) && (decide (r24.1 = 0)), rfl, h⟩⟩
        · replace h := h.2 hc91
          refine wpC_skip ?_
          refine wpC_seq ?_
          refine wpC_cut (fun ρ => ρ 13 = (Value.bool r9) ∧ ρ 14 = (Value.int .i64 r10.1) ∧ ρ 22 = (Value.int .i64 r24.1) ∧ ρ 23 = (Value.int .i64 r24.2) ∧ True) ⟨e13, e14, e22, e23, trivial⟩ ?_
          rintro ρ ⟨e13, e14, e22, e23, -⟩
          refine wpC_region ?_
          refine wpR_val (v := (Value.bool r9)) (w' := w52) rfl rfl rfl (x_move (v := (Value.bool r9)) rfl e13) ?_
          refine wpR_val (v := (Value.bool r9)) (w' := w52) rfl rfl rfl (x_move (v := (Value.bool r9)) rfl rfl) ?_
          refine wpR_joinJ 3 (fun (_ : Unit) ρ => ρ 142 = Value.bool (r9 && (decide (r24.2 = 0))) ∧ ρ 14 = (Value.int .i64 r10.1) ∧ ρ 22 = (Value.int .i64 r24.1) ∧ True) (fun _ w => w52 = w) ?_ ?_
          · clear h
            rcases Bool.eq_false_or_eq_true (r9) with hc97 | hc97
            · skip
              refine wpR_val (v := (Value.int .i64 r24.2)) (w' := w52) (wantG rfl rfl rfl hc97) rfl rfl (x_move (v := (Value.int .i64 r24.2)) rfl e23) ?_
              refine wpR_val (v := (Value.bool (decide (r24.2 = 0)))) (w' := w52) (wantG rfl rfl rfl hc97) rfl rfl (x_eql rfl rfl rfl) ?_
              refine wpR_val (v := (Value.bool (decide (r24.2 = 0)))) (w' := w52) rfl rfl rfl (x_pickT (v := (Value.bool (decide (r24.2 = 0)))) rfl rfl hc97 rfl) ?_
              refine wpR_nil ?_
              exact ⟨(), ⟨(by rw [hc97]; rfl), e14, e22, trivial⟩, rfl⟩
            · skip
              refine wpR_pass (wantN rfl rfl rfl hc97) rfl rfl ?_
              refine wpR_pass (wantN rfl rfl rfl hc97) rfl rfl ?_
              refine wpR_val (v := (Value.bool false)) (w' := w52) rfl rfl rfl (x_pickF (v := (Value.bool false)) rfl rfl hc97 rfl) ?_
              refine wpR_nil ?_
              exact ⟨(), ⟨(by rw [hc97]; rfl), e14, e22, trivial⟩, rfl⟩
          rintro _ ρ wj ⟨e142, e14, e22, -⟩ rfl
          refine wpR_val (v := (Value.bool (r9 && (decide (r24.2 = 0))))) (w' := w52) rfl rfl rfl (x_move (v := (Value.bool (r9 && (decide (r24.2 = 0))))) rfl e142) ?_
          refine wpR_joinJ 4 (fun (_ : Unit) ρ => ρ 147 = Value.bool ((r9 && (decide (r24.2 = 0))) && (!decide (r24.1 = r10.1))) ∧ True) (fun _ w => w52 = w) ?_ ?_
          · clear h
            rcases Bool.eq_false_or_eq_true (r9 && (decide (r24.2 = 0))) with hc99 | hc99
            · skip
              refine wpR_val (v := (Value.int .i64 r24.1)) (w' := w52) (wantG rfl rfl rfl hc99) rfl rfl (x_move (v := (Value.int .i64 r24.1)) rfl e22) ?_
              refine wpR_val (v := (Value.int .i64 r10.1)) (w' := w52) (wantG rfl rfl rfl hc99) rfl rfl (x_move (v := (Value.int .i64 r10.1)) rfl e14) ?_
              refine wpR_val (v := (Value.bool (!decide (r24.1 = r10.1)))) (w' := w52) (wantG rfl rfl rfl hc99) rfl rfl (x_neq rfl rfl rfl) ?_
              refine wpR_val (v := (Value.bool (!decide (r24.1 = r10.1)))) (w' := w52) rfl rfl rfl (x_pickT (v := (Value.bool (!decide (r24.1 = r10.1)))) rfl rfl hc99 rfl) ?_
              refine wpR_nil ?_
              exact ⟨(), ⟨(by rw [hc99]; rfl), trivial⟩, rfl⟩
            · skip
              refine wpR_pass (wantN rfl rfl rfl hc99) rfl rfl ?_
              refine wpR_pass (wantN rfl rfl rfl hc99) rfl rfl ?_
              refine wpR_pass (wantN rfl rfl rfl hc99) rfl rfl ?_
              refine wpR_val (v := (Value.bool false)) (w' := w52) rfl rfl rfl (x_pickF (v := (Value.bool false)) rfl rfl hc99 rfl) ?_
              refine wpR_nil ?_
              exact ⟨(), ⟨(by rw [hc99]; rfl), trivial⟩, rfl⟩
          rintro _ ρ wj ⟨e147, -⟩ rfl
          refine wpR_val (v := (Value.bool ((r9 && (decide (r24.2 = 0))) && (!decide (r24.1 = r10.1))))) (w' := w52) rfl rfl rfl (x_assign (v := (Value.bool ((r9 && (decide (r24.2 = 0))) && (!decide (r24.1 = r10.1))))) rfl e147) ?_
          refine wpR_nil ?_
          refine wpC_ret ?_
          exact ⟨.inl rfl, fun a ha => ⟨_, results_rep1 rfl ha rfl, (r9 && (decide (r24.2 = 0))) && (!decide (r24.1 = r10.1)), rfl, h⟩⟩


end Go.Proofs.Ytdcbmadmcmjopaa
