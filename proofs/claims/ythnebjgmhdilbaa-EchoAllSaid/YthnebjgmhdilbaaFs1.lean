import Derived.Test.YthnebjgmhdilbaaRows
import Derived.Test.YthnebjgmhdilbaaDecRaw
namespace Go.Proofs.Ythnebjgmhdilbaa
open Go.Dec
set_option maxHeartbeats 400000

theorem BD_30_0_1_2_3_4 (y0 : Int) (y1 : Int) (y2 : Int) (y3 : Int) (y4 : Int) : ∀ w, (Instr.build 30 #[(0, (Value.int .i64 y0)), (1, (Value.int .i64 y1)), (2, (Value.int .i64 y2)), (3, (Value.int .i64 y3)), (4, (Value.int .i64 y4))]).run Try.prog w = .ok (Value.agg #[(Value.int .i64 y0), (Value.int .i64 y1), (Value.int .i64 y2), (Value.int .i64 y3), (Value.int .i64 y4)]) w := fun w => by kernel_rfl
theorem BS_22_0_ : ∀ w, (Instr.buildSlice 22 0 #[]).run Try.prog w = .ok (.slice (some ⟨w.heap.size, 0, none⟩) 0 0) (w.alloc (.cells #[] 30)) := fun w => by kernel_rfl
theorem BS_22_1_0 (y0 : Int) (y1 : Int) (y2 : Int) (y3 : Int) (y4 : Int) : ∀ w, (Instr.buildSlice 22 1 #[(0, (Value.agg #[(Value.int .i64 y0), (Value.int .i64 y1), (Value.int .i64 y2), (Value.int .i64 y3), (Value.int .i64 y4)]))]).run Try.prog w = .ok (.slice (some ⟨w.heap.size, 0, none⟩) 1 1) (w.alloc (.cells #[(Value.int .i64 y0), (Value.int .i64 y1), (Value.int .i64 y2), (Value.int .i64 y3), (Value.int .i64 y4)] 30)) := fun w => by kernel_rfl
theorem BS_22_3_0_1_2 (y0 : Int) (y1 : Int) (y2 : Int) (y3 : Int) (y4 : Int) (y5 : Int) (y6 : Int) (y7 : Int) (y8 : Int) (y9 : Int) (y10 : Int) (y11 : Int) (y12 : Int) (y13 : Int) (y14 : Int) : ∀ w, (Instr.buildSlice 22 3 #[(0, (Value.agg #[(Value.int .i64 y0), (Value.int .i64 y1), (Value.int .i64 y2), (Value.int .i64 y3), (Value.int .i64 y4)])), (1, (Value.agg #[(Value.int .i64 y5), (Value.int .i64 y6), (Value.int .i64 y7), (Value.int .i64 y8), (Value.int .i64 y9)])), (2, (Value.agg #[(Value.int .i64 y10), (Value.int .i64 y11), (Value.int .i64 y12), (Value.int .i64 y13), (Value.int .i64 y14)]))]).run Try.prog w = .ok (.slice (some ⟨w.heap.size, 0, none⟩) 3 3) (w.alloc (.cells #[(Value.int .i64 y0), (Value.int .i64 y1), (Value.int .i64 y2), (Value.int .i64 y3), (Value.int .i64 y4), (Value.int .i64 y5), (Value.int .i64 y6), (Value.int .i64 y7), (Value.int .i64 y8), (Value.int .i64 y9), (Value.int .i64 y10), (Value.int .i64 y11), (Value.int .i64 y12), (Value.int .i64 y13), (Value.int .i64 y14)] 30)) := fun w => by kernel_rfl
theorem BS_25_1_0 (y0 : Int) : ∀ w, (Instr.buildSlice 25 1 #[(0, (Value.int .i64 y0))]).run Try.prog w = .ok (.slice (some ⟨w.heap.size, 0, none⟩) 1 1) (w.alloc (.cells #[(Value.int .i64 y0)] 3)) := fun w => by kernel_rfl
theorem BS_25_2_0_1 (y0 : Int) (y1 : Int) : ∀ w, (Instr.buildSlice 25 2 #[(0, (Value.int .i64 y0)), (1, (Value.int .i64 y1))]).run Try.prog w = .ok (.slice (some ⟨w.heap.size, 0, none⟩) 2 2) (w.alloc (.cells #[(Value.int .i64 y0), (Value.int .i64 y1)] 3)) := fun w => by kernel_rfl
theorem BS_25_3_0_1_2 (y0 : Int) (y1 : Int) (y2 : Int) : ∀ w, (Instr.buildSlice 25 3 #[(0, (Value.int .i64 y0)), (1, (Value.int .i64 y1)), (2, (Value.int .i64 y2))]).run Try.prog w = .ok (.slice (some ⟨w.heap.size, 0, none⟩) 3 3) (w.alloc (.cells #[(Value.int .i64 y0), (Value.int .i64 y1), (Value.int .i64 y2)] 3)) := fun w => by kernel_rfl
theorem BS_38_3_0_1_2 (y0 : Bool) (y1 : Bool) (y2 : Bool) : ∀ w, (Instr.buildSlice 38 3 #[(0, (Value.bool y0)), (1, (Value.bool y1)), (2, (Value.bool y2))]).run Try.prog w = .ok (.slice (some ⟨w.heap.size, 0, none⟩) 3 3) (w.alloc (.cells #[(Value.bool y0), (Value.bool y1), (Value.bool y2)] 4)) := fun w => by kernel_rfl
theorem ES_22 : elemSize Try.prog 22 = some 5 := by kernel_rfl
theorem ES_25 : elemSize Try.prog 25 = some 1 := by kernel_rfl
theorem ES_38 : elemSize Try.prog 38 = some 1 := by kernel_rfl
theorem FA_30_0 : fieldOff Try.prog 30 0 = some 0 := by kernel_rfl
theorem FA_30_1 : fieldOff Try.prog 30 1 = some 1 := by kernel_rfl
theorem FA_30_2 : fieldOff Try.prog 30 2 = some 2 := by kernel_rfl
theorem FA_30_3 : fieldOff Try.prog 30 3 = some 3 := by kernel_rfl
theorem FA_30_4 : fieldOff Try.prog 30 4 = some 4 := by kernel_rfl
theorem IK_3 : intKindT Try.prog 3 = some .i64 := by kernel_rfl
theorem IK_35 : intKindT Try.prog 35 = some .u16 := by kernel_rfl
theorem IK_47 : intKindT Try.prog 47 = some .u64 := by kernel_rfl
theorem IK_5 : intKindT Try.prog 5 = some .u8 := by kernel_rfl
theorem NB_10 : Try.f10.body.isNone = false := by kernel_rfl
theorem NN_10 : (Try.f10.name == "runtime.NumGoroutine") = false := by kernel_rfl
theorem NB_11 : Try.f11.body.isNone = false := by kernel_rfl
theorem NN_11 : (Try.f11.name == "runtime.NumGoroutine") = false := by kernel_rfl
theorem NB_12 : Try.f12.body.isNone = false := by kernel_rfl
theorem NN_12 : (Try.f12.name == "runtime.NumGoroutine") = false := by kernel_rfl
theorem NB_13 : Try.f13.body.isNone = false := by kernel_rfl
theorem NN_13 : (Try.f13.name == "runtime.NumGoroutine") = false := by kernel_rfl
theorem NB_14 : Try.f14.body.isNone = false := by kernel_rfl
theorem NN_14 : (Try.f14.name == "runtime.NumGoroutine") = false := by kernel_rfl
theorem NB_15 : Try.f15.body.isNone = false := by kernel_rfl
theorem NN_15 : (Try.f15.name == "runtime.NumGoroutine") = false := by kernel_rfl
theorem NB_16 : Try.f16.body.isNone = false := by kernel_rfl
theorem NN_16 : (Try.f16.name == "runtime.NumGoroutine") = false := by kernel_rfl
theorem NB_17 : Try.f17.body.isNone = false := by kernel_rfl
theorem NN_17 : (Try.f17.name == "runtime.NumGoroutine") = false := by kernel_rfl
theorem NB_18 : Try.f18.body.isNone = false := by kernel_rfl
theorem NN_18 : (Try.f18.name == "runtime.NumGoroutine") = false := by kernel_rfl
theorem NB_19 : Try.f19.body.isNone = false := by kernel_rfl
theorem NN_19 : (Try.f19.name == "runtime.NumGoroutine") = false := by kernel_rfl
theorem NB_20 : Try.f20.body.isNone = false := by kernel_rfl
theorem NN_20 : (Try.f20.name == "runtime.NumGoroutine") = false := by kernel_rfl
theorem NB_21 : Try.f21.body.isNone = false := by kernel_rfl
theorem NN_21 : (Try.f21.name == "runtime.NumGoroutine") = false := by kernel_rfl
theorem NB_22 : Try.f22.body.isNone = false := by kernel_rfl
theorem NN_22 : (Try.f22.name == "runtime.NumGoroutine") = false := by kernel_rfl
theorem NB_23 : Try.f23.body.isNone = false := by kernel_rfl
theorem NN_23 : (Try.f23.name == "runtime.NumGoroutine") = false := by kernel_rfl
theorem NB_24 : Try.f24.body.isNone = false := by kernel_rfl
theorem NN_24 : (Try.f24.name == "runtime.NumGoroutine") = false := by kernel_rfl
theorem NB_25 : Try.f25.body.isNone = false := by kernel_rfl
theorem NN_25 : (Try.f25.name == "runtime.NumGoroutine") = false := by kernel_rfl
theorem NB_26 : Try.f26.body.isNone = false := by kernel_rfl
theorem NN_26 : (Try.f26.name == "runtime.NumGoroutine") = false := by kernel_rfl
theorem NB_7 : Try.f7.body.isNone = false := by kernel_rfl
theorem NN_7 : (Try.f7.name == "runtime.NumGoroutine") = false := by kernel_rfl
theorem NB_8 : Try.f8.body.isNone = false := by kernel_rfl
theorem NN_8 : (Try.f8.name == "runtime.NumGoroutine") = false := by kernel_rfl
theorem NB_9 : Try.f9.body.isNone = false := by kernel_rfl
theorem NN_9 : (Try.f9.name == "runtime.NumGoroutine") = false := by kernel_rfl
theorem SH_3 : shapeT Try.prog 3 = some 0 := by kernel_rfl
theorem SH_30 : shapeT Try.prog 30 = some 6 := by kernel_rfl
theorem SH_4 : shapeT Try.prog 4 = some 0 := by kernel_rfl
theorem SH_40 : shapeT Try.prog 40 = some 0 := by kernel_rfl
theorem SZ_3 : sizeT Try.prog 3 = some 1 := by kernel_rfl
theorem SZ_30 : sizeT Try.prog 30 = some 5 := by kernel_rfl
theorem SZ_4 : sizeT Try.prog 4 = some 1 := by kernel_rfl
theorem SZ_40 : sizeT Try.prog 40 = some 1 := by kernel_rfl
theorem ZV_3 : (Try.prog.info? 3).bind (·.zero) = some (Value.int .i64 0) := by kernel_rfl
theorem ZV_30 : (Try.prog.info? 30).bind (·.zero) = some (Value.agg #[(Value.int .i64 0), (Value.int .i64 0), (Value.int .i64 0), (Value.int .i64 0), (Value.int .i64 0)]) := by kernel_rfl
theorem ZV_40 : (Try.prog.info? 40).bind (·.zero) = some (Value.map none) := by kernel_rfl
theorem isBoolT_4 : isBoolT Try.prog 4 = true := by kernel_rfl
theorem isSliceT_22 : isSliceT Try.prog 22 = true := by kernel_rfl
theorem isSliceT_25 : isSliceT Try.prog 25 = true := by kernel_rfl
theorem isSliceT_38 : isSliceT Try.prog 38 = true := by kernel_rfl

/-- lingualaw36.EchoTells -/
def F3 (p0 : Sl) (p1 : Sl) (p2 : Int) (w0 : World) (K : Bool → World → Prop) : Prop :=
  callC Try.prog 7 #[] (fun (r : Bool) => (Value.bool r)) w0 fun r1 w1 =>
  cnd ((decide (40 < (p0.len : Int))) || (decide (40 < (p1.len : Int))))
    (
    K r1 w1
    )
    (
    callC Try.prog 9 #[(Sl.v p0), (Sl.v p1), (Value.int .i64 p2)] (fun (r : Sl) => (Sl.v r)) w1 fun r5 w2 =>
    callC Try.prog 10 #[(Sl.v p0), (Sl.v p1), (Value.int .i64 p2)] (fun (r : Sl) => (Sl.v r)) w2 fun r6 w3 =>
    callC Try.prog 8 #[(Sl.v r5), (Sl.v r6)] (fun (r : Bool) => (Value.bool r)) w3 fun r7 w4 =>
    cnd (!r7)
      (
      K false w4
      )
      (
      lp (fun (next9 : Int → World → Prop) l9 w5 =>
        cnd ((decide (l9 < (p1.len : Int))) && (decide (l9 < 8)))
          (
          ix p1 l9 5 fun p13 =>
          ld (Value.int .i64) (p13.add 0) w5 fun x14 =>
          ld (Value.int .i64) (p13.add 1) w5 fun x15 =>
          ld (Value.int .i64) (p13.add 2) w5 fun x16 =>
          ld (Value.int .i64) (p13.add 3) w5 fun x17 =>
          ld (Value.int .i64) (p13.add 4) w5 fun x18 =>
          callC Try.prog 11 #[(Sl.v p0), (Value.agg #[(Value.int .i64 x14), (Value.int .i64 x15), (Value.int .i64 x16), (Value.int .i64 x17), (Value.int .i64 x18)]), (Value.int .i64 p2)] (fun (r : Int × Bool) => (Value.tuple #[(Value.int .i64 r.1), (Value.bool r.2)])) w5 fun r19 w6 =>
          ix p1 l9 5 fun p20 =>
          ld (Value.int .i64) (p20.add 0) w6 fun x21 =>
          ld (Value.int .i64) (p20.add 1) w6 fun x22 =>
          ld (Value.int .i64) (p20.add 2) w6 fun x23 =>
          ld (Value.int .i64) (p20.add 3) w6 fun x24 =>
          ld (Value.int .i64) (p20.add 4) w6 fun x25 =>
          callC Try.prog 12 #[(Sl.v p0), (Value.agg #[(Value.int .i64 x21), (Value.int .i64 x22), (Value.int .i64 x23), (Value.int .i64 x24), (Value.int .i64 x25)]), (Value.int .i64 p2)] (fun (r : Int × Bool) => (Value.tuple #[(Value.int .i64 r.1), (Value.bool r.2)])) w6 fun r26 w7 =>
          cnd ((!decide (r19.1 = r26.1)) || (!(r19.2 == r26.2)))
            (
            K false w7
            )
            (
            lp (fun (next30 : Int → World → Prop) l30 w8 =>
              cnd ((decide (l30 < (p0.len : Int))) && (decide (l30 < 8)))
                (
                jn (fun (J35 : Bool → World → Prop) => tk w8 fun w9 =>
                  ix p0 l30 5 fun p36 =>
                  ld (Value.int .i64) (p36.add 0) w9 fun x37 =>
                  ld (Value.int .i64) (p36.add 1) w9 fun x38 =>
                  ld (Value.int .i64) (p36.add 2) w9 fun x39 =>
                  ld (Value.int .i64) (p36.add 3) w9 fun x40 =>
                  ld (Value.int .i64) (p36.add 4) w9 fun x41 =>
                  ix p1 l9 5 fun p42 =>
                  ld (Value.int .i64) (p42.add 0) w9 fun x43 =>
                  ld (Value.int .i64) (p42.add 1) w9 fun x44 =>
                  ld (Value.int .i64) (p42.add 2) w9 fun x45 =>
                  ld (Value.int .i64) (p42.add 3) w9 fun x46 =>
                  ld (Value.int .i64) (p42.add 4) w9 fun x47 =>
                  ix p0 l30 5 fun p48 =>
                  ld (Value.int .i64) (p48.add 0) w9 fun x49 =>
                  ld (Value.int .i64) (p48.add 1) w9 fun x50 =>
                  ld (Value.int .i64) (p48.add 2) w9 fun x51 =>
                  ld (Value.int .i64) (p48.add 3) w9 fun x52 =>
                  ld (Value.int .i64) (p48.add 4) w9 fun x53 =>
                  ix p1 l9 5 fun p54 =>
                  ld (Value.int .i64) (p54.add 0) w9 fun x55 =>
                  ld (Value.int .i64) (p54.add 1) w9 fun x56 =>
                  ld (Value.int .i64) (p54.add 2) w9 fun x57 =>
                  ld (Value.int .i64) (p54.add 3) w9 fun x58 =>
                  ld (Value.int .i64) (p54.add 4) w9 fun x59 =>
                  callC Try.prog 13 #[(Value.agg #[(Value.int .i64 x37), (Value.int .i64 x38), (Value.int .i64 x39), (Value.int .i64 x40), (Value.int .i64 x41)]), (Value.agg #[(Value.int .i64 x43), (Value.int .i64 x44), (Value.int .i64 x45), (Value.int .i64 x46), (Value.int .i64 x47)])] (fun (r : Int) => (Value.int .i64 r)) w9 fun r60 w10 =>
                  (w10.cell? (p54.add 0) = some (Value.int .i64 x55) ∧ w10.cell? (p54.add 1) = some (Value.int .i64 x56) ∧ w10.cell? (p54.add 2) = some (Value.int .i64 x57) ∧ w10.cell? (p54.add 3) = some (Value.int .i64 x58) ∧ w10.cell? (p54.add 4) = some (Value.int .i64 x59)) ∧
                  (w10.cell? (p48.add 0) = some (Value.int .i64 x49) ∧ w10.cell? (p48.add 1) = some (Value.int .i64 x50) ∧ w10.cell? (p48.add 2) = some (Value.int .i64 x51) ∧ w10.cell? (p48.add 3) = some (Value.int .i64 x52) ∧ w10.cell? (p48.add 4) = some (Value.int .i64 x53)) ∧
                  callC Try.prog 14 #[(Value.agg #[(Value.int .i64 x49), (Value.int .i64 x50), (Value.int .i64 x51), (Value.int .i64 x52), (Value.int .i64 x53)]), (Value.agg #[(Value.int .i64 x55), (Value.int .i64 x56), (Value.int .i64 x57), (Value.int .i64 x58), (Value.int .i64 x59)])] (fun (r : Int) => (Value.int .i64 r)) w10 fun r61 w11 =>
                  J35 (!decide (r60 = r61)) w11
                )
                fun l62 w12 =>
                cnd (l62)
                  (
                  K false w12
                  )
                  (
                  next30 (IntKind.i64.wrap (l30 + 1)) w12
                  )
                )
                (
                next9 (IntKind.i64.wrap (l9 + 1)) w8
                )
            ) 0 w7
            )
          )
          (
          K r1 w5
          )
      ) 0 w4
      )
    )
set_option maxRecDepth 100000 in
theorem D3 (p0 : Sl) (p1 : Sl) (p2 : Int) (w0 : World) (K : Bool → World → Prop) (h : F3 p0 p1 p2 w0 K) : callC Try.prog 3 #[(Sl.v p0), (Sl.v p1), (Value.int .i64 p2)] (fun (r : Bool) => (Value.bool r)) w0 K := by
  unfold F3 at h
  refine calls_of_wpC Try.func3 rfl 102 rfl (by simp) ?_
  intro ρ hρ
  have e0 : ρ 0 = (Sl.v p0) := hρ 0
  have e1 : ρ 1 = (Sl.v p1) := hρ 1
  have e2 : ρ 2 = (Value.int .i64 p2) := hρ 2
  clear hρ
  refine wpC_seq ?_
  refine wpC_region ?_
  refine wpR_val (v := (Value.bool false)) (w' := w0) rfl rfl rfl (x_assign (v := (Value.bool false)) rfl rfl) ?_
  refine wpR_nil ?_
  refine wpC_seq ?_
  refine wpC_cut (fun ρ => ρ 0 = (Sl.v p0) ∧ ρ 1 = (Sl.v p1) ∧ ρ 2 = (Value.int .i64 p2) ∧ True) ⟨e0, e1, e2, trivial⟩ ?_
  rintro ρ ⟨e0, e1, e2, -⟩
  refine wpC_region ?_
  refine wpR_enter rfl rfl rfl (x_call (vs := []) rfl rfl mapl_nil Try.func7 NN_7 NB_7) (Calls.mono h ?_)
  rintro _ w1 ⟨r1, rfl, h⟩
  refine ⟨_, rfl, ?_⟩
  refine wpR_val (v := (Value.bool r1)) (w' := w1) rfl rfl rfl (x_assign (v := (Value.bool r1)) rfl rfl) ?_
  refine wpR_nil ?_
  refine wpC_seq ?_
  refine wpC_seq ?_
  refine wpC_cut (fun ρ => ρ 0 = (Sl.v p0) ∧ ρ 1 = (Sl.v p1) ∧ ρ 2 = (Value.int .i64 p2) ∧ ρ 7 = (Value.bool r1) ∧ True) ⟨e0, e1, e2, rfl, trivial⟩ ?_
  rintro ρ ⟨e0, e1, e2, e7, -⟩
  refine wpC_region ?_
  refine wpR_val (v := (Sl.v p0)) (w' := w1) rfl rfl rfl (x_move (v := (Sl.v p0)) rfl e0) ?_
  refine wpR_val (v := (Value.int .i64 (p0.len : Int))) (w' := w1) rfl rfl rfl (x_lenS (s := p0) rfl rfl isSliceT_22) ?_
  refine wpR_val (v := (Value.bool (decide (40 < (p0.len : Int))))) (w' := w1) rfl rfl rfl (x_gtr rfl rfl rfl) ?_
  refine wpR_val (v := (Value.bool (decide (40 < (p0.len : Int))))) (w' := w1) rfl rfl rfl (x_move (v := (Value.bool (decide (40 < (p0.len : Int))))) rfl rfl) ?_
  refine wpR_joinJ 4 (fun (_ : Unit) ρ => ρ 22 = Value.bool ((decide (40 < (p0.len : Int))) || (decide (40 < (p1.len : Int)))) ∧ ρ 0 = (Sl.v p0) ∧ ρ 1 = (Sl.v p1) ∧ ρ 2 = (Value.int .i64 p2) ∧ ρ 7 = (Value.bool r1) ∧ True) (fun _ w => w1 = w) ?_ ?_
  · clear h
    rcases Bool.eq_false_or_eq_true (decide (40 < (p0.len : Int))) with hc3 | hc3
    · skip
      refine wpR_pass (wantN rfl rfl rfl hc3) rfl rfl ?_
      refine wpR_pass (wantN rfl rfl rfl hc3) rfl rfl ?_
      refine wpR_pass (wantN rfl rfl rfl hc3) rfl rfl ?_
      refine wpR_val (v := (Value.bool true)) (w' := w1) rfl rfl rfl (x_pickT (v := (Value.bool true)) rfl rfl hc3 rfl) ?_
      refine wpR_nil ?_
      exact ⟨(), ⟨(by rw [hc3]; rfl), e0, e1, e2, e7, trivial⟩, rfl⟩
    · skip
      refine wpR_val (v := (Sl.v p1)) (w' := w1) (wantG rfl rfl rfl hc3) rfl rfl (x_move (v := (Sl.v p1)) rfl e1) ?_
      refine wpR_val (v := (Value.int .i64 (p1.len : Int))) (w' := w1) (wantG rfl rfl rfl hc3) rfl rfl (x_lenS (s := p1) rfl rfl isSliceT_22) ?_
      refine wpR_val (v := (Value.bool (decide (40 < (p1.len : Int))))) (w' := w1) (wantG rfl rfl rfl hc3) rfl rfl (x_gtr rfl rfl rfl) ?_
      refine wpR_val (v := (Value.bool (decide (40 < (p1.len : Int))))) (w' := w1) rfl rfl rfl (x_pickF (v := (Value.bool (decide (40 < (p1.len : Int))))) rfl rfl hc3 rfl) ?_
      refine wpR_nil ?_
      exact ⟨(), ⟨(by rw [hc3]; rfl), e0, e1, e2, e7, trivial⟩, rfl⟩
  rintro _ ρ wj ⟨e22, e0, e1, e2, e7, -⟩ rfl
  refine wpR_nil ?_
  refine wpC_cond (b := (decide (40 < (p0.len : Int))) || (decide (40 < (p1.len : Int)))) e22 (fun hc4 => ?_) (fun hc4 => ?_)
  · replace h := h.1 hc4
    refine wpC_seq ?_
    refine wpC_region ?_
    refine wpR_val (v := (Value.bool r1)) (w' := w1) rfl rfl rfl (x_move (v := (Value.bool r1)) rfl e7) ?_
    refine wpR_val (v := (Value.bool r1)) (w' := w1) rfl rfl rfl (x_assign (v := (Value.bool r1)) rfl rfl) ?_
    refine wpR_nil ?_
    refine wpC_ret ?_
    exact ⟨.inl rfl, fun a ha => ⟨_, results_rep1 rfl ha rfl, r1, rfl, h⟩⟩
  · replace h := h.2 hc4
    refine wpC_skip ?_
    refine wpC_seq ?_
    refine wpC_seq ?_
    refine wpC_region ?_
    refine wpR_val (v := (Sl.v p0)) (w' := w1) rfl rfl rfl (x_move (v := (Sl.v p0)) rfl e0) ?_
    refine wpR_val (v := (Sl.v p1)) (w' := w1) rfl rfl rfl (x_move (v := (Sl.v p1)) rfl e1) ?_
    refine wpR_val (v := (Value.int .i64 p2)) (w' := w1) rfl rfl rfl (x_move (v := (Value.int .i64 p2)) rfl e2) ?_
    refine wpR_enter rfl rfl rfl (x_call (vs := [(Sl.v p0), (Sl.v p1), (Value.int .i64 p2)]) rfl rfl (mapl_cons rfl (mapl_cons rfl (mapl_cons rfl mapl_nil))) Try.func9 NN_9 NB_9) (Calls.mono h ?_)
    rintro _ w2 ⟨r5, rfl, h⟩
    refine ⟨_, rfl, ?_⟩
    refine wpR_val (v := (Sl.v p0)) (w' := w2) rfl rfl rfl (x_move (v := (Sl.v p0)) rfl e0) ?_
    refine wpR_val (v := (Sl.v p1)) (w' := w2) rfl rfl rfl (x_move (v := (Sl.v p1)) rfl e1) ?_
    refine wpR_val (v := (Value.int .i64 p2)) (w' := w2) rfl rfl rfl (x_move (v := (Value.int .i64 p2)) rfl e2) ?_
    refine wpR_enter rfl rfl rfl (x_call (vs := [(Sl.v p0), (Sl.v p1), (Value.int .i64 p2)]) rfl rfl (mapl_cons rfl (mapl_cons rfl (mapl_cons rfl mapl_nil))) Try.func10 NN_10 NB_10) (Calls.mono h ?_)
    rintro _ w3 ⟨r6, rfl, h⟩
    refine ⟨_, rfl, ?_⟩
    refine wpR_enter rfl rfl rfl (x_call (vs := [(Sl.v r5), (Sl.v r6)]) rfl rfl (mapl_cons rfl (mapl_cons rfl mapl_nil)) Try.func8 NN_8 NB_8) (Calls.mono h ?_)
    rintro _ w4 ⟨r7, rfl, h⟩
    refine ⟨_, rfl, ?_⟩
    refine wpR_val (v := (Value.bool (!r7))) (w' := w4) rfl rfl rfl (x_not rfl rfl) ?_
    refine wpR_nil ?_
    refine wpC_cond (b := !r7) rfl (fun hc8 => ?_) (fun hc8 => ?_)
    · replace h := h.1 hc8
      refine wpC_seq ?_
      refine wpC_cut (fun ρ => True) trivial ?_
      rintro ρ -
      refine wpC_region ?_
      refine wpR_val (v := (Value.bool false)) (w' := w4) rfl rfl rfl (x_assign (v := (Value.bool false)) rfl rfl) ?_
      refine wpR_nil ?_
      refine wpC_ret ?_
      exact ⟨.inl rfl, fun a ha => ⟨_, results_rep1 rfl ha rfl, false, rfl, h⟩⟩
    · replace h := h.2 hc8
      refine wpC_skip ?_
      refine wpC_seq ?_
      refine wpC_seq ?_
      refine wpC_cut (fun ρ => ρ 0 = (Sl.v p0) ∧ ρ 1 = (Sl.v p1) ∧ ρ 2 = (Value.int .i64 p2) ∧ ρ 7 = (Value.bool r1) ∧ True) ⟨e0, e1, e2, e7, trivial⟩ ?_
      rintro ρ ⟨e0, e1, e2, e7, -⟩
      refine wpC_region ?_
      refine wpR_val (v := (Value.int .i64 0)) (w' := w4) rfl rfl rfl (x_assign (v := (Value.int .i64 0)) rfl rfl) ?_
      refine wpR_nil ?_
      refine wpC_block ?_
      obtain ⟨I9, μ9, hI9, hr9⟩ := h
      refine wpC_loop (fun (x : Int) ρ => ρ 8 = (Value.int .i64 x) ∧ ρ 0 = (Sl.v p0) ∧ ρ 1 = (Sl.v p1) ∧ ρ 2 = (Value.int .i64 p2) ∧ ρ 7 = (Value.bool r1) ∧ True) I9 μ9 0 ⟨rfl, e0, e1, e2, e7, trivial⟩ hI9 ?_
      rintro l9 ρ w5 ⟨e8, e0, e1, e2, e7, -⟩ h
      replace h := hr9 l9 w5 h
      clear hr9 hI9
      refine wpC_seq ?_
      refine wpC_seq ?_
      refine wpC_region ?_
      refine wpR_val (v := (Value.int .i64 l9)) (w' := w5) rfl rfl rfl (x_move (v := (Value.int .i64 l9)) rfl e8) ?_
      refine wpR_val (v := (Sl.v p1)) (w' := w5) rfl rfl rfl (x_move (v := (Sl.v p1)) rfl e1) ?_
      refine wpR_val (v := (Value.int .i64 (p1.len : Int))) (w' := w5) rfl rfl rfl (x_lenS (s := p1) rfl rfl isSliceT_22) ?_
      refine wpR_val (v := (Value.bool (decide (l9 < (p1.len : Int))))) (w' := w5) rfl rfl rfl (x_lss rfl rfl rfl) ?_
      refine wpR_val (v := (Value.bool (decide (l9 < (p1.len : Int))))) (w' := w5) rfl rfl rfl (x_move (v := (Value.bool (decide (l9 < (p1.len : Int))))) rfl rfl) ?_
      refine wpR_joinJ 3 (fun (_ : Unit) ρ => ρ 41 = Value.bool ((decide (l9 < (p1.len : Int))) && (decide (l9 < 8))) ∧ ρ 0 = (Sl.v p0) ∧ ρ 1 = (Sl.v p1) ∧ ρ 2 = (Value.int .i64 p2) ∧ ρ 7 = (Value.bool r1) ∧ ρ 8 = (Value.int .i64 l9) ∧ True) (fun _ w => w5 = w) ?_ ?_
      · clear h
        rcases Bool.eq_false_or_eq_true (decide (l9 < (p1.len : Int))) with hc11 | hc11
        · skip
          refine wpR_val (v := (Value.int .i64 l9)) (w' := w5) (wantG rfl rfl rfl hc11) rfl rfl (x_move (v := (Value.int .i64 l9)) rfl e8) ?_
          refine wpR_val (v := (Value.bool (decide (l9 < 8)))) (w' := w5) (wantG rfl rfl rfl hc11) rfl rfl (x_lss rfl rfl rfl) ?_
          refine wpR_val (v := (Value.bool (decide (l9 < 8)))) (w' := w5) rfl rfl rfl (x_pickT (v := (Value.bool (decide (l9 < 8)))) rfl rfl hc11 rfl) ?_
          refine wpR_nil ?_
          exact ⟨(), ⟨(by rw [hc11]; rfl), e0, e1, e2, e7, e8, trivial⟩, rfl⟩
        · skip
          refine wpR_pass (wantN rfl rfl rfl hc11) rfl rfl ?_
          refine wpR_pass (wantN rfl rfl rfl hc11) rfl rfl ?_
          refine wpR_val (v := (Value.bool false)) (w' := w5) rfl rfl rfl (x_pickF (v := (Value.bool false)) rfl rfl hc11 rfl) ?_
          refine wpR_nil ?_
          exact ⟨(), ⟨(by rw [hc11]; rfl), e0, e1, e2, e7, e8, trivial⟩, rfl⟩
      rintro _ ρ wj ⟨e41, e0, e1, e2, e7, e8, -⟩ rfl
      refine wpR_nil ?_
      refine wpC_cond (b := (decide (l9 < (p1.len : Int))) && (decide (l9 < 8))) e41 (fun hc12 => ?_) (fun hc12 => ?_)
      · replace h := h.1 hc12
        refine wpC_skip ?_
        refine wpC_seq ?_
        refine wpC_block ?_
        refine wpC_seq ?_
        refine wpC_region ?_
        refine wpR_val (v := (Sl.v p0)) (w' := w5) rfl rfl rfl (x_move (v := (Sl.v p0)) rfl e0) ?_
        refine wpR_val (v := (Sl.v p1)) (w' := w5) rfl rfl rfl (x_move (v := (Sl.v p1)) rfl e1) ?_
        refine wpR_val (v := (Value.int .i64 l9)) (w' := w5) rfl rfl rfl (x_move (v := (Value.int .i64 l9)) rfl e8) ?_
        obtain ⟨q13, z13, r13, h⟩ := h
        generalize hp13 : z13.add ((l9 : Int).toNat * 5) = p13 at h
        refine wpR_val (v := (Value.pointer (some p13))) (w' := w5) rfl rfl rfl ((x_indexAddr (s := p1) rfl rfl rfl ES_22 q13 r13).trans (by rw [hp13])) ?_
        obtain ⟨x14, q14, h⟩ := h
        obtain ⟨x15, q15, h⟩ := h
        obtain ⟨x16, q16, h⟩ := h
        obtain ⟨x17, q17, h⟩ := h
        obtain ⟨x18, q18, h⟩ := h
        refine wpR_val (v := (Value.agg #[(Value.int .i64 x14), (Value.int .i64 x15), (Value.int .i64 x16), (Value.int .i64 x17), (Value.int .i64 x18)])) (w' := w5) rfl rfl rfl (x_loadN [(Value.int .i64 x14), (Value.int .i64 x15), (Value.int .i64 x16), (Value.int .i64 x17), (Value.int .i64 x18)] rfl rfl SH_30 (CellsAt.out (CellsAt.cons q14 (CellsAt.cons q15 (CellsAt.cons q16 (CellsAt.cons q17 (CellsAt.cons q18 CellsAt.nil))))))) ?_
        refine wpR_val (v := (Value.int .i64 p2)) (w' := w5) rfl rfl rfl (x_move (v := (Value.int .i64 p2)) rfl e2) ?_
        refine wpR_enter rfl rfl rfl (x_call (vs := [(Sl.v p0), (Value.agg #[(Value.int .i64 x14), (Value.int .i64 x15), (Value.int .i64 x16), (Value.int .i64 x17), (Value.int .i64 x18)]), (Value.int .i64 p2)]) rfl rfl (mapl_cons rfl (mapl_cons rfl (mapl_cons rfl mapl_nil))) Try.func11 NN_11 NB_11) (Calls.mono h ?_)
        rintro _ w6 ⟨r19, rfl, h⟩
        refine ⟨_, rfl, ?_⟩
        refine wpR_val (v := (Value.tuple #[(Value.int .i64 r19.1), (Value.bool r19.2)])) (w' := w6) rfl rfl rfl (x_move (v := (Value.tuple #[(Value.int .i64 r19.1), (Value.bool r19.2)])) rfl rfl) ?_
        refine wpR_val (v := (Value.int .i64 r19.1)) (w' := w6) rfl rfl rfl (x_extract rfl rfl rfl) ?_
        refine wpR_val (v := (Value.bool r19.2)) (w' := w6) rfl rfl rfl (x_extract rfl rfl rfl) ?_
        refine wpR_val (v := (Value.int .i64 r19.1)) (w' := w6) rfl rfl rfl (x_assign (v := (Value.int .i64 r19.1)) rfl rfl) ?_
        refine wpR_val (v := (Value.bool r19.2)) (w' := w6) rfl rfl rfl (x_assign (v := (Value.bool r19.2)) rfl rfl) ?_
        refine wpR_nil ?_
        refine wpC_seq ?_
        refine wpC_cut (fun ρ => ρ 0 = (Sl.v p0) ∧ ρ 1 = (Sl.v p1) ∧ ρ 2 = (Value.int .i64 p2) ∧ ρ 7 = (Value.bool r1) ∧ ρ 8 = (Value.int .i64 l9) ∧ ρ 9 = (Value.int .i64 r19.1) ∧ ρ 10 = (Value.bool r19.2) ∧ True) ⟨e0, e1, e2, e7, e8, rfl, rfl, trivial⟩ ?_
        rintro ρ ⟨e0, e1, e2, e7, e8, e9, e10, -⟩
        refine wpC_region ?_
        refine wpR_val (v := (Sl.v p0)) (w' := w6) rfl rfl rfl (x_move (v := (Sl.v p0)) rfl e0) ?_
        refine wpR_val (v := (Sl.v p1)) (w' := w6) rfl rfl rfl (x_move (v := (Sl.v p1)) rfl e1) ?_
        refine wpR_val (v := (Value.int .i64 l9)) (w' := w6) rfl rfl rfl (x_move (v := (Value.int .i64 l9)) rfl e8) ?_
        obtain ⟨q20, z20, r20, h⟩ := h
        generalize hp20 : z20.add ((l9 : Int).toNat * 5) = p20 at h
        refine wpR_val (v := (Value.pointer (some p20))) (w' := w6) rfl rfl rfl ((x_indexAddr (s := p1) rfl rfl rfl ES_22 q20 r20).trans (by rw [hp20])) ?_
        obtain ⟨x21, q21, h⟩ := h
        obtain ⟨x22, q22, h⟩ := h
        obtain ⟨x23, q23, h⟩ := h
        obtain ⟨x24, q24, h⟩ := h
        obtain ⟨x25, q25, h⟩ := h
        refine wpR_val (v := (Value.agg #[(Value.int .i64 x21), (Value.int .i64 x22), (Value.int .i64 x23), (Value.int .i64 x24), (Value.int .i64 x25)])) (w' := w6) rfl rfl rfl (x_loadN [(Value.int .i64 x21), (Value.int .i64 x22), (Value.int .i64 x23), (Value.int .i64 x24), (Value.int .i64 x25)] rfl rfl SH_30 (CellsAt.out (CellsAt.cons q21 (CellsAt.cons q22 (CellsAt.cons q23 (CellsAt.cons q24 (CellsAt.cons q25 CellsAt.nil))))))) ?_
        refine wpR_val (v := (Value.int .i64 p2)) (w' := w6) rfl rfl rfl (x_move (v := (Value.int .i64 p2)) rfl e2) ?_
        refine wpR_enter rfl rfl rfl (x_call (vs := [(Sl.v p0), (Value.agg #[(Value.int .i64 x21), (Value.int .i64 x22), (Value.int .i64 x23), (Value.int .i64 x24), (Value.int .i64 x25)]), (Value.int .i64 p2)]) rfl rfl (mapl_cons rfl (mapl_cons rfl (mapl_cons rfl mapl_nil))) Try.func12 NN_12 NB_12) (Calls.mono h ?_)
        rintro _ w7 ⟨r26, rfl, h⟩
        refine ⟨_, rfl, ?_⟩
        refine wpR_val (v := (Value.tuple #[(Value.int .i64 r26.1), (Value.bool r26.2)])) (w' := w7) rfl rfl rfl (x_move (v := (Value.tuple #[(Value.int .i64 r26.1), (Value.bool r26.2)])) rfl rfl) ?_
        refine wpR_val (v := (Value.int .i64 r26.1)) (w' := w7) rfl rfl rfl (x_extract rfl rfl rfl) ?_
        refine wpR_val (v := (Value.bool r26.2)) (w' := w7) rfl rfl rfl (x_extract rfl rfl rfl) ?_
        refine wpR_val (v := (Value.int .i64 r26.1)) (w' := w7) rfl rfl rfl (x_assign (v := (Value.int .i64 r26.1)) rfl rfl) ?_
        refine wpR_val (v := (Value.bool r26.2)) (w' := w7) rfl rfl rfl (x_assign (v := (Value.bool r26.2)) rfl rfl) ?_
        refine wpR_nil ?_
        refine wpC_seq ?_
        refine wpC_seq ?_
        refine wpC_cut (fun ρ => ρ 0 = (Sl.v p0) ∧ ρ 1 = (Sl.v p1) ∧ ρ 2 = (Value.int .i64 p2) ∧ ρ 7 = (Value.bool r1) ∧ ρ 8 = (Value.int .i64 l9) ∧ ρ 9 = (Value.int .i64 r19.1) ∧ ρ 10 = (Value.bool r19.2) ∧ ρ 11 = (Value.int .i64 r26.1) ∧ ρ 12 = (Value.bool r26.2) ∧ True) ⟨e0, e1, e2, e7, e8, e9, e10, rfl, rfl, trivial⟩ ?_
        rintro ρ ⟨e0, e1, e2, e7, e8, e9, e10, e11, e12, -⟩
        refine wpC_region ?_
        refine wpR_val (v := (Value.int .i64 r19.1)) (w' := w7) rfl rfl rfl (x_move (v := (Value.int .i64 r19.1)) rfl e9) ?_
        refine wpR_val (v := (Value.int .i64 r26.1)) (w' := w7) rfl rfl rfl (x_move (v := (Value.int .i64 r26.1)) rfl e11) ?_
        refine wpR_val (v := (Value.bool (!decide (r19.1 = r26.1)))) (w' := w7) rfl rfl rfl (x_neq rfl rfl rfl) ?_
        refine wpR_val (v := (Value.bool (!decide (r19.1 = r26.1)))) (w' := w7) rfl rfl rfl (x_move (v := (Value.bool (!decide (r19.1 = r26.1)))) rfl rfl) ?_
        refine wpR_joinJ 4 (fun (_ : Unit) ρ => ρ 71 = Value.bool ((!decide (r19.1 = r26.1)) || (!(r19.2 == r26.2))) ∧ ρ 0 = (Sl.v p0) ∧ ρ 1 = (Sl.v p1) ∧ ρ 2 = (Value.int .i64 p2) ∧ ρ 7 = (Value.bool r1) ∧ ρ 8 = (Value.int .i64 l9) ∧ True) (fun _ w => w7 = w) ?_ ?_
        · clear h
          rcases Bool.eq_false_or_eq_true (!decide (r19.1 = r26.1)) with hc28 | hc28
          · skip
            refine wpR_pass (wantN rfl rfl rfl hc28) rfl rfl ?_
            refine wpR_pass (wantN rfl rfl rfl hc28) rfl rfl ?_
            refine wpR_pass (wantN rfl rfl rfl hc28) rfl rfl ?_
            refine wpR_val (v := (Value.bool true)) (w' := w7) rfl rfl rfl (x_pickT (v := (Value.bool true)) rfl rfl hc28 rfl) ?_
            refine wpR_nil ?_
            exact ⟨(), ⟨(by rw [hc28]; rfl), e0, e1, e2, e7, e8, trivial⟩, rfl⟩
          · skip
            refine wpR_val (v := (Value.bool r19.2)) (w' := w7) (wantG rfl rfl rfl hc28) rfl rfl (x_move (v := (Value.bool r19.2)) rfl e10) ?_
            refine wpR_val (v := (Value.bool r26.2)) (w' := w7) (wantG rfl rfl rfl hc28) rfl rfl (x_move (v := (Value.bool r26.2)) rfl e12) ?_
            refine wpR_val (v := (Value.bool (!(r19.2 == r26.2)))) (w' := w7) (wantG rfl rfl rfl hc28) rfl rfl (x_neqB rfl rfl rfl isBoolT_4) ?_
            refine wpR_val (v := (Value.bool (!(r19.2 == r26.2)))) (w' := w7) rfl rfl rfl (x_pickF (v := (Value.bool (!(r19.2 == r26.2)))) rfl rfl hc28 rfl) ?_
            refine wpR_nil ?_
            exact ⟨(), ⟨(by rw [hc28]; rfl), e0, e1, e2, e7, e8, trivial⟩, rfl⟩
        rintro _ ρ wj ⟨e71, e0, e1, e2, e7, e8, -⟩ rfl
        refine wpR_nil ?_
        refine wpC_cond (b := (!decide (r19.1 = r26.1)) || (!(r19.2 == r26.2))) e71 (fun hc29 => ?_) (fun hc29 => ?_)
        · replace h := h.1 hc29
          refine wpC_seq ?_
          refine wpC_region ?_
          refine wpR_val (v := (Value.bool false)) (w' := w7) rfl rfl rfl (x_assign (v := (Value.bool false)) rfl rfl) ?_
          refine wpR_nil ?_
          refine wpC_ret ?_
          exact ⟨.inl rfl, fun a ha => ⟨_, results_rep1 rfl ha rfl, false, rfl, h⟩⟩
        · replace h := h.2 hc29
          refine wpC_skip ?_
          refine wpC_seq ?_
          refine wpC_region ?_
          refine wpR_val (v := (Value.int .i64 0)) (w' := w7) rfl rfl rfl (x_assign (v := (Value.int .i64 0)) rfl rfl) ?_
          refine wpR_nil ?_
          refine wpC_block ?_
          obtain ⟨I30, μ30, hI30, hr30⟩ := h
          refine wpC_loop (fun (x : Int) ρ => ρ 13 = (Value.int .i64 x) ∧ ρ 0 = (Sl.v p0) ∧ ρ 1 = (Sl.v p1) ∧ ρ 2 = (Value.int .i64 p2) ∧ ρ 7 = (Value.bool r1) ∧ ρ 8 = (Value.int .i64 l9) ∧ True) I30 μ30 0 ⟨rfl, e0, e1, e2, e7, e8, trivial⟩ hI30 ?_
          rintro l30 ρ w8 ⟨e13, e0, e1, e2, e7, e8, -⟩ h
          replace h := hr30 l30 w8 h
          clear hr30 hI30
          refine wpC_seq ?_
          refine wpC_seq ?_
          refine wpC_region ?_
          refine wpR_val (v := (Value.int .i64 l30)) (w' := w8) rfl rfl rfl (x_move (v := (Value.int .i64 l30)) rfl e13) ?_
          refine wpR_val (v := (Sl.v p0)) (w' := w8) rfl rfl rfl (x_move (v := (Sl.v p0)) rfl e0) ?_
          refine wpR_val (v := (Value.int .i64 (p0.len : Int))) (w' := w8) rfl rfl rfl (x_lenS (s := p0) rfl rfl isSliceT_22) ?_
          refine wpR_val (v := (Value.bool (decide (l30 < (p0.len : Int))))) (w' := w8) rfl rfl rfl (x_lss rfl rfl rfl) ?_
          refine wpR_val (v := (Value.bool (decide (l30 < (p0.len : Int))))) (w' := w8) rfl rfl rfl (x_move (v := (Value.bool (decide (l30 < (p0.len : Int))))) rfl rfl) ?_
          refine wpR_joinJ 3 (fun (_ : Unit) ρ => ρ 79 = Value.bool ((decide (l30 < (p0.len : Int))) && (decide (l30 < 8))) ∧ ρ 0 = (Sl.v p0) ∧ ρ 1 = (Sl.v p1) ∧ ρ 2 = (Value.int .i64 p2) ∧ ρ 7 = (Value.bool r1) ∧ ρ 8 = (Value.int .i64 l9) ∧ ρ 13 = (Value.int .i64 l30) ∧ True) (fun _ w => w8 = w) ?_ ?_
          · clear h
            rcases Bool.eq_false_or_eq_true (decide (l30 < (p0.len : Int))) with hc32 | hc32
            · skip
              refine wpR_val (v := (Value.int .i64 l30)) (w' := w8) (wantG rfl rfl rfl hc32) rfl rfl (x_move (v := (Value.int .i64 l30)) rfl e13) ?_
              refine wpR_val (v := (Value.bool (decide (l30 < 8)))) (w' := w8) (wantG rfl rfl rfl hc32) rfl rfl (x_lss rfl rfl rfl) ?_
              refine wpR_val (v := (Value.bool (decide (l30 < 8)))) (w' := w8) rfl rfl rfl (x_pickT (v := (Value.bool (decide (l30 < 8)))) rfl rfl hc32 rfl) ?_
              refine wpR_nil ?_
              exact ⟨(), ⟨(by rw [hc32]; rfl), e0, e1, e2, e7, e8, e13, trivial⟩, rfl⟩
            · skip
              refine wpR_pass (wantN rfl rfl rfl hc32) rfl rfl ?_
              refine wpR_pass (wantN rfl rfl rfl hc32) rfl rfl ?_
              refine wpR_val (v := (Value.bool false)) (w' := w8) rfl rfl rfl (x_pickF (v := (Value.bool false)) rfl rfl hc32 rfl) ?_
              refine wpR_nil ?_
              exact ⟨(), ⟨(by rw [hc32]; rfl), e0, e1, e2, e7, e8, e13, trivial⟩, rfl⟩
          rintro _ ρ wj ⟨e79, e0, e1, e2, e7, e8, e13, -⟩ rfl
          refine wpR_nil ?_
          refine wpC_cond (b := (decide (l30 < (p0.len : Int))) && (decide (l30 < 8))) e79 (fun hc33 => ?_) (fun hc33 => ?_)
          · replace h := h.1 hc33
            refine wpC_skip ?_
            refine wpC_seq ?_
            refine wpC_block ?_
            refine wpC_seq ?_
            obtain ⟨J35, h, hk⟩ := h
            refine wpC_drawJ (by kernel_rfl) (fun (x : Bool) ρ => ρ 100 = (Value.bool x) ∧ ρ 0 = (Sl.v p0) ∧ ρ 1 = (Sl.v p1) ∧ ρ 2 = (Value.int .i64 p2) ∧ ρ 7 = (Value.bool r1) ∧ ρ 8 = (Value.int .i64 l9) ∧ ρ 13 = (Value.int .i64 l30) ∧ True) J35 ?_ ?_
            · clear hk
              unfold tk at h
              generalize w8.drew = w9 at h ⊢
              refine wpD_take (v := (Sl.v p0)) 0 (fun _ => True) rfl (by kernel_rfl) (by kernel_rfl) (by kernel_rfl) rfl rfl rfl trivial (fun w _ => (x_move (v := (Sl.v p0)) rfl e0)) ?_
              refine wpD_take (v := (Value.int .i64 l30)) 1 (fun _ => True) rfl (by kernel_rfl) (by kernel_rfl) (by kernel_rfl) rfl rfl rfl trivial (fun w _ => (x_move (v := (Value.int .i64 l30)) rfl e13)) ?_
              obtain ⟨q36, z36, r36, h⟩ := h
              generalize hp36 : z36.add ((l30 : Int).toNat * 5) = p36 at h
              refine wpD_take (v := (Value.pointer (some p36))) 2 (fun _ => True) rfl (by kernel_rfl) (by kernel_rfl) (by kernel_rfl) rfl rfl rfl trivial (fun w _ => ((x_indexAddr (s := p0) rfl rfl rfl ES_22 q36 r36).trans (by rw [hp36]))) ?_
              obtain ⟨x37, q37, h⟩ := h
              obtain ⟨x38, q38, h⟩ := h
              obtain ⟨x39, q39, h⟩ := h
              obtain ⟨x40, q40, h⟩ := h
              obtain ⟨x41, q41, h⟩ := h
              refine wpD_take (v := (Value.agg #[(Value.int .i64 x37), (Value.int .i64 x38), (Value.int .i64 x39), (Value.int .i64 x40), (Value.int .i64 x41)])) 3 (fun w => w.cell? (p36.add 0) = some (Value.int .i64 x37) ∧ w.cell? (p36.add 1) = some (Value.int .i64 x38) ∧ w.cell? (p36.add 2) = some (Value.int .i64 x39) ∧ w.cell? (p36.add 3) = some (Value.int .i64 x40) ∧ w.cell? (p36.add 4) = some (Value.int .i64 x41)) rfl (by kernel_rfl) (by kernel_rfl) (by kernel_rfl) rfl rfl rfl ⟨q37, q38, q39, q40, q41⟩ (fun w ⟨q37, q38, q39, q40, q41⟩ => (x_loadN [(Value.int .i64 x37), (Value.int .i64 x38), (Value.int .i64 x39), (Value.int .i64 x40), (Value.int .i64 x41)] rfl rfl SH_30 (CellsAt.out (CellsAt.cons q37 (CellsAt.cons q38 (CellsAt.cons q39 (CellsAt.cons q40 (CellsAt.cons q41 CellsAt.nil)))))))) ?_
              refine wpD_take (v := (Sl.v p1)) 4 (fun _ => True) rfl (by kernel_rfl) (by kernel_rfl) (by kernel_rfl) rfl rfl rfl trivial (fun w _ => (x_move (v := (Sl.v p1)) rfl e1)) ?_
              refine wpD_take (v := (Value.int .i64 l9)) 5 (fun _ => True) rfl (by kernel_rfl) (by kernel_rfl) (by kernel_rfl) rfl rfl rfl trivial (fun w _ => (x_move (v := (Value.int .i64 l9)) rfl e8)) ?_
              obtain ⟨q42, z42, r42, h⟩ := h
              generalize hp42 : z42.add ((l9 : Int).toNat * 5) = p42 at h
              refine wpD_take (v := (Value.pointer (some p42))) 6 (fun _ => True) rfl (by kernel_rfl) (by kernel_rfl) (by kernel_rfl) rfl rfl rfl trivial (fun w _ => ((x_indexAddr (s := p1) rfl rfl rfl ES_22 q42 r42).trans (by rw [hp42]))) ?_
              obtain ⟨x43, q43, h⟩ := h
              obtain ⟨x44, q44, h⟩ := h
              obtain ⟨x45, q45, h⟩ := h
              obtain ⟨x46, q46, h⟩ := h
              obtain ⟨x47, q47, h⟩ := h
              refine wpD_take (v := (Value.agg #[(Value.int .i64 x43), (Value.int .i64 x44), (Value.int .i64 x45), (Value.int .i64 x46), (Value.int .i64 x47)])) 7 (fun w => w.cell? (p42.add 0) = some (Value.int .i64 x43) ∧ w.cell? (p42.add 1) = some (Value.int .i64 x44) ∧ w.cell? (p42.add 2) = some (Value.int .i64 x45) ∧ w.cell? (p42.add 3) = some (Value.int .i64 x46) ∧ w.cell? (p42.add 4) = some (Value.int .i64 x47)) rfl (by kernel_rfl) (by kernel_rfl) (by kernel_rfl) rfl rfl rfl ⟨q43, q44, q45, q46, q47⟩ (fun w ⟨q43, q44, q45, q46, q47⟩ => (x_loadN [(Value.int .i64 x43), (Value.int .i64 x44), (Value.int .i64 x45), (Value.int .i64 x46), (Value.int .i64 x47)] rfl rfl SH_30 (CellsAt.out (CellsAt.cons q43 (CellsAt.cons q44 (CellsAt.cons q45 (CellsAt.cons q46 (CellsAt.cons q47 CellsAt.nil)))))))) ?_
              refine wpD_take (v := (Sl.v p0)) 9 (fun _ => True) rfl (by kernel_rfl) (by kernel_rfl) (by kernel_rfl) rfl rfl rfl trivial (fun w _ => (x_move (v := (Sl.v p0)) rfl e0)) ?_
              refine wpD_take (v := (Value.int .i64 l30)) 10 (fun _ => True) rfl (by kernel_rfl) (by kernel_rfl) (by kernel_rfl) rfl rfl rfl trivial (fun w _ => (x_move (v := (Value.int .i64 l30)) rfl e13)) ?_
              obtain ⟨q48, z48, r48, h⟩ := h
              generalize hp48 : z48.add ((l30 : Int).toNat * 5) = p48 at h
              refine wpD_take (v := (Value.pointer (some p48))) 11 (fun _ => True) rfl (by kernel_rfl) (by kernel_rfl) (by kernel_rfl) rfl rfl rfl trivial (fun w _ => ((x_indexAddr (s := p0) rfl rfl rfl ES_22 q48 r48).trans (by rw [hp48]))) ?_
              obtain ⟨x49, q49, h⟩ := h
              obtain ⟨x50, q50, h⟩ := h
              obtain ⟨x51, q51, h⟩ := h
              obtain ⟨x52, q52, h⟩ := h
              obtain ⟨x53, q53, h⟩ := h
              refine wpD_take (v := (Value.agg #[(Value.int .i64 x49), (Value.int .i64 x50), (Value.int .i64 x51), (Value.int .i64 x52), (Value.int .i64 x53)])) 12 (fun w => w.cell? (p48.add 0) = some (Value.int .i64 x49) ∧ w.cell? (p48.add 1) = some (Value.int .i64 x50) ∧ w.cell? (p48.add 2) = some (Value.int .i64 x51) ∧ w.cell? (p48.add 3) = some (Value.int .i64 x52) ∧ w.cell? (p48.add 4) = some (Value.int .i64 x53)) rfl (by kernel_rfl) (by kernel_rfl) (by kernel_rfl) rfl rfl rfl ⟨q49, q50, q51, q52, q53⟩ (fun w ⟨q49, q50, q51, q52, q53⟩ => (x_loadN [(Value.int .i64 x49), (Value.int .i64 x50), (Value.int .i64 x51), (Value.int .i64 x52), (Value.int .i64 x53)] rfl rfl SH_30 (CellsAt.out (CellsAt.cons q49 (CellsAt.cons q50 (CellsAt.cons q51 (CellsAt.cons q52 (CellsAt.cons q53 CellsAt.nil)))))))) ?_
              refine wpD_take (v := (Sl.v p1)) 13 (fun _ => True) rfl (by kernel_rfl) (by kernel_rfl) (by kernel_rfl) rfl rfl rfl trivial (fun w _ => (x_move (v := (Sl.v p1)) rfl e1)) ?_
              refine wpD_take (v := (Value.int .i64 l9)) 14 (fun _ => True) rfl (by kernel_rfl) (by kernel_rfl) (by kernel_rfl) rfl rfl rfl trivial (fun w _ => (x_move (v := (Value.int .i64 l9)) rfl e8)) ?_
              obtain ⟨q54, z54, r54, h⟩ := h
              generalize hp54 : z54.add ((l9 : Int).toNat * 5) = p54 at h
              refine wpD_take (v := (Value.pointer (some p54))) 15 (fun _ => True) rfl (by kernel_rfl) (by kernel_rfl) (by kernel_rfl) rfl rfl rfl trivial (fun w _ => ((x_indexAddr (s := p1) rfl rfl rfl ES_22 q54 r54).trans (by rw [hp54]))) ?_
              obtain ⟨x55, q55, h⟩ := h
              obtain ⟨x56, q56, h⟩ := h
              obtain ⟨x57, q57, h⟩ := h
              obtain ⟨x58, q58, h⟩ := h
              obtain ⟨x59, q59, h⟩ := h
              refine wpD_take (v := (Value.agg #[(Value.int .i64 x55), (Value.int .i64 x56), (Value.int .i64 x57), (Value.int .i64 x58), (Value.int .i64 x59)])) 16 (fun w => w.cell? (p54.add 0) = some (Value.int .i64 x55) ∧ w.cell? (p54.add 1) = some (Value.int .i64 x56) ∧ w.cell? (p54.add 2) = some (Value.int .i64 x57) ∧ w.cell? (p54.add 3) = some (Value.int .i64 x58) ∧ w.cell? (p54.add 4) = some (Value.int .i64 x59)) rfl (by kernel_rfl) (by kernel_rfl) (by kernel_rfl) rfl rfl rfl ⟨q55, q56, q57, q58, q59⟩ (fun w ⟨q55, q56, q57, q58, q59⟩ => (x_loadN [(Value.int .i64 x55), (Value.int .i64 x56), (Value.int .i64 x57), (Value.int .i64 x58), (Value.int .i64 x59)] rfl rfl SH_30 (CellsAt.out (CellsAt.cons q55 (CellsAt.cons q56 (CellsAt.cons q57 (CellsAt.cons q58 (CellsAt.cons q59 CellsAt.nil)))))))) ?_
              refine wpD_all (rs := [8]) (by kernel_rfl) (by simp) (allD_cons ?_ allD_nil)
              refine stepD_enterL (L' := [(16, fun w => w.cell? (p54.add 0) = some (Value.int .i64 x55) ∧ w.cell? (p54.add 1) = some (Value.int .i64 x56) ∧ w.cell? (p54.add 2) = some (Value.int .i64 x57) ∧ w.cell? (p54.add 3) = some (Value.int .i64 x58) ∧ w.cell? (p54.add 4) = some (Value.int .i64 x59)), (15, fun _ => True), (14, fun _ => True), (13, fun _ => True), (12, fun w => w.cell? (p48.add 0) = some (Value.int .i64 x49) ∧ w.cell? (p48.add 1) = some (Value.int .i64 x50) ∧ w.cell? (p48.add 2) = some (Value.int .i64 x51) ∧ w.cell? (p48.add 3) = some (Value.int .i64 x52) ∧ w.cell? (p48.add 4) = some (Value.int .i64 x53)), (11, fun _ => True), (10, fun _ => True), (9, fun _ => True), (6, fun _ => True), (5, fun _ => True), (4, fun _ => True), (2, fun _ => True), (1, fun _ => True), (0, fun _ => True)]) rfl rfl rfl rfl (x_call (vs := [(Value.agg #[(Value.int .i64 x37), (Value.int .i64 x38), (Value.int .i64 x39), (Value.int .i64 x40), (Value.int .i64 x41)]), (Value.agg #[(Value.int .i64 x43), (Value.int .i64 x44), (Value.int .i64 x45), (Value.int .i64 x46), (Value.int .i64 x47)])]) rfl rfl (mapl_cons rfl (mapl_cons rfl mapl_nil)) Try.func13 NN_13 NB_13) (by kernel_rfl) (Calls.mono h ?_)
              rintro _ w10 ⟨r60, rfl, h⟩
              obtain ⟨o16, h⟩ := h
              obtain ⟨o12, h⟩ := h
              refine ⟨_, rfl, (held_cons o16 (held_cons trivial (held_cons trivial (held_cons trivial (held_cons o12 (held_cons trivial (held_cons trivial (held_cons trivial (held_cons trivial (held_cons trivial (held_cons trivial (held_cons trivial (held_cons trivial (held_cons trivial held_nil)))))))))))))), ?_⟩
              refine wpD_all (rs := [17]) (by kernel_rfl) (by simp) (allD_cons ?_ allD_nil)
              refine stepD_enterL (L' := [(15, fun _ => True), (14, fun _ => True), (13, fun _ => True), (11, fun _ => True), (10, fun _ => True), (9, fun _ => True), (6, fun _ => True), (5, fun _ => True), (4, fun _ => True), (2, fun _ => True), (1, fun _ => True), (0, fun _ => True)]) rfl rfl rfl rfl (x_call (vs := [(Value.agg #[(Value.int .i64 x49), (Value.int .i64 x50), (Value.int .i64 x51), (Value.int .i64 x52), (Value.int .i64 x53)]), (Value.agg #[(Value.int .i64 x55), (Value.int .i64 x56), (Value.int .i64 x57), (Value.int .i64 x58), (Value.int .i64 x59)])]) rfl rfl (mapl_cons rfl (mapl_cons rfl mapl_nil)) Try.func14 NN_14 NB_14) (by kernel_rfl) (Calls.mono h ?_)
              rintro _ w11 ⟨r61, rfl, h⟩
              refine ⟨_, rfl, (held_cons trivial (held_cons trivial (held_cons trivial (held_cons trivial (held_cons trivial (held_cons trivial (held_cons trivial (held_cons trivial (held_cons trivial (held_cons trivial (held_cons trivial (held_cons trivial held_nil)))))))))))), ?_⟩
              refine wpD_take (v := (Value.bool (!decide (r60 = r61)))) 18 (fun _ => True) rfl (by kernel_rfl) (by kernel_rfl) (by kernel_rfl) rfl rfl rfl trivial (fun w _ => (x_neq rfl rfl rfl)) ?_
              exact wpD_done (by kernel_rfl) ⟨!decide (r60 = r61), ⟨rfl, e0, e1, e2, e7, e8, e13, trivial⟩, h⟩
            clear h
            rintro l62 ρ w12 ⟨e100, e0, e1, e2, e7, e8, e13, -⟩ h
            replace h := hk l62 w12 h
            clear hk
            refine wpC_cond (b := l62) e100 (fun hc63 => ?_) (fun hc63 => ?_)
            · replace h := h.1 hc63
              refine wpC_seq ?_
              refine wpC_region ?_
              refine wpR_val (v := (Value.bool false)) (w' := w12) rfl rfl rfl (x_assign (v := (Value.bool false)) rfl rfl) ?_
              refine wpR_nil ?_
              refine wpC_ret ?_
              exact ⟨.inl rfl, fun a ha => ⟨_, results_rep1 rfl ha rfl, false, rfl, h⟩⟩
            · replace h := h.2 hc63
              refine wpC_skip ?_
              refine wpC_region ?_
              refine wpR_val (v := (Value.int .i64 l30)) (w' := w12) rfl rfl rfl (x_move (v := (Value.int .i64 l30)) rfl e13) ?_
              refine wpR_val (v := (Value.int .i64 (IntKind.i64.wrap (l30 + 1)))) (w' := w12) rfl rfl rfl (x_add rfl rfl rfl) ?_
              refine wpR_val (v := (Value.int .i64 (IntKind.i64.wrap (l30 + 1)))) (w' := w12) rfl rfl rfl (x_assign (v := (Value.int .i64 (IntKind.i64.wrap (l30 + 1)))) rfl rfl) ?_
              refine wpR_nil ?_
              exact ⟨IntKind.i64.wrap (l30 + 1), ⟨rfl, e0, e1, e2, e7, e8, trivial⟩, h⟩
          · replace h := h.2 hc33
            refine wpC_exit ?_
            refine wpC_region ?_
            refine wpR_val (v := (Value.int .i64 l9)) (w' := w8) rfl rfl rfl (x_move (v := (Value.int .i64 l9)) rfl e8) ?_
            refine wpR_val (v := (Value.int .i64 (IntKind.i64.wrap (l9 + 1)))) (w' := w8) rfl rfl rfl (x_add rfl rfl rfl) ?_
            refine wpR_val (v := (Value.int .i64 (IntKind.i64.wrap (l9 + 1)))) (w' := w8) rfl rfl rfl (x_assign (v := (Value.int .i64 (IntKind.i64.wrap (l9 + 1)))) rfl rfl) ?_
            refine wpR_nil ?_
            exact ⟨IntKind.i64.wrap (l9 + 1), ⟨rfl, e0, e1, e2, e7, trivial⟩, h⟩
      · replace h := h.2 hc12
        refine wpC_exit ?_
        refine wpC_seq ?_
        refine wpC_region ?_
        refine wpR_val (v := (Value.bool r1)) (w' := w5) rfl rfl rfl (x_move (v := (Value.bool r1)) rfl e7) ?_
        refine wpR_val (v := (Value.bool r1)) (w' := w5) rfl rfl rfl (x_assign (v := (Value.bool r1)) rfl rfl) ?_
        refine wpR_nil ?_
        refine wpC_ret ?_
        exact ⟨.inl rfl, fun a ha => ⟨_, results_rep1 rfl ha rfl, r1, rfl, h⟩⟩

/-- lingualaw36.EchoPairs -/
def F4 (p0 : Sl) (p1 : Sl) (p2 : Int) (w0 : World) (K : Bool → World → Prop) : Prop :=
  callC Try.prog 7 #[] (fun (r : Bool) => (Value.bool r)) w0 fun r1 w1 =>
  jn (fun J4 => cnd ((decide (40 < (p0.len : Int))) || (decide (40 < (p1.len : Int))))
    (
    J4 true w1
    )
    (
    callC Try.prog 15 #[(Sl.v p0)] (fun (r : Bool) => (Value.bool r)) w1 fun r6 w2 =>
    J4 (!r6) w2
    ))
  fun c7 w3 =>
  jn (fun J8 => cnd (c7)
    (
    J8 true w3
    )
    (
    callC Try.prog 15 #[(Sl.v p1)] (fun (r : Bool) => (Value.bool r)) w3 fun r10 w4 =>
    J8 (!r10) w4
    ))
  fun c11 w5 =>
  cnd (c11)
    (
    K r1 w5
    )
    (
    callC Try.prog 9 #[(Sl.v p0), (Sl.v p1), (Value.int .i64 p2)] (fun (r : Sl) => (Sl.v r)) w5 fun r13 w6 =>
    cnd (!decide ((r13.len : Int) = (p1.len : Int)))
      (
      K false w6
      )
      (
      lp (fun (next15 : Int → World → Prop) l15 w7 =>
        cnd (decide (l15 < (r13.len : Int)))
          (
          ix p1 l15 5 fun p17 =>
          ld (Value.int .i64) (p17.add 0) w7 fun x18 =>
          ld (Value.int .i64) (p17.add 1) w7 fun x19 =>
          ld (Value.int .i64) (p17.add 2) w7 fun x20 =>
          ld (Value.int .i64) (p17.add 3) w7 fun x21 =>
          ld (Value.int .i64) (p17.add 4) w7 fun x22 =>
          nw 30 #[(Value.int .i64 0), (Value.int .i64 0), (Value.int .i64 0), (Value.int .i64 0), (Value.int .i64 0)] w7 fun b23 w8 =>
          st (Addr.mk b23 0 none) [(Value.int .i64 x18), (Value.int .i64 x19), (Value.int .i64 x20), (Value.int .i64 x21), (Value.int .i64 x22)] w8 fun w9 =>
          ix r13 l15 1 fun p25 =>
          ld (Value.int .i64) p25 w9 fun x26 =>
          jp (fun J27 => cnd (decide (x26 < (-1)))
            (
            J27 true
            )
            (
            ix r13 l15 1 fun p29 =>
            ld (Value.int .i64) p29 w9 fun x30 =>
            J27 (decide ((p0.len : Int) ≤ x30))
            ))
          fun c31 =>
          cnd (c31)
            (
            K false w9
            )
            (
            lp (fun (next33 : Int → World → Prop) l33 w10 =>
              cnd (decide (l33 < (p0.len : Int)))
                (
                ix p0 l33 5 fun p35 =>
                ld (Value.int .i64) (p35.add 0) w10 fun x36 =>
                ld (Value.int .i64) (p35.add 1) w10 fun x37 =>
                ld (Value.int .i64) (p35.add 2) w10 fun x38 =>
                ld (Value.int .i64) (p35.add 3) w10 fun x39 =>
                ld (Value.int .i64) (p35.add 4) w10 fun x40 =>
                nw 30 #[(Value.int .i64 0), (Value.int .i64 0), (Value.int .i64 0), (Value.int .i64 0), (Value.int .i64 0)] w10 fun b41 w11 =>
                st (Addr.mk b41 0 none) [(Value.int .i64 x36), (Value.int .i64 x37), (Value.int .i64 x38), (Value.int .i64 x39), (Value.int .i64 x40)] w11 fun w12 =>
                jn (fun (J44 : Bool → World → Prop) => tk w12 fun w13 =>
                  ld (Value.int .i64) ((Addr.mk b41 0 none).add 1) w13 fun x45 =>
                  ld (Value.int .i64) ((Addr.mk b23 0 none).add 1) w13 fun x46 =>
                  cnd (decide (x45 = x46))
                    (
                    ld (Value.int .i64) ((Addr.mk b41 0 none).add 3) w13 fun x48 =>
                    ld (Value.int .i64) ((Addr.mk b23 0 none).add 3) w13 fun x49 =>
                    cnd (decide (x48 = x49))
                      (
                      ld (Value.int .i64) ((Addr.mk b41 0 none).add 4) w13 fun x51 =>
                      ld (Value.int .i64) ((Addr.mk b23 0 none).add 4) w13 fun x52 =>
                      cnd (decide (x51 = x52))
                        (
                        ld (Value.int .i64) ((Addr.mk b41 0 none).add 2) w13 fun x54 =>
                        ld (Value.int .i64) ((Addr.mk b23 0 none).add 2) w13 fun x55 =>
                        cnd (decide (x54 ≤ x55))
                          (
                          ld (Value.int .i64) ((Addr.mk b23 0 none).add 2) w13 fun x57 =>
                          ld (Value.int .i64) ((Addr.mk b41 0 none).add 2) w13 fun x58 =>
                          cnd (decide ((IntKind.i64.wrap (x57 - x58)) ≤ p2))
                            (
                            ld (Value.int .i64) ((Addr.mk b41 0 none).add 0) w13 fun x60 =>
                            ld (Value.int .i64) ((Addr.mk b23 0 none).add 0) w13 fun x61 =>
                            callC Try.prog 16 #[(Value.int .i64 x60)] (fun (r : Int) => (Value.int .i64 r)) w13 fun r62 w14 =>
                            (w14.cell? ((Addr.mk b23 0 none).add 0) = some (Value.int .i64 x61)) ∧
                            (w14.cell? ((Addr.mk b41 0 none).add 2) = some (Value.int .i64 x58)) ∧
                            (w14.cell? ((Addr.mk b23 0 none).add 2) = some (Value.int .i64 x57)) ∧
                            (w14.cell? ((Addr.mk b23 0 none).add 2) = some (Value.int .i64 x55)) ∧
                            (w14.cell? ((Addr.mk b41 0 none).add 2) = some (Value.int .i64 x54)) ∧
                            (w14.cell? ((Addr.mk b23 0 none).add 4) = some (Value.int .i64 x52)) ∧
                            (w14.cell? ((Addr.mk b41 0 none).add 4) = some (Value.int .i64 x51)) ∧
                            (w14.cell? ((Addr.mk b23 0 none).add 3) = some (Value.int .i64 x49)) ∧
                            (w14.cell? ((Addr.mk b41 0 none).add 3) = some (Value.int .i64 x48)) ∧
                            (w14.cell? ((Addr.mk b23 0 none).add 1) = some (Value.int .i64 x46)) ∧
                            (w14.cell? ((Addr.mk b41 0 none).add 1) = some (Value.int .i64 x45)) ∧
                            callC Try.prog 16 #[(Value.int .i64 x61)] (fun (r : Int) => (Value.int .i64 r)) w14 fun r63 w15 =>
                            (w15.cell? ((Addr.mk b41 0 none).add 2) = some (Value.int .i64 x58)) ∧
                            (w15.cell? ((Addr.mk b23 0 none).add 2) = some (Value.int .i64 x57)) ∧
                            (w15.cell? ((Addr.mk b23 0 none).add 2) = some (Value.int .i64 x55)) ∧
                            (w15.cell? ((Addr.mk b41 0 none).add 2) = some (Value.int .i64 x54)) ∧
                            (w15.cell? ((Addr.mk b23 0 none).add 4) = some (Value.int .i64 x52)) ∧
                            (w15.cell? ((Addr.mk b41 0 none).add 4) = some (Value.int .i64 x51)) ∧
                            (w15.cell? ((Addr.mk b23 0 none).add 3) = some (Value.int .i64 x49)) ∧
                            (w15.cell? ((Addr.mk b41 0 none).add 3) = some (Value.int .i64 x48)) ∧
                            (w15.cell? ((Addr.mk b23 0 none).add 1) = some (Value.int .i64 x46)) ∧
                            (w15.cell? ((Addr.mk b41 0 none).add 1) = some (Value.int .i64 x45)) ∧
                            J44 (!decide (r62 = r63)) w15
                            )
                            (
                            J44 false w13
                            )
                          )
                          (
                          J44 false w13
                          )
                        )
                        (
                        J44 false w13
                        )
                      )
                      (
                      J44 false w13
                      )
                    )
                    (
                    J44 false w13
                    )
                )
                fun l64 w16 =>
                jn (fun (J66 : Bool → World → Prop) => tk w16 fun w17 =>
                  ld (Value.int .i64) ((Addr.mk b41 0 none).add 0) w17 fun x67 =>
                  ld (Value.int .i64) ((Addr.mk b41 0 none).add 1) w17 fun x68 =>
                  ld (Value.int .i64) ((Addr.mk b41 0 none).add 2) w17 fun x69 =>
                  ld (Value.int .i64) ((Addr.mk b41 0 none).add 3) w17 fun x70 =>
                  ld (Value.int .i64) ((Addr.mk b41 0 none).add 4) w17 fun x71 =>
                  ld (Value.int .i64) ((Addr.mk b23 0 none).add 0) w17 fun x72 =>
                  ld (Value.int .i64) ((Addr.mk b23 0 none).add 1) w17 fun x73 =>
                  ld (Value.int .i64) ((Addr.mk b23 0 none).add 2) w17 fun x74 =>
                  ld (Value.int .i64) ((Addr.mk b23 0 none).add 3) w17 fun x75 =>
                  ld (Value.int .i64) ((Addr.mk b23 0 none).add 4) w17 fun x76 =>
                  ld (Value.int .i64) ((Addr.mk b41 0 none).add 1) w17 fun x77 =>
                  ld (Value.int .i64) ((Addr.mk b23 0 none).add 1) w17 fun x78 =>
                  callC Try.prog 13 #[(Value.agg #[(Value.int .i64 x67), (Value.int .i64 x68), (Value.int .i64 x69), (Value.int .i64 x70), (Value.int .i64 x71)]), (Value.agg #[(Value.int .i64 x72), (Value.int .i64 x73), (Value.int .i64 x74), (Value.int .i64 x75), (Value.int .i64 x76)])] (fun (r : Int) => (Value.int .i64 r)) w17 fun r79 w18 =>
                  (w18.cell? ((Addr.mk b23 0 none).add 1) = some (Value.int .i64 x78)) ∧
                  (w18.cell? ((Addr.mk b41 0 none).add 1) = some (Value.int .i64 x77)) ∧
                  cnd (decide (x77 = x78))
                    (
                    ld (Value.int .i64) ((Addr.mk b41 0 none).add 3) w18 fun x81 =>
                    ld (Value.int .i64) ((Addr.mk b23 0 none).add 3) w18 fun x82 =>
                    cnd (decide (x81 = x82))
                      (
                      ld (Value.int .i64) ((Addr.mk b41 0 none).add 4) w18 fun x84 =>
                      ld (Value.int .i64) ((Addr.mk b23 0 none).add 4) w18 fun x85 =>
                      cnd (!((decide (r79 = 3)) == (decide (x84 = x85))))
                        (
                        J66 true w18
                        )
                        (
                        ix r13 l15 1 fun p87 =>
                        ld (Value.int .i64) p87 w18 fun x88 =>
                        cnd (decide (x88 = l33))
                          (
                          J66 (!l64) w18
                          )
                          (
                          J66 false w18
                          )
                        )
                      )
                      (
                      cnd (!((decide (r79 = 3)) == false))
                        (
                        J66 true w18
                        )
                        (
                        ix r13 l15 1 fun p91 =>
                        ld (Value.int .i64) p91 w18 fun x92 =>
                        cnd (decide (x92 = l33))
                          (
                          J66 (!l64) w18
                          )
                          (
                          J66 false w18
                          )
                        )
                      )
                    )
                    (
                    cnd (!((decide (r79 = 3)) == false))
                      (
                      J66 true w18
                      )
                      (
                      ix r13 l15 1 fun p95 =>
                      ld (Value.int .i64) p95 w18 fun x96 =>
                      cnd (decide (x96 = l33))
                        (
                        J66 (!l64) w18
                        )
                        (
                        J66 false w18
                        )
                      )
                    )
                )
                fun l98 w19 =>
                cnd (l98)
                  (
                  K false w19
                  )
                  (
                  lp (fun (next100 : (Bool × Int) → World → Prop) l100 w20 =>
                    cnd (decide (l100.2 < l15))
                      (
                      jn (fun (J103 : Bool → World → Prop) => tk w20 fun w21 =>
                        cnd (l100.1)
                          (
                          J103 true w21
                          )
                          (
                          ix r13 l100.2 1 fun p105 =>
                          ld (Value.int .i64) p105 w21 fun x106 =>
                          cnd (decide (x106 = l33))
                            (
                            ix p1 l100.2 5 fun p108 =>
                            ld (Value.int .i64) (p108.add 0) w21 fun x109 =>
                            ld (Value.int .i64) ((Addr.mk b23 0 none).add 0) w21 fun x110 =>
                            callC Try.prog 16 #[(Value.int .i64 x109)] (fun (r : Int) => (Value.int .i64 r)) w21 fun r111 w22 =>
                            (w22.cell? ((Addr.mk b23 0 none).add 0) = some (Value.int .i64 x110)) ∧
                            (w22.cell? p105 = some (Value.int .i64 x106)) ∧
                            callC Try.prog 16 #[(Value.int .i64 x110)] (fun (r : Int) => (Value.int .i64 r)) w22 fun r112 w23 =>
                            (w23.cell? p105 = some (Value.int .i64 x106)) ∧
                            J103 (decide (r111 = r112)) w23
                            )
                            (
                            J103 false w21
                            )
                          )
                      )
                      fun l113 w24 =>
                      next100 (l113, IntKind.i64.wrap (l100.2 + 1)) w24
                      )
                      (
                      ix r13 l15 1 fun p114 =>
                      ld (Value.int .i64) p114 w20 fun x115 =>
                      jp (fun J118 => cnd ((decide (x115 = l33)) && l100.1)
                        (
                        J118 true
                        )
                        (
                        jp (fun J122 => cnd (l64 && (!l100.1))
                          (
                          ix r13 l15 1 fun p124 =>
                          ld (Value.int .i64) p124 w20 fun x125 =>
                          J122 (decide (x125 < l33))
                          )
                          (
                          J122 false
                          ))
                        fun c126 =>
                        J118 c126
                        ))
                      fun c127 =>
                      cnd (c127)
                        (
                        K false w20
                        )
                        (
                        next33 (IntKind.i64.wrap (l33 + 1)) w20
                        )
                      )
                  ) (false, 0) w19
                  )
                )
                (
                next15 (IntKind.i64.wrap (l15 + 1)) w10
                )
            ) 0 w9
            )
          )
          (
          K r1 w7
          )
      ) 0 w6
      )
    )
set_option maxRecDepth 100000 in
theorem D4 (p0 : Sl) (p1 : Sl) (p2 : Int) (w0 : World) (K : Bool → World → Prop) (h : F4 p0 p1 p2 w0 K) : callC Try.prog 4 #[(Sl.v p0), (Sl.v p1), (Value.int .i64 p2)] (fun (r : Bool) => (Value.bool r)) w0 K := by
  unfold F4 at h
  refine calls_of_wpC Try.func4 rfl 210 rfl (by simp) ?_
  intro ρ hρ
  have e0 : ρ 0 = (Sl.v p0) := hρ 0
  have e1 : ρ 1 = (Sl.v p1) := hρ 1
  have e2 : ρ 2 = (Value.int .i64 p2) := hρ 2
  clear hρ
  refine wpC_seq ?_
  refine wpC_region ?_
  refine wpR_val (v := (Value.bool false)) (w' := w0) rfl rfl rfl (x_assign (v := (Value.bool false)) rfl rfl) ?_
  refine wpR_nil ?_
  refine wpC_seq ?_
  refine wpC_cut (fun ρ => ρ 0 = (Sl.v p0) ∧ ρ 1 = (Sl.v p1) ∧ ρ 2 = (Value.int .i64 p2) ∧ True) ⟨e0, e1, e2, trivial⟩ ?_
  rintro ρ ⟨e0, e1, e2, -⟩
  refine wpC_region ?_
  refine wpR_enter rfl rfl rfl (x_call (vs := []) rfl rfl mapl_nil Try.func7 NN_7 NB_7) (Calls.mono h ?_)
  rintro _ w1 ⟨r1, rfl, h⟩
  refine ⟨_, rfl, ?_⟩
  refine wpR_val (v := (Value.bool r1)) (w' := w1) rfl rfl rfl (x_assign (v := (Value.bool r1)) rfl rfl) ?_
  refine wpR_nil ?_
  refine wpC_seq ?_
  refine wpC_seq ?_
  refine wpC_cut (fun ρ => ρ 0 = (Sl.v p0) ∧ ρ 1 = (Sl.v p1) ∧ ρ 2 = (Value.int .i64 p2) ∧ ρ 7 = (Value.bool r1) ∧ True) ⟨e0, e1, e2, rfl, trivial⟩ ?_
  rintro ρ ⟨e0, e1, e2, e7, -⟩
  refine wpC_region ?_
  refine wpR_val (v := (Sl.v p0)) (w' := w1) rfl rfl rfl (x_move (v := (Sl.v p0)) rfl e0) ?_
  refine wpR_val (v := (Value.int .i64 (p0.len : Int))) (w' := w1) rfl rfl rfl (x_lenS (s := p0) rfl rfl isSliceT_22) ?_
  refine wpR_val (v := (Value.bool (decide (40 < (p0.len : Int))))) (w' := w1) rfl rfl rfl (x_gtr rfl rfl rfl) ?_
  refine wpR_val (v := (Value.bool (decide (40 < (p0.len : Int))))) (w' := w1) rfl rfl rfl (x_move (v := (Value.bool (decide (40 < (p0.len : Int))))) rfl rfl) ?_
  refine wpR_joinJ 4 (fun (_ : Unit) ρ => ρ 24 = Value.bool ((decide (40 < (p0.len : Int))) || (decide (40 < (p1.len : Int)))) ∧ ρ 0 = (Sl.v p0) ∧ ρ 1 = (Sl.v p1) ∧ ρ 2 = (Value.int .i64 p2) ∧ ρ 7 = (Value.bool r1) ∧ True) (fun _ w => w1 = w) ?_ ?_
  · clear h
    rcases Bool.eq_false_or_eq_true (decide (40 < (p0.len : Int))) with hc3 | hc3
    · skip
      refine wpR_pass (wantN rfl rfl rfl hc3) rfl rfl ?_
      refine wpR_pass (wantN rfl rfl rfl hc3) rfl rfl ?_
      refine wpR_pass (wantN rfl rfl rfl hc3) rfl rfl ?_
      refine wpR_val (v := (Value.bool true)) (w' := w1) rfl rfl rfl (x_pickT (v := (Value.bool true)) rfl rfl hc3 rfl) ?_
      refine wpR_nil ?_
      exact ⟨(), ⟨(by rw [hc3]; rfl), e0, e1, e2, e7, trivial⟩, rfl⟩
    · skip
      refine wpR_val (v := (Sl.v p1)) (w' := w1) (wantG rfl rfl rfl hc3) rfl rfl (x_move (v := (Sl.v p1)) rfl e1) ?_
      refine wpR_val (v := (Value.int .i64 (p1.len : Int))) (w' := w1) (wantG rfl rfl rfl hc3) rfl rfl (x_lenS (s := p1) rfl rfl isSliceT_22) ?_
      refine wpR_val (v := (Value.bool (decide (40 < (p1.len : Int))))) (w' := w1) (wantG rfl rfl rfl hc3) rfl rfl (x_gtr rfl rfl rfl) ?_
      refine wpR_val (v := (Value.bool (decide (40 < (p1.len : Int))))) (w' := w1) rfl rfl rfl (x_pickF (v := (Value.bool (decide (40 < (p1.len : Int))))) rfl rfl hc3 rfl) ?_
      refine wpR_nil ?_
      exact ⟨(), ⟨(by rw [hc3]; rfl), e0, e1, e2, e7, trivial⟩, rfl⟩
  rintro _ ρ wj ⟨e24, e0, e1, e2, e7, -⟩ rfl
  refine wpR_val (v := (Value.bool ((decide (40 < (p0.len : Int))) || (decide (40 < (p1.len : Int)))))) (w' := w1) rfl rfl rfl (x_move (v := (Value.bool ((decide (40 < (p0.len : Int))) || (decide (40 < (p1.len : Int)))))) rfl e24) ?_
  obtain ⟨J4, h, hk⟩ := h
  refine wpR_joinJ 4 (fun x ρ => ρ 29 = Value.bool x ∧ ρ 0 = (Sl.v p0) ∧ ρ 1 = (Sl.v p1) ∧ ρ 2 = (Value.int .i64 p2) ∧ ρ 7 = (Value.bool r1) ∧ True) (J4) ?_ ?_
  · clear hk
    rcases Bool.eq_false_or_eq_true ((decide (40 < (p0.len : Int))) || (decide (40 < (p1.len : Int)))) with hc5 | hc5
    · replace h := h.1 hc5
      refine wpR_pass (wantN rfl rfl rfl hc5) rfl rfl ?_
      refine wpR_pass (wantN rfl rfl rfl hc5) rfl rfl ?_
      refine wpR_pass (wantN rfl rfl rfl hc5) rfl rfl ?_
      refine wpR_val (v := (Value.bool true)) (w' := w1) rfl rfl rfl (x_pickT (v := (Value.bool true)) rfl rfl hc5 rfl) ?_
      refine wpR_nil ?_
      exact ⟨true, ⟨rfl, e0, e1, e2, e7, trivial⟩, h⟩
    · replace h := h.2 hc5
      refine wpR_val (v := (Sl.v p0)) (w' := w1) (wantG rfl rfl rfl hc5) rfl rfl (x_move (v := (Sl.v p0)) rfl e0) ?_
      refine wpR_enter (wantG rfl rfl rfl hc5) rfl rfl (x_call (vs := [(Sl.v p0)]) rfl rfl (mapl_cons rfl mapl_nil) Try.func15 NN_15 NB_15) (Calls.mono h ?_)
      rintro _ w2 ⟨r6, rfl, h⟩
      refine ⟨_, rfl, ?_⟩
      refine wpR_val (v := (Value.bool (!r6))) (w' := w2) (wantG rfl rfl rfl hc5) rfl rfl (x_not rfl rfl) ?_
      refine wpR_val (v := (Value.bool (!r6))) (w' := w2) rfl rfl rfl (x_pickF (v := (Value.bool (!r6))) rfl rfl hc5 rfl) ?_
      refine wpR_nil ?_
      exact ⟨!r6, ⟨rfl, e0, e1, e2, e7, trivial⟩, h⟩
  clear h
  rintro c7 ρ w3 ⟨e29, e0, e1, e2, e7, -⟩ h
  replace h := hk c7 w3 h
  clear hk
  refine wpR_val (v := (Value.bool c7)) (w' := w3) rfl rfl rfl (x_move (v := (Value.bool c7)) rfl e29) ?_
  obtain ⟨J8, h, hk⟩ := h
  refine wpR_joinJ 4 (fun x ρ => ρ 34 = Value.bool x ∧ ρ 0 = (Sl.v p0) ∧ ρ 1 = (Sl.v p1) ∧ ρ 2 = (Value.int .i64 p2) ∧ ρ 7 = (Value.bool r1) ∧ True) (J8) ?_ ?_
  · clear hk
    rcases Bool.eq_false_or_eq_true (c7) with hc9 | hc9
    · replace h := h.1 hc9
      refine wpR_pass (wantN rfl rfl rfl hc9) rfl rfl ?_
      refine wpR_pass (wantN rfl rfl rfl hc9) rfl rfl ?_
      refine wpR_pass (wantN rfl rfl rfl hc9) rfl rfl ?_
      refine wpR_val (v := (Value.bool true)) (w' := w3) rfl rfl rfl (x_pickT (v := (Value.bool true)) rfl rfl hc9 rfl) ?_
      refine wpR_nil ?_
      exact ⟨true, ⟨rfl, e0, e1, e2, e7, trivial⟩, h⟩
    · replace h := h.2 hc9
      refine wpR_val (v := (Sl.v p1)) (w' := w3) (wantG rfl rfl rfl hc9) rfl rfl (x_move (v := (Sl.v p1)) rfl e1) ?_
      refine wpR_enter (wantG rfl rfl rfl hc9) rfl rfl (x_call (vs := [(Sl.v p1)]) rfl rfl (mapl_cons rfl mapl_nil) Try.func15 NN_15 NB_15) (Calls.mono h ?_)
      rintro _ w4 ⟨r10, rfl, h⟩
      refine ⟨_, rfl, ?_⟩
      refine wpR_val (v := (Value.bool (!r10))) (w' := w4) (wantG rfl rfl rfl hc9) rfl rfl (x_not rfl rfl) ?_
      refine wpR_val (v := (Value.bool (!r10))) (w' := w4) rfl rfl rfl (x_pickF (v := (Value.bool (!r10))) rfl rfl hc9 rfl) ?_
      refine wpR_nil ?_
      exact ⟨!r10, ⟨rfl, e0, e1, e2, e7, trivial⟩, h⟩
  clear h
  rintro c11 ρ w5 ⟨e34, e0, e1, e2, e7, -⟩ h
  replace h := hk c11 w5 h
  clear hk
  refine wpR_nil ?_
  refine wpC_cond (b := c11) e34 (fun hc12 => ?_) (fun hc12 => ?_)
  · replace h := h.1 hc12
    refine wpC_seq ?_
    refine wpC_region ?_
    refine wpR_val (v := (Value.bool r1)) (w' := w5) rfl rfl rfl (x_move (v := (Value.bool r1)) rfl e7) ?_
    refine wpR_val (v := (Value.bool r1)) (w' := w5) rfl rfl rfl (x_assign (v := (Value.bool r1)) rfl rfl) ?_
    refine wpR_nil ?_
    refine wpC_ret ?_
    exact ⟨.inl rfl, fun a ha => ⟨_, results_rep1 rfl ha rfl, r1, rfl, h⟩⟩
  · replace h := h.2 hc12
    refine wpC_skip ?_
    refine wpC_seq ?_
    refine wpC_region ?_
    refine wpR_val (v := (Sl.v p0)) (w' := w5) rfl rfl rfl (x_move (v := (Sl.v p0)) rfl e0) ?_
    refine wpR_val (v := (Sl.v p1)) (w' := w5) rfl rfl rfl (x_move (v := (Sl.v p1)) rfl e1) ?_
    refine wpR_val (v := (Value.int .i64 p2)) (w' := w5) rfl rfl rfl (x_move (v := (Value.int .i64 p2)) rfl e2) ?_
    refine wpR_enter rfl rfl rfl (x_call (vs := [(Sl.v p0), (Sl.v p1), (Value.int .i64 p2)]) rfl rfl (mapl_cons rfl (mapl_cons rfl (mapl_cons rfl mapl_nil))) Try.func9 NN_9 NB_9) (Calls.mono h ?_)
    rintro _ w6 ⟨r13, rfl, h⟩
    refine ⟨_, rfl, ?_⟩
    refine wpR_val (v := (Sl.v r13)) (w' := w6) rfl rfl rfl (x_assign (v := (Sl.v r13)) rfl rfl) ?_
    refine wpR_nil ?_
    refine wpC_seq ?_
    refine wpC_seq ?_
    refine wpC_cut (fun ρ => ρ 0 = (Sl.v p0) ∧ ρ 1 = (Sl.v p1) ∧ ρ 2 = (Value.int .i64 p2) ∧ ρ 7 = (Value.bool r1) ∧ ρ 8 = (Sl.v r13) ∧ True) ⟨e0, e1, e2, e7, rfl, trivial⟩ ?_
    rintro ρ ⟨e0, e1, e2, e7, e8, -⟩
    refine wpC_region ?_
    refine wpR_val (v := (Sl.v r13)) (w' := w6) rfl rfl rfl (x_move (v := (Sl.v r13)) rfl e8) ?_
    refine wpR_val (v := (Value.int .i64 (r13.len : Int))) (w' := w6) rfl rfl rfl (x_lenS (s := r13) rfl rfl isSliceT_25) ?_
    refine wpR_val (v := (Sl.v p1)) (w' := w6) rfl rfl rfl (x_move (v := (Sl.v p1)) rfl e1) ?_
    refine wpR_val (v := (Value.int .i64 (p1.len : Int))) (w' := w6) rfl rfl rfl (x_lenS (s := p1) rfl rfl isSliceT_22) ?_
    refine wpR_val (v := (Value.bool (!decide ((r13.len : Int) = (p1.len : Int))))) (w' := w6) rfl rfl rfl (x_neq rfl rfl rfl) ?_
    refine wpR_nil ?_
    refine wpC_cond (b := !decide ((r13.len : Int) = (p1.len : Int))) rfl (fun hc14 => ?_) (fun hc14 => ?_)
    · replace h := h.1 hc14
      refine wpC_seq ?_
      refine wpC_cut (fun ρ => True) trivial ?_
      rintro ρ -
      refine wpC_region ?_
      refine wpR_val (v := (Value.bool false)) (w' := w6) rfl rfl rfl (x_assign (v := (Value.bool false)) rfl rfl) ?_
      refine wpR_nil ?_
      refine wpC_ret ?_
      exact ⟨.inl rfl, fun a ha => ⟨_, results_rep1 rfl ha rfl, false, rfl, h⟩⟩
    · replace h := h.2 hc14
      refine wpC_skip ?_
      refine wpC_seq ?_
      refine wpC_seq ?_
      refine wpC_cut (fun ρ => ρ 0 = (Sl.v p0) ∧ ρ 1 = (Sl.v p1) ∧ ρ 2 = (Value.int .i64 p2) ∧ ρ 7 = (Value.bool r1) ∧ ρ 8 = (Sl.v r13) ∧ True) ⟨e0, e1, e2, e7, e8, trivial⟩ ?_
      rintro ρ ⟨e0, e1, e2, e7, e8, -⟩
      refine wpC_region ?_
      refine wpR_val (v := (Value.int .i64 0)) (w' := w6) rfl rfl rfl (x_assign (v := (Value.int .i64 0)) rfl rfl) ?_
      refine wpR_nil ?_
      refine wpC_block ?_
      obtain ⟨I15, μ15, hI15, hr15⟩ := h
      refine wpC_loop (fun (x : Int) ρ => ρ 9 = (Value.int .i64 x) ∧ ρ 0 = (Sl.v p0) ∧ ρ 1 = (Sl.v p1) ∧ ρ 2 = (Value.int .i64 p2) ∧ ρ 7 = (Value.bool r1) ∧ ρ 8 = (Sl.v r13) ∧ True) I15 μ15 0 ⟨rfl, e0, e1, e2, e7, e8, trivial⟩ hI15 ?_
      rintro l15 ρ w7 ⟨e9, e0, e1, e2, e7, e8, -⟩ h
      replace h := hr15 l15 w7 h
      clear hr15 hI15
      refine wpC_seq ?_
      refine wpC_seq ?_
      refine wpC_region ?_
      refine wpR_val (v := (Value.int .i64 l15)) (w' := w7) rfl rfl rfl (x_move (v := (Value.int .i64 l15)) rfl e9) ?_
      refine wpR_val (v := (Sl.v r13)) (w' := w7) rfl rfl rfl (x_move (v := (Sl.v r13)) rfl e8) ?_
      refine wpR_val (v := (Value.int .i64 (r13.len : Int))) (w' := w7) rfl rfl rfl (x_lenS (s := r13) rfl rfl isSliceT_25) ?_
      refine wpR_val (v := (Value.bool (decide (l15 < (r13.len : Int))))) (w' := w7) rfl rfl rfl (x_lss rfl rfl rfl) ?_
      refine wpR_nil ?_
      refine wpC_cond (b := decide (l15 < (r13.len : Int))) rfl (fun hc16 => ?_) (fun hc16 => ?_)
      · replace h := h.1 hc16
        refine wpC_skip ?_
        refine wpC_seq ?_
        refine wpC_block ?_
        refine wpC_seq ?_
        refine wpC_cut (fun ρ => ρ 0 = (Sl.v p0) ∧ ρ 1 = (Sl.v p1) ∧ ρ 2 = (Value.int .i64 p2) ∧ ρ 7 = (Value.bool r1) ∧ ρ 8 = (Sl.v r13) ∧ ρ 9 = (Value.int .i64 l15) ∧ True) ⟨e0, e1, e2, e7, e8, e9, trivial⟩ ?_
        rintro ρ ⟨e0, e1, e2, e7, e8, e9, -⟩
        refine wpC_region ?_
        refine wpR_val (v := (Sl.v p1)) (w' := w7) rfl rfl rfl (x_move (v := (Sl.v p1)) rfl e1) ?_
        refine wpR_val (v := (Value.int .i64 l15)) (w' := w7) rfl rfl rfl (x_move (v := (Value.int .i64 l15)) rfl e9) ?_
        obtain ⟨q17, z17, r17, h⟩ := h
        generalize hp17 : z17.add ((l15 : Int).toNat * 5) = p17 at h
        refine wpR_val (v := (Value.pointer (some p17))) (w' := w7) rfl rfl rfl ((x_indexAddr (s := p1) rfl rfl rfl ES_22 q17 r17).trans (by rw [hp17])) ?_
        obtain ⟨x18, q18, h⟩ := h
        obtain ⟨x19, q19, h⟩ := h
        obtain ⟨x20, q20, h⟩ := h
        obtain ⟨x21, q21, h⟩ := h
        obtain ⟨x22, q22, h⟩ := h
        refine wpR_val (v := (Value.agg #[(Value.int .i64 x18), (Value.int .i64 x19), (Value.int .i64 x20), (Value.int .i64 x21), (Value.int .i64 x22)])) (w' := w7) rfl rfl rfl (x_loadN [(Value.int .i64 x18), (Value.int .i64 x19), (Value.int .i64 x20), (Value.int .i64 x21), (Value.int .i64 x22)] rfl rfl SH_30 (CellsAt.out (CellsAt.cons q18 (CellsAt.cons q19 (CellsAt.cons q20 (CellsAt.cons q21 (CellsAt.cons q22 CellsAt.nil))))))) ?_
        obtain ⟨b23, hb23⟩ : ∃ u, u = w7.heap.size := ⟨_, rfl⟩
        obtain ⟨w8, hw23⟩ : ∃ u, u = w7.alloc (.cells #[(Value.int .i64 0), (Value.int .i64 0), (Value.int .i64 0), (Value.int .i64 0), (Value.int .i64 0)] 30) := ⟨_, rfl⟩
        replace h := h b23 w8 hb23 hw23
        refine wpR_val (v := (Value.pointer (some (Addr.mk b23 0 none)))) (w' := w8) rfl rfl rfl ((x_alloc rfl ZV_30).trans (by rw [hb23, hw23]; rfl)) ?_
        obtain ⟨q24, h⟩ := h
        obtain ⟨w9, hw24⟩ : ∃ u, u = setAll w8 (Addr.mk b23 0 none) [(Value.int .i64 x18), (Value.int .i64 x19), (Value.int .i64 x20), (Value.int .i64 x21), (Value.int .i64 x22)] 0 := ⟨_, rfl⟩
        replace h := h w9 hw24
        refine wpR_skp (w' := w9) rfl rfl ((x_store (v := (Value.agg #[(Value.int .i64 x18), (Value.int .i64 x19), (Value.int .i64 x20), (Value.int .i64 x21), (Value.int .i64 x22)])) rfl rfl rfl SZ_30 (ones (by rfl)) q24).trans (by rw [hw24]; rfl)) ?_
        refine wpR_nil ?_
        refine wpC_seq ?_
        refine wpC_seq ?_
        refine wpC_cut (fun ρ => ρ 0 = (Sl.v p0) ∧ ρ 1 = (Sl.v p1) ∧ ρ 2 = (Value.int .i64 p2) ∧ ρ 7 = (Value.bool r1) ∧ ρ 8 = (Sl.v r13) ∧ ρ 9 = (Value.int .i64 l15) ∧ ρ 10 = (Value.pointer (some (Addr.mk b23 0 none))) ∧ True) ⟨e0, e1, e2, e7, e8, e9, rfl, trivial⟩ ?_
        rintro ρ ⟨e0, e1, e2, e7, e8, e9, e10, -⟩
        refine wpC_region ?_
        refine wpR_val (v := (Sl.v r13)) (w' := w9) rfl rfl rfl (x_move (v := (Sl.v r13)) rfl e8) ?_
        refine wpR_val (v := (Value.int .i64 l15)) (w' := w9) rfl rfl rfl (x_move (v := (Value.int .i64 l15)) rfl e9) ?_
        obtain ⟨q25, z25, r25, h⟩ := h
        generalize hp25 : z25.add ((l15 : Int).toNat * 1) = p25 at h
        refine wpR_val (v := (Value.pointer (some p25))) (w' := w9) rfl rfl rfl ((x_indexAddr (s := r13) rfl rfl rfl ES_25 q25 r25).trans (by rw [hp25])) ?_
        obtain ⟨x26, q26, h⟩ := h
        refine wpR_val (v := (Value.int .i64 x26)) (w' := w9) rfl rfl rfl (x_load1 rfl rfl SH_3 q26) ?_
        refine wpR_val (v := (Value.bool (decide (x26 < (-1))))) (w' := w9) rfl rfl rfl (x_lss rfl rfl rfl) ?_
        refine wpR_val (v := (Value.bool (decide (x26 < (-1))))) (w' := w9) rfl rfl rfl (x_move (v := (Value.bool (decide (x26 < (-1))))) rfl rfl) ?_
        obtain ⟨J27, h, hk⟩ := h
        refine wpR_joinJ 8 (fun x ρ => ρ 68 = Value.bool x ∧ ρ 0 = (Sl.v p0) ∧ ρ 1 = (Sl.v p1) ∧ ρ 2 = (Value.int .i64 p2) ∧ ρ 7 = (Value.bool r1) ∧ ρ 8 = (Sl.v r13) ∧ ρ 9 = (Value.int .i64 l15) ∧ ρ 10 = (Value.pointer (some (Addr.mk b23 0 none))) ∧ True) (fun x w => J27 x ∧ w9 = w) ?_ ?_
        · clear hk
          rcases Bool.eq_false_or_eq_true (decide (x26 < (-1))) with hc28 | hc28
          · replace h := h.1 hc28
            refine wpR_pass (wantN rfl rfl rfl hc28) rfl rfl ?_
            refine wpR_pass (wantN rfl rfl rfl hc28) rfl rfl ?_
            refine wpR_pass (wantN rfl rfl rfl hc28) rfl rfl ?_
            refine wpR_pass (wantN rfl rfl rfl hc28) rfl rfl ?_
            refine wpR_pass (wantN rfl rfl rfl hc28) rfl rfl ?_
            refine wpR_pass (wantN rfl rfl rfl hc28) rfl rfl ?_
            refine wpR_pass (wantN rfl rfl rfl hc28) rfl rfl ?_
            refine wpR_val (v := (Value.bool true)) (w' := w9) rfl rfl rfl (x_pickT (v := (Value.bool true)) rfl rfl hc28 rfl) ?_
            refine wpR_nil ?_
            exact ⟨true, ⟨rfl, e0, e1, e2, e7, e8, e9, e10, trivial⟩, h, rfl⟩
          · replace h := h.2 hc28
            refine wpR_val (v := (Sl.v r13)) (w' := w9) (wantG rfl rfl rfl hc28) rfl rfl (x_move (v := (Sl.v r13)) rfl e8) ?_
            refine wpR_val (v := (Value.int .i64 l15)) (w' := w9) (wantG rfl rfl rfl hc28) rfl rfl (x_move (v := (Value.int .i64 l15)) rfl e9) ?_
            obtain ⟨q29, z29, r29, h⟩ := h
            generalize hp29 : z29.add ((l15 : Int).toNat * 1) = p29 at h
            refine wpR_val (v := (Value.pointer (some p29))) (w' := w9) (wantG rfl rfl rfl hc28) rfl rfl ((x_indexAddr (s := r13) rfl rfl rfl ES_25 q29 r29).trans (by rw [hp29])) ?_
            obtain ⟨x30, q30, h⟩ := h
            refine wpR_val (v := (Value.int .i64 x30)) (w' := w9) (wantG rfl rfl rfl hc28) rfl rfl (x_load1 rfl rfl SH_3 q30) ?_
            refine wpR_val (v := (Sl.v p0)) (w' := w9) (wantG rfl rfl rfl hc28) rfl rfl (x_move (v := (Sl.v p0)) rfl e0) ?_
            refine wpR_val (v := (Value.int .i64 (p0.len : Int))) (w' := w9) (wantG rfl rfl rfl hc28) rfl rfl (x_lenS (s := p0) rfl rfl isSliceT_22) ?_
            refine wpR_val (v := (Value.bool (decide ((p0.len : Int) ≤ x30)))) (w' := w9) (wantG rfl rfl rfl hc28) rfl rfl (x_geq rfl rfl rfl) ?_
            refine wpR_val (v := (Value.bool (decide ((p0.len : Int) ≤ x30)))) (w' := w9) rfl rfl rfl (x_pickF (v := (Value.bool (decide ((p0.len : Int) ≤ x30)))) rfl rfl hc28 rfl) ?_
            refine wpR_nil ?_
            exact ⟨decide ((p0.len : Int) ≤ x30), ⟨rfl, e0, e1, e2, e7, e8, e9, e10, trivial⟩, h, rfl⟩
        clear h
        rintro c31 ρ wj ⟨e68, e0, e1, e2, e7, e8, e9, e10, -⟩ ⟨h, rfl⟩
        replace h := hk c31 h
        clear hk
        refine wpR_nil ?_
        refine wpC_cond (b := c31) e68 (fun hc32 => ?_) (fun hc32 => ?_)
        · replace h := h.1 hc32
          refine wpC_seq ?_
          refine wpC_region ?_
          refine wpR_val (v := (Value.bool false)) (w' := w9) rfl rfl rfl (x_assign (v := (Value.bool false)) rfl rfl) ?_
          refine wpR_nil ?_
          refine wpC_ret ?_
          exact ⟨.inl rfl, fun a ha => ⟨_, results_rep1 rfl ha rfl, false, rfl, h⟩⟩
        · replace h := h.2 hc32
          refine wpC_skip ?_
          refine wpC_seq ?_
          refine wpC_region ?_
          refine wpR_val (v := (Value.int .i64 0)) (w' := w9) rfl rfl rfl (x_assign (v := (Value.int .i64 0)) rfl rfl) ?_
          refine wpR_nil ?_
          refine wpC_block ?_
          obtain ⟨I33, μ33, hI33, hr33⟩ := h
          refine wpC_loop (fun (x : Int) ρ => ρ 11 = (Value.int .i64 x) ∧ ρ 0 = (Sl.v p0) ∧ ρ 1 = (Sl.v p1) ∧ ρ 2 = (Value.int .i64 p2) ∧ ρ 7 = (Value.bool r1) ∧ ρ 8 = (Sl.v r13) ∧ ρ 9 = (Value.int .i64 l15) ∧ ρ 10 = (Value.pointer (some (Addr.mk b23 0 none))) ∧ True) I33 μ33 0 ⟨rfl, e0, e1, e2, e7, e8, e9, e10, trivial⟩ hI33 ?_
          rintro l33 ρ w10 ⟨e11, e0, e1, e2, e7, e8, e9, e10, -⟩ h
          replace h := hr33 l33 w10 h
          clear hr33 hI33
          refine wpC_seq ?_
          refine wpC_seq ?_
          refine wpC_region ?_
          refine wpR_val (v := (Value.int .i64 l33)) (w' := w10) rfl rfl rfl (x_move (v := (Value.int .i64 l33)) rfl e11) ?_
          refine wpR_val (v := (Sl.v p0)) (w' := w10) rfl rfl rfl (x_move (v := (Sl.v p0)) rfl e0) ?_
          refine wpR_val (v := (Value.int .i64 (p0.len : Int))) (w' := w10) rfl rfl rfl (x_lenS (s := p0) rfl rfl isSliceT_22) ?_
          refine wpR_val (v := (Value.bool (decide (l33 < (p0.len : Int))))) (w' := w10) rfl rfl rfl (x_lss rfl rfl rfl) ?_
          refine wpR_nil ?_
          refine wpC_cond (b := decide (l33 < (p0.len : Int))) rfl (fun hc34 => ?_) (fun hc34 => ?_)
          · replace h := h.1 hc34
            refine wpC_skip ?_
            refine wpC_seq ?_
            refine wpC_block ?_
            refine wpC_seq ?_
            refine wpC_cut (fun ρ => ρ 0 = (Sl.v p0) ∧ ρ 1 = (Sl.v p1) ∧ ρ 2 = (Value.int .i64 p2) ∧ ρ 7 = (Value.bool r1) ∧ ρ 8 = (Sl.v r13) ∧ ρ 9 = (Value.int .i64 l15) ∧ ρ 10 = (Value.pointer (some (Addr.mk b23 0 none))) ∧ ρ 11 = (Value.int .i64 l33) ∧ True) ⟨e0, e1, e2, e7, e8, e9, e10, e11, trivial⟩ ?_
            rintro ρ ⟨e0, e1, e2, e7, e8, e9, e10, e11, -⟩
            refine wpC_region ?_
            refine wpR_val (v := (Sl.v p0)) (w' := w10) rfl rfl rfl (x_move (v := (Sl.v p0)) rfl e0) ?_
            refine wpR_val (v := (Value.int .i64 l33)) (w' := w10) rfl rfl rfl (x_move (v := (Value.int .i64 l33)) rfl e11) ?_
            obtain ⟨q35, z35, r35, h⟩ := h
            generalize hp35 : z35.add ((l33 : Int).toNat * 5) = p35 at h
            refine wpR_val (v := (Value.pointer (some p35))) (w' := w10) rfl rfl rfl ((x_indexAddr (s := p0) rfl rfl rfl ES_22 q35 r35).trans (by rw [hp35])) ?_
            obtain ⟨x36, q36, h⟩ := h
            obtain ⟨x37, q37, h⟩ := h
            obtain ⟨x38, q38, h⟩ := h
            obtain ⟨x39, q39, h⟩ := h
            obtain ⟨x40, q40, h⟩ := h
            refine wpR_val (v := (Value.agg #[(Value.int .i64 x36), (Value.int .i64 x37), (Value.int .i64 x38), (Value.int .i64 x39), (Value.int .i64 x40)])) (w' := w10) rfl rfl rfl (x_loadN [(Value.int .i64 x36), (Value.int .i64 x37), (Value.int .i64 x38), (Value.int .i64 x39), (Value.int .i64 x40)] rfl rfl SH_30 (CellsAt.out (CellsAt.cons q36 (CellsAt.cons q37 (CellsAt.cons q38 (CellsAt.cons q39 (CellsAt.cons q40 CellsAt.nil))))))) ?_
            obtain ⟨b41, hb41⟩ : ∃ u, u = w10.heap.size := ⟨_, rfl⟩
            obtain ⟨w11, hw41⟩ : ∃ u, u = w10.alloc (.cells #[(Value.int .i64 0), (Value.int .i64 0), (Value.int .i64 0), (Value.int .i64 0), (Value.int .i64 0)] 30) := ⟨_, rfl⟩
            replace h := h b41 w11 hb41 hw41
            refine wpR_val (v := (Value.pointer (some (Addr.mk b41 0 none)))) (w' := w11) rfl rfl rfl ((x_alloc rfl ZV_30).trans (by rw [hb41, hw41]; rfl)) ?_
            obtain ⟨q42, h⟩ := h
            obtain ⟨w12, hw42⟩ : ∃ u, u = setAll w11 (Addr.mk b41 0 none) [(Value.int .i64 x36), (Value.int .i64 x37), (Value.int .i64 x38), (Value.int .i64 x39), (Value.int .i64 x40)] 0 := ⟨_, rfl⟩
            replace h := h w12 hw42
            refine wpR_skp (w' := w12) rfl rfl ((x_store (v := (Value.agg #[(Value.int .i64 x36), (Value.int .i64 x37), (Value.int .i64 x38), (Value.int .i64 x39), (Value.int .i64 x40)])) rfl rfl rfl SZ_30 (ones (by rfl)) q42).trans (by rw [hw42]; rfl)) ?_
            refine wpR_nil ?_
            refine wpC_seq ?_
            refine wpC_cut (fun ρ => ρ 0 = (Sl.v p0) ∧ ρ 1 = (Sl.v p1) ∧ ρ 2 = (Value.int .i64 p2) ∧ ρ 7 = (Value.bool r1) ∧ ρ 8 = (Sl.v r13) ∧ ρ 9 = (Value.int .i64 l15) ∧ ρ 10 = (Value.pointer (some (Addr.mk b23 0 none))) ∧ ρ 11 = (Value.int .i64 l33) ∧ ρ 12 = (Value.pointer (some (Addr.mk b41 0 none))) ∧ True) ⟨e0, e1, e2, e7, e8, e9, e10, e11, rfl, trivial⟩ ?_
            rintro ρ ⟨e0, e1, e2, e7, e8, e9, e10, e11, e12, -⟩
            obtain ⟨J44, h, hk⟩ := h
            refine wpC_drawJ (by kernel_rfl) (fun (x : Bool) ρ => ρ 13 = (Value.bool x) ∧ ρ 0 = (Sl.v p0) ∧ ρ 1 = (Sl.v p1) ∧ ρ 2 = (Value.int .i64 p2) ∧ ρ 7 = (Value.bool r1) ∧ ρ 8 = (Sl.v r13) ∧ ρ 9 = (Value.int .i64 l15) ∧ ρ 10 = (Value.pointer (some (Addr.mk b23 0 none))) ∧ ρ 11 = (Value.int .i64 l33) ∧ ρ 12 = (Value.pointer (some (Addr.mk b41 0 none))) ∧ True) J44 ?_ ?_
            · clear hk
              unfold tk at h
              generalize w12.drew = w13 at h ⊢
              refine wpD_take (v := (Value.pointer (some ((Addr.mk b41 0 none).add 1)))) 0 (fun _ => True) rfl (by kernel_rfl) (by kernel_rfl) (by kernel_rfl) rfl rfl rfl trivial (fun w _ => (x_fieldAddr rfl e12 FA_30_1)) ?_
              obtain ⟨x45, q45, h⟩ := h
              refine wpD_take (v := (Value.int .i64 x45)) 1 (fun w => w.cell? ((Addr.mk b41 0 none).add 1) = some (Value.int .i64 x45)) rfl (by kernel_rfl) (by kernel_rfl) (by kernel_rfl) rfl rfl rfl q45 (fun w q45 => (x_load1 rfl rfl SH_3 q45)) ?_
              refine wpD_take (v := (Value.pointer (some ((Addr.mk b23 0 none).add 1)))) 2 (fun _ => True) rfl (by kernel_rfl) (by kernel_rfl) (by kernel_rfl) rfl rfl rfl trivial (fun w _ => (x_fieldAddr rfl e10 FA_30_1)) ?_
              obtain ⟨x46, q46, h⟩ := h
              refine wpD_take (v := (Value.int .i64 x46)) 3 (fun w => w.cell? ((Addr.mk b23 0 none).add 1) = some (Value.int .i64 x46)) rfl (by kernel_rfl) (by kernel_rfl) (by kernel_rfl) rfl rfl rfl q46 (fun w q46 => (x_load1 rfl rfl SH_3 q46)) ?_
              refine wpD_take (v := (Value.bool (decide (x45 = x46)))) 4 (fun _ => True) rfl (by kernel_rfl) (by kernel_rfl) (by kernel_rfl) rfl rfl rfl trivial (fun w _ => (x_eql rfl rfl rfl)) ?_
              refine wpD_take (v := (Value.bool (decide (x45 = x46)))) 5 (fun _ => True) rfl (by kernel_rfl) (by kernel_rfl) (by kernel_rfl) rfl rfl rfl trivial (fun w _ => (x_move (v := (Value.bool (decide (x45 = x46)))) rfl rfl)) ?_
              rcases Bool.eq_false_or_eq_true (decide (x45 = x46)) with hc47 | hc47
              · replace h := h.1 hc47
                refine wpD_take (v := (Value.pointer (some ((Addr.mk b41 0 none).add 3)))) 6 (fun _ => True) rfl (by kernel_rfl) (by kernel_rfl) (by kernel_rfl) (wantG rfl rfl rfl hc47) rfl rfl trivial (fun w _ => (x_fieldAddr rfl e12 FA_30_3)) ?_
                obtain ⟨x48, q48, h⟩ := h
                refine wpD_take (v := (Value.int .i64 x48)) 7 (fun w => w.cell? ((Addr.mk b41 0 none).add 3) = some (Value.int .i64 x48)) rfl (by kernel_rfl) (by kernel_rfl) (by kernel_rfl) (wantG rfl rfl rfl hc47) rfl rfl q48 (fun w q48 => (x_load1 rfl rfl SH_3 q48)) ?_
                refine wpD_take (v := (Value.pointer (some ((Addr.mk b23 0 none).add 3)))) 8 (fun _ => True) rfl (by kernel_rfl) (by kernel_rfl) (by kernel_rfl) (wantG rfl rfl rfl hc47) rfl rfl trivial (fun w _ => (x_fieldAddr rfl e10 FA_30_3)) ?_
                obtain ⟨x49, q49, h⟩ := h
                refine wpD_take (v := (Value.int .i64 x49)) 9 (fun w => w.cell? ((Addr.mk b23 0 none).add 3) = some (Value.int .i64 x49)) rfl (by kernel_rfl) (by kernel_rfl) (by kernel_rfl) (wantG rfl rfl rfl hc47) rfl rfl q49 (fun w q49 => (x_load1 rfl rfl SH_3 q49)) ?_
                refine wpD_take (v := (Value.bool (decide (x48 = x49)))) 10 (fun _ => True) rfl (by kernel_rfl) (by kernel_rfl) (by kernel_rfl) (wantG rfl rfl rfl hc47) rfl rfl trivial (fun w _ => (x_eql rfl rfl rfl)) ?_
                refine wpD_take (v := (Value.bool (decide (x48 = x49)))) 11 (fun _ => True) rfl (by kernel_rfl) (by kernel_rfl) (by kernel_rfl) rfl rfl rfl trivial (fun w _ => (x_pickT (v := (Value.bool (decide (x48 = x49)))) rfl rfl hc47 rfl)) ?_
                refine wpD_take (v := (Value.bool (decide (x48 = x49)))) 12 (fun _ => True) rfl (by kernel_rfl) (by kernel_rfl) (by kernel_rfl) rfl rfl rfl trivial (fun w _ => (x_move (v := (Value.bool (decide (x48 = x49)))) rfl rfl)) ?_
                rcases Bool.eq_false_or_eq_true (decide (x48 = x49)) with hc50 | hc50
                · replace h := h.1 hc50
                  refine wpD_take (v := (Value.pointer (some ((Addr.mk b41 0 none).add 4)))) 13 (fun _ => True) rfl (by kernel_rfl) (by kernel_rfl) (by kernel_rfl) (wantG rfl rfl rfl hc50) rfl rfl trivial (fun w _ => (x_fieldAddr rfl e12 FA_30_4)) ?_
                  obtain ⟨x51, q51, h⟩ := h
                  refine wpD_take (v := (Value.int .i64 x51)) 14 (fun w => w.cell? ((Addr.mk b41 0 none).add 4) = some (Value.int .i64 x51)) rfl (by kernel_rfl) (by kernel_rfl) (by kernel_rfl) (wantG rfl rfl rfl hc50) rfl rfl q51 (fun w q51 => (x_load1 rfl rfl SH_3 q51)) ?_
                  refine wpD_take (v := (Value.pointer (some ((Addr.mk b23 0 none).add 4)))) 15 (fun _ => True) rfl (by kernel_rfl) (by kernel_rfl) (by kernel_rfl) (wantG rfl rfl rfl hc50) rfl rfl trivial (fun w _ => (x_fieldAddr rfl e10 FA_30_4)) ?_
                  obtain ⟨x52, q52, h⟩ := h
                  refine wpD_take (v := (Value.int .i64 x52)) 16 (fun w => w.cell? ((Addr.mk b23 0 none).add 4) = some (Value.int .i64 x52)) rfl (by kernel_rfl) (by kernel_rfl) (by kernel_rfl) (wantG rfl rfl rfl hc50) rfl rfl q52 (fun w q52 => (x_load1 rfl rfl SH_3 q52)) ?_
                  refine wpD_take (v := (Value.bool (decide (x51 = x52)))) 17 (fun _ => True) rfl (by kernel_rfl) (by kernel_rfl) (by kernel_rfl) (wantG rfl rfl rfl hc50) rfl rfl trivial (fun w _ => (x_eql rfl rfl rfl)) ?_
                  refine wpD_take (v := (Value.bool (decide (x51 = x52)))) 18 (fun _ => True) rfl (by kernel_rfl) (by kernel_rfl) (by kernel_rfl) rfl rfl rfl trivial (fun w _ => (x_pickT (v := (Value.bool (decide (x51 = x52)))) rfl rfl hc50 rfl)) ?_
                  refine wpD_take (v := (Value.bool (decide (x51 = x52)))) 19 (fun _ => True) rfl (by kernel_rfl) (by kernel_rfl) (by kernel_rfl) rfl rfl rfl trivial (fun w _ => (x_move (v := (Value.bool (decide (x51 = x52)))) rfl rfl)) ?_
                  rcases Bool.eq_false_or_eq_true (decide (x51 = x52)) with hc53 | hc53
                  · replace h := h.1 hc53
                    refine wpD_take (v := (Value.pointer (some ((Addr.mk b41 0 none).add 2)))) 20 (fun _ => True) rfl (by kernel_rfl) (by kernel_rfl) (by kernel_rfl) (wantG rfl rfl rfl hc53) rfl rfl trivial (fun w _ => (x_fieldAddr rfl e12 FA_30_2)) ?_
                    obtain ⟨x54, q54, h⟩ := h
                    refine wpD_take (v := (Value.int .i64 x54)) 21 (fun w => w.cell? ((Addr.mk b41 0 none).add 2) = some (Value.int .i64 x54)) rfl (by kernel_rfl) (by kernel_rfl) (by kernel_rfl) (wantG rfl rfl rfl hc53) rfl rfl q54 (fun w q54 => (x_load1 rfl rfl SH_3 q54)) ?_
                    refine wpD_take (v := (Value.pointer (some ((Addr.mk b23 0 none).add 2)))) 22 (fun _ => True) rfl (by kernel_rfl) (by kernel_rfl) (by kernel_rfl) (wantG rfl rfl rfl hc53) rfl rfl trivial (fun w _ => (x_fieldAddr rfl e10 FA_30_2)) ?_
                    obtain ⟨x55, q55, h⟩ := h
                    refine wpD_take (v := (Value.int .i64 x55)) 23 (fun w => w.cell? ((Addr.mk b23 0 none).add 2) = some (Value.int .i64 x55)) rfl (by kernel_rfl) (by kernel_rfl) (by kernel_rfl) (wantG rfl rfl rfl hc53) rfl rfl q55 (fun w q55 => (x_load1 rfl rfl SH_3 q55)) ?_
                    refine wpD_take (v := (Value.bool (decide (x54 ≤ x55)))) 24 (fun _ => True) rfl (by kernel_rfl) (by kernel_rfl) (by kernel_rfl) (wantG rfl rfl rfl hc53) rfl rfl trivial (fun w _ => (x_leq rfl rfl rfl)) ?_
                    refine wpD_take (v := (Value.bool (decide (x54 ≤ x55)))) 25 (fun _ => True) rfl (by kernel_rfl) (by kernel_rfl) (by kernel_rfl) rfl rfl rfl trivial (fun w _ => (x_pickT (v := (Value.bool (decide (x54 ≤ x55)))) rfl rfl hc53 rfl)) ?_
                    refine wpD_take (v := (Value.bool (decide (x54 ≤ x55)))) 26 (fun _ => True) rfl (by kernel_rfl) (by kernel_rfl) (by kernel_rfl) rfl rfl rfl trivial (fun w _ => (x_move (v := (Value.bool (decide (x54 ≤ x55)))) rfl rfl)) ?_
                    rcases Bool.eq_false_or_eq_true (decide (x54 ≤ x55)) with hc56 | hc56
                    · replace h := h.1 hc56
                      refine wpD_take (v := (Value.pointer (some ((Addr.mk b23 0 none).add 2)))) 27 (fun _ => True) rfl (by kernel_rfl) (by kernel_rfl) (by kernel_rfl) (wantG rfl rfl rfl hc56) rfl rfl trivial (fun w _ => (x_fieldAddr rfl e10 FA_30_2)) ?_
                      obtain ⟨x57, q57, h⟩ := h
                      refine wpD_take (v := (Value.int .i64 x57)) 28 (fun w => w.cell? ((Addr.mk b23 0 none).add 2) = some (Value.int .i64 x57)) rfl (by kernel_rfl) (by kernel_rfl) (by kernel_rfl) (wantG rfl rfl rfl hc56) rfl rfl q57 (fun w q57 => (x_load1 rfl rfl SH_3 q57)) ?_
                      refine wpD_take (v := (Value.pointer (some ((Addr.mk b41 0 none).add 2)))) 29 (fun _ => True) rfl (by kernel_rfl) (by kernel_rfl) (by kernel_rfl) (wantG rfl rfl rfl hc56) rfl rfl trivial (fun w _ => (x_fieldAddr rfl e12 FA_30_2)) ?_
                      obtain ⟨x58, q58, h⟩ := h
                      refine wpD_take (v := (Value.int .i64 x58)) 30 (fun w => w.cell? ((Addr.mk b41 0 none).add 2) = some (Value.int .i64 x58)) rfl (by kernel_rfl) (by kernel_rfl) (by kernel_rfl) (wantG rfl rfl rfl hc56) rfl rfl q58 (fun w q58 => (x_load1 rfl rfl SH_3 q58)) ?_
                      refine wpD_take (v := (Value.int .i64 (IntKind.i64.wrap (x57 - x58)))) 31 (fun _ => True) rfl (by kernel_rfl) (by kernel_rfl) (by kernel_rfl) (wantG rfl rfl rfl hc56) rfl rfl trivial (fun w _ => (x_sub rfl rfl rfl)) ?_
                      refine wpD_take (v := (Value.int .i64 p2)) 32 (fun _ => True) rfl (by kernel_rfl) (by kernel_rfl) (by kernel_rfl) (wantG rfl rfl rfl hc56) rfl rfl trivial (fun w _ => (x_move (v := (Value.int .i64 p2)) rfl e2)) ?_
                      refine wpD_take (v := (Value.bool (decide ((IntKind.i64.wrap (x57 - x58)) ≤ p2)))) 33 (fun _ => True) rfl (by kernel_rfl) (by kernel_rfl) (by kernel_rfl) (wantG rfl rfl rfl hc56) rfl rfl trivial (fun w _ => (x_leq rfl rfl rfl)) ?_
                      refine wpD_take (v := (Value.bool (decide ((IntKind.i64.wrap (x57 - x58)) ≤ p2)))) 34 (fun _ => True) rfl (by kernel_rfl) (by kernel_rfl) (by kernel_rfl) rfl rfl rfl trivial (fun w _ => (x_pickT (v := (Value.bool (decide ((IntKind.i64.wrap (x57 - x58)) ≤ p2)))) rfl rfl hc56 rfl)) ?_
                      refine wpD_take (v := (Value.bool (decide ((IntKind.i64.wrap (x57 - x58)) ≤ p2)))) 35 (fun _ => True) rfl (by kernel_rfl) (by kernel_rfl) (by kernel_rfl) rfl rfl rfl trivial (fun w _ => (x_move (v := (Value.bool (decide ((IntKind.i64.wrap (x57 - x58)) ≤ p2)))) rfl rfl)) ?_
                      rcases Bool.eq_false_or_eq_true (decide ((IntKind.i64.wrap (x57 - x58)) ≤ p2)) with hc59 | hc59
                      · replace h := h.1 hc59
                        refine wpD_take (v := (Value.pointer (some ((Addr.mk b41 0 none).add 0)))) 36 (fun _ => True) rfl (by kernel_rfl) (by kernel_rfl) (by kernel_rfl) (wantG rfl rfl rfl hc59) rfl rfl trivial (fun w _ => (x_fieldAddr rfl e12 FA_30_0)) ?_
                        obtain ⟨x60, q60, h⟩ := h
                        refine wpD_take (v := (Value.int .i64 x60)) 37 (fun w => w.cell? ((Addr.mk b41 0 none).add 0) = some (Value.int .i64 x60)) rfl (by kernel_rfl) (by kernel_rfl) (by kernel_rfl) (wantG rfl rfl rfl hc59) rfl rfl q60 (fun w q60 => (x_load1 rfl rfl SH_3 q60)) ?_
                        refine wpD_take (v := (Value.pointer (some ((Addr.mk b23 0 none).add 0)))) 39 (fun _ => True) rfl (by kernel_rfl) (by kernel_rfl) (by kernel_rfl) (wantG rfl rfl rfl hc59) rfl rfl trivial (fun w _ => (x_fieldAddr rfl e10 FA_30_0)) ?_
                        obtain ⟨x61, q61, h⟩ := h
                        refine wpD_take (v := (Value.int .i64 x61)) 40 (fun w => w.cell? ((Addr.mk b23 0 none).add 0) = some (Value.int .i64 x61)) rfl (by kernel_rfl) (by kernel_rfl) (by kernel_rfl) (wantG rfl rfl rfl hc59) rfl rfl q61 (fun w q61 => (x_load1 rfl rfl SH_3 q61)) ?_
                        refine wpD_all (rs := [38]) (by kernel_rfl) (by simp) (allD_cons ?_ allD_nil)
                        refine stepD_enterL (L' := [(40, fun w => w.cell? ((Addr.mk b23 0 none).add 0) = some (Value.int .i64 x61)), (39, fun _ => True), (36, fun _ => True), (34, fun _ => True), (33, fun _ => True), (32, fun _ => True), (31, fun _ => True), (30, fun w => w.cell? ((Addr.mk b41 0 none).add 2) = some (Value.int .i64 x58)), (29, fun _ => True), (28, fun w => w.cell? ((Addr.mk b23 0 none).add 2) = some (Value.int .i64 x57)), (27, fun _ => True), (26, fun _ => True), (25, fun _ => True), (24, fun _ => True), (23, fun w => w.cell? ((Addr.mk b23 0 none).add 2) = some (Value.int .i64 x55)), (22, fun _ => True), (21, fun w => w.cell? ((Addr.mk b41 0 none).add 2) = some (Value.int .i64 x54)), (20, fun _ => True), (19, fun _ => True), (18, fun _ => True), (17, fun _ => True), (16, fun w => w.cell? ((Addr.mk b23 0 none).add 4) = some (Value.int .i64 x52)), (15, fun _ => True), (14, fun w => w.cell? ((Addr.mk b41 0 none).add 4) = some (Value.int .i64 x51)), (13, fun _ => True), (12, fun _ => True), (11, fun _ => True), (10, fun _ => True), (9, fun w => w.cell? ((Addr.mk b23 0 none).add 3) = some (Value.int .i64 x49)), (8, fun _ => True), (7, fun w => w.cell? ((Addr.mk b41 0 none).add 3) = some (Value.int .i64 x48)), (6, fun _ => True), (5, fun _ => True), (4, fun _ => True), (3, fun w => w.cell? ((Addr.mk b23 0 none).add 1) = some (Value.int .i64 x46)), (2, fun _ => True), (1, fun w => w.cell? ((Addr.mk b41 0 none).add 1) = some (Value.int .i64 x45)), (0, fun _ => True)]) rfl (wantG rfl rfl rfl hc59) rfl rfl (x_call (vs := [(Value.int .i64 x60)]) rfl rfl (mapl_cons rfl mapl_nil) Try.func16 NN_16 NB_16) (by kernel_rfl) (Calls.mono h ?_)
                        rintro _ w14 ⟨r62, rfl, h⟩
                        obtain ⟨o40, h⟩ := h
                        obtain ⟨o30, h⟩ := h
                        obtain ⟨o28, h⟩ := h
                        obtain ⟨o23, h⟩ := h
                        obtain ⟨o21, h⟩ := h
                        obtain ⟨o16, h⟩ := h
                        obtain ⟨o14, h⟩ := h
                        obtain ⟨o9, h⟩ := h
                        obtain ⟨o7, h⟩ := h
                        obtain ⟨o3, h⟩ := h
                        obtain ⟨o1, h⟩ := h
                        refine ⟨_, rfl, (held_cons o40 (held_cons trivial (held_cons trivial (held_cons trivial (held_cons trivial (held_cons trivial (held_cons trivial (held_cons o30 (held_cons trivial (held_cons o28 (held_cons trivial (held_cons trivial (held_cons trivial (held_cons trivial (held_cons o23 (held_cons trivial (held_cons o21 (held_cons trivial (held_cons trivial (held_cons trivial (held_cons trivial (held_cons o16 (held_cons trivial (held_cons o14 (held_cons trivial (held_cons trivial (held_cons trivial (held_cons trivial (held_cons o9 (held_cons trivial (held_cons o7 (held_cons trivial (held_cons trivial (held_cons trivial (held_cons o3 (held_cons trivial (held_cons o1 (held_cons trivial held_nil)))))))))))))))))))))))))))))))))))))), ?_⟩
                        refine wpD_all (rs := [41]) (by kernel_rfl) (by simp) (allD_cons ?_ allD_nil)
                        refine stepD_enterL (L' := [(39, fun _ => True), (36, fun _ => True), (34, fun _ => True), (33, fun _ => True), (32, fun _ => True), (31, fun _ => True), (30, fun w => w.cell? ((Addr.mk b41 0 none).add 2) = some (Value.int .i64 x58)), (29, fun _ => True), (28, fun w => w.cell? ((Addr.mk b23 0 none).add 2) = some (Value.int .i64 x57)), (27, fun _ => True), (26, fun _ => True), (25, fun _ => True), (24, fun _ => True), (23, fun w => w.cell? ((Addr.mk b23 0 none).add 2) = some (Value.int .i64 x55)), (22, fun _ => True), (21, fun w => w.cell? ((Addr.mk b41 0 none).add 2) = some (Value.int .i64 x54)), (20, fun _ => True), (19, fun _ => True), (18, fun _ => True), (17, fun _ => True), (16, fun w => w.cell? ((Addr.mk b23 0 none).add 4) = some (Value.int .i64 x52)), (15, fun _ => True), (14, fun w => w.cell? ((Addr.mk b41 0 none).add 4) = some (Value.int .i64 x51)), (13, fun _ => True), (12, fun _ => True), (11, fun _ => True), (10, fun _ => True), (9, fun w => w.cell? ((Addr.mk b23 0 none).add 3) = some (Value.int .i64 x49)), (8, fun _ => True), (7, fun w => w.cell? ((Addr.mk b41 0 none).add 3) = some (Value.int .i64 x48)), (6, fun _ => True), (5, fun _ => True), (4, fun _ => True), (3, fun w => w.cell? ((Addr.mk b23 0 none).add 1) = some (Value.int .i64 x46)), (2, fun _ => True), (1, fun w => w.cell? ((Addr.mk b41 0 none).add 1) = some (Value.int .i64 x45)), (0, fun _ => True)]) rfl (wantG rfl rfl rfl hc59) rfl rfl (x_call (vs := [(Value.int .i64 x61)]) rfl rfl (mapl_cons rfl mapl_nil) Try.func16 NN_16 NB_16) (by kernel_rfl) (Calls.mono h ?_)
                        rintro _ w15 ⟨r63, rfl, h⟩
                        obtain ⟨o30, h⟩ := h
                        obtain ⟨o28, h⟩ := h
                        obtain ⟨o23, h⟩ := h
                        obtain ⟨o21, h⟩ := h
                        obtain ⟨o16, h⟩ := h
                        obtain ⟨o14, h⟩ := h
                        obtain ⟨o9, h⟩ := h
                        obtain ⟨o7, h⟩ := h
                        obtain ⟨o3, h⟩ := h
                        obtain ⟨o1, h⟩ := h
                        refine ⟨_, rfl, (held_cons trivial (held_cons trivial (held_cons trivial (held_cons trivial (held_cons trivial (held_cons trivial (held_cons o30 (held_cons trivial (held_cons o28 (held_cons trivial (held_cons trivial (held_cons trivial (held_cons trivial (held_cons o23 (held_cons trivial (held_cons o21 (held_cons trivial (held_cons trivial (held_cons trivial (held_cons trivial (held_cons o16 (held_cons trivial (held_cons o14 (held_cons trivial (held_cons trivial (held_cons trivial (held_cons trivial (held_cons o9 (held_cons trivial (held_cons o7 (held_cons trivial (held_cons trivial (held_cons trivial (held_cons o3 (held_cons trivial (held_cons o1 (held_cons trivial held_nil))))))))))))))))))))))))))))))))))))), ?_⟩
                        refine wpD_take (v := (Value.bool (!decide (r62 = r63)))) 42 (fun _ => True) rfl (by kernel_rfl) (by kernel_rfl) (by kernel_rfl) (wantG rfl rfl rfl hc59) rfl rfl trivial (fun w _ => (x_neq rfl rfl rfl)) ?_
                        refine wpD_take (v := (Value.bool (!decide (r62 = r63)))) 43 (fun _ => True) rfl (by kernel_rfl) (by kernel_rfl) (by kernel_rfl) rfl rfl rfl trivial (fun w _ => (x_pickT (v := (Value.bool (!decide (r62 = r63)))) rfl rfl hc59 rfl)) ?_
                        refine wpD_take (v := (Value.bool (!decide (r62 = r63)))) 44 (fun _ => True) rfl (by kernel_rfl) (by kernel_rfl) (by kernel_rfl) rfl rfl rfl trivial (fun w _ => (x_assign (v := (Value.bool (!decide (r62 = r63)))) rfl rfl)) ?_
                        exact wpD_done (by kernel_rfl) ⟨!decide (r62 = r63), ⟨rfl, e0, e1, e2, e7, e8, e9, e10, e11, e12, trivial⟩, h⟩
                      · replace h := h.2 hc59
                        refine wpD_pass 36 rfl (by kernel_rfl) (by kernel_rfl) (by kernel_rfl) (wantN rfl rfl rfl hc59) rfl rfl ?_
                        refine wpD_pass 37 rfl (by kernel_rfl) (by kernel_rfl) (by kernel_rfl) (wantN rfl rfl rfl hc59) rfl rfl ?_
                        refine wpD_pass 38 rfl (by kernel_rfl) (by kernel_rfl) (by kernel_rfl) (wantN rfl rfl rfl hc59) rfl rfl ?_
                        refine wpD_pass 39 rfl (by kernel_rfl) (by kernel_rfl) (by kernel_rfl) (wantN rfl rfl rfl hc59) rfl rfl ?_
                        refine wpD_pass 40 rfl (by kernel_rfl) (by kernel_rfl) (by kernel_rfl) (wantN rfl rfl rfl hc59) rfl rfl ?_
                        refine wpD_pass 41 rfl (by kernel_rfl) (by kernel_rfl) (by kernel_rfl) (wantN rfl rfl rfl hc59) rfl rfl ?_
                        refine wpD_pass 42 rfl (by kernel_rfl) (by kernel_rfl) (by kernel_rfl) (wantN rfl rfl rfl hc59) rfl rfl ?_
                        refine wpD_take (v := (Value.bool false)) 43 (fun _ => True) rfl (by kernel_rfl) (by kernel_rfl) (by kernel_rfl) rfl rfl rfl trivial (fun w _ => (x_pickF (v := (Value.bool false)) rfl rfl hc59 rfl)) ?_
                        refine wpD_take (v := (Value.bool false)) 44 (fun _ => True) rfl (by kernel_rfl) (by kernel_rfl) (by kernel_rfl) rfl rfl rfl trivial (fun w _ => (x_assign (v := (Value.bool false)) rfl rfl)) ?_
                        exact wpD_done (by kernel_rfl) ⟨false, ⟨rfl, e0, e1, e2, e7, e8, e9, e10, e11, e12, trivial⟩, h⟩
                    · replace h := h.2 hc56
                      refine wpD_pass 27 rfl (by kernel_rfl) (by kernel_rfl) (by kernel_rfl) (wantN rfl rfl rfl hc56) rfl rfl ?_
                      refine wpD_pass 28 rfl (by kernel_rfl) (by kernel_rfl) (by kernel_rfl) (wantN rfl rfl rfl hc56) rfl rfl ?_
                      refine wpD_pass 29 rfl (by kernel_rfl) (by kernel_rfl) (by kernel_rfl) (wantN rfl rfl rfl hc56) rfl rfl ?_
                      refine wpD_pass 30 rfl (by kernel_rfl) (by kernel_rfl) (by kernel_rfl) (wantN rfl rfl rfl hc56) rfl rfl ?_
                      refine wpD_pass 31 rfl (by kernel_rfl) (by kernel_rfl) (by kernel_rfl) (wantN rfl rfl rfl hc56) rfl rfl ?_
                      refine wpD_pass 32 rfl (by kernel_rfl) (by kernel_rfl) (by kernel_rfl) (wantN rfl rfl rfl hc56) rfl rfl ?_
                      refine wpD_pass 33 rfl (by kernel_rfl) (by kernel_rfl) (by kernel_rfl) (wantN rfl rfl rfl hc56) rfl rfl ?_
                      refine wpD_take (v := (Value.bool false)) 34 (fun _ => True) rfl (by kernel_rfl) (by kernel_rfl) (by kernel_rfl) rfl rfl rfl trivial (fun w _ => (x_pickF (v := (Value.bool false)) rfl rfl hc56 rfl)) ?_
                      refine wpD_take (v := (Value.bool false)) 35 (fun _ => True) rfl (by kernel_rfl) (by kernel_rfl) (by kernel_rfl) rfl rfl rfl trivial (fun w _ => (x_move (v := (Value.bool false)) rfl rfl)) ?_
                      refine wpD_pass 36 rfl (by kernel_rfl) (by kernel_rfl) (by kernel_rfl) (wantN rfl rfl rfl rfl) rfl rfl ?_
                      refine wpD_pass 37 rfl (by kernel_rfl) (by kernel_rfl) (by kernel_rfl) (wantN rfl rfl rfl rfl) rfl rfl ?_
                      refine wpD_pass 38 rfl (by kernel_rfl) (by kernel_rfl) (by kernel_rfl) (wantN rfl rfl rfl rfl) rfl rfl ?_
                      refine wpD_pass 39 rfl (by kernel_rfl) (by kernel_rfl) (by kernel_rfl) (wantN rfl rfl rfl rfl) rfl rfl ?_
                      refine wpD_pass 40 rfl (by kernel_rfl) (by kernel_rfl) (by kernel_rfl) (wantN rfl rfl rfl rfl) rfl rfl ?_
                      refine wpD_pass 41 rfl (by kernel_rfl) (by kernel_rfl) (by kernel_rfl) (wantN rfl rfl rfl rfl) rfl rfl ?_
                      refine wpD_pass 42 rfl (by kernel_rfl) (by kernel_rfl) (by kernel_rfl) (wantN rfl rfl rfl rfl) rfl rfl ?_
                      refine wpD_take (v := (Value.bool false)) 43 (fun _ => True) rfl (by kernel_rfl) (by kernel_rfl) (by kernel_rfl) rfl rfl rfl trivial (fun w _ => (x_pickF (v := (Value.bool false)) rfl rfl rfl rfl)) ?_
                      refine wpD_take (v := (Value.bool false)) 44 (fun _ => True) rfl (by kernel_rfl) (by kernel_rfl) (by kernel_rfl) rfl rfl rfl trivial (fun w _ => (x_assign (v := (Value.bool false)) rfl rfl)) ?_
                      exact wpD_done (by kernel_rfl) ⟨false, ⟨rfl, e0, e1, e2, e7, e8, e9, e10, e11, e12, trivial⟩, h⟩
                  · replace h := h.2 hc53
                    refine wpD_pass 20 rfl (by kernel_rfl) (by kernel_rfl) (by kernel_rfl) (wantN rfl rfl rfl hc53) rfl rfl ?_
                    refine wpD_pass 21 rfl (by kernel_rfl) (by kernel_rfl) (by kernel_rfl) (wantN rfl rfl rfl hc53) rfl rfl ?_
                    refine wpD_pass 22 rfl (by kernel_rfl) (by kernel_rfl) (by kernel_rfl) (wantN rfl rfl rfl hc53) rfl rfl ?_
                    refine wpD_pass 23 rfl (by kernel_rfl) (by kernel_rfl) (by kernel_rfl) (wantN rfl rfl rfl hc53) rfl rfl ?_
                    refine wpD_pass 24 rfl (by kernel_rfl) (by kernel_rfl) (by kernel_rfl) (wantN rfl rfl rfl hc53) rfl rfl ?_
                    refine wpD_take (v := (Value.bool false)) 25 (fun _ => True) rfl (by kernel_rfl) (by kernel_rfl) (by kernel_rfl) rfl rfl rfl trivial (fun w _ => (x_pickF (v := (Value.bool false)) rfl rfl hc53 rfl)) ?_
                    refine wpD_take (v := (Value.bool false)) 26 (fun _ => True) rfl (by kernel_rfl) (by kernel_rfl) (by kernel_rfl) rfl rfl rfl trivial (fun w _ => (x_move (v := (Value.bool false)) rfl rfl)) ?_
                    refine wpD_pass 27 rfl (by kernel_rfl) (by kernel_rfl) (by kernel_rfl) (wantN rfl rfl rfl rfl) rfl rfl ?_
                    refine wpD_pass 28 rfl (by kernel_rfl) (by kernel_rfl) (by kernel_rfl) (wantN rfl rfl rfl rfl) rfl rfl ?_
                    refine wpD_pass 29 rfl (by kernel_rfl) (by kernel_rfl) (by kernel_rfl) (wantN rfl rfl rfl rfl) rfl rfl ?_
                    refine wpD_pass 30 rfl (by kernel_rfl) (by kernel_rfl) (by kernel_rfl) (wantN rfl rfl rfl rfl) rfl rfl ?_
                    refine wpD_pass 31 rfl (by kernel_rfl) (by kernel_rfl) (by kernel_rfl) (wantN rfl rfl rfl rfl) rfl rfl ?_
                    refine wpD_pass 32 rfl (by kernel_rfl) (by kernel_rfl) (by kernel_rfl) (wantN rfl rfl rfl rfl) rfl rfl ?_
                    refine wpD_pass 33 rfl (by kernel_rfl) (by kernel_rfl) (by kernel_rfl) (wantN rfl rfl rfl rfl) rfl rfl ?_
                    refine wpD_take (v := (Value.bool false)) 34 (fun _ => True) rfl (by kernel_rfl) (by kernel_rfl) (by kernel_rfl) rfl rfl rfl trivial (fun w _ => (x_pickF (v := (Value.bool false)) rfl rfl rfl rfl)) ?_
                    refine wpD_take (v := (Value.bool false)) 35 (fun _ => True) rfl (by kernel_rfl) (by kernel_rfl) (by kernel_rfl) rfl rfl rfl trivial (fun w _ => (x_move (v := (Value.bool false)) rfl rfl)) ?_
                    refine wpD_pass 36 rfl (by kernel_rfl) (by kernel_rfl) (by kernel_rfl) (wantN rfl rfl rfl rfl) rfl rfl ?_
                    refine wpD_pass 37 rfl (by kernel_rfl) (by kernel_rfl) (by kernel_rfl) (wantN rfl rfl rfl rfl) rfl rfl ?_
                    refine wpD_pass 38 rfl (by kernel_rfl) (by kernel_rfl) (by kernel_rfl) (wantN rfl rfl rfl rfl) rfl rfl ?_
                    refine wpD_pass 39 rfl (by kernel_rfl) (by kernel_rfl) (by kernel_rfl) (wantN rfl rfl rfl rfl) rfl rfl ?_
                    refine wpD_pass 40 rfl (by kernel_rfl) (by kernel_rfl) (by kernel_rfl) (wantN rfl rfl rfl rfl) rfl rfl ?_
                    refine wpD_pass 41 rfl (by kernel_rfl) (by kernel_rfl) (by kernel_rfl) (wantN rfl rfl rfl rfl) rfl rfl ?_
                    refine wpD_pass 42 rfl (by kernel_rfl) (by kernel_rfl) (by kernel_rfl) (wantN rfl rfl rfl rfl) rfl rfl ?_
                    refine wpD_take (v := (Value.bool false)) 43 (fun _ => True) rfl (by kernel_rfl) (by kernel_rfl) (by kernel_rfl) rfl rfl rfl trivial (fun w _ => (x_pickF (v := (Value.bool false)) rfl rfl rfl rfl)) ?_
                    refine wpD_take (v := (Value.bool false)) 44 (fun _ => True) rfl (by kernel_rfl) (by kernel_rfl) (by kernel_rfl) rfl rfl rfl trivial (fun w _ => (x_assign (v := (Value.bool false)) rfl rfl)) ?_
                    exact wpD_done (by kernel_rfl) ⟨false, ⟨rfl, e0, e1, e2, e7, e8, e9, e10, e11, e12, trivial⟩, h⟩
                · replace h := h.2 hc50
                  refine wpD_pass 13 rfl (by kernel_rfl) (by kernel_rfl) (by kernel_rfl) (wantN rfl rfl rfl hc50) rfl rfl ?_
                  refine wpD_pass 14 rfl (by kernel_rfl) (by kernel_rfl) (by kernel_rfl) (wantN rfl rfl rfl hc50) rfl rfl ?_
                  refine wpD_pass 15 rfl (by kernel_rfl) (by kernel_rfl) (by kernel_rfl) (wantN rfl rfl rfl hc50) rfl rfl ?_
                  refine wpD_pass 16 rfl (by kernel_rfl) (by kernel_rfl) (by kernel_rfl) (wantN rfl rfl rfl hc50) rfl rfl ?_
                  refine wpD_pass 17 rfl (by kernel_rfl) (by kernel_rfl) (by kernel_rfl) (wantN rfl rfl rfl hc50) rfl rfl ?_
                  refine wpD_take (v := (Value.bool false)) 18 (fun _ => True) rfl (by kernel_rfl) (by kernel_rfl) (by kernel_rfl) rfl rfl rfl trivial (fun w _ => (x_pickF (v := (Value.bool false)) rfl rfl hc50 rfl)) ?_
                  refine wpD_take (v := (Value.bool false)) 19 (fun _ => True) rfl (by kernel_rfl) (by kernel_rfl) (by kernel_rfl) rfl rfl rfl trivial (fun w _ => (x_move (v := (Value.bool false)) rfl rfl)) ?_
                  refine wpD_pass 20 rfl (by kernel_rfl) (by kernel_rfl) (by kernel_rfl) (wantN rfl rfl rfl rfl) rfl rfl ?_
                  refine wpD_pass 21 rfl (by kernel_rfl) (by kernel_rfl) (by kernel_rfl) (wantN rfl rfl rfl rfl) rfl rfl ?_
                  refine wpD_pass 22 rfl (by kernel_rfl) (by kernel_rfl) (by kernel_rfl) (wantN rfl rfl rfl rfl) rfl rfl ?_
                  refine wpD_pass 23 rfl (by kernel_rfl) (by kernel_rfl) (by kernel_rfl) (wantN rfl rfl rfl rfl) rfl rfl ?_
                  refine wpD_pass 24 rfl (by kernel_rfl) (by kernel_rfl) (by kernel_rfl) (wantN rfl rfl rfl rfl) rfl rfl ?_
                  refine wpD_take (v := (Value.bool false)) 25 (fun _ => True) rfl (by kernel_rfl) (by kernel_rfl) (by kernel_rfl) rfl rfl rfl trivial (fun w _ => (x_pickF (v := (Value.bool false)) rfl rfl rfl rfl)) ?_
                  refine wpD_take (v := (Value.bool false)) 26 (fun _ => True) rfl (by kernel_rfl) (by kernel_rfl) (by kernel_rfl) rfl rfl rfl trivial (fun w _ => (x_move (v := (Value.bool false)) rfl rfl)) ?_
                  refine wpD_pass 27 rfl (by kernel_rfl) (by kernel_rfl) (by kernel_rfl) (wantN rfl rfl rfl rfl) rfl rfl ?_
                  refine wpD_pass 28 rfl (by kernel_rfl) (by kernel_rfl) (by kernel_rfl) (wantN rfl rfl rfl rfl) rfl rfl ?_
                  refine wpD_pass 29 rfl (by kernel_rfl) (by kernel_rfl) (by kernel_rfl) (wantN rfl rfl rfl rfl) rfl rfl ?_
                  refine wpD_pass 30 rfl (by kernel_rfl) (by kernel_rfl) (by kernel_rfl) (wantN rfl rfl rfl rfl) rfl rfl ?_
                  refine wpD_pass 31 rfl (by kernel_rfl) (by kernel_rfl) (by kernel_rfl) (wantN rfl rfl rfl rfl) rfl rfl ?_
                  refine wpD_pass 32 rfl (by kernel_rfl) (by kernel_rfl) (by kernel_rfl) (wantN rfl rfl rfl rfl) rfl rfl ?_
                  refine wpD_pass 33 rfl (by kernel_rfl) (by kernel_rfl) (by kernel_rfl) (wantN rfl rfl rfl rfl) rfl rfl ?_
                  refine wpD_take (v := (Value.bool false)) 34 (fun _ => True) rfl (by kernel_rfl) (by kernel_rfl) (by kernel_rfl) rfl rfl rfl trivial (fun w _ => (x_pickF (v := (Value.bool false)) rfl rfl rfl rfl)) ?_
                  refine wpD_take (v := (Value.bool false)) 35 (fun _ => True) rfl (by kernel_rfl) (by kernel_rfl) (by kernel_rfl) rfl rfl rfl trivial (fun w _ => (x_move (v := (Value.bool false)) rfl rfl)) ?_
                  refine wpD_pass 36 rfl (by kernel_rfl) (by kernel_rfl) (by kernel_rfl) (wantN rfl rfl rfl rfl) rfl rfl ?_
                  refine wpD_pass 37 rfl (by kernel_rfl) (by kernel_rfl) (by kernel_rfl) (wantN rfl rfl rfl rfl) rfl rfl ?_
                  refine wpD_pass 38 rfl (by kernel_rfl) (by kernel_rfl) (by kernel_rfl) (wantN rfl rfl rfl rfl) rfl rfl ?_
                  refine wpD_pass 39 rfl (by kernel_rfl) (by kernel_rfl) (by kernel_rfl) (wantN rfl rfl rfl rfl) rfl rfl ?_
                  refine wpD_pass 40 rfl (by kernel_rfl) (by kernel_rfl) (by kernel_rfl) (wantN rfl rfl rfl rfl) rfl rfl ?_
                  refine wpD_pass 41 rfl (by kernel_rfl) (by kernel_rfl) (by kernel_rfl) (wantN rfl rfl rfl rfl) rfl rfl ?_
                  refine wpD_pass 42 rfl (by kernel_rfl) (by kernel_rfl) (by kernel_rfl) (wantN rfl rfl rfl rfl) rfl rfl ?_
                  refine wpD_take (v := (Value.bool false)) 43 (fun _ => True) rfl (by kernel_rfl) (by kernel_rfl) (by kernel_rfl) rfl rfl rfl trivial (fun w _ => (x_pickF (v := (Value.bool false)) rfl rfl rfl rfl)) ?_
                  refine wpD_take (v := (Value.bool false)) 44 (fun _ => True) rfl (by kernel_rfl) (by kernel_rfl) (by kernel_rfl) rfl rfl rfl trivial (fun w _ => (x_assign (v := (Value.bool false)) rfl rfl)) ?_
                  exact wpD_done (by kernel_rfl) ⟨false, ⟨rfl, e0, e1, e2, e7, e8, e9, e10, e11, e12, trivial⟩, h⟩
              · replace h := h.2 hc47
                refine wpD_pass 6 rfl (by kernel_rfl) (by kernel_rfl) (by kernel_rfl) (wantN rfl rfl rfl hc47) rfl rfl ?_
                refine wpD_pass 7 rfl (by kernel_rfl) (by kernel_rfl) (by kernel_rfl) (wantN rfl rfl rfl hc47) rfl rfl ?_
                refine wpD_pass 8 rfl (by kernel_rfl) (by kernel_rfl) (by kernel_rfl) (wantN rfl rfl rfl hc47) rfl rfl ?_
                refine wpD_pass 9 rfl (by kernel_rfl) (by kernel_rfl) (by kernel_rfl) (wantN rfl rfl rfl hc47) rfl rfl ?_
                refine wpD_pass 10 rfl (by kernel_rfl) (by kernel_rfl) (by kernel_rfl) (wantN rfl rfl rfl hc47) rfl rfl ?_
                refine wpD_take (v := (Value.bool false)) 11 (fun _ => True) rfl (by kernel_rfl) (by kernel_rfl) (by kernel_rfl) rfl rfl rfl trivial (fun w _ => (x_pickF (v := (Value.bool false)) rfl rfl hc47 rfl)) ?_
                refine wpD_take (v := (Value.bool false)) 12 (fun _ => True) rfl (by kernel_rfl) (by kernel_rfl) (by kernel_rfl) rfl rfl rfl trivial (fun w _ => (x_move (v := (Value.bool false)) rfl rfl)) ?_
                refine wpD_pass 13 rfl (by kernel_rfl) (by kernel_rfl) (by kernel_rfl) (wantN rfl rfl rfl rfl) rfl rfl ?_
                refine wpD_pass 14 rfl (by kernel_rfl) (by kernel_rfl) (by kernel_rfl) (wantN rfl rfl rfl rfl) rfl rfl ?_
                refine wpD_pass 15 rfl (by kernel_rfl) (by kernel_rfl) (by kernel_rfl) (wantN rfl rfl rfl rfl) rfl rfl ?_
                refine wpD_pass 16 rfl (by kernel_rfl) (by kernel_rfl) (by kernel_rfl) (wantN rfl rfl rfl rfl) rfl rfl ?_
                refine wpD_pass 17 rfl (by kernel_rfl) (by kernel_rfl) (by kernel_rfl) (wantN rfl rfl rfl rfl) rfl rfl ?_
                refine wpD_take (v := (Value.bool false)) 18 (fun _ => True) rfl (by kernel_rfl) (by kernel_rfl) (by kernel_rfl) rfl rfl rfl trivial (fun w _ => (x_pickF (v := (Value.bool false)) rfl rfl rfl rfl)) ?_
                refine wpD_take (v := (Value.bool false)) 19 (fun _ => True) rfl (by kernel_rfl) (by kernel_rfl) (by kernel_rfl) rfl rfl rfl trivial (fun w _ => (x_move (v := (Value.bool false)) rfl rfl)) ?_
                refine wpD_pass 20 rfl (by kernel_rfl) (by kernel_rfl) (by kernel_rfl) (wantN rfl rfl rfl rfl) rfl rfl ?_
                refine wpD_pass 21 rfl (by kernel_rfl) (by kernel_rfl) (by kernel_rfl) (wantN rfl rfl rfl rfl) rfl rfl ?_
                refine wpD_pass 22 rfl (by kernel_rfl) (by kernel_rfl) (by kernel_rfl) (wantN rfl rfl rfl rfl) rfl rfl ?_
                refine wpD_pass 23 rfl (by kernel_rfl) (by kernel_rfl) (by kernel_rfl) (wantN rfl rfl rfl rfl) rfl rfl ?_
                refine wpD_pass 24 rfl (by kernel_rfl) (by kernel_rfl) (by kernel_rfl) (wantN rfl rfl rfl rfl) rfl rfl ?_
                refine wpD_take (v := (Value.bool false)) 25 (fun _ => True) rfl (by kernel_rfl) (by kernel_rfl) (by kernel_rfl) rfl rfl rfl trivial (fun w _ => (x_pickF (v := (Value.bool false)) rfl rfl rfl rfl)) ?_
                refine wpD_take (v := (Value.bool false)) 26 (fun _ => True) rfl (by kernel_rfl) (by kernel_rfl) (by kernel_rfl) rfl rfl rfl trivial (fun w _ => (x_move (v := (Value.bool false)) rfl rfl)) ?_
                refine wpD_pass 27 rfl (by kernel_rfl) (by kernel_rfl) (by kernel_rfl) (wantN rfl rfl rfl rfl) rfl rfl ?_
                refine wpD_pass 28 rfl (by kernel_rfl) (by kernel_rfl) (by kernel_rfl) (wantN rfl rfl rfl rfl) rfl rfl ?_
                refine wpD_pass 29 rfl (by kernel_rfl) (by kernel_rfl) (by kernel_rfl) (wantN rfl rfl rfl rfl) rfl rfl ?_
                refine wpD_pass 30 rfl (by kernel_rfl) (by kernel_rfl) (by kernel_rfl) (wantN rfl rfl rfl rfl) rfl rfl ?_
                refine wpD_pass 31 rfl (by kernel_rfl) (by kernel_rfl) (by kernel_rfl) (wantN rfl rfl rfl rfl) rfl rfl ?_
                refine wpD_pass 32 rfl (by kernel_rfl) (by kernel_rfl) (by kernel_rfl) (wantN rfl rfl rfl rfl) rfl rfl ?_
                refine wpD_pass 33 rfl (by kernel_rfl) (by kernel_rfl) (by kernel_rfl) (wantN rfl rfl rfl rfl) rfl rfl ?_
                refine wpD_take (v := (Value.bool false)) 34 (fun _ => True) rfl (by kernel_rfl) (by kernel_rfl) (by kernel_rfl) rfl rfl rfl trivial (fun w _ => (x_pickF (v := (Value.bool false)) rfl rfl rfl rfl)) ?_
                refine wpD_take (v := (Value.bool false)) 35 (fun _ => True) rfl (by kernel_rfl) (by kernel_rfl) (by kernel_rfl) rfl rfl rfl trivial (fun w _ => (x_move (v := (Value.bool false)) rfl rfl)) ?_
                refine wpD_pass 36 rfl (by kernel_rfl) (by kernel_rfl) (by kernel_rfl) (wantN rfl rfl rfl rfl) rfl rfl ?_
                refine wpD_pass 37 rfl (by kernel_rfl) (by kernel_rfl) (by kernel_rfl) (wantN rfl rfl rfl rfl) rfl rfl ?_
                refine wpD_pass 38 rfl (by kernel_rfl) (by kernel_rfl) (by kernel_rfl) (wantN rfl rfl rfl rfl) rfl rfl ?_
                refine wpD_pass 39 rfl (by kernel_rfl) (by kernel_rfl) (by kernel_rfl) (wantN rfl rfl rfl rfl) rfl rfl ?_
                refine wpD_pass 40 rfl (by kernel_rfl) (by kernel_rfl) (by kernel_rfl) (wantN rfl rfl rfl rfl) rfl rfl ?_
                refine wpD_pass 41 rfl (by kernel_rfl) (by kernel_rfl) (by kernel_rfl) (wantN rfl rfl rfl rfl) rfl rfl ?_
                refine wpD_pass 42 rfl (by kernel_rfl) (by kernel_rfl) (by kernel_rfl) (wantN rfl rfl rfl rfl) rfl rfl ?_
                refine wpD_take (v := (Value.bool false)) 43 (fun _ => True) rfl (by kernel_rfl) (by kernel_rfl) (by kernel_rfl) rfl rfl rfl trivial (fun w _ => (x_pickF (v := (Value.bool false)) rfl rfl rfl rfl)) ?_
                refine wpD_take (v := (Value.bool false)) 44 (fun _ => True) rfl (by kernel_rfl) (by kernel_rfl) (by kernel_rfl) rfl rfl rfl trivial (fun w _ => (x_assign (v := (Value.bool false)) rfl rfl)) ?_
                exact wpD_done (by kernel_rfl) ⟨false, ⟨rfl, e0, e1, e2, e7, e8, e9, e10, e11, e12, trivial⟩, h⟩
            clear h
            rintro l64 ρ w16 ⟨e13, e0, e1, e2, e7, e8, e9, e10, e11, e12, -⟩ h
            replace h := hk l64 w16 h
            clear hk
            refine wpC_seq ?_
            refine wpC_seq ?_
            obtain ⟨J66, h, hk⟩ := h
            refine wpC_drawJ (by kernel_rfl) (fun (x : Bool) ρ => ρ 158 = (Value.bool x) ∧ ρ 0 = (Sl.v p0) ∧ ρ 1 = (Sl.v p1) ∧ ρ 2 = (Value.int .i64 p2) ∧ ρ 7 = (Value.bool r1) ∧ ρ 8 = (Sl.v r13) ∧ ρ 9 = (Value.int .i64 l15) ∧ ρ 10 = (Value.pointer (some (Addr.mk b23 0 none))) ∧ ρ 11 = (Value.int .i64 l33) ∧ ρ 13 = (Value.bool l64) ∧ True) J66 ?_ ?_
            · clear hk
              unfold tk at h
              generalize w16.drew = w17 at h ⊢
              obtain ⟨x67, q67, h⟩ := h
              obtain ⟨x68, q68, h⟩ := h
              obtain ⟨x69, q69, h⟩ := h
              obtain ⟨x70, q70, h⟩ := h
              obtain ⟨x71, q71, h⟩ := h
              refine wpD_take (v := (Value.agg #[(Value.int .i64 x67), (Value.int .i64 x68), (Value.int .i64 x69), (Value.int .i64 x70), (Value.int .i64 x71)])) 0 (fun w => w.cell? ((Addr.mk b41 0 none).add 0) = some (Value.int .i64 x67) ∧ w.cell? ((Addr.mk b41 0 none).add 1) = some (Value.int .i64 x68) ∧ w.cell? ((Addr.mk b41 0 none).add 2) = some (Value.int .i64 x69) ∧ w.cell? ((Addr.mk b41 0 none).add 3) = some (Value.int .i64 x70) ∧ w.cell? ((Addr.mk b41 0 none).add 4) = some (Value.int .i64 x71)) rfl (by kernel_rfl) (by kernel_rfl) (by kernel_rfl) rfl rfl rfl ⟨q67, q68, q69, q70, q71⟩ (fun w ⟨q67, q68, q69, q70, q71⟩ => (x_loadN [(Value.int .i64 x67), (Value.int .i64 x68), (Value.int .i64 x69), (Value.int .i64 x70), (Value.int .i64 x71)] rfl e12 SH_30 (CellsAt.out (CellsAt.cons q67 (CellsAt.cons q68 (CellsAt.cons q69 (CellsAt.cons q70 (CellsAt.cons q71 CellsAt.nil)))))))) ?_
              obtain ⟨x72, q72, h⟩ := h
              obtain ⟨x73, q73, h⟩ := h
              obtain ⟨x74, q74, h⟩ := h
              obtain ⟨x75, q75, h⟩ := h
              obtain ⟨x76, q76, h⟩ := h
              refine wpD_take (v := (Value.agg #[(Value.int .i64 x72), (Value.int .i64 x73), (Value.int .i64 x74), (Value.int .i64 x75), (Value.int .i64 x76)])) 1 (fun w => w.cell? ((Addr.mk b23 0 none).add 0) = some (Value.int .i64 x72) ∧ w.cell? ((Addr.mk b23 0 none).add 1) = some (Value.int .i64 x73) ∧ w.cell? ((Addr.mk b23 0 none).add 2) = some (Value.int .i64 x74) ∧ w.cell? ((Addr.mk b23 0 none).add 3) = some (Value.int .i64 x75) ∧ w.cell? ((Addr.mk b23 0 none).add 4) = some (Value.int .i64 x76)) rfl (by kernel_rfl) (by kernel_rfl) (by kernel_rfl) rfl rfl rfl ⟨q72, q73, q74, q75, q76⟩ (fun w ⟨q72, q73, q74, q75, q76⟩ => (x_loadN [(Value.int .i64 x72), (Value.int .i64 x73), (Value.int .i64 x74), (Value.int .i64 x75), (Value.int .i64 x76)] rfl e10 SH_30 (CellsAt.out (CellsAt.cons q72 (CellsAt.cons q73 (CellsAt.cons q74 (CellsAt.cons q75 (CellsAt.cons q76 CellsAt.nil)))))))) ?_
              refine wpD_take (v := (Value.pointer (some ((Addr.mk b41 0 none).add 1)))) 4 (fun _ => True) rfl (by kernel_rfl) (by kernel_rfl) (by kernel_rfl) rfl rfl rfl trivial (fun w _ => (x_fieldAddr rfl e12 FA_30_1)) ?_
              obtain ⟨x77, q77, h⟩ := h
              refine wpD_take (v := (Value.int .i64 x77)) 5 (fun w => w.cell? ((Addr.mk b41 0 none).add 1) = some (Value.int .i64 x77)) rfl (by kernel_rfl) (by kernel_rfl) (by kernel_rfl) rfl rfl rfl q77 (fun w q77 => (x_load1 rfl rfl SH_3 q77)) ?_
              refine wpD_take (v := (Value.pointer (some ((Addr.mk b23 0 none).add 1)))) 6 (fun _ => True) rfl (by kernel_rfl) (by kernel_rfl) (by kernel_rfl) rfl rfl rfl trivial (fun w _ => (x_fieldAddr rfl e10 FA_30_1)) ?_
              obtain ⟨x78, q78, h⟩ := h
              refine wpD_take (v := (Value.int .i64 x78)) 7 (fun w => w.cell? ((Addr.mk b23 0 none).add 1) = some (Value.int .i64 x78)) rfl (by kernel_rfl) (by kernel_rfl) (by kernel_rfl) rfl rfl rfl q78 (fun w q78 => (x_load1 rfl rfl SH_3 q78)) ?_
              refine wpD_take (v := (Value.bool (decide (x77 = x78)))) 8 (fun _ => True) rfl (by kernel_rfl) (by kernel_rfl) (by kernel_rfl) rfl rfl rfl trivial (fun w _ => (x_eql rfl rfl rfl)) ?_
              refine wpD_all (rs := [2]) (by kernel_rfl) (by simp) (allD_cons ?_ allD_nil)
              refine stepD_enterL (L' := [(8, fun _ => True), (7, fun w => w.cell? ((Addr.mk b23 0 none).add 1) = some (Value.int .i64 x78)), (6, fun _ => True), (5, fun w => w.cell? ((Addr.mk b41 0 none).add 1) = some (Value.int .i64 x77)), (4, fun _ => True)]) rfl rfl rfl rfl (x_call (vs := [(Value.agg #[(Value.int .i64 x67), (Value.int .i64 x68), (Value.int .i64 x69), (Value.int .i64 x70), (Value.int .i64 x71)]), (Value.agg #[(Value.int .i64 x72), (Value.int .i64 x73), (Value.int .i64 x74), (Value.int .i64 x75), (Value.int .i64 x76)])]) rfl rfl (mapl_cons rfl (mapl_cons rfl mapl_nil)) Try.func13 NN_13 NB_13) (by kernel_rfl) (Calls.mono h ?_)
              rintro _ w18 ⟨r79, rfl, h⟩
              obtain ⟨o7, h⟩ := h
              obtain ⟨o5, h⟩ := h
              refine ⟨_, rfl, (held_cons trivial (held_cons o7 (held_cons trivial (held_cons o5 (held_cons trivial held_nil))))), ?_⟩
              refine wpD_take (v := (Value.bool (decide (r79 = 3)))) 3 (fun _ => True) rfl (by kernel_rfl) (by kernel_rfl) (by kernel_rfl) rfl rfl rfl trivial (fun w _ => (x_eql rfl rfl rfl)) ?_
              refine wpD_take (v := (Value.bool (decide (x77 = x78)))) 9 (fun _ => True) rfl (by kernel_rfl) (by kernel_rfl) (by kernel_rfl) rfl rfl rfl trivial (fun w _ => (x_move (v := (Value.bool (decide (x77 = x78)))) rfl rfl)) ?_
              rcases Bool.eq_false_or_eq_true (decide (x77 = x78)) with hc80 | hc80
              · replace h := h.1 hc80
                refine wpD_take (v := (Value.pointer (some ((Addr.mk b41 0 none).add 3)))) 10 (fun _ => True) rfl (by kernel_rfl) (by kernel_rfl) (by kernel_rfl) (wantG rfl rfl rfl hc80) rfl rfl trivial (fun w _ => (x_fieldAddr rfl e12 FA_30_3)) ?_
                obtain ⟨x81, q81, h⟩ := h
                refine wpD_take (v := (Value.int .i64 x81)) 11 (fun w => w.cell? ((Addr.mk b41 0 none).add 3) = some (Value.int .i64 x81)) rfl (by kernel_rfl) (by kernel_rfl) (by kernel_rfl) (wantG rfl rfl rfl hc80) rfl rfl q81 (fun w q81 => (x_load1 rfl rfl SH_3 q81)) ?_
                refine wpD_take (v := (Value.pointer (some ((Addr.mk b23 0 none).add 3)))) 12 (fun _ => True) rfl (by kernel_rfl) (by kernel_rfl) (by kernel_rfl) (wantG rfl rfl rfl hc80) rfl rfl trivial (fun w _ => (x_fieldAddr rfl e10 FA_30_3)) ?_
                obtain ⟨x82, q82, h⟩ := h
                refine wpD_take (v := (Value.int .i64 x82)) 13 (fun w => w.cell? ((Addr.mk b23 0 none).add 3) = some (Value.int .i64 x82)) rfl (by kernel_rfl) (by kernel_rfl) (by kernel_rfl) (wantG rfl rfl rfl hc80) rfl rfl q82 (fun w q82 => (x_load1 rfl rfl SH_3 q82)) ?_
                refine wpD_take (v := (Value.bool (decide (x81 = x82)))) 14 (fun _ => True) rfl (by kernel_rfl) (by kernel_rfl) (by kernel_rfl) (wantG rfl rfl rfl hc80) rfl rfl trivial (fun w _ => (x_eql rfl rfl rfl)) ?_
                refine wpD_take (v := (Value.bool (decide (x81 = x82)))) 15 (fun _ => True) rfl (by kernel_rfl) (by kernel_rfl) (by kernel_rfl) rfl rfl rfl trivial (fun w _ => (x_pickT (v := (Value.bool (decide (x81 = x82)))) rfl rfl hc80 rfl)) ?_
                refine wpD_take (v := (Value.bool (decide (x81 = x82)))) 16 (fun _ => True) rfl (by kernel_rfl) (by kernel_rfl) (by kernel_rfl) rfl rfl rfl trivial (fun w _ => (x_move (v := (Value.bool (decide (x81 = x82)))) rfl rfl)) ?_
                rcases Bool.eq_false_or_eq_true (decide (x81 = x82)) with hc83 | hc83
                · replace h := h.1 hc83
                  refine wpD_take (v := (Value.pointer (some ((Addr.mk b41 0 none).add 4)))) 17 (fun _ => True) rfl (by kernel_rfl) (by kernel_rfl) (by kernel_rfl) (wantG rfl rfl rfl hc83) rfl rfl trivial (fun w _ => (x_fieldAddr rfl e12 FA_30_4)) ?_
                  obtain ⟨x84, q84, h⟩ := h
                  refine wpD_take (v := (Value.int .i64 x84)) 18 (fun w => w.cell? ((Addr.mk b41 0 none).add 4) = some (Value.int .i64 x84)) rfl (by kernel_rfl) (by kernel_rfl) (by kernel_rfl) (wantG rfl rfl rfl hc83) rfl rfl q84 (fun w q84 => (x_load1 rfl rfl SH_3 q84)) ?_
                  refine wpD_take (v := (Value.pointer (some ((Addr.mk b23 0 none).add 4)))) 19 (fun _ => True) rfl (by kernel_rfl) (by kernel_rfl) (by kernel_rfl) (wantG rfl rfl rfl hc83) rfl rfl trivial (fun w _ => (x_fieldAddr rfl e10 FA_30_4)) ?_
                  obtain ⟨x85, q85, h⟩ := h
                  refine wpD_take (v := (Value.int .i64 x85)) 20 (fun w => w.cell? ((Addr.mk b23 0 none).add 4) = some (Value.int .i64 x85)) rfl (by kernel_rfl) (by kernel_rfl) (by kernel_rfl) (wantG rfl rfl rfl hc83) rfl rfl q85 (fun w q85 => (x_load1 rfl rfl SH_3 q85)) ?_
                  refine wpD_take (v := (Value.bool (decide (x84 = x85)))) 21 (fun _ => True) rfl (by kernel_rfl) (by kernel_rfl) (by kernel_rfl) (wantG rfl rfl rfl hc83) rfl rfl trivial (fun w _ => (x_eql rfl rfl rfl)) ?_
                  refine wpD_take (v := (Value.bool (decide (x84 = x85)))) 22 (fun _ => True) rfl (by kernel_rfl) (by kernel_rfl) (by kernel_rfl) rfl rfl rfl trivial (fun w _ => (x_pickT (v := (Value.bool (decide (x84 = x85)))) rfl rfl hc83 rfl)) ?_
                  refine wpD_take (v := (Value.bool (!((decide (r79 = 3)) == (decide (x84 = x85)))))) 23 (fun _ => True) rfl (by kernel_rfl) (by kernel_rfl) (by kernel_rfl) rfl rfl rfl trivial (fun w _ => (x_neqB rfl rfl rfl isBoolT_4)) ?_
                  refine wpD_take (v := (Value.bool (!((decide (r79 = 3)) == (decide (x84 = x85)))))) 24 (fun _ => True) rfl (by kernel_rfl) (by kernel_rfl) (by kernel_rfl) rfl rfl rfl trivial (fun w _ => (x_move (v := (Value.bool (!((decide (r79 = 3)) == (decide (x84 = x85)))))) rfl rfl)) ?_
                  rcases Bool.eq_false_or_eq_true (!((decide (r79 = 3)) == (decide (x84 = x85)))) with hc86 | hc86
                  · replace h := h.1 hc86
                    refine wpD_pass 25 rfl (by kernel_rfl) (by kernel_rfl) (by kernel_rfl) (wantN rfl rfl rfl hc86) rfl rfl ?_
                    refine wpD_pass 26 rfl (by kernel_rfl) (by kernel_rfl) (by kernel_rfl) (wantN rfl rfl rfl hc86) rfl rfl ?_
                    refine wpD_pass 27 rfl (by kernel_rfl) (by kernel_rfl) (by kernel_rfl) (wantN rfl rfl rfl hc86) rfl rfl ?_
                    refine wpD_pass 28 rfl (by kernel_rfl) (by kernel_rfl) (by kernel_rfl) (wantN rfl rfl rfl hc86) rfl rfl ?_
                    refine wpD_pass 29 rfl (by kernel_rfl) (by kernel_rfl) (by kernel_rfl) (wantN rfl rfl rfl hc86) rfl rfl ?_
                    refine wpD_pass 30 rfl (by kernel_rfl) (by kernel_rfl) (by kernel_rfl) (wantN rfl rfl rfl hc86) rfl rfl ?_
                    refine wpD_pass 31 rfl (by kernel_rfl) (by kernel_rfl) (by kernel_rfl) (wantN rfl rfl rfl hc86) rfl rfl ?_
                    refine wpD_pass 32 rfl (by kernel_rfl) (by kernel_rfl) (by kernel_rfl) (wantU rfl rfl rfl) rfl rfl ?_
                    refine wpD_pass 33 rfl (by kernel_rfl) (by kernel_rfl) (by kernel_rfl) (wantU rfl rfl rfl) rfl rfl ?_
                    refine wpD_pass 34 rfl (by kernel_rfl) (by kernel_rfl) (by kernel_rfl) (wantN rfl rfl rfl hc86) rfl rfl ?_
                    refine wpD_take (v := (Value.bool true)) 35 (fun _ => True) rfl (by kernel_rfl) (by kernel_rfl) (by kernel_rfl) rfl rfl rfl trivial (fun w _ => (x_pickT (v := (Value.bool true)) rfl rfl hc86 rfl)) ?_
                    exact wpD_done (by kernel_rfl) ⟨true, ⟨rfl, e0, e1, e2, e7, e8, e9, e10, e11, e13, trivial⟩, h⟩
                  · replace h := h.2 hc86
                    refine wpD_take (v := (Sl.v r13)) 25 (fun _ => True) rfl (by kernel_rfl) (by kernel_rfl) (by kernel_rfl) (wantG rfl rfl rfl hc86) rfl rfl trivial (fun w _ => (x_move (v := (Sl.v r13)) rfl e8)) ?_
                    refine wpD_take (v := (Value.int .i64 l15)) 26 (fun _ => True) rfl (by kernel_rfl) (by kernel_rfl) (by kernel_rfl) (wantG rfl rfl rfl hc86) rfl rfl trivial (fun w _ => (x_move (v := (Value.int .i64 l15)) rfl e9)) ?_
                    obtain ⟨q87, z87, r87, h⟩ := h
                    generalize hp87 : z87.add ((l15 : Int).toNat * 1) = p87 at h
                    refine wpD_take (v := (Value.pointer (some p87))) 27 (fun _ => True) rfl (by kernel_rfl) (by kernel_rfl) (by kernel_rfl) (wantG rfl rfl rfl hc86) rfl rfl trivial (fun w _ => ((x_indexAddr (s := r13) rfl rfl rfl ES_25 q87 r87).trans (by rw [hp87]))) ?_
                    obtain ⟨x88, q88, h⟩ := h
                    refine wpD_take (v := (Value.int .i64 x88)) 28 (fun w => w.cell? p87 = some (Value.int .i64 x88)) rfl (by kernel_rfl) (by kernel_rfl) (by kernel_rfl) (wantG rfl rfl rfl hc86) rfl rfl q88 (fun w q88 => (x_load1 rfl rfl SH_3 q88)) ?_
                    refine wpD_take (v := (Value.int .i64 l33)) 29 (fun _ => True) rfl (by kernel_rfl) (by kernel_rfl) (by kernel_rfl) (wantG rfl rfl rfl hc86) rfl rfl trivial (fun w _ => (x_move (v := (Value.int .i64 l33)) rfl e11)) ?_
                    refine wpD_take (v := (Value.bool (decide (x88 = l33)))) 30 (fun _ => True) rfl (by kernel_rfl) (by kernel_rfl) (by kernel_rfl) (wantG rfl rfl rfl hc86) rfl rfl trivial (fun w _ => (x_eql rfl rfl rfl)) ?_
                    refine wpD_take (v := (Value.bool (decide (x88 = l33)))) 31 (fun _ => True) rfl (by kernel_rfl) (by kernel_rfl) (by kernel_rfl) (wantG rfl rfl rfl hc86) rfl rfl trivial (fun w _ => (x_move (v := (Value.bool (decide (x88 = l33)))) rfl rfl)) ?_
                    rcases Bool.eq_false_or_eq_true (decide (x88 = l33)) with hc89 | hc89
                    · replace h := h.1 hc89
                      refine wpD_take (v := (Value.bool l64)) 32 (fun _ => True) rfl (by kernel_rfl) (by kernel_rfl) (by kernel_rfl) (wantG rfl rfl rfl hc89) rfl rfl trivial (fun w _ => (x_move (v := (Value.bool l64)) rfl e13)) ?_
                      refine wpD_take (v := (Value.bool (!l64))) 33 (fun _ => True) rfl (by kernel_rfl) (by kernel_rfl) (by kernel_rfl) (wantG rfl rfl rfl hc89) rfl rfl trivial (fun w _ => (x_not rfl rfl)) ?_
                      refine wpD_take (v := (Value.bool (!l64))) 34 (fun _ => True) rfl (by kernel_rfl) (by kernel_rfl) (by kernel_rfl) (wantG rfl rfl rfl hc86) rfl rfl trivial (fun w _ => (x_pickT (v := (Value.bool (!l64))) rfl rfl hc89 rfl)) ?_
                      refine wpD_take (v := (Value.bool (!l64))) 35 (fun _ => True) rfl (by kernel_rfl) (by kernel_rfl) (by kernel_rfl) rfl rfl rfl trivial (fun w _ => (x_pickF (v := (Value.bool (!l64))) rfl rfl hc86 rfl)) ?_
                      exact wpD_done (by kernel_rfl) ⟨!l64, ⟨rfl, e0, e1, e2, e7, e8, e9, e10, e11, e13, trivial⟩, h⟩
                    · replace h := h.2 hc89
                      refine wpD_pass 32 rfl (by kernel_rfl) (by kernel_rfl) (by kernel_rfl) (wantN rfl rfl rfl hc89) rfl rfl ?_
                      refine wpD_pass 33 rfl (by kernel_rfl) (by kernel_rfl) (by kernel_rfl) (wantN rfl rfl rfl hc89) rfl rfl ?_
                      refine wpD_take (v := (Value.bool false)) 34 (fun _ => True) rfl (by kernel_rfl) (by kernel_rfl) (by kernel_rfl) (wantG rfl rfl rfl hc86) rfl rfl trivial (fun w _ => (x_pickF (v := (Value.bool false)) rfl rfl hc89 rfl)) ?_
                      refine wpD_take (v := (Value.bool false)) 35 (fun _ => True) rfl (by kernel_rfl) (by kernel_rfl) (by kernel_rfl) rfl rfl rfl trivial (fun w _ => (x_pickF (v := (Value.bool false)) rfl rfl hc86 rfl)) ?_
                      exact wpD_done (by kernel_rfl) ⟨false, ⟨rfl, e0, e1, e2, e7, e8, e9, e10, e11, e13, trivial⟩, h⟩
                · replace h := h.2 hc83
                  refine wpD_pass 17 rfl (by kernel_rfl) (by kernel_rfl) (by kernel_rfl) (wantN rfl rfl rfl hc83) rfl rfl ?_
                  refine wpD_pass 18 rfl (by kernel_rfl) (by kernel_rfl) (by kernel_rfl) (wantN rfl rfl rfl hc83) rfl rfl ?_
                  refine wpD_pass 19 rfl (by kernel_rfl) (by kernel_rfl) (by kernel_rfl) (wantN rfl rfl rfl hc83) rfl rfl ?_
                  refine wpD_pass 20 rfl (by kernel_rfl) (by kernel_rfl) (by kernel_rfl) (wantN rfl rfl rfl hc83) rfl rfl ?_
                  refine wpD_pass 21 rfl (by kernel_rfl) (by kernel_rfl) (by kernel_rfl) (wantN rfl rfl rfl hc83) rfl rfl ?_
                  refine wpD_take (v := (Value.bool false)) 22 (fun _ => True) rfl (by kernel_rfl) (by kernel_rfl) (by kernel_rfl) rfl rfl rfl trivial (fun w _ => (x_pickF (v := (Value.bool false)) rfl rfl hc83 rfl)) ?_
                  refine wpD_take (v := (Value.bool (!((decide (r79 = 3)) == false)))) 23 (fun _ => True) rfl (by kernel_rfl) (by kernel_rfl) (by kernel_rfl) rfl rfl rfl trivial (fun w _ => (x_neqB rfl rfl rfl isBoolT_4)) ?_
                  refine wpD_take (v := (Value.bool (!((decide (r79 = 3)) == false)))) 24 (fun _ => True) rfl (by kernel_rfl) (by kernel_rfl) (by kernel_rfl) rfl rfl rfl trivial (fun w _ => (x_move (v := (Value.bool (!((decide (r79 = 3)) == false)))) rfl rfl)) ?_
                  rcases Bool.eq_false_or_eq_true (!((decide (r79 = 3)) == false)) with hc90 | hc90
                  · replace h := h.1 hc90
                    refine wpD_pass 25 rfl (by kernel_rfl) (by kernel_rfl) (by kernel_rfl) (wantN rfl rfl rfl hc90) rfl rfl ?_
                    refine wpD_pass 26 rfl (by kernel_rfl) (by kernel_rfl) (by kernel_rfl) (wantN rfl rfl rfl hc90) rfl rfl ?_
                    refine wpD_pass 27 rfl (by kernel_rfl) (by kernel_rfl) (by kernel_rfl) (wantN rfl rfl rfl hc90) rfl rfl ?_
                    refine wpD_pass 28 rfl (by kernel_rfl) (by kernel_rfl) (by kernel_rfl) (wantN rfl rfl rfl hc90) rfl rfl ?_
                    refine wpD_pass 29 rfl (by kernel_rfl) (by kernel_rfl) (by kernel_rfl) (wantN rfl rfl rfl hc90) rfl rfl ?_
                    refine wpD_pass 30 rfl (by kernel_rfl) (by kernel_rfl) (by kernel_rfl) (wantN rfl rfl rfl hc90) rfl rfl ?_
                    refine wpD_pass 31 rfl (by kernel_rfl) (by kernel_rfl) (by kernel_rfl) (wantN rfl rfl rfl hc90) rfl rfl ?_
                    refine wpD_pass 32 rfl (by kernel_rfl) (by kernel_rfl) (by kernel_rfl) (wantU rfl rfl rfl) rfl rfl ?_
                    refine wpD_pass 33 rfl (by kernel_rfl) (by kernel_rfl) (by kernel_rfl) (wantU rfl rfl rfl) rfl rfl ?_
                    refine wpD_pass 34 rfl (by kernel_rfl) (by kernel_rfl) (by kernel_rfl) (wantN rfl rfl rfl hc90) rfl rfl ?_
                    refine wpD_take (v := (Value.bool true)) 35 (fun _ => True) rfl (by kernel_rfl) (by kernel_rfl) (by kernel_rfl) rfl rfl rfl trivial (fun w _ => (x_pickT (v := (Value.bool true)) rfl rfl hc90 rfl)) ?_
                    exact wpD_done (by kernel_rfl) ⟨true, ⟨rfl, e0, e1, e2, e7, e8, e9, e10, e11, e13, trivial⟩, h⟩
                  · replace h := h.2 hc90
                    refine wpD_take (v := (Sl.v r13)) 25 (fun _ => True) rfl (by kernel_rfl) (by kernel_rfl) (by kernel_rfl) (wantG rfl rfl rfl hc90) rfl rfl trivial (fun w _ => (x_move (v := (Sl.v r13)) rfl e8)) ?_
                    refine wpD_take (v := (Value.int .i64 l15)) 26 (fun _ => True) rfl (by kernel_rfl) (by kernel_rfl) (by kernel_rfl) (wantG rfl rfl rfl hc90) rfl rfl trivial (fun w _ => (x_move (v := (Value.int .i64 l15)) rfl e9)) ?_
                    obtain ⟨q91, z91, r91, h⟩ := h
                    generalize hp91 : z91.add ((l15 : Int).toNat * 1) = p91 at h
                    refine wpD_take (v := (Value.pointer (some p91))) 27 (fun _ => True) rfl (by kernel_rfl) (by kernel_rfl) (by kernel_rfl) (wantG rfl rfl rfl hc90) rfl rfl trivial (fun w _ => ((x_indexAddr (s := r13) rfl rfl rfl ES_25 q91 r91).trans (by rw [hp91]))) ?_
                    obtain ⟨x92, q92, h⟩ := h
                    refine wpD_take (v := (Value.int .i64 x92)) 28 (fun w => w.cell? p91 = some (Value.int .i64 x92)) rfl (by kernel_rfl) (by kernel_rfl) (by kernel_rfl) (wantG rfl rfl rfl hc90) rfl rfl q92 (fun w q92 => (x_load1 rfl rfl SH_3 q92)) ?_
                    refine wpD_take (v := (Value.int .i64 l33)) 29 (fun _ => True) rfl (by kernel_rfl) (by kernel_rfl) (by kernel_rfl) (wantG rfl rfl rfl hc90) rfl rfl trivial (fun w _ => (x_move (v := (Value.int .i64 l33)) rfl e11)) ?_
                    refine wpD_take (v := (Value.bool (decide (x92 = l33)))) 30 (fun _ => True) rfl (by kernel_rfl) (by kernel_rfl) (by kernel_rfl) (wantG rfl rfl rfl hc90) rfl rfl trivial (fun w _ => (x_eql rfl rfl rfl)) ?_
                    refine wpD_take (v := (Value.bool (decide (x92 = l33)))) 31 (fun _ => True) rfl (by kernel_rfl) (by kernel_rfl) (by kernel_rfl) (wantG rfl rfl rfl hc90) rfl rfl trivial (fun w _ => (x_move (v := (Value.bool (decide (x92 = l33)))) rfl rfl)) ?_
                    rcases Bool.eq_false_or_eq_true (decide (x92 = l33)) with hc93 | hc93
                    · replace h := h.1 hc93
                      refine wpD_take (v := (Value.bool l64)) 32 (fun _ => True) rfl (by kernel_rfl) (by kernel_rfl) (by kernel_rfl) (wantG rfl rfl rfl hc93) rfl rfl trivial (fun w _ => (x_move (v := (Value.bool l64)) rfl e13)) ?_
                      refine wpD_take (v := (Value.bool (!l64))) 33 (fun _ => True) rfl (by kernel_rfl) (by kernel_rfl) (by kernel_rfl) (wantG rfl rfl rfl hc93) rfl rfl trivial (fun w _ => (x_not rfl rfl)) ?_
                      refine wpD_take (v := (Value.bool (!l64))) 34 (fun _ => True) rfl (by kernel_rfl) (by kernel_rfl) (by kernel_rfl) (wantG rfl rfl rfl hc90) rfl rfl trivial (fun w _ => (x_pickT (v := (Value.bool (!l64))) rfl rfl hc93 rfl)) ?_
                      refine wpD_take (v := (Value.bool (!l64))) 35 (fun _ => True) rfl (by kernel_rfl) (by kernel_rfl) (by kernel_rfl) rfl rfl rfl trivial (fun w _ => (x_pickF (v := (Value.bool (!l64))) rfl rfl hc90 rfl)) ?_
                      exact wpD_done (by kernel_rfl) ⟨!l64, ⟨rfl, e0, e1, e2, e7, e8, e9, e10, e11, e13, trivial⟩, h⟩
                    · replace h := h.2 hc93
                      refine wpD_pass 32 rfl (by kernel_rfl) (by kernel_rfl) (by kernel_rfl) (wantN rfl rfl rfl hc93) rfl rfl ?_
                      refine wpD_pass 33 rfl (by kernel_rfl) (by kernel_rfl) (by kernel_rfl) (wantN rfl rfl rfl hc93) rfl rfl ?_
                      refine wpD_take (v := (Value.bool false)) 34 (fun _ => True) rfl (by kernel_rfl) (by kernel_rfl) (by kernel_rfl) (wantG rfl rfl rfl hc90) rfl rfl trivial (fun w _ => (x_pickF (v := (Value.bool false)) rfl rfl hc93 rfl)) ?_
                      refine wpD_take (v := (Value.bool false)) 35 (fun _ => True) rfl (by kernel_rfl) (by kernel_rfl) (by kernel_rfl) rfl rfl rfl trivial (fun w _ => (x_pickF (v := (Value.bool false)) rfl rfl hc90 rfl)) ?_
                      exact wpD_done (by kernel_rfl) ⟨false, ⟨rfl, e0, e1, e2, e7, e8, e9, e10, e11, e13, trivial⟩, h⟩
              · replace h := h.2 hc80
                refine wpD_pass 10 rfl (by kernel_rfl) (by kernel_rfl) (by kernel_rfl) (wantN rfl rfl rfl hc80) rfl rfl ?_
                refine wpD_pass 11 rfl (by kernel_rfl) (by kernel_rfl) (by kernel_rfl) (wantN rfl rfl rfl hc80) rfl rfl ?_
                refine wpD_pass 12 rfl (by kernel_rfl) (by kernel_rfl) (by kernel_rfl) (wantN rfl rfl rfl hc80) rfl rfl ?_
                refine wpD_pass 13 rfl (by kernel_rfl) (by kernel_rfl) (by kernel_rfl) (wantN rfl rfl rfl hc80) rfl rfl ?_
                refine wpD_pass 14 rfl (by kernel_rfl) (by kernel_rfl) (by kernel_rfl) (wantN rfl rfl rfl hc80) rfl rfl ?_
                refine wpD_take (v := (Value.bool false)) 15 (fun _ => True) rfl (by kernel_rfl) (by kernel_rfl) (by kernel_rfl) rfl rfl rfl trivial (fun w _ => (x_pickF (v := (Value.bool false)) rfl rfl hc80 rfl)) ?_
                refine wpD_take (v := (Value.bool false)) 16 (fun _ => True) rfl (by kernel_rfl) (by kernel_rfl) (by kernel_rfl) rfl rfl rfl trivial (fun w _ => (x_move (v := (Value.bool false)) rfl rfl)) ?_
                refine wpD_pass 17 rfl (by kernel_rfl) (by kernel_rfl) (by kernel_rfl) (wantN rfl rfl rfl rfl) rfl rfl ?_
                refine wpD_pass 18 rfl (by kernel_rfl) (by kernel_rfl) (by kernel_rfl) (wantN rfl rfl rfl rfl) rfl rfl ?_
                refine wpD_pass 19 rfl (by kernel_rfl) (by kernel_rfl) (by kernel_rfl) (wantN rfl rfl rfl rfl) rfl rfl ?_
                refine wpD_pass 20 rfl (by kernel_rfl) (by kernel_rfl) (by kernel_rfl) (wantN rfl rfl rfl rfl) rfl rfl ?_
                refine wpD_pass 21 rfl (by kernel_rfl) (by kernel_rfl) (by kernel_rfl) (wantN rfl rfl rfl rfl) rfl rfl ?_
                refine wpD_take (v := (Value.bool false)) 22 (fun _ => True) rfl (by kernel_rfl) (by kernel_rfl) (by kernel_rfl) rfl rfl rfl trivial (fun w _ => (x_pickF (v := (Value.bool false)) rfl rfl rfl rfl)) ?_
                refine wpD_take (v := (Value.bool (!((decide (r79 = 3)) == false)))) 23 (fun _ => True) rfl (by kernel_rfl) (by kernel_rfl) (by kernel_rfl) rfl rfl rfl trivial (fun w _ => (x_neqB rfl rfl rfl isBoolT_4)) ?_
                refine wpD_take (v := (Value.bool (!((decide (r79 = 3)) == false)))) 24 (fun _ => True) rfl (by kernel_rfl) (by kernel_rfl) (by kernel_rfl) rfl rfl rfl trivial (fun w _ => (x_move (v := (Value.bool (!((decide (r79 = 3)) == false)))) rfl rfl)) ?_
                rcases Bool.eq_false_or_eq_true (!((decide (r79 = 3)) == false)) with hc94 | hc94
                · replace h := h.1 hc94
                  refine wpD_pass 25 rfl (by kernel_rfl) (by kernel_rfl) (by kernel_rfl) (wantN rfl rfl rfl hc94) rfl rfl ?_
                  refine wpD_pass 26 rfl (by kernel_rfl) (by kernel_rfl) (by kernel_rfl) (wantN rfl rfl rfl hc94) rfl rfl ?_
                  refine wpD_pass 27 rfl (by kernel_rfl) (by kernel_rfl) (by kernel_rfl) (wantN rfl rfl rfl hc94) rfl rfl ?_
                  refine wpD_pass 28 rfl (by kernel_rfl) (by kernel_rfl) (by kernel_rfl) (wantN rfl rfl rfl hc94) rfl rfl ?_
                  refine wpD_pass 29 rfl (by kernel_rfl) (by kernel_rfl) (by kernel_rfl) (wantN rfl rfl rfl hc94) rfl rfl ?_
                  refine wpD_pass 30 rfl (by kernel_rfl) (by kernel_rfl) (by kernel_rfl) (wantN rfl rfl rfl hc94) rfl rfl ?_
                  refine wpD_pass 31 rfl (by kernel_rfl) (by kernel_rfl) (by kernel_rfl) (wantN rfl rfl rfl hc94) rfl rfl ?_
                  refine wpD_pass 32 rfl (by kernel_rfl) (by kernel_rfl) (by kernel_rfl) (wantU rfl rfl rfl) rfl rfl ?_
                  refine wpD_pass 33 rfl (by kernel_rfl) (by kernel_rfl) (by kernel_rfl) (wantU rfl rfl rfl) rfl rfl ?_
                  refine wpD_pass 34 rfl (by kernel_rfl) (by kernel_rfl) (by kernel_rfl) (wantN rfl rfl rfl hc94) rfl rfl ?_
                  refine wpD_take (v := (Value.bool true)) 35 (fun _ => True) rfl (by kernel_rfl) (by kernel_rfl) (by kernel_rfl) rfl rfl rfl trivial (fun w _ => (x_pickT (v := (Value.bool true)) rfl rfl hc94 rfl)) ?_
                  exact wpD_done (by kernel_rfl) ⟨true, ⟨rfl, e0, e1, e2, e7, e8, e9, e10, e11, e13, trivial⟩, h⟩
                · replace h := h.2 hc94
                  refine wpD_take (v := (Sl.v r13)) 25 (fun _ => True) rfl (by kernel_rfl) (by kernel_rfl) (by kernel_rfl) (wantG rfl rfl rfl hc94) rfl rfl trivial (fun w _ => (x_move (v := (Sl.v r13)) rfl e8)) ?_
                  refine wpD_take (v := (Value.int .i64 l15)) 26 (fun _ => True) rfl (by kernel_rfl) (by kernel_rfl) (by kernel_rfl) (wantG rfl rfl rfl hc94) rfl rfl trivial (fun w _ => (x_move (v := (Value.int .i64 l15)) rfl e9)) ?_
                  obtain ⟨q95, z95, r95, h⟩ := h
                  generalize hp95 : z95.add ((l15 : Int).toNat * 1) = p95 at h
                  refine wpD_take (v := (Value.pointer (some p95))) 27 (fun _ => True) rfl (by kernel_rfl) (by kernel_rfl) (by kernel_rfl) (wantG rfl rfl rfl hc94) rfl rfl trivial (fun w _ => ((x_indexAddr (s := r13) rfl rfl rfl ES_25 q95 r95).trans (by rw [hp95]))) ?_
                  obtain ⟨x96, q96, h⟩ := h
                  refine wpD_take (v := (Value.int .i64 x96)) 28 (fun w => w.cell? p95 = some (Value.int .i64 x96)) rfl (by kernel_rfl) (by kernel_rfl) (by kernel_rfl) (wantG rfl rfl rfl hc94) rfl rfl q96 (fun w q96 => (x_load1 rfl rfl SH_3 q96)) ?_
                  refine wpD_take (v := (Value.int .i64 l33)) 29 (fun _ => True) rfl (by kernel_rfl) (by kernel_rfl) (by kernel_rfl) (wantG rfl rfl rfl hc94) rfl rfl trivial (fun w _ => (x_move (v := (Value.int .i64 l33)) rfl e11)) ?_
                  refine wpD_take (v := (Value.bool (decide (x96 = l33)))) 30 (fun _ => True) rfl (by kernel_rfl) (by kernel_rfl) (by kernel_rfl) (wantG rfl rfl rfl hc94) rfl rfl trivial (fun w _ => (x_eql rfl rfl rfl)) ?_
                  refine wpD_take (v := (Value.bool (decide (x96 = l33)))) 31 (fun _ => True) rfl (by kernel_rfl) (by kernel_rfl) (by kernel_rfl) (wantG rfl rfl rfl hc94) rfl rfl trivial (fun w _ => (x_move (v := (Value.bool (decide (x96 = l33)))) rfl rfl)) ?_
                  rcases Bool.eq_false_or_eq_true (decide (x96 = l33)) with hc97 | hc97
                  · replace h := h.1 hc97
                    refine wpD_take (v := (Value.bool l64)) 32 (fun _ => True) rfl (by kernel_rfl) (by kernel_rfl) (by kernel_rfl) (wantG rfl rfl rfl hc97) rfl rfl trivial (fun w _ => (x_move (v := (Value.bool l64)) rfl e13)) ?_
                    refine wpD_take (v := (Value.bool (!l64))) 33 (fun _ => True) rfl (by kernel_rfl) (by kernel_rfl) (by kernel_rfl) (wantG rfl rfl rfl hc97) rfl rfl trivial (fun w _ => (x_not rfl rfl)) ?_
                    refine wpD_take (v := (Value.bool (!l64))) 34 (fun _ => True) rfl (by kernel_rfl) (by kernel_rfl) (by kernel_rfl) (wantG rfl rfl rfl hc94) rfl rfl trivial (fun w _ => (x_pickT (v := (Value.bool (!l64))) rfl rfl hc97 rfl)) ?_
                    refine wpD_take (v := (Value.bool (!l64))) 35 (fun _ => True) rfl (by kernel_rfl) (by kernel_rfl) (by kernel_rfl) rfl rfl rfl trivial (fun w _ => (x_pickF (v := (Value.bool (!l64))) rfl rfl hc94 rfl)) ?_
                    exact wpD_done (by kernel_rfl) ⟨!l64, ⟨rfl, e0, e1, e2, e7, e8, e9, e10, e11, e13, trivial⟩, h⟩
                  · replace h := h.2 hc97
                    refine wpD_pass 32 rfl (by kernel_rfl) (by kernel_rfl) (by kernel_rfl) (wantN rfl rfl rfl hc97) rfl rfl ?_
                    refine wpD_pass 33 rfl (by kernel_rfl) (by kernel_rfl) (by kernel_rfl) (wantN rfl rfl rfl hc97) rfl rfl ?_
                    refine wpD_take (v := (Value.bool false)) 34 (fun _ => True) rfl (by kernel_rfl) (by kernel_rfl) (by kernel_rfl) (wantG rfl rfl rfl hc94) rfl rfl trivial (fun w _ => (x_pickF (v := (Value.bool false)) rfl rfl hc97 rfl)) ?_
                    refine wpD_take (v := (Value.bool false)) 35 (fun _ => True) rfl (by kernel_rfl) (by kernel_rfl) (by kernel_rfl) rfl rfl rfl trivial (fun w _ => (x_pickF (v := (Value.bool false)) rfl rfl hc94 rfl)) ?_
                    exact wpD_done (by kernel_rfl) ⟨false, ⟨rfl, e0, e1, e2, e7, e8, e9, e10, e11, e13, trivial⟩, h⟩
            clear h
            rintro l98 ρ w19 ⟨e158, e0, e1, e2, e7, e8, e9, e10, e11, e13, -⟩ h
            replace h := hk l98 w19 h
            clear hk
            refine wpC_cond (b := l98) e158 (fun hc99 => ?_) (fun hc99 => ?_)
            · replace h := h.1 hc99
              refine wpC_seq ?_
              refine wpC_region ?_
              refine wpR_val (v := (Value.bool false)) (w' := w19) rfl rfl rfl (x_assign (v := (Value.bool false)) rfl rfl) ?_
              refine wpR_nil ?_
              refine wpC_ret ?_
              exact ⟨.inl rfl, fun a ha => ⟨_, results_rep1 rfl ha rfl, false, rfl, h⟩⟩
            · replace h := h.2 hc99
              refine wpC_skip ?_
              refine wpC_seq ?_
              refine wpC_region ?_
              refine wpR_val (v := (Value.bool false)) (w' := w19) rfl rfl rfl (x_assign (v := (Value.bool false)) rfl rfl) ?_
              refine wpR_nil ?_
              refine wpC_seq ?_
              refine wpC_seq ?_
              refine wpC_cut (fun ρ => ρ 0 = (Sl.v p0) ∧ ρ 1 = (Sl.v p1) ∧ ρ 2 = (Value.int .i64 p2) ∧ ρ 7 = (Value.bool r1) ∧ ρ 8 = (Sl.v r13) ∧ ρ 9 = (Value.int .i64 l15) ∧ ρ 10 = (Value.pointer (some (Addr.mk b23 0 none))) ∧ ρ 11 = (Value.int .i64 l33) ∧ ρ 13 = (Value.bool l64) ∧ ρ 14 = (Value.bool false) ∧ True) ⟨e0, e1, e2, e7, e8, e9, e10, e11, e13, rfl, trivial⟩ ?_
              rintro ρ ⟨e0, e1, e2, e7, e8, e9, e10, e11, e13, e14, -⟩
              refine wpC_region ?_
              refine wpR_val (v := (Value.int .i64 0)) (w' := w19) rfl rfl rfl (x_assign (v := (Value.int .i64 0)) rfl rfl) ?_
              refine wpR_nil ?_
              refine wpC_block ?_
              obtain ⟨I100, μ100, hI100, hr100⟩ := h
              refine wpC_loop (fun (x : Bool × Int) ρ => ρ 14 = (Value.bool x.1) ∧ ρ 15 = (Value.int .i64 x.2) ∧ ρ 0 = (Sl.v p0) ∧ ρ 1 = (Sl.v p1) ∧ ρ 2 = (Value.int .i64 p2) ∧ ρ 7 = (Value.bool r1) ∧ ρ 8 = (Sl.v r13) ∧ ρ 9 = (Value.int .i64 l15) ∧ ρ 10 = (Value.pointer (some (Addr.mk b23 0 none))) ∧ ρ 11 = (Value.int .i64 l33) ∧ ρ 13 = (Value.bool l64) ∧ True) I100 μ100 (false, 0) ⟨e14, rfl, e0, e1, e2, e7, e8, e9, e10, e11, e13, trivial⟩ hI100 ?_
              rintro l100 ρ w20 ⟨e14, e15, e0, e1, e2, e7, e8, e9, e10, e11, e13, -⟩ h
              replace h := hr100 l100 w20 h
              clear hr100 hI100
              refine wpC_seq ?_
              refine wpC_seq ?_
              refine wpC_region ?_
              refine wpR_val (v := (Value.int .i64 l100.2)) (w' := w20) rfl rfl rfl (x_move (v := (Value.int .i64 l100.2)) rfl e15) ?_
              refine wpR_val (v := (Value.int .i64 l15)) (w' := w20) rfl rfl rfl (x_move (v := (Value.int .i64 l15)) rfl e9) ?_
              refine wpR_val (v := (Value.bool (decide (l100.2 < l15)))) (w' := w20) rfl rfl rfl (x_lss rfl rfl rfl) ?_
              refine wpR_nil ?_
              refine wpC_cond (b := decide (l100.2 < l15)) rfl (fun hc101 => ?_) (fun hc101 => ?_)
              · replace h := h.1 hc101
                refine wpC_skip ?_
                refine wpC_seq ?_
                refine wpC_block ?_
                refine wpC_cut (fun ρ => ρ 0 = (Sl.v p0) ∧ ρ 1 = (Sl.v p1) ∧ ρ 2 = (Value.int .i64 p2) ∧ ρ 7 = (Value.bool r1) ∧ ρ 8 = (Sl.v r13) ∧ ρ 9 = (Value.int .i64 l15) ∧ ρ 10 = (Value.pointer (some (Addr.mk b23 0 none))) ∧ ρ 11 = (Value.int .i64 l33) ∧ ρ 13 = (Value.bool l64) ∧ ρ 14 = (Value.bool l100.1) ∧ ρ 15 = (Value.int .i64 l100.2) ∧ True) ⟨e0, e1, e2, e7, e8, e9, e10, e11, e13, e14, e15, trivial⟩ ?_
                rintro ρ ⟨e0, e1, e2, e7, e8, e9, e10, e11, e13, e14, e15, -⟩
                obtain ⟨J103, h, hk⟩ := h
                refine wpC_drawJ (by kernel_rfl) (fun (x : Bool) ρ => ρ 14 = (Value.bool x) ∧ ρ 0 = (Sl.v p0) ∧ ρ 1 = (Sl.v p1) ∧ ρ 2 = (Value.int .i64 p2) ∧ ρ 7 = (Value.bool r1) ∧ ρ 8 = (Sl.v r13) ∧ ρ 9 = (Value.int .i64 l15) ∧ ρ 10 = (Value.pointer (some (Addr.mk b23 0 none))) ∧ ρ 11 = (Value.int .i64 l33) ∧ ρ 13 = (Value.bool l64) ∧ ρ 15 = (Value.int .i64 l100.2) ∧ True) J103 ?_ ?_
                · clear hk
                  unfold tk at h
                  generalize w20.drew = w21 at h ⊢
                  refine wpD_take (v := (Value.bool l100.1)) 0 (fun _ => True) rfl (by kernel_rfl) (by kernel_rfl) (by kernel_rfl) rfl rfl rfl trivial (fun w _ => (x_move (v := (Value.bool l100.1)) rfl e14)) ?_
                  refine wpD_take (v := (Value.bool l100.1)) 1 (fun _ => True) rfl (by kernel_rfl) (by kernel_rfl) (by kernel_rfl) rfl rfl rfl trivial (fun w _ => (x_move (v := (Value.bool l100.1)) rfl rfl)) ?_
                  rcases Bool.eq_false_or_eq_true (l100.1) with hc104 | hc104
                  · replace h := h.1 hc104
                    refine wpD_pass 2 rfl (by kernel_rfl) (by kernel_rfl) (by kernel_rfl) (wantN rfl rfl rfl hc104) rfl rfl ?_
                    refine wpD_pass 3 rfl (by kernel_rfl) (by kernel_rfl) (by kernel_rfl) (wantN rfl rfl rfl hc104) rfl rfl ?_
                    refine wpD_pass 4 rfl (by kernel_rfl) (by kernel_rfl) (by kernel_rfl) (wantN rfl rfl rfl hc104) rfl rfl ?_
                    refine wpD_pass 5 rfl (by kernel_rfl) (by kernel_rfl) (by kernel_rfl) (wantN rfl rfl rfl hc104) rfl rfl ?_
                    refine wpD_pass 6 rfl (by kernel_rfl) (by kernel_rfl) (by kernel_rfl) (wantN rfl rfl rfl hc104) rfl rfl ?_
                    refine wpD_pass 7 rfl (by kernel_rfl) (by kernel_rfl) (by kernel_rfl) (wantN rfl rfl rfl hc104) rfl rfl ?_
                    refine wpD_pass 8 rfl (by kernel_rfl) (by kernel_rfl) (by kernel_rfl) (wantN rfl rfl rfl hc104) rfl rfl ?_
                    refine wpD_pass 9 rfl (by kernel_rfl) (by kernel_rfl) (by kernel_rfl) (wantU rfl rfl rfl) rfl rfl ?_
                    refine wpD_pass 10 rfl (by kernel_rfl) (by kernel_rfl) (by kernel_rfl) (wantU rfl rfl rfl) rfl rfl ?_
                    refine wpD_pass 11 rfl (by kernel_rfl) (by kernel_rfl) (by kernel_rfl) (wantU rfl rfl rfl) rfl rfl ?_
                    refine wpD_pass 12 rfl (by kernel_rfl) (by kernel_rfl) (by kernel_rfl) (wantU rfl rfl rfl) rfl rfl ?_
                    refine wpD_pass 13 rfl (by kernel_rfl) (by kernel_rfl) (by kernel_rfl) (wantU rfl rfl rfl) rfl rfl ?_
                    refine wpD_pass 14 rfl (by kernel_rfl) (by kernel_rfl) (by kernel_rfl) (wantU rfl rfl rfl) rfl rfl ?_
                    refine wpD_pass 15 rfl (by kernel_rfl) (by kernel_rfl) (by kernel_rfl) (wantU rfl rfl rfl) rfl rfl ?_
                    refine wpD_pass 16 rfl (by kernel_rfl) (by kernel_rfl) (by kernel_rfl) (wantU rfl rfl rfl) rfl rfl ?_
                    refine wpD_pass 17 rfl (by kernel_rfl) (by kernel_rfl) (by kernel_rfl) (wantU rfl rfl rfl) rfl rfl ?_
                    refine wpD_pass 18 rfl (by kernel_rfl) (by kernel_rfl) (by kernel_rfl) (wantU rfl rfl rfl) rfl rfl ?_
                    refine wpD_pass 19 rfl (by kernel_rfl) (by kernel_rfl) (by kernel_rfl) (wantN rfl rfl rfl hc104) rfl rfl ?_
                    refine wpD_take (v := (Value.bool true)) 20 (fun _ => True) rfl (by kernel_rfl) (by kernel_rfl) (by kernel_rfl) rfl rfl rfl trivial (fun w _ => (x_pickT (v := (Value.bool true)) rfl rfl hc104 rfl)) ?_
                    refine wpD_take (v := (Value.bool true)) 21 (fun _ => True) rfl (by kernel_rfl) (by kernel_rfl) (by kernel_rfl) rfl rfl rfl trivial (fun w _ => (x_assign (v := (Value.bool true)) rfl rfl)) ?_
                    exact wpD_done (by kernel_rfl) ⟨true, ⟨rfl, e0, e1, e2, e7, e8, e9, e10, e11, e13, e15, trivial⟩, h⟩
                  · replace h := h.2 hc104
                    refine wpD_take (v := (Sl.v r13)) 2 (fun _ => True) rfl (by kernel_rfl) (by kernel_rfl) (by kernel_rfl) (wantG rfl rfl rfl hc104) rfl rfl trivial (fun w _ => (x_move (v := (Sl.v r13)) rfl e8)) ?_
                    refine wpD_take (v := (Value.int .i64 l100.2)) 3 (fun _ => True) rfl (by kernel_rfl) (by kernel_rfl) (by kernel_rfl) (wantG rfl rfl rfl hc104) rfl rfl trivial (fun w _ => (x_move (v := (Value.int .i64 l100.2)) rfl e15)) ?_
                    obtain ⟨q105, z105, r105, h⟩ := h
                    generalize hp105 : z105.add ((l100.2 : Int).toNat * 1) = p105 at h
                    refine wpD_take (v := (Value.pointer (some p105))) 4 (fun _ => True) rfl (by kernel_rfl) (by kernel_rfl) (by kernel_rfl) (wantG rfl rfl rfl hc104) rfl rfl trivial (fun w _ => ((x_indexAddr (s := r13) rfl rfl rfl ES_25 q105 r105).trans (by rw [hp105]))) ?_
                    obtain ⟨x106, q106, h⟩ := h
                    refine wpD_take (v := (Value.int .i64 x106)) 5 (fun w => w.cell? p105 = some (Value.int .i64 x106)) rfl (by kernel_rfl) (by kernel_rfl) (by kernel_rfl) (wantG rfl rfl rfl hc104) rfl rfl q106 (fun w q106 => (x_load1 rfl rfl SH_3 q106)) ?_
                    refine wpD_take (v := (Value.int .i64 l33)) 6 (fun _ => True) rfl (by kernel_rfl) (by kernel_rfl) (by kernel_rfl) (wantG rfl rfl rfl hc104) rfl rfl trivial (fun w _ => (x_move (v := (Value.int .i64 l33)) rfl e11)) ?_
                    refine wpD_take (v := (Value.bool (decide (x106 = l33)))) 7 (fun _ => True) rfl (by kernel_rfl) (by kernel_rfl) (by kernel_rfl) (wantG rfl rfl rfl hc104) rfl rfl trivial (fun w _ => (x_eql rfl rfl rfl)) ?_
                    refine wpD_take (v := (Value.bool (decide (x106 = l33)))) 8 (fun _ => True) rfl (by kernel_rfl) (by kernel_rfl) (by kernel_rfl) (wantG rfl rfl rfl hc104) rfl rfl trivial (fun w _ => (x_move (v := (Value.bool (decide (x106 = l33)))) rfl rfl)) ?_
                    rcases Bool.eq_false_or_eq_true (decide (x106 = l33)) with hc107 | hc107
                    · replace h := h.1 hc107
                      refine wpD_take (v := (Sl.v p1)) 9 (fun _ => True) rfl (by kernel_rfl) (by kernel_rfl) (by kernel_rfl) (wantG rfl rfl rfl hc107) rfl rfl trivial (fun w _ => (x_move (v := (Sl.v p1)) rfl e1)) ?_
                      refine wpD_take (v := (Value.int .i64 l100.2)) 10 (fun _ => True) rfl (by kernel_rfl) (by kernel_rfl) (by kernel_rfl) (wantG rfl rfl rfl hc107) rfl rfl trivial (fun w _ => (x_move (v := (Value.int .i64 l100.2)) rfl e15)) ?_
                      obtain ⟨q108, z108, r108, h⟩ := h
                      generalize hp108 : z108.add ((l100.2 : Int).toNat * 5) = p108 at h
                      refine wpD_take (v := (Value.pointer (some p108))) 11 (fun _ => True) rfl (by kernel_rfl) (by kernel_rfl) (by kernel_rfl) (wantG rfl rfl rfl hc107) rfl rfl trivial (fun w _ => ((x_indexAddr (s := p1) rfl rfl rfl ES_22 q108 r108).trans (by rw [hp108]))) ?_
                      refine wpD_take (v := (Value.pointer (some (p108.add 0)))) 12 (fun _ => True) rfl (by kernel_rfl) (by kernel_rfl) (by kernel_rfl) (wantG rfl rfl rfl hc107) rfl rfl trivial (fun w _ => (x_fieldAddr rfl rfl FA_30_0)) ?_
                      obtain ⟨x109, q109, h⟩ := h
                      refine wpD_take (v := (Value.int .i64 x109)) 13 (fun w => w.cell? (p108.add 0) = some (Value.int .i64 x109)) rfl (by kernel_rfl) (by kernel_rfl) (by kernel_rfl) (wantG rfl rfl rfl hc107) rfl rfl q109 (fun w q109 => (x_load1 rfl rfl SH_3 q109)) ?_
                      refine wpD_take (v := (Value.pointer (some ((Addr.mk b23 0 none).add 0)))) 15 (fun _ => True) rfl (by kernel_rfl) (by kernel_rfl) (by kernel_rfl) (wantG rfl rfl rfl hc107) rfl rfl trivial (fun w _ => (x_fieldAddr rfl e10 FA_30_0)) ?_
                      obtain ⟨x110, q110, h⟩ := h
                      refine wpD_take (v := (Value.int .i64 x110)) 16 (fun w => w.cell? ((Addr.mk b23 0 none).add 0) = some (Value.int .i64 x110)) rfl (by kernel_rfl) (by kernel_rfl) (by kernel_rfl) (wantG rfl rfl rfl hc107) rfl rfl q110 (fun w q110 => (x_load1 rfl rfl SH_3 q110)) ?_
                      refine wpD_all (rs := [14]) (by kernel_rfl) (by simp) (allD_cons ?_ allD_nil)
                      refine stepD_enterL (L' := [(16, fun w => w.cell? ((Addr.mk b23 0 none).add 0) = some (Value.int .i64 x110)), (15, fun _ => True), (12, fun _ => True), (11, fun _ => True), (10, fun _ => True), (9, fun _ => True), (7, fun _ => True), (6, fun _ => True), (5, fun w => w.cell? p105 = some (Value.int .i64 x106)), (4, fun _ => True), (3, fun _ => True), (2, fun _ => True), (1, fun _ => True), (0, fun _ => True)]) rfl (wantG rfl rfl rfl hc107) rfl rfl (x_call (vs := [(Value.int .i64 x109)]) rfl rfl (mapl_cons rfl mapl_nil) Try.func16 NN_16 NB_16) (by kernel_rfl) (Calls.mono h ?_)
                      rintro _ w22 ⟨r111, rfl, h⟩
                      obtain ⟨o16, h⟩ := h
                      obtain ⟨o5, h⟩ := h
                      refine ⟨_, rfl, (held_cons o16 (held_cons trivial (held_cons trivial (held_cons trivial (held_cons trivial (held_cons trivial (held_cons trivial (held_cons trivial (held_cons o5 (held_cons trivial (held_cons trivial (held_cons trivial (held_cons trivial (held_cons trivial held_nil)))))))))))))), ?_⟩
                      refine wpD_all (rs := [17]) (by kernel_rfl) (by simp) (allD_cons ?_ allD_nil)
                      refine stepD_enterL (L' := [(15, fun _ => True), (12, fun _ => True), (11, fun _ => True), (10, fun _ => True), (9, fun _ => True), (7, fun _ => True), (6, fun _ => True), (5, fun w => w.cell? p105 = some (Value.int .i64 x106)), (4, fun _ => True), (3, fun _ => True), (2, fun _ => True), (1, fun _ => True), (0, fun _ => True)]) rfl (wantG rfl rfl rfl hc107) rfl rfl (x_call (vs := [(Value.int .i64 x110)]) rfl rfl (mapl_cons rfl mapl_nil) Try.func16 NN_16 NB_16) (by kernel_rfl) (Calls.mono h ?_)
                      rintro _ w23 ⟨r112, rfl, h⟩
                      obtain ⟨o5, h⟩ := h
                      refine ⟨_, rfl, (held_cons trivial (held_cons trivial (held_cons trivial (held_cons trivial (held_cons trivial (held_cons trivial (held_cons trivial (held_cons o5 (held_cons trivial (held_cons trivial (held_cons trivial (held_cons trivial (held_cons trivial held_nil))))))))))))), ?_⟩
                      refine wpD_take (v := (Value.bool (decide (r111 = r112)))) 18 (fun _ => True) rfl (by kernel_rfl) (by kernel_rfl) (by kernel_rfl) (wantG rfl rfl rfl hc107) rfl rfl trivial (fun w _ => (x_eql rfl rfl rfl)) ?_
                      refine wpD_take (v := (Value.bool (decide (r111 = r112)))) 19 (fun _ => True) rfl (by kernel_rfl) (by kernel_rfl) (by kernel_rfl) (wantG rfl rfl rfl hc104) rfl rfl trivial (fun w _ => (x_pickT (v := (Value.bool (decide (r111 = r112)))) rfl rfl hc107 rfl)) ?_
                      refine wpD_take (v := (Value.bool (decide (r111 = r112)))) 20 (fun _ => True) rfl (by kernel_rfl) (by kernel_rfl) (by kernel_rfl) rfl rfl rfl trivial (fun w _ => (x_pickF (v := (Value.bool (decide (r111 = r112)))) rfl rfl hc104 rfl)) ?_
                      refine wpD_take (v := (Value.bool (decide (r111 = r112)))) 21 (fun _ => True) rfl (by kernel_rfl) (by kernel_rfl) (by kernel_rfl) rfl rfl rfl trivial (fun w _ => (x_assign (v := (Value.bool (decide (r111 = r112)))) rfl rfl)) ?_
                      exact wpD_done (by kernel_rfl) ⟨decide (r111 = r112), ⟨rfl, e0, e1, e2, e7, e8, e9, e10, e11, e13, e15, trivial⟩, h⟩
                    · replace h := h.2 hc107
                      refine wpD_pass 9 rfl (by kernel_rfl) (by kernel_rfl) (by kernel_rfl) (wantN rfl rfl rfl hc107) rfl rfl ?_
                      refine wpD_pass 10 rfl (by kernel_rfl) (by kernel_rfl) (by kernel_rfl) (wantN rfl rfl rfl hc107) rfl rfl ?_
                      refine wpD_pass 11 rfl (by kernel_rfl) (by kernel_rfl) (by kernel_rfl) (wantN rfl rfl rfl hc107) rfl rfl ?_
                      refine wpD_pass 12 rfl (by kernel_rfl) (by kernel_rfl) (by kernel_rfl) (wantN rfl rfl rfl hc107) rfl rfl ?_
                      refine wpD_pass 13 rfl (by kernel_rfl) (by kernel_rfl) (by kernel_rfl) (wantN rfl rfl rfl hc107) rfl rfl ?_
                      refine wpD_pass 14 rfl (by kernel_rfl) (by kernel_rfl) (by kernel_rfl) (wantN rfl rfl rfl hc107) rfl rfl ?_
                      refine wpD_pass 15 rfl (by kernel_rfl) (by kernel_rfl) (by kernel_rfl) (wantN rfl rfl rfl hc107) rfl rfl ?_
                      refine wpD_pass 16 rfl (by kernel_rfl) (by kernel_rfl) (by kernel_rfl) (wantN rfl rfl rfl hc107) rfl rfl ?_
                      refine wpD_pass 17 rfl (by kernel_rfl) (by kernel_rfl) (by kernel_rfl) (wantN rfl rfl rfl hc107) rfl rfl ?_
                      refine wpD_pass 18 rfl (by kernel_rfl) (by kernel_rfl) (by kernel_rfl) (wantN rfl rfl rfl hc107) rfl rfl ?_
                      refine wpD_take (v := (Value.bool false)) 19 (fun _ => True) rfl (by kernel_rfl) (by kernel_rfl) (by kernel_rfl) (wantG rfl rfl rfl hc104) rfl rfl trivial (fun w _ => (x_pickF (v := (Value.bool false)) rfl rfl hc107 rfl)) ?_
                      refine wpD_take (v := (Value.bool false)) 20 (fun _ => True) rfl (by kernel_rfl) (by kernel_rfl) (by kernel_rfl) rfl rfl rfl trivial (fun w _ => (x_pickF (v := (Value.bool false)) rfl rfl hc104 rfl)) ?_
                      refine wpD_take (v := (Value.bool false)) 21 (fun _ => True) rfl (by kernel_rfl) (by kernel_rfl) (by kernel_rfl) rfl rfl rfl trivial (fun w _ => (x_assign (v := (Value.bool false)) rfl rfl)) ?_
                      exact wpD_done (by kernel_rfl) ⟨false, ⟨rfl, e0, e1, e2, e7, e8, e9, e10, e11, e13, e15, trivial⟩, h⟩
                clear h
                rintro l113 ρ w24 ⟨e14, e0, e1, e2, e7, e8, e9, e10, e11, e13, e15, -⟩ h
                replace h := hk l113 w24 h
                clear hk
                refine wpC_region ?_
                refine wpR_val (v := (Value.int .i64 l100.2)) (w' := w24) rfl rfl rfl (x_move (v := (Value.int .i64 l100.2)) rfl e15) ?_
                refine wpR_val (v := (Value.int .i64 (IntKind.i64.wrap (l100.2 + 1)))) (w' := w24) rfl rfl rfl (x_add rfl rfl rfl) ?_
                refine wpR_val (v := (Value.int .i64 (IntKind.i64.wrap (l100.2 + 1)))) (w' := w24) rfl rfl rfl (x_assign (v := (Value.int .i64 (IntKind.i64.wrap (l100.2 + 1)))) rfl rfl) ?_
                refine wpR_nil ?_
                exact ⟨(l113, IntKind.i64.wrap (l100.2 + 1)), ⟨e14, rfl, e0, e1, e2, e7, e8, e9, e10, e11, e13, trivial⟩, h⟩
              · replace h := h.2 hc101
                refine wpC_exit ?_
                refine wpC_seq ?_
                refine wpC_cut (fun ρ => ρ 0 = (Sl.v p0) ∧ ρ 1 = (Sl.v p1) ∧ ρ 2 = (Value.int .i64 p2) ∧ ρ 7 = (Value.bool r1) ∧ ρ 8 = (Sl.v r13) ∧ ρ 9 = (Value.int .i64 l15) ∧ ρ 10 = (Value.pointer (some (Addr.mk b23 0 none))) ∧ ρ 11 = (Value.int .i64 l33) ∧ ρ 13 = (Value.bool l64) ∧ ρ 14 = (Value.bool l100.1) ∧ True) ⟨e0, e1, e2, e7, e8, e9, e10, e11, e13, e14, trivial⟩ ?_
                rintro ρ ⟨e0, e1, e2, e7, e8, e9, e10, e11, e13, e14, -⟩
                refine wpC_region ?_
                refine wpR_val (v := (Sl.v r13)) (w' := w20) rfl rfl rfl (x_move (v := (Sl.v r13)) rfl e8) ?_
                refine wpR_val (v := (Value.int .i64 l15)) (w' := w20) rfl rfl rfl (x_move (v := (Value.int .i64 l15)) rfl e9) ?_
                obtain ⟨q114, z114, r114, h⟩ := h
                generalize hp114 : z114.add ((l15 : Int).toNat * 1) = p114 at h
                refine wpR_val (v := (Value.pointer (some p114))) (w' := w20) rfl rfl rfl ((x_indexAddr (s := r13) rfl rfl rfl ES_25 q114 r114).trans (by rw [hp114])) ?_
                obtain ⟨x115, q115, h⟩ := h
                refine wpR_val (v := (Value.int .i64 x115)) (w' := w20) rfl rfl rfl (x_load1 rfl rfl SH_3 q115) ?_
                refine wpR_val (v := (Value.int .i64 l33)) (w' := w20) rfl rfl rfl (x_move (v := (Value.int .i64 l33)) rfl e11) ?_
                refine wpR_val (v := (Value.bool (decide (x115 = l33)))) (w' := w20) rfl rfl rfl (x_eql rfl rfl rfl) ?_
                refine wpR_val (v := (Value.bool (decide (x115 = l33)))) (w' := w20) rfl rfl rfl (x_move (v := (Value.bool (decide (x115 = l33)))) rfl rfl) ?_
                refine wpR_joinJ 2 (fun (_ : Unit) ρ => ρ 193 = Value.bool ((decide (x115 = l33)) && l100.1) ∧ ρ 0 = (Sl.v p0) ∧ ρ 1 = (Sl.v p1) ∧ ρ 2 = (Value.int .i64 p2) ∧ ρ 7 = (Value.bool r1) ∧ ρ 8 = (Sl.v r13) ∧ ρ 9 = (Value.int .i64 l15) ∧ ρ 10 = (Value.pointer (some (Addr.mk b23 0 none))) ∧ ρ 11 = (Value.int .i64 l33) ∧ ρ 13 = (Value.bool l64) ∧ ρ 14 = (Value.bool l100.1) ∧ True) (fun _ w => w20 = w) ?_ ?_
                · clear h
                  rcases Bool.eq_false_or_eq_true (decide (x115 = l33)) with hc117 | hc117
                  · skip
                    refine wpR_val (v := (Value.bool l100.1)) (w' := w20) (wantG rfl rfl rfl hc117) rfl rfl (x_move (v := (Value.bool l100.1)) rfl e14) ?_
                    refine wpR_val (v := (Value.bool l100.1)) (w' := w20) rfl rfl rfl (x_pickT (v := (Value.bool l100.1)) rfl rfl hc117 rfl) ?_
                    refine wpR_nil ?_
                    exact ⟨(), ⟨(by rw [hc117]; rfl), e0, e1, e2, e7, e8, e9, e10, e11, e13, e14, trivial⟩, rfl⟩
                  · skip
                    refine wpR_pass (wantN rfl rfl rfl hc117) rfl rfl ?_
                    refine wpR_val (v := (Value.bool false)) (w' := w20) rfl rfl rfl (x_pickF (v := (Value.bool false)) rfl rfl hc117 rfl) ?_
                    refine wpR_nil ?_
                    exact ⟨(), ⟨(by rw [hc117]; rfl), e0, e1, e2, e7, e8, e9, e10, e11, e13, e14, trivial⟩, rfl⟩
                rintro _ ρ wj ⟨e193, e0, e1, e2, e7, e8, e9, e10, e11, e13, e14, -⟩ rfl
                refine wpR_val (v := (Value.bool ((decide (x115 = l33)) && l100.1))) (w' := w20) rfl rfl rfl (x_move (v := (Value.bool ((decide (x115 = l33)) && l100.1))) rfl e193) ?_
                obtain ⟨J118, h, hk⟩ := h
                refine wpR_joinJ 14 (fun x ρ => ρ 208 = Value.bool x ∧ ρ 0 = (Sl.v p0) ∧ ρ 1 = (Sl.v p1) ∧ ρ 2 = (Value.int .i64 p2) ∧ ρ 7 = (Value.bool r1) ∧ ρ 8 = (Sl.v r13) ∧ ρ 9 = (Value.int .i64 l15) ∧ ρ 10 = (Value.pointer (some (Addr.mk b23 0 none))) ∧ ρ 11 = (Value.int .i64 l33) ∧ True) (fun x w => J118 x ∧ w20 = w) ?_ ?_
                · clear hk
                  rcases Bool.eq_false_or_eq_true ((decide (x115 = l33)) && l100.1) with hc119 | hc119
                  · replace h := h.1 hc119
                    refine wpR_pass (wantN rfl rfl rfl hc119) rfl rfl ?_
                    refine wpR_pass (wantN rfl rfl rfl hc119) rfl rfl ?_
                    refine wpR_pass (wantU rfl rfl rfl) rfl rfl ?_
                    refine wpR_pass (wantU rfl rfl rfl) rfl rfl ?_
                    refine wpR_pass (wantN rfl rfl rfl hc119) rfl rfl ?_
                    refine wpR_pass (wantN rfl rfl rfl hc119) rfl rfl ?_
                    refine wpR_pass (wantU rfl rfl rfl) rfl rfl ?_
                    refine wpR_pass (wantU rfl rfl rfl) rfl rfl ?_
                    refine wpR_pass (wantU rfl rfl rfl) rfl rfl ?_
                    refine wpR_pass (wantU rfl rfl rfl) rfl rfl ?_
                    refine wpR_pass (wantU rfl rfl rfl) rfl rfl ?_
                    refine wpR_pass (wantU rfl rfl rfl) rfl rfl ?_
                    refine wpR_pass (wantN rfl rfl rfl hc119) rfl rfl ?_
                    refine wpR_val (v := (Value.bool true)) (w' := w20) rfl rfl rfl (x_pickT (v := (Value.bool true)) rfl rfl hc119 rfl) ?_
                    refine wpR_nil ?_
                    exact ⟨true, ⟨rfl, e0, e1, e2, e7, e8, e9, e10, e11, trivial⟩, h, rfl⟩
                  · replace h := h.2 hc119
                    refine wpR_val (v := (Value.bool l64)) (w' := w20) (wantG rfl rfl rfl hc119) rfl rfl (x_move (v := (Value.bool l64)) rfl e13) ?_
                    refine wpR_val (v := (Value.bool l64)) (w' := w20) (wantG rfl rfl rfl hc119) rfl rfl (x_move (v := (Value.bool l64)) rfl rfl) ?_
                    refine wpR_joinJ 3 (fun (_ : Unit) ρ => ρ 199 = Value.bool (l64 && (!l100.1)) ∧ ρ 0 = (Sl.v p0) ∧ ρ 1 = (Sl.v p1) ∧ ρ 2 = (Value.int .i64 p2) ∧ ρ 7 = (Value.bool r1) ∧ ρ 8 = (Sl.v r13) ∧ ρ 9 = (Value.int .i64 l15) ∧ ρ 10 = (Value.pointer (some (Addr.mk b23 0 none))) ∧ ρ 11 = (Value.int .i64 l33) ∧ ρ 194 = (Value.bool ((decide (x115 = l33)) && l100.1)) ∧ True) (fun _ w => w20 = w) ?_ ?_
                    · clear h
                      rcases Bool.eq_false_or_eq_true (l64) with hc121 | hc121
                      · skip
                        refine wpR_val (v := (Value.bool l100.1)) (w' := w20) (wantG rfl rfl rfl hc121) rfl rfl (x_move (v := (Value.bool l100.1)) rfl e14) ?_
                        refine wpR_val (v := (Value.bool (!l100.1))) (w' := w20) (wantG rfl rfl rfl hc121) rfl rfl (x_not rfl rfl) ?_
                        refine wpR_val (v := (Value.bool (!l100.1))) (w' := w20) (wantG rfl rfl rfl hc119) rfl rfl (x_pickT (v := (Value.bool (!l100.1))) rfl rfl hc121 rfl) ?_
                        refine wpR_nil ?_
                        exact ⟨(), ⟨(by rw [hc121]; rfl), e0, e1, e2, e7, e8, e9, e10, e11, rfl, trivial⟩, rfl⟩
                      · skip
                        refine wpR_pass (wantN rfl rfl rfl hc121) rfl rfl ?_
                        refine wpR_pass (wantN rfl rfl rfl hc121) rfl rfl ?_
                        refine wpR_val (v := (Value.bool false)) (w' := w20) (wantG rfl rfl rfl hc119) rfl rfl (x_pickF (v := (Value.bool false)) rfl rfl hc121 rfl) ?_
                        refine wpR_nil ?_
                        exact ⟨(), ⟨(by rw [hc121]; rfl), e0, e1, e2, e7, e8, e9, e10, e11, rfl, trivial⟩, rfl⟩
                    rintro _ ρ wj ⟨e199, e0, e1, e2, e7, e8, e9, e10, e11, e194, -⟩ rfl
                    refine wpR_val (v := (Value.bool (l64 && (!l100.1)))) (w' := w20) (wantG rfl rfl e194 hc119) rfl rfl (x_move (v := (Value.bool (l64 && (!l100.1)))) rfl e199) ?_
                    obtain ⟨J122, h, hk⟩ := h
                    refine wpR_joinJ 7 (fun x ρ => ρ 207 = Value.bool x ∧ ρ 0 = (Sl.v p0) ∧ ρ 1 = (Sl.v p1) ∧ ρ 2 = (Value.int .i64 p2) ∧ ρ 7 = (Value.bool r1) ∧ ρ 8 = (Sl.v r13) ∧ ρ 9 = (Value.int .i64 l15) ∧ ρ 10 = (Value.pointer (some (Addr.mk b23 0 none))) ∧ ρ 11 = (Value.int .i64 l33) ∧ ρ 194 = (Value.bool ((decide (x115 = l33)) && l100.1)) ∧ True) (fun x w => J122 x ∧ w20 = w) ?_ ?_
                    · clear hk
                      rcases Bool.eq_false_or_eq_true (l64 && (!l100.1)) with hc123 | hc123
                      · replace h := h.1 hc123
                        refine wpR_val (v := (Value.int .i64 l33)) (w' := w20) (wantG rfl rfl rfl hc123) rfl rfl (x_move (v := (Value.int .i64 l33)) rfl e11) ?_
                        refine wpR_val (v := (Sl.v r13)) (w' := w20) (wantG rfl rfl rfl hc123) rfl rfl (x_move (v := (Sl.v r13)) rfl e8) ?_
                        refine wpR_val (v := (Value.int .i64 l15)) (w' := w20) (wantG rfl rfl rfl hc123) rfl rfl (x_move (v := (Value.int .i64 l15)) rfl e9) ?_
                        obtain ⟨q124, z124, r124, h⟩ := h
                        generalize hp124 : z124.add ((l15 : Int).toNat * 1) = p124 at h
                        refine wpR_val (v := (Value.pointer (some p124))) (w' := w20) (wantG rfl rfl rfl hc123) rfl rfl ((x_indexAddr (s := r13) rfl rfl rfl ES_25 q124 r124).trans (by rw [hp124])) ?_
                        obtain ⟨x125, q125, h⟩ := h
                        refine wpR_val (v := (Value.int .i64 x125)) (w' := w20) (wantG rfl rfl rfl hc123) rfl rfl (x_load1 rfl rfl SH_3 q125) ?_
                        refine wpR_val (v := (Value.bool (decide (x125 < l33)))) (w' := w20) (wantG rfl rfl rfl hc123) rfl rfl (x_gtr rfl rfl rfl) ?_
                        refine wpR_val (v := (Value.bool (decide (x125 < l33)))) (w' := w20) (wantG rfl rfl e194 hc119) rfl rfl (x_pickT (v := (Value.bool (decide (x125 < l33)))) rfl rfl hc123 rfl) ?_
                        refine wpR_nil ?_
                        exact ⟨decide (x125 < l33), ⟨rfl, e0, e1, e2, e7, e8, e9, e10, e11, e194, trivial⟩, h, rfl⟩
                      · replace h := h.2 hc123
                        refine wpR_pass (wantN rfl rfl rfl hc123) rfl rfl ?_
                        refine wpR_pass (wantN rfl rfl rfl hc123) rfl rfl ?_
                        refine wpR_pass (wantN rfl rfl rfl hc123) rfl rfl ?_
                        refine wpR_pass (wantN rfl rfl rfl hc123) rfl rfl ?_
                        refine wpR_pass (wantN rfl rfl rfl hc123) rfl rfl ?_
                        refine wpR_pass (wantN rfl rfl rfl hc123) rfl rfl ?_
                        refine wpR_val (v := (Value.bool false)) (w' := w20) (wantG rfl rfl e194 hc119) rfl rfl (x_pickF (v := (Value.bool false)) rfl rfl hc123 rfl) ?_
                        refine wpR_nil ?_
                        exact ⟨false, ⟨rfl, e0, e1, e2, e7, e8, e9, e10, e11, e194, trivial⟩, h, rfl⟩
                    clear h
                    rintro c126 ρ wj ⟨e207, e0, e1, e2, e7, e8, e9, e10, e11, e194, -⟩ ⟨h, rfl⟩
                    replace h := hk c126 h
                    clear hk
                    refine wpR_val (v := (Value.bool c126)) (w' := w20) rfl rfl rfl (x_pickF (v := (Value.bool c126)) rfl e194 hc119 e207) ?_
                    refine wpR_nil ?_
                    exact ⟨c126, ⟨rfl, e0, e1, e2, e7, e8, e9, e10, e11, trivial⟩, h, rfl⟩
                clear h
                rintro c127 ρ wj ⟨e208, e0, e1, e2, e7, e8, e9, e10, e11, -⟩ ⟨h, rfl⟩
                replace h := hk c127 h
                clear hk
                refine wpR_nil ?_
                refine wpC_cond (b := c127) e208 (fun hc128 => ?_) (fun hc128 => ?_)
                · replace h := h.1 hc128
                  refine wpC_seq ?_
                  refine wpC_region ?_
                  refine wpR_val (v := (Value.bool false)) (w' := w20) rfl rfl rfl (x_assign (v := (Value.bool false)) rfl rfl) ?_
                  refine wpR_nil ?_
                  refine wpC_ret ?_
                  exact ⟨.inl rfl, fun a ha => ⟨_, results_rep1 rfl ha rfl, false, rfl, h⟩⟩
                · replace h := h.2 hc128
                  refine wpC_skip ?_
                  refine wpC_region ?_
                  refine wpR_val (v := (Value.int .i64 l33)) (w' := w20) rfl rfl rfl (x_move (v := (Value.int .i64 l33)) rfl e11) ?_
                  refine wpR_val (v := (Value.int .i64 (IntKind.i64.wrap (l33 + 1)))) (w' := w20) rfl rfl rfl (x_add rfl rfl rfl) ?_
                  refine wpR_val (v := (Value.int .i64 (IntKind.i64.wrap (l33 + 1)))) (w' := w20) rfl rfl rfl (x_assign (v := (Value.int .i64 (IntKind.i64.wrap (l33 + 1)))) rfl rfl) ?_
                  refine wpR_nil ?_
                  exact ⟨IntKind.i64.wrap (l33 + 1), ⟨rfl, e0, e1, e2, e7, e8, e9, e10, trivial⟩, h⟩
          · replace h := h.2 hc34
            refine wpC_exit ?_
            refine wpC_cut (fun ρ => ρ 0 = (Sl.v p0) ∧ ρ 1 = (Sl.v p1) ∧ ρ 2 = (Value.int .i64 p2) ∧ ρ 7 = (Value.bool r1) ∧ ρ 8 = (Sl.v r13) ∧ ρ 9 = (Value.int .i64 l15) ∧ True) ⟨e0, e1, e2, e7, e8, e9, trivial⟩ ?_
            rintro ρ ⟨e0, e1, e2, e7, e8, e9, -⟩
            refine wpC_region ?_
            refine wpR_val (v := (Value.int .i64 l15)) (w' := w10) rfl rfl rfl (x_move (v := (Value.int .i64 l15)) rfl e9) ?_
            refine wpR_val (v := (Value.int .i64 (IntKind.i64.wrap (l15 + 1)))) (w' := w10) rfl rfl rfl (x_add rfl rfl rfl) ?_
            refine wpR_val (v := (Value.int .i64 (IntKind.i64.wrap (l15 + 1)))) (w' := w10) rfl rfl rfl (x_assign (v := (Value.int .i64 (IntKind.i64.wrap (l15 + 1)))) rfl rfl) ?_
            refine wpR_nil ?_
            exact ⟨IntKind.i64.wrap (l15 + 1), ⟨rfl, e0, e1, e2, e7, e8, trivial⟩, h⟩
      · replace h := h.2 hc16
        refine wpC_exit ?_
        refine wpC_seq ?_
        refine wpC_cut (fun ρ => ρ 7 = (Value.bool r1) ∧ True) ⟨e7, trivial⟩ ?_
        rintro ρ ⟨e7, -⟩
        refine wpC_region ?_
        refine wpR_val (v := (Value.bool r1)) (w' := w7) rfl rfl rfl (x_move (v := (Value.bool r1)) rfl e7) ?_
        refine wpR_val (v := (Value.bool r1)) (w' := w7) rfl rfl rfl (x_assign (v := (Value.bool r1)) rfl rfl) ?_
        refine wpR_nil ?_
        refine wpC_ret ?_
        exact ⟨.inl rfl, fun a ha => ⟨_, results_rep1 rfl ha rfl, r1, rfl, h⟩⟩


end Go.Proofs.Ythnebjgmhdilbaa
