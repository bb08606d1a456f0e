import Derived.Test.YtaogjbmgobfdoaaRows
import Derived.Test.YtaogjbmgobfdoaaDecRaw
namespace Go.Proofs.Ytaogjbmgobfdoaa
open Go.Dec
set_option maxHeartbeats 400000

theorem BD_44_0 (y0 : Int) : ∀ w, (Instr.build 44 #[(0, (Value.int .i64 y0))]).run Try.prog w = .ok (Value.agg #[(Value.int .i64 y0), (Value.int .i64 0), (Value.int .i64 0)]) w := fun w => by kernel_rfl
theorem BD_49_0_2 (y0 : Int) (y2 : Sl) : ∀ w, (Instr.build 49 #[(0, (Value.int .i64 y0)), (2, (Sl.v y2))]).run Try.prog w = .ok (Value.agg #[(Value.int .i64 y0), (Value.int .i64 0), (Sl.v y2)]) w := fun w => by kernel_rfl
theorem BD_60_0 (y0 : Int) : ∀ w, (Instr.build 60 #[(0, (Value.int .i64 y0))]).run Try.prog w = .ok (Value.agg #[(Value.int .i64 y0), (Value.int .i64 0), (Value.int .i64 0)]) w := fun w => by kernel_rfl
theorem BD_64_0_1_2 (y0 : Int) (y1 : Int) (y2 : Option Nat) : ∀ w, (Instr.build 64 #[(0, (Value.int .i64 y0)), (1, (Value.int .i64 y1)), (2, (Value.map y2))]).run Try.prog w = .ok (Value.agg #[(Value.int .i64 y0), (Value.int .i64 y1), (Value.map y2)]) w := fun w => by kernel_rfl
theorem BD_64_0_2 (y0 : Int) (y2 : Option Nat) : ∀ w, (Instr.build 64 #[(0, (Value.int .i64 y0)), (2, (Value.map y2))]).run Try.prog w = .ok (Value.agg #[(Value.int .i64 y0), (Value.int .i64 0), (Value.map y2)]) w := fun w => by kernel_rfl
theorem BS_22_1_0 (y0 : Int) : ∀ w, (Instr.buildSlice 22 1 #[(0, (Value.int .i64 y0))]).run Try.prog w = .ok (.slice (some ⟨w.heap.size, 0, none⟩) 1 1) (w.alloc (.cells #[(Value.int .i64 y0)] 3)) := fun w => by kernel_rfl
theorem BS_22_2_0_1 (y0 : Int) (y1 : Int) : ∀ w, (Instr.buildSlice 22 2 #[(0, (Value.int .i64 y0)), (1, (Value.int .i64 y1))]).run Try.prog w = .ok (.slice (some ⟨w.heap.size, 0, none⟩) 2 2) (w.alloc (.cells #[(Value.int .i64 y0), (Value.int .i64 y1)] 3)) := fun w => by kernel_rfl
theorem BS_47_0_ : ∀ w, (Instr.buildSlice 47 0 #[]).run Try.prog w = .ok (.slice (some ⟨w.heap.size, 0, none⟩) 0 0) (w.alloc (.cells #[] 4)) := fun w => by kernel_rfl
theorem BS_47_1_0 (y0 : Bool) : ∀ w, (Instr.buildSlice 47 1 #[(0, (Value.bool y0))]).run Try.prog w = .ok (.slice (some ⟨w.heap.size, 0, none⟩) 1 1) (w.alloc (.cells #[(Value.bool y0)] 4)) := fun w => by kernel_rfl
theorem ES_22 : elemSize Try.prog 22 = some 1 := by kernel_rfl
theorem ES_47 : elemSize Try.prog 47 = some 1 := by kernel_rfl
theorem ES_51 : elemSize Try.prog 51 = some 2 := by kernel_rfl
theorem FA_44_0 : fieldOff Try.prog 44 0 = some 0 := by kernel_rfl
theorem FA_44_1 : fieldOff Try.prog 44 1 = some 1 := by kernel_rfl
theorem FA_44_2 : fieldOff Try.prog 44 2 = some 2 := by kernel_rfl
theorem FA_49_0 : fieldOff Try.prog 49 0 = some 0 := by kernel_rfl
theorem FA_49_1 : fieldOff Try.prog 49 1 = some 1 := by kernel_rfl
theorem FA_49_2 : fieldOff Try.prog 49 2 = some 2 := by kernel_rfl
theorem FA_53_0 : fieldOff Try.prog 53 0 = some 0 := by kernel_rfl
theorem FA_53_1 : fieldOff Try.prog 53 1 = some 1 := by kernel_rfl
theorem FA_60_0 : fieldOff Try.prog 60 0 = some 0 := by kernel_rfl
theorem FA_60_1 : fieldOff Try.prog 60 1 = some 1 := by kernel_rfl
theorem FA_60_2 : fieldOff Try.prog 60 2 = some 2 := by kernel_rfl
theorem FA_64_0 : fieldOff Try.prog 64 0 = some 0 := by kernel_rfl
theorem FA_64_1 : fieldOff Try.prog 64 1 = some 1 := by kernel_rfl
theorem FA_64_2 : fieldOff Try.prog 64 2 = some 2 := by kernel_rfl
theorem NB_10 : Try.f10.body.isNone = false := by kernel_rfl
theorem NN_10 : (Try.f10.name == "runtime.NumGoroutine") = false := by kernel_rfl
theorem NB_11 : Try.f11.body.isNone = false := by kernel_rfl
theorem NN_11 : (Try.f11.name == "runtime.NumGoroutine") = false := by kernel_rfl
theorem NB_12 : Try.f12.body.isNone = false := by kernel_rfl
theorem NN_12 : (Try.f12.name == "runtime.NumGoroutine") = false := by kernel_rfl
theorem NB_13 : Try.f13.body.isNone = false := by kernel_rfl
theorem NN_13 : (Try.f13.name == "runtime.NumGoroutine") = false := by kernel_rfl
theorem NB_14 : Try.f14.body.isNone = false := by kernel_rfl
theorem NN_14 : (Try.f14.name == "runtime.NumGoroutine") = false := by kernel_rfl
theorem NB_15 : Try.f15.body.isNone = false := by kernel_rfl
theorem NN_15 : (Try.f15.name == "runtime.NumGoroutine") = false := by kernel_rfl
theorem NB_16 : Try.f16.body.isNone = false := by kernel_rfl
theorem NN_16 : (Try.f16.name == "runtime.NumGoroutine") = false := by kernel_rfl
theorem NB_17 : Try.f17.body.isNone = false := by kernel_rfl
theorem NN_17 : (Try.f17.name == "runtime.NumGoroutine") = false := by kernel_rfl
theorem NB_18 : Try.f18.body.isNone = false := by kernel_rfl
theorem NN_18 : (Try.f18.name == "runtime.NumGoroutine") = false := by kernel_rfl
theorem NB_19 : Try.f19.body.isNone = false := by kernel_rfl
theorem NN_19 : (Try.f19.name == "runtime.NumGoroutine") = false := by kernel_rfl
theorem NB_20 : Try.f20.body.isNone = false := by kernel_rfl
theorem NN_20 : (Try.f20.name == "runtime.NumGoroutine") = false := by kernel_rfl
theorem NB_21 : Try.f21.body.isNone = false := by kernel_rfl
theorem NN_21 : (Try.f21.name == "runtime.NumGoroutine") = false := by kernel_rfl
theorem NB_22 : Try.f22.body.isNone = false := by kernel_rfl
theorem NN_22 : (Try.f22.name == "runtime.NumGoroutine") = false := by kernel_rfl
theorem NB_23 : Try.f23.body.isNone = false := by kernel_rfl
theorem NN_23 : (Try.f23.name == "runtime.NumGoroutine") = false := by kernel_rfl
theorem NB_24 : Try.f24.body.isNone = false := by kernel_rfl
theorem NN_24 : (Try.f24.name == "runtime.NumGoroutine") = false := by kernel_rfl
theorem NB_25 : Try.f25.body.isNone = false := by kernel_rfl
theorem NN_25 : (Try.f25.name == "runtime.NumGoroutine") = false := by kernel_rfl
theorem NB_26 : Try.f26.body.isNone = false := by kernel_rfl
theorem NN_26 : (Try.f26.name == "runtime.NumGoroutine") = false := by kernel_rfl
theorem NB_27 : Try.f27.body.isNone = false := by kernel_rfl
theorem NN_27 : (Try.f27.name == "runtime.NumGoroutine") = false := by kernel_rfl
theorem NB_7 : Try.f7.body.isNone = false := by kernel_rfl
theorem NN_7 : (Try.f7.name == "runtime.NumGoroutine") = false := by kernel_rfl
theorem NB_8 : Try.f8.body.isNone = false := by kernel_rfl
theorem NN_8 : (Try.f8.name == "runtime.NumGoroutine") = false := by kernel_rfl
theorem NB_9 : Try.f9.body.isNone = false := by kernel_rfl
theorem NN_9 : (Try.f9.name == "runtime.NumGoroutine") = false := by kernel_rfl
theorem SH_3 : shapeT Try.prog 3 = some 0 := by kernel_rfl
theorem SH_4 : shapeT Try.prog 4 = some 0 := by kernel_rfl
theorem SH_47 : shapeT Try.prog 47 = some 0 := by kernel_rfl
theorem SH_60 : shapeT Try.prog 60 = some 4 := by kernel_rfl
theorem SH_62 : shapeT Try.prog 62 = some 0 := by kernel_rfl
theorem SZ_3 : sizeT Try.prog 3 = some 1 := by kernel_rfl
theorem SZ_4 : sizeT Try.prog 4 = some 1 := by kernel_rfl
theorem SZ_47 : sizeT Try.prog 47 = some 1 := by kernel_rfl
theorem SZ_60 : sizeT Try.prog 60 = some 3 := by kernel_rfl
theorem ZV_60 : (Try.prog.info? 60).bind (·.zero) = some (Value.agg #[(Value.int .i64 0), (Value.int .i64 0), (Value.int .i64 0)]) := by kernel_rfl
theorem isBoolT_4 : isBoolT Try.prog 4 = true := by kernel_rfl
theorem isMapT_62 : isMapT Try.prog 62 = true := by kernel_rfl
theorem isPtrT_24 : isPtrT Try.prog 24 = true := by kernel_rfl
theorem isPtrT_28 : isPtrT Try.prog 28 = true := by kernel_rfl
theorem isPtrT_31 : isPtrT Try.prog 31 = true := by kernel_rfl
theorem isPtrT_34 : isPtrT Try.prog 34 = true := by kernel_rfl
theorem isSliceT_22 : isSliceT Try.prog 22 = true := by kernel_rfl
theorem isSliceT_51 : isSliceT Try.prog 51 = true := by kernel_rfl

/-- lingualaw31.LinkTells -/
def F3 (p0 : Int) (p1 : Sl) (p2 : Sl) (w0 : World) (K : Bool → World → Prop) : Prop :=
  callC Try.prog 7 #[] (fun (r : Bool) => (Value.bool r)) w0 fun r1 w1 =>
  cnd ((decide (80 < (p1.len : Int))) || (decide (80 < (p2.len : Int))))
    (
    K r1 w1
    )
    (
    callC Try.prog 8 #[(Value.int .i64 p0)] (fun (r : (Option Addr) × Int) => (Value.tuple #[(Value.pointer r.1), (Value.int .i64 r.2)])) w1 fun r5 w2 =>
    callC Try.prog 9 #[(Value.int .i64 p0)] (fun (r : (Option Addr) × Int) => (Value.tuple #[(Value.pointer r.1), (Value.int .i64 r.2)])) w2 fun r6 w3 =>
    callC Try.prog 10 #[(Value.int .i64 p0)] (fun (r : (Option Addr) × Int) => (Value.tuple #[(Value.pointer r.1), (Value.int .i64 r.2)])) w3 fun r7 w4 =>
    callC Try.prog 11 #[(Value.int .i64 p0)] (fun (r : (Option Addr) × Int) => (Value.tuple #[(Value.pointer r.1), (Value.int .i64 r.2)])) w4 fun r8 w5 =>
    cnd ((((!decide (r5.2 = r6.2)) || (!decide (r7.2 = r8.2))) || (!(r5.1.isNone == r6.1.isNone))) || (!(r7.1.isNone == r8.1.isNone)))
      (
      K false w5
      )
      (
      cnd (((r5.1.isNone || r6.1.isNone) || r7.1.isNone) || r8.1.isNone)
        (
        K r1 w5
        )
        (
        lp (fun (next23 : Int → World → Prop) l23 w6 =>
          cnd (decide (l23 < (p1.len : Int)))
            (
            jn (fun (J25 : Unit → World → Prop) =>
              ix p1 l23 1 fun p27 =>
              ld (Value.int .i64) p27 w6 fun x28 =>
              cnd (decide (x28 = (-1)))
                (
                callC Try.prog 12 #[(Value.pointer r5.1)] (fun (r : Int × Int) => (Value.tuple #[(Value.int .i64 r.1), (Value.int .i64 r.2)])) w6 fun r30 w8 =>
                callC Try.prog 13 #[(Value.pointer r6.1)] (fun (r : Int × Int) => (Value.tuple #[(Value.int .i64 r.1), (Value.int .i64 r.2)])) w8 fun r31 w9 =>
                cnd ((!decide (r30.1 = r31.1)) || (!decide (r30.2 = r31.2)))
                  (
                  K false w9
                  )
                  (
                  J25 () w9
                  )
                )
                (
                jn (fun (J36 : Bool → World → Prop) => tk w6 fun w10 =>
                  ix p1 l23 1 fun p37 =>
                  ld (Value.int .i64) p37 w10 fun x38 =>
                  ix p1 l23 1 fun p39 =>
                  ld (Value.int .i64) p39 w10 fun x40 =>
                  callC Try.prog 14 #[(Value.pointer r5.1), (Value.int .i64 x38)] (fun (r : Int) => (Value.int .i64 r)) w10 fun r41 w11 =>
                  (w11.cell? p39 = some (Value.int .i64 x40)) ∧
                  callC Try.prog 15 #[(Value.pointer r6.1), (Value.int .i64 x40)] (fun (r : Int) => (Value.int .i64 r)) w11 fun r42 w12 =>
                  J36 (!decide (r41 = r42)) w12
                )
                fun l43 w13 =>
                cnd (l43)
                  (
                  K false w13
                  )
                  (
                  J25 () w13
                  )
                )
            )
            fun _l26 w7 =>
            jn (fun (J46 : Bool → World → Prop) => tk w7 fun w14 =>
              callC Try.prog 17 #[(Value.pointer r5.1)] (fun (r : Sl) => (Sl.v r)) w14 fun r47 w15 =>
              callC Try.prog 18 #[(Value.pointer r6.1)] (fun (r : Sl) => (Sl.v r)) w15 fun r48 w16 =>
              callC Try.prog 16 #[(Sl.v r47), (Sl.v r48)] (fun (r : Bool) => (Value.bool r)) w16 fun r49 w17 =>
              cnd (!r49)
                (
                J46 true w17
                )
                (
                nn r6.1 fun a51 =>
                ld (Value.int .i64) (a51.add 1) w17 fun x52 =>
                nn r6.1 fun a53 =>
                ld (Value.int .i64) (a53.add 2) w17 fun x54 =>
                callC Try.prog 19 #[(Value.pointer r5.1)] (fun (r : Int) => (Value.int .i64 r)) w17 fun r55 w18 =>
                (w18.cell? (a53.add 2) = some (Value.int .i64 x54)) ∧
                (w18.cell? (a51.add 1) = some (Value.int .i64 x52)) ∧
                J46 (!decide (r55 = (IntKind.i64.wrap (x52 - x54)))) w18
                )
            )
            fun l56 w19 =>
            cnd (l56)
              (
              K false w19
              )
              (
              next23 (IntKind.i64.wrap (l23 + 1)) w19
              )
            )
            (
            lp (fun (next58 : Int → World → Prop) l58 w20 =>
              cnd (decide (l58 < (p2.len : Int)))
                (
                ix p2 l58 1 fun p60 =>
                ld (Value.int .i64) p60 w20 fun x61 =>
                callC Try.prog 20 #[(Value.pointer r7.1), (Value.int .i64 x61)] (fun (r : Sl × Int) => (Value.tuple #[(Sl.v r.1), (Value.int .i64 r.2)])) w20 fun r62 w21 =>
                ix p2 l58 1 fun p63 =>
                ld (Value.int .i64) p63 w21 fun x64 =>
                callC Try.prog 21 #[(Value.pointer r8.1), (Value.int .i64 x64)] (fun (r : Sl × Int) => (Value.tuple #[(Sl.v r.1), (Value.int .i64 r.2)])) w21 fun r65 w22 =>
                jn (fun (J67 : Bool → World → Prop) => tk w22 fun w23 =>
                  callC Try.prog 16 #[(Sl.v r62.1), (Sl.v r65.1)] (fun (r : Bool) => (Value.bool r)) w23 fun r68 w24 =>
                  cnd (!r68)
                    (
                    cnd (true)
                      (
                      J67 true w24
                      )
                      (
                      nn r8.1 fun a71 =>
                      ld (Value.int .i64) (a71.add 1) w24 fun x72 =>
                      callC Try.prog 22 #[(Value.pointer r7.1)] (fun (r : Int) => (Value.int .i64 r)) w24 fun r73 w25 =>
                      (w25.cell? (a71.add 1) = some (Value.int .i64 x72)) ∧
                      J67 (!decide (r73 = x72)) w25
                      )
                    )
                    (
                    cnd (!decide (r62.2 = r65.2))
                      (
                      J67 true w24
                      )
                      (
                      nn r8.1 fun a75 =>
                      ld (Value.int .i64) (a75.add 1) w24 fun x76 =>
                      callC Try.prog 22 #[(Value.pointer r7.1)] (fun (r : Int) => (Value.int .i64 r)) w24 fun r77 w26 =>
                      (w26.cell? (a75.add 1) = some (Value.int .i64 x76)) ∧
                      J67 (!decide (r77 = x76)) w26
                      )
                    )
                )
                fun l78 w27 =>
                cnd (l78)
                  (
                  K false w27
                  )
                  (
                  next58 (IntKind.i64.wrap (l58 + 1)) w27
                  )
                )
                (
                K r1 w20
                )
            ) 0 w6
            )
        ) 0 w5
        )
      )
    )
set_option maxRecDepth 100000 in
theorem D3 (p0 : Int) (p1 : Sl) (p2 : Sl) (w0 : World) (K : Bool → World → Prop) (h : F3 p0 p1 p2 w0 K) : callC Try.prog 3 #[(Value.int .i64 p0), (Sl.v p1), (Sl.v p2)] (fun (r : Bool) => (Value.bool r)) w0 K := by
  unfold F3 at h
  refine calls_of_wpC Try.func3 rfl 198 rfl (by simp) ?_
  intro ρ hρ
  have e0 : ρ 0 = (Value.int .i64 p0) := hρ 0
  have e1 : ρ 1 = (Sl.v p1) := hρ 1
  have e2 : ρ 2 = (Sl.v p2) := hρ 2
  clear hρ
  refine wpC_seq ?_
  refine wpC_region ?_
  refine wpR_val (v := (Value.bool false)) (w' := w0) rfl rfl rfl (x_assign (v := (Value.bool false)) rfl rfl) ?_
  refine wpR_nil ?_
  refine wpC_seq ?_
  refine wpC_cut (fun ρ => ρ 0 = (Value.int .i64 p0) ∧ ρ 1 = (Sl.v p1) ∧ ρ 2 = (Sl.v p2) ∧ True) ⟨e0, e1, e2, trivial⟩ ?_
  rintro ρ ⟨e0, e1, e2, -⟩
  refine wpC_region ?_
  refine wpR_enter rfl rfl rfl (x_call (vs := []) rfl rfl mapl_nil Try.func7 NN_7 NB_7) (Calls.mono h ?_)
  rintro _ w1 ⟨r1, rfl, h⟩
  refine ⟨_, rfl, ?_⟩
  refine wpR_val (v := (Value.bool r1)) (w' := w1) rfl rfl rfl (x_assign (v := (Value.bool r1)) rfl rfl) ?_
  refine wpR_nil ?_
  refine wpC_seq ?_
  refine wpC_seq ?_
  refine wpC_cut (fun ρ => ρ 0 = (Value.int .i64 p0) ∧ ρ 1 = (Sl.v p1) ∧ ρ 2 = (Sl.v p2) ∧ ρ 7 = (Value.bool r1) ∧ True) ⟨e0, e1, e2, rfl, trivial⟩ ?_
  rintro ρ ⟨e0, e1, e2, e7, -⟩
  refine wpC_region ?_
  refine wpR_val (v := (Sl.v p1)) (w' := w1) rfl rfl rfl (x_move (v := (Sl.v p1)) rfl e1) ?_
  refine wpR_val (v := (Value.int .i64 (p1.len : Int))) (w' := w1) rfl rfl rfl (x_lenS (s := p1) rfl rfl isSliceT_22) ?_
  refine wpR_val (v := (Value.bool (decide (80 < (p1.len : Int))))) (w' := w1) rfl rfl rfl (x_gtr rfl rfl rfl) ?_
  refine wpR_val (v := (Value.bool (decide (80 < (p1.len : Int))))) (w' := w1) rfl rfl rfl (x_move (v := (Value.bool (decide (80 < (p1.len : Int))))) rfl rfl) ?_
  refine wpR_joinJ 4 (fun (_ : Unit) ρ => ρ 34 = Value.bool ((decide (80 < (p1.len : Int))) || (decide (80 < (p2.len : Int)))) ∧ ρ 0 = (Value.int .i64 p0) ∧ ρ 1 = (Sl.v p1) ∧ ρ 2 = (Sl.v p2) ∧ ρ 7 = (Value.bool r1) ∧ True) (fun _ w => w1 = w) ?_ ?_
  · clear h
    rcases Bool.eq_false_or_eq_true (decide (80 < (p1.len : Int))) with hc3 | hc3
    · skip
      refine wpR_pass (wantN rfl rfl rfl hc3) rfl rfl ?_
      refine wpR_pass (wantN rfl rfl rfl hc3) rfl rfl ?_
      refine wpR_pass (wantN rfl rfl rfl hc3) rfl rfl ?_
      refine wpR_val (v := (Value.bool true)) (w' := w1) rfl rfl rfl (x_pickT (v := (Value.bool true)) rfl rfl hc3 rfl) ?_
      refine wpR_nil ?_
      exact ⟨(), ⟨(by rw [hc3]; rfl), e0, e1, e2, e7, trivial⟩, rfl⟩
    · skip
      refine wpR_val (v := (Sl.v p2)) (w' := w1) (wantG rfl rfl rfl hc3) rfl rfl (x_move (v := (Sl.v p2)) rfl e2) ?_
      refine wpR_val (v := (Value.int .i64 (p2.len : Int))) (w' := w1) (wantG rfl rfl rfl hc3) rfl rfl (x_lenS (s := p2) rfl rfl isSliceT_22) ?_
      refine wpR_val (v := (Value.bool (decide (80 < (p2.len : Int))))) (w' := w1) (wantG rfl rfl rfl hc3) rfl rfl (x_gtr rfl rfl rfl) ?_
      refine wpR_val (v := (Value.bool (decide (80 < (p2.len : Int))))) (w' := w1) rfl rfl rfl (x_pickF (v := (Value.bool (decide (80 < (p2.len : Int))))) rfl rfl hc3 rfl) ?_
      refine wpR_nil ?_
      exact ⟨(), ⟨(by rw [hc3]; rfl), e0, e1, e2, e7, trivial⟩, rfl⟩
  rintro _ ρ wj ⟨e34, e0, e1, e2, e7, -⟩ rfl
  refine wpR_nil ?_
  refine wpC_cond (b := (decide (80 < (p1.len : Int))) || (decide (80 < (p2.len : Int)))) e34 (fun hc4 => ?_) (fun hc4 => ?_)
  · replace h := h.1 hc4
    refine wpC_seq ?_
    refine wpC_region ?_
    refine wpR_val (v := (Value.bool r1)) (w' := w1) rfl rfl rfl (x_move (v := (Value.bool r1)) rfl e7) ?_
    refine wpR_val (v := (Value.bool r1)) (w' := w1) rfl rfl rfl (x_assign (v := (Value.bool r1)) rfl rfl) ?_
    refine wpR_nil ?_
    refine wpC_ret ?_
    exact ⟨.inl rfl, fun a ha => ⟨_, results_rep1 rfl ha rfl, r1, rfl, h⟩⟩
  · replace h := h.2 hc4
    refine wpC_skip ?_
    refine wpC_seq ?_
    refine wpC_region ?_
    refine wpR_val (v := (Value.int .i64 p0)) (w' := w1) rfl rfl rfl (x_move (v := (Value.int .i64 p0)) rfl e0) ?_
    refine wpR_enter rfl rfl rfl (x_call (vs := [(Value.int .i64 p0)]) rfl rfl (mapl_cons rfl mapl_nil) Try.func8 NN_8 NB_8) (Calls.mono h ?_)
    rintro _ w2 ⟨r5, rfl, h⟩
    refine ⟨_, rfl, ?_⟩
    refine wpR_val (v := (Value.tuple #[(Value.pointer r5.1), (Value.int .i64 r5.2)])) (w' := w2) rfl rfl rfl (x_move (v := (Value.tuple #[(Value.pointer r5.1), (Value.int .i64 r5.2)])) rfl rfl) ?_
    refine wpR_val (v := (Value.pointer r5.1)) (w' := w2) rfl rfl rfl (x_extract rfl rfl rfl) ?_
    refine wpR_val (v := (Value.int .i64 r5.2)) (w' := w2) rfl rfl rfl (x_extract rfl rfl rfl) ?_
    refine wpR_val (v := (Value.pointer r5.1)) (w' := w2) rfl rfl rfl (x_assign (v := (Value.pointer r5.1)) rfl rfl) ?_
    refine wpR_val (v := (Value.int .i64 r5.2)) (w' := w2) rfl rfl rfl (x_assign (v := (Value.int .i64 r5.2)) rfl rfl) ?_
    refine wpR_nil ?_
    refine wpC_seq ?_
    refine wpC_cut (fun ρ => ρ 0 = (Value.int .i64 p0) ∧ ρ 1 = (Sl.v p1) ∧ ρ 2 = (Sl.v p2) ∧ ρ 7 = (Value.bool r1) ∧ ρ 8 = (Value.pointer r5.1) ∧ ρ 9 = (Value.int .i64 r5.2) ∧ True) ⟨e0, e1, e2, e7, rfl, rfl, trivial⟩ ?_
    rintro ρ ⟨e0, e1, e2, e7, e8, e9, -⟩
    refine wpC_region ?_
    refine wpR_val (v := (Value.int .i64 p0)) (w' := w2) rfl rfl rfl (x_move (v := (Value.int .i64 p0)) rfl e0) ?_
    refine wpR_enter rfl rfl rfl (x_call (vs := [(Value.int .i64 p0)]) rfl rfl (mapl_cons rfl mapl_nil) Try.func9 NN_9 NB_9) (Calls.mono h ?_)
    rintro _ w3 ⟨r6, rfl, h⟩
    refine ⟨_, rfl, ?_⟩
    refine wpR_val (v := (Value.tuple #[(Value.pointer r6.1), (Value.int .i64 r6.2)])) (w' := w3) rfl rfl rfl (x_move (v := (Value.tuple #[(Value.pointer r6.1), (Value.int .i64 r6.2)])) rfl rfl) ?_
    refine wpR_val (v := (Value.pointer r6.1)) (w' := w3) rfl rfl rfl (x_extract rfl rfl rfl) ?_
    refine wpR_val (v := (Value.int .i64 r6.2)) (w' := w3) rfl rfl rfl (x_extract rfl rfl rfl) ?_
    refine wpR_val (v := (Value.pointer r6.1)) (w' := w3) rfl rfl rfl (x_assign (v := (Value.pointer r6.1)) rfl rfl) ?_
    refine wpR_val (v := (Value.int .i64 r6.2)) (w' := w3) rfl rfl rfl (x_assign (v := (Value.int .i64 r6.2)) rfl rfl) ?_
    refine wpR_nil ?_
    refine wpC_seq ?_
    refine wpC_cut (fun ρ => ρ 0 = (Value.int .i64 p0) ∧ ρ 1 = (Sl.v p1) ∧ ρ 2 = (Sl.v p2) ∧ ρ 7 = (Value.bool r1) ∧ ρ 8 = (Value.pointer r5.1) ∧ ρ 9 = (Value.int .i64 r5.2) ∧ ρ 10 = (Value.pointer r6.1) ∧ ρ 11 = (Value.int .i64 r6.2) ∧ True) ⟨e0, e1, e2, e7, e8, e9, rfl, rfl, trivial⟩ ?_
    rintro ρ ⟨e0, e1, e2, e7, e8, e9, e10, e11, -⟩
    refine wpC_region ?_
    refine wpR_val (v := (Value.int .i64 p0)) (w' := w3) rfl rfl rfl (x_move (v := (Value.int .i64 p0)) rfl e0) ?_
    refine wpR_enter rfl rfl rfl (x_call (vs := [(Value.int .i64 p0)]) rfl rfl (mapl_cons rfl mapl_nil) Try.func10 NN_10 NB_10) (Calls.mono h ?_)
    rintro _ w4 ⟨r7, rfl, h⟩
    refine ⟨_, rfl, ?_⟩
    refine wpR_val (v := (Value.tuple #[(Value.pointer r7.1), (Value.int .i64 r7.2)])) (w' := w4) rfl rfl rfl (x_move (v := (Value.tuple #[(Value.pointer r7.1), (Value.int .i64 r7.2)])) rfl rfl) ?_
    refine wpR_val (v := (Value.pointer r7.1)) (w' := w4) rfl rfl rfl (x_extract rfl rfl rfl) ?_
    refine wpR_val (v := (Value.int .i64 r7.2)) (w' := w4) rfl rfl rfl (x_extract rfl rfl rfl) ?_
    refine wpR_val (v := (Value.pointer r7.1)) (w' := w4) rfl rfl rfl (x_assign (v := (Value.pointer r7.1)) rfl rfl) ?_
    refine wpR_val (v := (Value.int .i64 r7.2)) (w' := w4) rfl rfl rfl (x_assign (v := (Value.int .i64 r7.2)) rfl rfl) ?_
    refine wpR_nil ?_
    refine wpC_seq ?_
    refine wpC_cut (fun ρ => ρ 0 = (Value.int .i64 p0) ∧ ρ 1 = (Sl.v p1) ∧ ρ 2 = (Sl.v p2) ∧ ρ 7 = (Value.bool r1) ∧ ρ 8 = (Value.pointer r5.1) ∧ ρ 9 = (Value.int .i64 r5.2) ∧ ρ 10 = (Value.pointer r6.1) ∧ ρ 11 = (Value.int .i64 r6.2) ∧ ρ 12 = (Value.pointer r7.1) ∧ ρ 13 = (Value.int .i64 r7.2) ∧ True) ⟨e0, e1, e2, e7, e8, e9, e10, e11, rfl, rfl, trivial⟩ ?_
    rintro ρ ⟨e0, e1, e2, e7, e8, e9, e10, e11, e12, e13, -⟩
    refine wpC_region ?_
    refine wpR_val (v := (Value.int .i64 p0)) (w' := w4) rfl rfl rfl (x_move (v := (Value.int .i64 p0)) rfl e0) ?_
    refine wpR_enter rfl rfl rfl (x_call (vs := [(Value.int .i64 p0)]) rfl rfl (mapl_cons rfl mapl_nil) Try.func11 NN_11 NB_11) (Calls.mono h ?_)
    rintro _ w5 ⟨r8, rfl, h⟩
    refine ⟨_, rfl, ?_⟩
    refine wpR_val (v := (Value.tuple #[(Value.pointer r8.1), (Value.int .i64 r8.2)])) (w' := w5) rfl rfl rfl (x_move (v := (Value.tuple #[(Value.pointer r8.1), (Value.int .i64 r8.2)])) rfl rfl) ?_
    refine wpR_val (v := (Value.pointer r8.1)) (w' := w5) rfl rfl rfl (x_extract rfl rfl rfl) ?_
    refine wpR_val (v := (Value.int .i64 r8.2)) (w' := w5) rfl rfl rfl (x_extract rfl rfl rfl) ?_
    refine wpR_val (v := (Value.pointer r8.1)) (w' := w5) rfl rfl rfl (x_assign (v := (Value.pointer r8.1)) rfl rfl) ?_
    refine wpR_val (v := (Value.int .i64 r8.2)) (w' := w5) rfl rfl rfl (x_assign (v := (Value.int .i64 r8.2)) rfl rfl) ?_
    refine wpR_nil ?_
    refine wpC_seq ?_
    refine wpC_seq ?_
    refine wpC_cut (fun ρ => ρ 1 = (Sl.v p1) ∧ ρ 2 = (Sl.v p2) ∧ ρ 7 = (Value.bool r1) ∧ ρ 8 = (Value.pointer r5.1) ∧ ρ 9 = (Value.int .i64 r5.2) ∧ ρ 10 = (Value.pointer r6.1) ∧ ρ 11 = (Value.int .i64 r6.2) ∧ ρ 12 = (Value.pointer r7.1) ∧ ρ 13 = (Value.int .i64 r7.2) ∧ ρ 14 = (Value.pointer r8.1) ∧ ρ 15 = (Value.int .i64 r8.2) ∧ True) ⟨e1, e2, e7, e8, e9, e10, e11, e12, e13, rfl, rfl, trivial⟩ ?_
    rintro ρ ⟨e1, e2, e7, e8, e9, e10, e11, e12, e13, e14, e15, -⟩
    refine wpC_region ?_
    refine wpR_val (v := (Value.int .i64 r5.2)) (w' := w5) rfl rfl rfl (x_move (v := (Value.int .i64 r5.2)) rfl e9) ?_
    refine wpR_val (v := (Value.int .i64 r6.2)) (w' := w5) rfl rfl rfl (x_move (v := (Value.int .i64 r6.2)) rfl e11) ?_
    refine wpR_val (v := (Value.bool (!decide (r5.2 = r6.2)))) (w' := w5) rfl rfl rfl (x_neq rfl rfl rfl) ?_
    refine wpR_val (v := (Value.bool (!decide (r5.2 = r6.2)))) (w' := w5) rfl rfl rfl (x_move (v := (Value.bool (!decide (r5.2 = r6.2)))) rfl rfl) ?_
    refine wpR_joinJ 4 (fun (_ : Unit) ρ => ρ 63 = Value.bool ((!decide (r5.2 = r6.2)) || (!decide (r7.2 = r8.2))) ∧ ρ 1 = (Sl.v p1) ∧ ρ 2 = (Sl.v p2) ∧ ρ 7 = (Value.bool r1) ∧ ρ 8 = (Value.pointer r5.1) ∧ ρ 10 = (Value.pointer r6.1) ∧ ρ 12 = (Value.pointer r7.1) ∧ ρ 14 = (Value.pointer r8.1) ∧ True) (fun _ w => w5 = w) ?_ ?_
    · clear h
      rcases Bool.eq_false_or_eq_true (!decide (r5.2 = r6.2)) with hc10 | hc10
      · skip
        refine wpR_pass (wantN rfl rfl rfl hc10) rfl rfl ?_
        refine wpR_pass (wantN rfl rfl rfl hc10) rfl rfl ?_
        refine wpR_pass (wantN rfl rfl rfl hc10) rfl rfl ?_
        refine wpR_val (v := (Value.bool true)) (w' := w5) rfl rfl rfl (x_pickT (v := (Value.bool true)) rfl rfl hc10 rfl) ?_
        refine wpR_nil ?_
        exact ⟨(), ⟨(by rw [hc10]; rfl), e1, e2, e7, e8, e10, e12, e14, trivial⟩, rfl⟩
      · skip
        refine wpR_val (v := (Value.int .i64 r7.2)) (w' := w5) (wantG rfl rfl rfl hc10) rfl rfl (x_move (v := (Value.int .i64 r7.2)) rfl e13) ?_
        refine wpR_val (v := (Value.int .i64 r8.2)) (w' := w5) (wantG rfl rfl rfl hc10) rfl rfl (x_move (v := (Value.int .i64 r8.2)) rfl e15) ?_
        refine wpR_val (v := (Value.bool (!decide (r7.2 = r8.2)))) (w' := w5) (wantG rfl rfl rfl hc10) rfl rfl (x_neq rfl rfl rfl) ?_
        refine wpR_val (v := (Value.bool (!decide (r7.2 = r8.2)))) (w' := w5) rfl rfl rfl (x_pickF (v := (Value.bool (!decide (r7.2 = r8.2)))) rfl rfl hc10 rfl) ?_
        refine wpR_nil ?_
        exact ⟨(), ⟨(by rw [hc10]; rfl), e1, e2, e7, e8, e10, e12, e14, trivial⟩, rfl⟩
    rintro _ ρ wj ⟨e63, e1, e2, e7, e8, e10, e12, e14, -⟩ rfl
    refine wpR_val (v := (Value.bool ((!decide (r5.2 = r6.2)) || (!decide (r7.2 = r8.2))))) (w' := w5) rfl rfl rfl (x_move (v := (Value.bool ((!decide (r5.2 = r6.2)) || (!decide (r7.2 = r8.2))))) rfl e63) ?_
    refine wpR_joinJ 6 (fun (_ : Unit) ρ => ρ 70 = Value.bool (((!decide (r5.2 = r6.2)) || (!decide (r7.2 = r8.2))) || (!(r5.1.isNone == r6.1.isNone))) ∧ ρ 1 = (Sl.v p1) ∧ ρ 2 = (Sl.v p2) ∧ ρ 7 = (Value.bool r1) ∧ ρ 8 = (Value.pointer r5.1) ∧ ρ 10 = (Value.pointer r6.1) ∧ ρ 12 = (Value.pointer r7.1) ∧ ρ 14 = (Value.pointer r8.1) ∧ True) (fun _ w => w5 = w) ?_ ?_
    · clear h
      rcases Bool.eq_false_or_eq_true ((!decide (r5.2 = r6.2)) || (!decide (r7.2 = r8.2))) with hc12 | hc12
      · skip
        refine wpR_pass (wantN rfl rfl rfl hc12) rfl rfl ?_
        refine wpR_pass (wantN rfl rfl rfl hc12) rfl rfl ?_
        refine wpR_pass (wantN rfl rfl rfl hc12) rfl rfl ?_
        refine wpR_pass (wantN rfl rfl rfl hc12) rfl rfl ?_
        refine wpR_pass (wantN rfl rfl rfl hc12) rfl rfl ?_
        refine wpR_val (v := (Value.bool true)) (w' := w5) rfl rfl rfl (x_pickT (v := (Value.bool true)) rfl rfl hc12 rfl) ?_
        refine wpR_nil ?_
        exact ⟨(), ⟨(by rw [hc12]; rfl), e1, e2, e7, e8, e10, e12, e14, trivial⟩, rfl⟩
      · skip
        refine wpR_val (v := (Value.pointer r5.1)) (w' := w5) (wantG rfl rfl rfl hc12) rfl rfl (x_move (v := (Value.pointer r5.1)) rfl e8) ?_
        refine wpR_val (v := (Value.bool r5.1.isNone)) (w' := w5) (wantG rfl rfl rfl hc12) rfl rfl (x_eqlNil rfl rfl rfl isPtrT_24) ?_
        refine wpR_val (v := (Value.pointer r6.1)) (w' := w5) (wantG rfl rfl rfl hc12) rfl rfl (x_move (v := (Value.pointer r6.1)) rfl e10) ?_
        refine wpR_val (v := (Value.bool r6.1.isNone)) (w' := w5) (wantG rfl rfl rfl hc12) rfl rfl (x_eqlNil rfl rfl rfl isPtrT_28) ?_
        refine wpR_val (v := (Value.bool (!(r5.1.isNone == r6.1.isNone)))) (w' := w5) (wantG rfl rfl rfl hc12) rfl rfl (x_neqB rfl rfl rfl isBoolT_4) ?_
        refine wpR_val (v := (Value.bool (!(r5.1.isNone == r6.1.isNone)))) (w' := w5) rfl rfl rfl (x_pickF (v := (Value.bool (!(r5.1.isNone == r6.1.isNone)))) rfl rfl hc12 rfl) ?_
        refine wpR_nil ?_
        exact ⟨(), ⟨(by rw [hc12]; rfl), e1, e2, e7, e8, e10, e12, e14, trivial⟩, rfl⟩
    rintro _ ρ wj ⟨e70, e1, e2, e7, e8, e10, e12, e14, -⟩ rfl
    refine wpR_val (v := (Value.bool (((!decide (r5.2 = r6.2)) || (!decide (r7.2 = r8.2))) || (!(r5.1.isNone == r6.1.isNone))))) (w' := w5) rfl rfl rfl (x_move (v := (Value.bool (((!decide (r5.2 = r6.2)) || (!decide (r7.2 = r8.2))) || (!(r5.1.isNone == r6.1.isNone))))) rfl e70) ?_
    refine wpR_joinJ 6 (fun (_ : Unit) ρ => ρ 77 = Value.bool ((((!decide (r5.2 = r6.2)) || (!decide (r7.2 = r8.2))) || (!(r5.1.isNone == r6.1.isNone))) || (!(r7.1.isNone == r8.1.isNone))) ∧ ρ 1 = (Sl.v p1) ∧ ρ 2 = (Sl.v p2) ∧ ρ 7 = (Value.bool r1) ∧ ρ 8 = (Value.pointer r5.1) ∧ ρ 10 = (Value.pointer r6.1) ∧ ρ 12 = (Value.pointer r7.1) ∧ ρ 14 = (Value.pointer r8.1) ∧ True) (fun _ w => w5 = w) ?_ ?_
    · clear h
      rcases Bool.eq_false_or_eq_true (((!decide (r5.2 = r6.2)) || (!decide (r7.2 = r8.2))) || (!(r5.1.isNone == r6.1.isNone))) with hc14 | hc14
      · skip
        refine wpR_pass (wantN rfl rfl rfl hc14) rfl rfl ?_
        refine wpR_pass (wantN rfl rfl rfl hc14) rfl rfl ?_
        refine wpR_pass (wantN rfl rfl rfl hc14) rfl rfl ?_
        refine wpR_pass (wantN rfl rfl rfl hc14) rfl rfl ?_
        refine wpR_pass (wantN rfl rfl rfl hc14) rfl rfl ?_
        refine wpR_val (v := (Value.bool true)) (w' := w5) rfl rfl rfl (x_pickT (v := (Value.bool true)) rfl rfl hc14 rfl) ?_
        refine wpR_nil ?_
        exact ⟨(), ⟨(by rw [hc14]; rfl), e1, e2, e7, e8, e10, e12, e14, trivial⟩, rfl⟩
      · skip
        refine wpR_val (v := (Value.pointer r7.1)) (w' := w5) (wantG rfl rfl rfl hc14) rfl rfl (x_move (v := (Value.pointer r7.1)) rfl e12) ?_
        refine wpR_val (v := (Value.bool r7.1.isNone)) (w' := w5) (wantG rfl rfl rfl hc14) rfl rfl (x_eqlNil rfl rfl rfl isPtrT_31) ?_
        refine wpR_val (v := (Value.pointer r8.1)) (w' := w5) (wantG rfl rfl rfl hc14) rfl rfl (x_move (v := (Value.pointer r8.1)) rfl e14) ?_
        refine wpR_val (v := (Value.bool r8.1.isNone)) (w' := w5) (wantG rfl rfl rfl hc14) rfl rfl (x_eqlNil rfl rfl rfl isPtrT_34) ?_
        refine wpR_val (v := (Value.bool (!(r7.1.isNone == r8.1.isNone)))) (w' := w5) (wantG rfl rfl rfl hc14) rfl rfl (x_neqB rfl rfl rfl isBoolT_4) ?_
        refine wpR_val (v := (Value.bool (!(r7.1.isNone == r8.1.isNone)))) (w' := w5) rfl rfl rfl (x_pickF (v := (Value.bool (!(r7.1.isNone == r8.1.isNone)))) rfl rfl hc14 rfl) ?_
        refine wpR_nil ?_
        exact ⟨(), ⟨(by rw [hc14]; rfl), e1, e2, e7, e8, e10, e12, e14, trivial⟩, rfl⟩
    rintro _ ρ wj ⟨e77, e1, e2, e7, e8, e10, e12, e14, -⟩ rfl
    refine wpR_nil ?_
    refine wpC_cond (b := (((!decide (r5.2 = r6.2)) || (!decide (r7.2 = r8.2))) || (!(r5.1.isNone == r6.1.isNone))) || (!(r7.1.isNone == r8.1.isNone))) e77 (fun hc15 => ?_) (fun hc15 => ?_)
    · replace h := h.1 hc15
      refine wpC_seq ?_
      refine wpC_region ?_
      refine wpR_val (v := (Value.bool false)) (w' := w5) rfl rfl rfl (x_assign (v := (Value.bool false)) rfl rfl) ?_
      refine wpR_nil ?_
      refine wpC_ret ?_
      exact ⟨.inl rfl, fun a ha => ⟨_, results_rep1 rfl ha rfl, false, rfl, h⟩⟩
    · replace h := h.2 hc15
      refine wpC_skip ?_
      refine wpC_seq ?_
      refine wpC_seq ?_
      refine wpC_region ?_
      refine wpR_val (v := (Value.pointer r5.1)) (w' := w5) rfl rfl rfl (x_move (v := (Value.pointer r5.1)) rfl e8) ?_
      refine wpR_val (v := (Value.bool r5.1.isNone)) (w' := w5) rfl rfl rfl (x_eqlNil rfl rfl rfl isPtrT_24) ?_
      refine wpR_val (v := (Value.bool r5.1.isNone)) (w' := w5) rfl rfl rfl (x_move (v := (Value.bool r5.1.isNone)) rfl rfl) ?_
      refine wpR_joinJ 3 (fun (_ : Unit) ρ => ρ 83 = Value.bool (r5.1.isNone || r6.1.isNone) ∧ ρ 1 = (Sl.v p1) ∧ ρ 2 = (Sl.v p2) ∧ ρ 7 = (Value.bool r1) ∧ ρ 8 = (Value.pointer r5.1) ∧ ρ 10 = (Value.pointer r6.1) ∧ ρ 12 = (Value.pointer r7.1) ∧ ρ 14 = (Value.pointer r8.1) ∧ True) (fun _ w => w5 = w) ?_ ?_
      · clear h
        rcases Bool.eq_false_or_eq_true (r5.1.isNone) with hc17 | hc17
        · skip
          refine wpR_pass (wantN rfl rfl rfl hc17) rfl rfl ?_
          refine wpR_pass (wantN rfl rfl rfl hc17) rfl rfl ?_
          refine wpR_val (v := (Value.bool true)) (w' := w5) rfl rfl rfl (x_pickT (v := (Value.bool true)) rfl rfl hc17 rfl) ?_
          refine wpR_nil ?_
          exact ⟨(), ⟨(by rw [hc17]; rfl), e1, e2, e7, e8, e10, e12, e14, trivial⟩, rfl⟩
        · skip
          refine wpR_val (v := (Value.pointer r6.1)) (w' := w5) (wantG rfl rfl rfl hc17) rfl rfl (x_move (v := (Value.pointer r6.1)) rfl e10) ?_
          refine wpR_val (v := (Value.bool r6.1.isNone)) (w' := w5) (wantG rfl rfl rfl hc17) rfl rfl (x_eqlNil rfl rfl rfl isPtrT_28) ?_
          refine wpR_val (v := (Value.bool r6.1.isNone)) (w' := w5) rfl rfl rfl (x_pickF (v := (Value.bool r6.1.isNone)) rfl rfl hc17 rfl) ?_
          refine wpR_nil ?_
          exact ⟨(), ⟨(by rw [hc17]; rfl), e1, e2, e7, e8, e10, e12, e14, trivial⟩, rfl⟩
      rintro _ ρ wj ⟨e83, e1, e2, e7, e8, e10, e12, e14, -⟩ rfl
      refine wpR_val (v := (Value.bool (r5.1.isNone || r6.1.isNone))) (w' := w5) rfl rfl rfl (x_move (v := (Value.bool (r5.1.isNone || r6.1.isNone))) rfl e83) ?_
      refine wpR_joinJ 3 (fun (_ : Unit) ρ => ρ 87 = Value.bool ((r5.1.isNone || r6.1.isNone) || r7.1.isNone) ∧ ρ 1 = (Sl.v p1) ∧ ρ 2 = (Sl.v p2) ∧ ρ 7 = (Value.bool r1) ∧ ρ 8 = (Value.pointer r5.1) ∧ ρ 10 = (Value.pointer r6.1) ∧ ρ 12 = (Value.pointer r7.1) ∧ ρ 14 = (Value.pointer r8.1) ∧ True) (fun _ w => w5 = w) ?_ ?_
      · clear h
        rcases Bool.eq_false_or_eq_true (r5.1.isNone || r6.1.isNone) with hc19 | hc19
        · skip
          refine wpR_pass (wantN rfl rfl rfl hc19) rfl rfl ?_
          refine wpR_pass (wantN rfl rfl rfl hc19) rfl rfl ?_
          refine wpR_val (v := (Value.bool true)) (w' := w5) rfl rfl rfl (x_pickT (v := (Value.bool true)) rfl rfl hc19 rfl) ?_
          refine wpR_nil ?_
          exact ⟨(), ⟨(by rw [hc19]; rfl), e1, e2, e7, e8, e10, e12, e14, trivial⟩, rfl⟩
        · skip
          refine wpR_val (v := (Value.pointer r7.1)) (w' := w5) (wantG rfl rfl rfl hc19) rfl rfl (x_move (v := (Value.pointer r7.1)) rfl e12) ?_
          refine wpR_val (v := (Value.bool r7.1.isNone)) (w' := w5) (wantG rfl rfl rfl hc19) rfl rfl (x_eqlNil rfl rfl rfl isPtrT_31) ?_
          refine wpR_val (v := (Value.bool r7.1.isNone)) (w' := w5) rfl rfl rfl (x_pickF (v := (Value.bool r7.1.isNone)) rfl rfl hc19 rfl) ?_
          refine wpR_nil ?_
          exact ⟨(), ⟨(by rw [hc19]; rfl), e1, e2, e7, e8, e10, e12, e14, trivial⟩, rfl⟩
      rintro _ ρ wj ⟨e87, e1, e2, e7, e8, e10, e12, e14, -⟩ rfl
      refine wpR_val (v := (Value.bool ((r5.1.isNone || r6.1.isNone) || r7.1.isNone))) (w' := w5) rfl rfl rfl (x_move (v := (Value.bool ((r5.1.isNone || r6.1.isNone) || r7.1.isNone))) rfl e87) ?_
      refine wpR_joinJ 3 (fun (_ : Unit) ρ => ρ 91 = Value.bool (((r5.1.isNone || r6.1.isNone) || r7.1.isNone) || r8.1.isNone) ∧ ρ 1 = (Sl.v p1) ∧ ρ 2 = (Sl.v p2) ∧ ρ 7 = (Value.bool r1) ∧ ρ 8 = (Value.pointer r5.1) ∧ ρ 10 = (Value.pointer r6.1) ∧ ρ 12 = (Value.pointer r7.1) ∧ ρ 14 = (Value.pointer r8.1) ∧ True) (fun _ w => w5 = w) ?_ ?_
      · clear h
        rcases Bool.eq_false_or_eq_true ((r5.1.isNone || r6.1.isNone) || r7.1.isNone) with hc21 | hc21
        · skip
          refine wpR_pass (wantN rfl rfl rfl hc21) rfl rfl ?_
          refine wpR_pass (wantN rfl rfl rfl hc21) rfl rfl ?_
          refine wpR_val (v := (Value.bool true)) (w' := w5) rfl rfl rfl (x_pickT (v := (Value.bool true)) rfl rfl hc21 rfl) ?_
          refine wpR_nil ?_
          exact ⟨(), ⟨(by rw [hc21]; rfl), e1, e2, e7, e8, e10, e12, e14, trivial⟩, rfl⟩
        · skip
          refine wpR_val (v := (Value.pointer r8.1)) (w' := w5) (wantG rfl rfl rfl hc21) rfl rfl (x_move (v := (Value.pointer r8.1)) rfl e14) ?_
          refine wpR_val (v := (Value.bool r8.1.isNone)) (w' := w5) (wantG rfl rfl rfl hc21) rfl rfl (x_eqlNil rfl rfl rfl isPtrT_34) ?_
          refine wpR_val (v := (Value.bool r8.1.isNone)) (w' := w5) rfl rfl rfl (x_pickF (v := (Value.bool r8.1.isNone)) rfl rfl hc21 rfl) ?_
          refine wpR_nil ?_
          exact ⟨(), ⟨(by rw [hc21]; rfl), e1, e2, e7, e8, e10, e12, e14, trivial⟩, rfl⟩
      rintro _ ρ wj ⟨e91, e1, e2, e7, e8, e10, e12, e14, -⟩ rfl
      refine wpR_nil ?_
      refine wpC_cond (b := ((r5.1.isNone || r6.1.isNone) || r7.1.isNone) || r8.1.isNone) e91 (fun hc22 => ?_) (fun hc22 => ?_)
      · replace h := h.1 hc22
        refine wpC_seq ?_
        refine wpC_region ?_
        refine wpR_val (v := (Value.bool r1)) (w' := w5) rfl rfl rfl (x_move (v := (Value.bool r1)) rfl e7) ?_
        refine wpR_val (v := (Value.bool r1)) (w' := w5) rfl rfl rfl (x_assign (v := (Value.bool r1)) rfl rfl) ?_
        refine wpR_nil ?_
        refine wpC_ret ?_
        exact ⟨.inl rfl, fun a ha => ⟨_, results_rep1 rfl ha rfl, r1, rfl, h⟩⟩
      · replace h := h.2 hc22
        refine wpC_skip ?_
        refine wpC_seq ?_
        refine wpC_seq ?_
        refine wpC_region ?_
        refine wpR_val (v := (Value.int .i64 0)) (w' := w5) rfl rfl rfl (x_assign (v := (Value.int .i64 0)) rfl rfl) ?_
        refine wpR_nil ?_
        refine wpC_block ?_
        obtain ⟨I23, μ23, hI23, hr23⟩ := h
        refine wpC_loop (fun (x : Int) ρ => ρ 16 = (Value.int .i64 x) ∧ ρ 1 = (Sl.v p1) ∧ ρ 2 = (Sl.v p2) ∧ ρ 7 = (Value.bool r1) ∧ ρ 8 = (Value.pointer r5.1) ∧ ρ 10 = (Value.pointer r6.1) ∧ ρ 12 = (Value.pointer r7.1) ∧ ρ 14 = (Value.pointer r8.1) ∧ True) I23 μ23 0 ⟨rfl, e1, e2, e7, e8, e10, e12, e14, trivial⟩ hI23 ?_
        rintro l23 ρ w6 ⟨e16, e1, e2, e7, e8, e10, e12, e14, -⟩ h
        replace h := hr23 l23 w6 h
        clear hr23 hI23
        refine wpC_seq ?_
        refine wpC_seq ?_
        refine wpC_region ?_
        refine wpR_val (v := (Value.int .i64 l23)) (w' := w6) rfl rfl rfl (x_move (v := (Value.int .i64 l23)) rfl e16) ?_
        refine wpR_val (v := (Sl.v p1)) (w' := w6) rfl rfl rfl (x_move (v := (Sl.v p1)) rfl e1) ?_
        refine wpR_val (v := (Value.int .i64 (p1.len : Int))) (w' := w6) rfl rfl rfl (x_lenS (s := p1) rfl rfl isSliceT_22) ?_
        refine wpR_val (v := (Value.bool (decide (l23 < (p1.len : Int))))) (w' := w6) rfl rfl rfl (x_lss rfl rfl rfl) ?_
        refine wpR_nil ?_
        refine wpC_cond (b := decide (l23 < (p1.len : Int))) rfl (fun hc24 => ?_) (fun hc24 => ?_)
        · replace h := h.1 hc24
          refine wpC_skip ?_
          refine wpC_seq ?_
          refine wpC_block ?_
          obtain ⟨J25, h, hk⟩ := h
          refine wpC_seqJ (fun (x : Unit) ρ => ρ 1 = (Sl.v p1) ∧ ρ 2 = (Sl.v p2) ∧ ρ 7 = (Value.bool r1) ∧ ρ 8 = (Value.pointer r5.1) ∧ ρ 10 = (Value.pointer r6.1) ∧ ρ 12 = (Value.pointer r7.1) ∧ ρ 14 = (Value.pointer r8.1) ∧ ρ 16 = (Value.int .i64 l23) ∧ True) J25 ?_ ?_
          · clear hk
            refine wpC_seq ?_
            refine wpC_cut (fun ρ => ρ 1 = (Sl.v p1) ∧ ρ 2 = (Sl.v p2) ∧ ρ 7 = (Value.bool r1) ∧ ρ 8 = (Value.pointer r5.1) ∧ ρ 10 = (Value.pointer r6.1) ∧ ρ 12 = (Value.pointer r7.1) ∧ ρ 14 = (Value.pointer r8.1) ∧ ρ 16 = (Value.int .i64 l23) ∧ True) ⟨e1, e2, e7, e8, e10, e12, e14, e16, trivial⟩ ?_
            rintro ρ ⟨e1, e2, e7, e8, e10, e12, e14, e16, -⟩
            refine wpC_region ?_
            refine wpR_val (v := (Sl.v p1)) (w' := w6) rfl rfl rfl (x_move (v := (Sl.v p1)) rfl e1) ?_
            refine wpR_val (v := (Value.int .i64 l23)) (w' := w6) rfl rfl rfl (x_move (v := (Value.int .i64 l23)) rfl e16) ?_
            obtain ⟨q27, z27, r27, h⟩ := h
            generalize hp27 : z27.add ((l23 : Int).toNat * 1) = p27 at h
            refine wpR_val (v := (Value.pointer (some p27))) (w' := w6) rfl rfl rfl ((x_indexAddr (s := p1) rfl rfl rfl ES_22 q27 r27).trans (by rw [hp27])) ?_
            obtain ⟨x28, q28, h⟩ := h
            refine wpR_val (v := (Value.int .i64 x28)) (w' := w6) rfl rfl rfl (x_load1 rfl rfl SH_3 q28) ?_
            refine wpR_val (v := (Value.bool (decide (x28 = (-1))))) (w' := w6) rfl rfl rfl (x_eql rfl rfl rfl) ?_
            refine wpR_nil ?_
            refine wpC_cond (b := decide (x28 = (-1))) rfl (fun hc29 => ?_) (fun hc29 => ?_)
            · replace h := h.1 hc29
              refine wpC_seq ?_
              refine wpC_cut (fun ρ => ρ 1 = (Sl.v p1) ∧ ρ 2 = (Sl.v p2) ∧ ρ 7 = (Value.bool r1) ∧ ρ 8 = (Value.pointer r5.1) ∧ ρ 10 = (Value.pointer r6.1) ∧ ρ 12 = (Value.pointer r7.1) ∧ ρ 14 = (Value.pointer r8.1) ∧ ρ 16 = (Value.int .i64 l23) ∧ True) ⟨e1, e2, e7, e8, e10, e12, e14, e16, trivial⟩ ?_
              rintro ρ ⟨e1, e2, e7, e8, e10, e12, e14, e16, -⟩
              refine wpC_region ?_
              refine wpR_val (v := (Value.pointer r5.1)) (w' := w6) rfl rfl rfl (x_move (v := (Value.pointer r5.1)) rfl e8) ?_
              refine wpR_enter rfl rfl rfl (x_call (vs := [(Value.pointer r5.1)]) rfl rfl (mapl_cons rfl mapl_nil) Try.func12 NN_12 NB_12) (Calls.mono h ?_)
              rintro _ w8 ⟨r30, rfl, h⟩
              refine ⟨_, rfl, ?_⟩
              refine wpR_val (v := (Value.tuple #[(Value.int .i64 r30.1), (Value.int .i64 r30.2)])) (w' := w8) rfl rfl rfl (x_move (v := (Value.tuple #[(Value.int .i64 r30.1), (Value.int .i64 r30.2)])) rfl rfl) ?_
              refine wpR_val (v := (Value.int .i64 r30.1)) (w' := w8) rfl rfl rfl (x_extract rfl rfl rfl) ?_
              refine wpR_val (v := (Value.int .i64 r30.2)) (w' := w8) rfl rfl rfl (x_extract rfl rfl rfl) ?_
              refine wpR_val (v := (Value.int .i64 r30.1)) (w' := w8) rfl rfl rfl (x_assign (v := (Value.int .i64 r30.1)) rfl rfl) ?_
              refine wpR_val (v := (Value.int .i64 r30.2)) (w' := w8) rfl rfl rfl (x_assign (v := (Value.int .i64 r30.2)) rfl rfl) ?_
              refine wpR_nil ?_
              refine wpC_seq ?_
              refine wpC_cut (fun ρ => ρ 1 = (Sl.v p1) ∧ ρ 2 = (Sl.v p2) ∧ ρ 7 = (Value.bool r1) ∧ ρ 8 = (Value.pointer r5.1) ∧ ρ 10 = (Value.pointer r6.1) ∧ ρ 12 = (Value.pointer r7.1) ∧ ρ 14 = (Value.pointer r8.1) ∧ ρ 16 = (Value.int .i64 l23) ∧ ρ 17 = (Value.int .i64 r30.1) ∧ ρ 18 = (Value.int .i64 r30.2) ∧ True) ⟨e1, e2, e7, e8, e10, e12, e14, e16, rfl, rfl, trivial⟩ ?_
              rintro ρ ⟨e1, e2, e7, e8, e10, e12, e14, e16, e17, e18, -⟩
              refine wpC_region ?_
              refine wpR_val (v := (Value.pointer r6.1)) (w' := w8) rfl rfl rfl (x_move (v := (Value.pointer r6.1)) rfl e10) ?_
              refine wpR_enter rfl rfl rfl (x_call (vs := [(Value.pointer r6.1)]) rfl rfl (mapl_cons rfl mapl_nil) Try.func13 NN_13 NB_13) (Calls.mono h ?_)
              rintro _ w9 ⟨r31, rfl, h⟩
              refine ⟨_, rfl, ?_⟩
              refine wpR_val (v := (Value.tuple #[(Value.int .i64 r31.1), (Value.int .i64 r31.2)])) (w' := w9) rfl rfl rfl (x_move (v := (Value.tuple #[(Value.int .i64 r31.1), (Value.int .i64 r31.2)])) rfl rfl) ?_
              refine wpR_val (v := (Value.int .i64 r31.1)) (w' := w9) rfl rfl rfl (x_extract rfl rfl rfl) ?_
              refine wpR_val (v := (Value.int .i64 r31.2)) (w' := w9) rfl rfl rfl (x_extract rfl rfl rfl) ?_
              refine wpR_val (v := (Value.int .i64 r31.1)) (w' := w9) rfl rfl rfl (x_assign (v := (Value.int .i64 r31.1)) rfl rfl) ?_
              refine wpR_val (v := (Value.int .i64 r31.2)) (w' := w9) rfl rfl rfl (x_assign (v := (Value.int .i64 r31.2)) rfl rfl) ?_
              refine wpR_nil ?_
              refine wpC_seq ?_
              refine wpC_cut (fun ρ => ρ 1 = (Sl.v p1) ∧ ρ 2 = (Sl.v p2) ∧ ρ 7 = (Value.bool r1) ∧ ρ 8 = (Value.pointer r5.1) ∧ ρ 10 = (Value.pointer r6.1) ∧ ρ 12 = (Value.pointer r7.1) ∧ ρ 14 = (Value.pointer r8.1) ∧ ρ 16 = (Value.int .i64 l23) ∧ ρ 17 = (Value.int .i64 r30.1) ∧ ρ 18 = (Value.int .i64 r30.2) ∧ ρ 19 = (Value.int .i64 r31.1) ∧ ρ 20 = (Value.int .i64 r31.2) ∧ True) ⟨e1, e2, e7, e8, e10, e12, e14, e16, e17, e18, rfl, rfl, trivial⟩ ?_
              rintro ρ ⟨e1, e2, e7, e8, e10, e12, e14, e16, e17, e18, e19, e20, -⟩
              refine wpC_region ?_
              refine wpR_val (v := (Value.int .i64 r30.1)) (w' := w9) rfl rfl rfl (x_move (v := (Value.int .i64 r30.1)) rfl e17) ?_
              refine wpR_val (v := (Value.int .i64 r31.1)) (w' := w9) rfl rfl rfl (x_move (v := (Value.int .i64 r31.1)) rfl e19) ?_
              refine wpR_val (v := (Value.bool (!decide (r30.1 = r31.1)))) (w' := w9) rfl rfl rfl (x_neq rfl rfl rfl) ?_
              refine wpR_val (v := (Value.bool (!decide (r30.1 = r31.1)))) (w' := w9) rfl rfl rfl (x_move (v := (Value.bool (!decide (r30.1 = r31.1)))) rfl rfl) ?_
              refine wpR_joinJ 4 (fun (_ : Unit) ρ => ρ 121 = Value.bool ((!decide (r30.1 = r31.1)) || (!decide (r30.2 = r31.2))) ∧ ρ 1 = (Sl.v p1) ∧ ρ 2 = (Sl.v p2) ∧ ρ 7 = (Value.bool r1) ∧ ρ 8 = (Value.pointer r5.1) ∧ ρ 10 = (Value.pointer r6.1) ∧ ρ 12 = (Value.pointer r7.1) ∧ ρ 14 = (Value.pointer r8.1) ∧ ρ 16 = (Value.int .i64 l23) ∧ True) (fun _ w => w9 = w) ?_ ?_
              · clear h
                rcases Bool.eq_false_or_eq_true (!decide (r30.1 = r31.1)) with hc33 | hc33
                · skip
                  refine wpR_pass (wantN rfl rfl rfl hc33) rfl rfl ?_
                  refine wpR_pass (wantN rfl rfl rfl hc33) rfl rfl ?_
                  refine wpR_pass (wantN rfl rfl rfl hc33) rfl rfl ?_
                  refine wpR_val (v := (Value.bool true)) (w' := w9) rfl rfl rfl (x_pickT (v := (Value.bool true)) rfl rfl hc33 rfl) ?_
                  refine wpR_nil ?_
                  exact ⟨(), ⟨(by rw [hc33]; rfl), e1, e2, e7, e8, e10, e12, e14, e16, trivial⟩, rfl⟩
                · skip
                  refine wpR_val (v := (Value.int .i64 r30.2)) (w' := w9) (wantG rfl rfl rfl hc33) rfl rfl (x_move (v := (Value.int .i64 r30.2)) rfl e18) ?_
                  refine wpR_val (v := (Value.int .i64 r31.2)) (w' := w9) (wantG rfl rfl rfl hc33) rfl rfl (x_move (v := (Value.int .i64 r31.2)) rfl e20) ?_
                  refine wpR_val (v := (Value.bool (!decide (r30.2 = r31.2)))) (w' := w9) (wantG rfl rfl rfl hc33) rfl rfl (x_neq rfl rfl rfl) ?_
                  refine wpR_val (v := (Value.bool (!decide (r30.2 = r31.2)))) (w' := w9) rfl rfl rfl (x_pickF (v := (Value.bool (!decide (r30.2 = r31.2)))) rfl rfl hc33 rfl) ?_
                  refine wpR_nil ?_
                  exact ⟨(), ⟨(by rw [hc33]; rfl), e1, e2, e7, e8, e10, e12, e14, e16, trivial⟩, rfl⟩
              rintro _ ρ wj ⟨e121, e1, e2, e7, e8, e10, e12, e14, e16, -⟩ rfl
              refine wpR_nil ?_
              refine wpC_cond (b := (!decide (r30.1 = r31.1)) || (!decide (r30.2 = r31.2))) e121 (fun hc34 => ?_) (fun hc34 => ?_)
              · replace h := h.1 hc34
                refine wpC_seq ?_
                refine wpC_region ?_
                refine wpR_val (v := (Value.bool false)) (w' := w9) rfl rfl rfl (x_assign (v := (Value.bool false)) rfl rfl) ?_
                refine wpR_nil ?_
                refine wpC_ret ?_
                exact ⟨.inl rfl, fun a ha => ⟨_, results_rep1 rfl ha rfl, false, rfl, h⟩⟩
              · replace h := h.2 hc34
                refine wpC_skip ?_
                exact ⟨(), ⟨e1, e2, e7, e8, e10, e12, e14, e16, trivial⟩, h⟩
            · replace h := h.2 hc29
              refine wpC_seq ?_
              refine wpC_cut (fun ρ => ρ 1 = (Sl.v p1) ∧ ρ 2 = (Sl.v p2) ∧ ρ 7 = (Value.bool r1) ∧ ρ 8 = (Value.pointer r5.1) ∧ ρ 10 = (Value.pointer r6.1) ∧ ρ 12 = (Value.pointer r7.1) ∧ ρ 14 = (Value.pointer r8.1) ∧ ρ 16 = (Value.int .i64 l23) ∧ True) ⟨e1, e2, e7, e8, e10, e12, e14, e16, trivial⟩ ?_
              rintro ρ ⟨e1, e2, e7, e8, e10, e12, e14, e16, -⟩
              obtain ⟨J36, h, hk⟩ := h
              refine wpC_drawJ (by kernel_rfl) (fun (x : Bool) ρ => ρ 134 = (Value.bool x) ∧ ρ 1 = (Sl.v p1) ∧ ρ 2 = (Sl.v p2) ∧ ρ 7 = (Value.bool r1) ∧ ρ 8 = (Value.pointer r5.1) ∧ ρ 10 = (Value.pointer r6.1) ∧ ρ 12 = (Value.pointer r7.1) ∧ ρ 14 = (Value.pointer r8.1) ∧ ρ 16 = (Value.int .i64 l23) ∧ True) J36 ?_ ?_
              · clear hk
                unfold tk at h
                generalize w6.drew = w10 at h ⊢
                refine wpD_take (v := (Value.pointer r5.1)) 0 (fun _ => True) rfl (by kernel_rfl) (by kernel_rfl) (by kernel_rfl) rfl rfl rfl trivial (fun w _ => (x_move (v := (Value.pointer r5.1)) rfl e8)) ?_
                refine wpD_take (v := (Sl.v p1)) 1 (fun _ => True) rfl (by kernel_rfl) (by kernel_rfl) (by kernel_rfl) rfl rfl rfl trivial (fun w _ => (x_move (v := (Sl.v p1)) rfl e1)) ?_
                refine wpD_take (v := (Value.int .i64 l23)) 2 (fun _ => True) rfl (by kernel_rfl) (by kernel_rfl) (by kernel_rfl) rfl rfl rfl trivial (fun w _ => (x_move (v := (Value.int .i64 l23)) rfl e16)) ?_
                obtain ⟨q37, z37, r37, h⟩ := h
                generalize hp37 : z37.add ((l23 : Int).toNat * 1) = p37 at h
                refine wpD_take (v := (Value.pointer (some p37))) 3 (fun _ => True) rfl (by kernel_rfl) (by kernel_rfl) (by kernel_rfl) rfl rfl rfl trivial (fun w _ => ((x_indexAddr (s := p1) rfl rfl rfl ES_22 q37 r37).trans (by rw [hp37]))) ?_
                obtain ⟨x38, q38, h⟩ := h
                refine wpD_take (v := (Value.int .i64 x38)) 4 (fun w => w.cell? p37 = some (Value.int .i64 x38)) rfl (by kernel_rfl) (by kernel_rfl) (by kernel_rfl) rfl rfl rfl q38 (fun w q38 => (x_load1 rfl rfl SH_3 q38)) ?_
                refine wpD_take (v := (Value.pointer r6.1)) 6 (fun _ => True) rfl (by kernel_rfl) (by kernel_rfl) (by kernel_rfl) rfl rfl rfl trivial (fun w _ => (x_move (v := (Value.pointer r6.1)) rfl e10)) ?_
                refine wpD_take (v := (Sl.v p1)) 7 (fun _ => True) rfl (by kernel_rfl) (by kernel_rfl) (by kernel_rfl) rfl rfl rfl trivial (fun w _ => (x_move (v := (Sl.v p1)) rfl e1)) ?_
                refine wpD_take (v := (Value.int .i64 l23)) 8 (fun _ => True) rfl (by kernel_rfl) (by kernel_rfl) (by kernel_rfl) rfl rfl rfl trivial (fun w _ => (x_move (v := (Value.int .i64 l23)) rfl e16)) ?_
                obtain ⟨q39, z39, r39, h⟩ := h
                generalize hp39 : z39.add ((l23 : Int).toNat * 1) = p39 at h
                refine wpD_take (v := (Value.pointer (some p39))) 9 (fun _ => True) rfl (by kernel_rfl) (by kernel_rfl) (by kernel_rfl) rfl rfl rfl trivial (fun w _ => ((x_indexAddr (s := p1) rfl rfl rfl ES_22 q39 r39).trans (by rw [hp39]))) ?_
                obtain ⟨x40, q40, h⟩ := h
                refine wpD_take (v := (Value.int .i64 x40)) 10 (fun w => w.cell? p39 = some (Value.int .i64 x40)) rfl (by kernel_rfl) (by kernel_rfl) (by kernel_rfl) rfl rfl rfl q40 (fun w q40 => (x_load1 rfl rfl SH_3 q40)) ?_
                refine wpD_all (rs := [5]) (by kernel_rfl) (by simp) (allD_cons ?_ allD_nil)
                refine stepD_enterL (L' := [(10, fun w => w.cell? p39 = some (Value.int .i64 x40)), (9, fun _ => True), (8, fun _ => True), (7, fun _ => True), (6, fun _ => True), (3, fun _ => True), (2, fun _ => True), (1, fun _ => True)]) rfl rfl rfl rfl (x_call (vs := [(Value.pointer r5.1), (Value.int .i64 x38)]) rfl rfl (mapl_cons rfl (mapl_cons rfl mapl_nil)) Try.func14 NN_14 NB_14) (by kernel_rfl) (Calls.mono h ?_)
                rintro _ w11 ⟨r41, rfl, h⟩
                obtain ⟨o10, h⟩ := h
                refine ⟨_, rfl, (held_cons o10 (held_cons trivial (held_cons trivial (held_cons trivial (held_cons trivial (held_cons trivial (held_cons trivial (held_cons trivial held_nil)))))))), ?_⟩
                refine wpD_all (rs := [11]) (by kernel_rfl) (by simp) (allD_cons ?_ allD_nil)
                refine stepD_enterL (L' := [(9, fun _ => True), (8, fun _ => True), (7, fun _ => True), (3, fun _ => True), (2, fun _ => True), (1, fun _ => True)]) rfl rfl rfl rfl (x_call (vs := [(Value.pointer r6.1), (Value.int .i64 x40)]) rfl rfl (mapl_cons rfl (mapl_cons rfl mapl_nil)) Try.func15 NN_15 NB_15) (by kernel_rfl) (Calls.mono h ?_)
                rintro _ w12 ⟨r42, rfl, h⟩
                refine ⟨_, rfl, (held_cons trivial (held_cons trivial (held_cons trivial (held_cons trivial (held_cons trivial (held_cons trivial held_nil)))))), ?_⟩
                refine wpD_take (v := (Value.bool (!decide (r41 = r42)))) 12 (fun _ => True) rfl (by kernel_rfl) (by kernel_rfl) (by kernel_rfl) rfl rfl rfl trivial (fun w _ => (x_neq rfl rfl rfl)) ?_
                exact wpD_done (by kernel_rfl) ⟨!decide (r41 = r42), ⟨rfl, e1, e2, e7, e8, e10, e12, e14, e16, trivial⟩, h⟩
              clear h
              rintro l43 ρ w13 ⟨e134, e1, e2, e7, e8, e10, e12, e14, e16, -⟩ h
              replace h := hk l43 w13 h
              clear hk
              refine wpC_cond (b := l43) e134 (fun hc44 => ?_) (fun hc44 => ?_)
              · replace h := h.1 hc44
                refine wpC_seq ?_
                refine wpC_region ?_
                refine wpR_val (v := (Value.bool false)) (w' := w13) rfl rfl rfl (x_assign (v := (Value.bool false)) rfl rfl) ?_
                refine wpR_nil ?_
                refine wpC_ret ?_
                exact ⟨.inl rfl, fun a ha => ⟨_, results_rep1 rfl ha rfl, false, rfl, h⟩⟩
              · replace h := h.2 hc44
                refine wpC_skip ?_
                exact ⟨(), ⟨e1, e2, e7, e8, e10, e12, e14, e16, trivial⟩, h⟩
          clear h
          rintro l26 ρ w7 ⟨e1, e2, e7, e8, e10, e12, e14, e16, -⟩ h
          replace h := hk l26 w7 h
          clear hk
          refine wpC_seq ?_
          obtain ⟨J46, h, hk⟩ := h
          refine wpC_drawJ (by kernel_rfl) (fun (x : Bool) ρ => ρ 154 = (Value.bool x) ∧ ρ 1 = (Sl.v p1) ∧ ρ 2 = (Sl.v p2) ∧ ρ 7 = (Value.bool r1) ∧ ρ 8 = (Value.pointer r5.1) ∧ ρ 10 = (Value.pointer r6.1) ∧ ρ 12 = (Value.pointer r7.1) ∧ ρ 14 = (Value.pointer r8.1) ∧ ρ 16 = (Value.int .i64 l23) ∧ True) J46 ?_ ?_
          · clear hk
            unfold tk at h
            generalize w7.drew = w14 at h ⊢
            refine wpD_take (v := (Value.pointer r5.1)) 0 (fun _ => True) rfl (by kernel_rfl) (by kernel_rfl) (by kernel_rfl) rfl rfl rfl trivial (fun w _ => (x_move (v := (Value.pointer r5.1)) rfl e8)) ?_
            refine wpD_take (v := (Value.pointer r6.1)) 2 (fun _ => True) rfl (by kernel_rfl) (by kernel_rfl) (by kernel_rfl) rfl rfl rfl trivial (fun w _ => (x_move (v := (Value.pointer r6.1)) rfl e10)) ?_
            refine wpD_all (rs := [1]) (by kernel_rfl) (by simp) (allD_cons ?_ allD_nil)
            refine stepD_enterL (L' := [(2, fun _ => True)]) rfl rfl rfl rfl (x_call (vs := [(Value.pointer r5.1)]) rfl rfl (mapl_cons rfl mapl_nil) Try.func17 NN_17 NB_17) (by kernel_rfl) (Calls.mono h ?_)
            rintro _ w15 ⟨r47, rfl, h⟩
            refine ⟨_, rfl, (held_cons trivial held_nil), ?_⟩
            refine wpD_all (rs := [3]) (by kernel_rfl) (by simp) (allD_cons ?_ allD_nil)
            refine stepD_enterL (L' := []) rfl rfl rfl rfl (x_call (vs := [(Value.pointer r6.1)]) rfl rfl (mapl_cons rfl mapl_nil) Try.func18 NN_18 NB_18) (by kernel_rfl) (Calls.mono h ?_)
            rintro _ w16 ⟨r48, rfl, h⟩
            refine ⟨_, rfl, held_nil, ?_⟩
            refine wpD_all (rs := [4]) (by kernel_rfl) (by simp) (allD_cons ?_ allD_nil)
            refine stepD_enterL (L' := []) rfl rfl rfl rfl (x_call (vs := [(Sl.v r47), (Sl.v r48)]) rfl rfl (mapl_cons rfl (mapl_cons rfl mapl_nil)) Try.func16 NN_16 NB_16) (by kernel_rfl) (Calls.mono h ?_)
            rintro _ w17 ⟨r49, rfl, h⟩
            refine ⟨_, rfl, held_nil, ?_⟩
            refine wpD_take (v := (Value.bool (!r49))) 5 (fun _ => True) rfl (by kernel_rfl) (by kernel_rfl) (by kernel_rfl) rfl rfl rfl trivial (fun w _ => (x_not rfl rfl)) ?_
            refine wpD_take (v := (Value.bool (!r49))) 6 (fun _ => True) rfl (by kernel_rfl) (by kernel_rfl) (by kernel_rfl) rfl rfl rfl trivial (fun w _ => (x_move (v := (Value.bool (!r49))) rfl rfl)) ?_
            rcases Bool.eq_false_or_eq_true (!r49) with hc50 | hc50
            · replace h := h.1 hc50
              refine wpD_pass 7 rfl (by kernel_rfl) (by kernel_rfl) (by kernel_rfl) (wantN rfl rfl rfl hc50) rfl rfl ?_
              refine wpD_pass 8 rfl (by kernel_rfl) (by kernel_rfl) (by kernel_rfl) (wantN rfl rfl rfl hc50) rfl rfl ?_
              refine wpD_pass 9 rfl (by kernel_rfl) (by kernel_rfl) (by kernel_rfl) (wantN rfl rfl rfl hc50) rfl rfl ?_
              refine wpD_pass 10 rfl (by kernel_rfl) (by kernel_rfl) (by kernel_rfl) (wantN rfl rfl rfl hc50) rfl rfl ?_
              refine wpD_pass 11 rfl (by kernel_rfl) (by kernel_rfl) (by kernel_rfl) (wantN rfl rfl rfl hc50) rfl rfl ?_
              refine wpD_pass 12 rfl (by kernel_rfl) (by kernel_rfl) (by kernel_rfl) (wantN rfl rfl rfl hc50) rfl rfl ?_
              refine wpD_pass 13 rfl (by kernel_rfl) (by kernel_rfl) (by kernel_rfl) (wantN rfl rfl rfl hc50) rfl rfl ?_
              refine wpD_pass 14 rfl (by kernel_rfl) (by kernel_rfl) (by kernel_rfl) (wantN rfl rfl rfl hc50) rfl rfl ?_
              refine wpD_pass 15 rfl (by kernel_rfl) (by kernel_rfl) (by kernel_rfl) (wantN rfl rfl rfl hc50) rfl rfl ?_
              refine wpD_pass 16 rfl (by kernel_rfl) (by kernel_rfl) (by kernel_rfl) (wantN rfl rfl rfl hc50) rfl rfl ?_
              refine wpD_pass 17 rfl (by kernel_rfl) (by kernel_rfl) (by kernel_rfl) (wantN rfl rfl rfl hc50) rfl rfl ?_
              refine wpD_pass 18 rfl (by kernel_rfl) (by kernel_rfl) (by kernel_rfl) (wantN rfl rfl rfl hc50) rfl rfl ?_
              refine wpD_take (v := (Value.bool true)) 19 (fun _ => True) rfl (by kernel_rfl) (by kernel_rfl) (by kernel_rfl) rfl rfl rfl trivial (fun w _ => (x_pickT (v := (Value.bool true)) rfl rfl hc50 rfl)) ?_
              exact wpD_done (by kernel_rfl) ⟨true, ⟨rfl, e1, e2, e7, e8, e10, e12, e14, e16, trivial⟩, h⟩
            · replace h := h.2 hc50
              refine wpD_take (v := (Value.pointer r5.1)) 7 (fun _ => True) rfl (by kernel_rfl) (by kernel_rfl) (by kernel_rfl) (wantG rfl rfl rfl hc50) rfl rfl trivial (fun w _ => (x_move (v := (Value.pointer r5.1)) rfl e8)) ?_
              refine wpD_take (v := (Value.pointer r6.1)) 9 (fun _ => True) rfl (by kernel_rfl) (by kernel_rfl) (by kernel_rfl) (wantG rfl rfl rfl hc50) rfl rfl trivial (fun w _ => (x_move (v := (Value.pointer r6.1)) rfl e10)) ?_
              obtain ⟨a51, q51, h⟩ := h
              refine wpD_take (v := (Value.pointer (some a51))) 10 (fun _ => True) rfl (by kernel_rfl) (by kernel_rfl) (by kernel_rfl) (wantG rfl rfl rfl hc50) rfl rfl trivial (fun w _ => (x_nilCheck rfl rfl q51)) ?_
              refine wpD_take (v := (Value.pointer (some (a51.add 1)))) 11 (fun _ => True) rfl (by kernel_rfl) (by kernel_rfl) (by kernel_rfl) (wantG rfl rfl rfl hc50) rfl rfl trivial (fun w _ => (x_fieldAddr rfl rfl FA_44_1)) ?_
              obtain ⟨x52, q52, h⟩ := h
              refine wpD_take (v := (Value.int .i64 x52)) 12 (fun w => w.cell? (a51.add 1) = some (Value.int .i64 x52)) rfl (by kernel_rfl) (by kernel_rfl) (by kernel_rfl) (wantG rfl rfl rfl hc50) rfl rfl q52 (fun w q52 => (x_load1 rfl rfl SH_3 q52)) ?_
              refine wpD_take (v := (Value.pointer r6.1)) 13 (fun _ => True) rfl (by kernel_rfl) (by kernel_rfl) (by kernel_rfl) (wantG rfl rfl rfl hc50) rfl rfl trivial (fun w _ => (x_move (v := (Value.pointer r6.1)) rfl e10)) ?_
              obtain ⟨a53, q53, h⟩ := h
              refine wpD_take (v := (Value.pointer (some a53))) 14 (fun _ => True) rfl (by kernel_rfl) (by kernel_rfl) (by kernel_rfl) (wantG rfl rfl rfl hc50) rfl rfl trivial (fun w _ => (x_nilCheck rfl rfl q53)) ?_
              refine wpD_take (v := (Value.pointer (some (a53.add 2)))) 15 (fun _ => True) rfl (by kernel_rfl) (by kernel_rfl) (by kernel_rfl) (wantG rfl rfl rfl hc50) rfl rfl trivial (fun w _ => (x_fieldAddr rfl rfl FA_44_2)) ?_
              obtain ⟨x54, q54, h⟩ := h
              refine wpD_take (v := (Value.int .i64 x54)) 16 (fun w => w.cell? (a53.add 2) = some (Value.int .i64 x54)) rfl (by kernel_rfl) (by kernel_rfl) (by kernel_rfl) (wantG rfl rfl rfl hc50) rfl rfl q54 (fun w q54 => (x_load1 rfl rfl SH_3 q54)) ?_
              refine wpD_take (v := (Value.int .i64 (IntKind.i64.wrap (x52 - x54)))) 17 (fun _ => True) rfl (by kernel_rfl) (by kernel_rfl) (by kernel_rfl) (wantG rfl rfl rfl hc50) rfl rfl trivial (fun w _ => (x_sub rfl rfl rfl)) ?_
              refine wpD_all (rs := [8]) (by kernel_rfl) (by simp) (allD_cons ?_ allD_nil)
              refine stepD_enterL (L' := [(17, fun _ => True), (16, fun w => w.cell? (a53.add 2) = some (Value.int .i64 x54)), (15, fun _ => True), (14, fun _ => True), (13, fun _ => True), (12, fun w => w.cell? (a51.add 1) = some (Value.int .i64 x52)), (11, fun _ => True), (10, fun _ => True), (9, fun _ => True), (5, fun _ => True)]) rfl (wantG rfl rfl rfl hc50) rfl rfl (x_call (vs := [(Value.pointer r5.1)]) rfl rfl (mapl_cons rfl mapl_nil) Try.func19 NN_19 NB_19) (by kernel_rfl) (Calls.mono h ?_)
              rintro _ w18 ⟨r55, rfl, h⟩
              obtain ⟨o16, h⟩ := h
              obtain ⟨o12, h⟩ := h
              refine ⟨_, rfl, (held_cons trivial (held_cons o16 (held_cons trivial (held_cons trivial (held_cons trivial (held_cons o12 (held_cons trivial (held_cons trivial (held_cons trivial (held_cons trivial held_nil)))))))))), ?_⟩
              refine wpD_take (v := (Value.bool (!decide (r55 = (IntKind.i64.wrap (x52 - x54)))))) 18 (fun _ => True) rfl (by kernel_rfl) (by kernel_rfl) (by kernel_rfl) (wantG rfl rfl rfl hc50) rfl rfl trivial (fun w _ => (x_neq rfl rfl rfl)) ?_
              refine wpD_take (v := (Value.bool (!decide (r55 = (IntKind.i64.wrap (x52 - x54)))))) 19 (fun _ => True) rfl (by kernel_rfl) (by kernel_rfl) (by kernel_rfl) rfl rfl rfl trivial (fun w _ => (x_pickF (v := (Value.bool (!decide (r55 = (IntKind.i64.wrap (x52 - x54)))))) rfl rfl hc50 rfl)) ?_
              exact wpD_done (by kernel_rfl) ⟨!decide (r55 = (IntKind.i64.wrap (x52 - x54))), ⟨rfl, e1, e2, e7, e8, e10, e12, e14, e16, trivial⟩, h⟩
          clear h
          rintro l56 ρ w19 ⟨e154, e1, e2, e7, e8, e10, e12, e14, e16, -⟩ h
          replace h := hk l56 w19 h
          clear hk
          refine wpC_cond (b := l56) e154 (fun hc57 => ?_) (fun hc57 => ?_)
          · replace h := h.1 hc57
            refine wpC_seq ?_
            refine wpC_region ?_
            refine wpR_val (v := (Value.bool false)) (w' := w19) rfl rfl rfl (x_assign (v := (Value.bool false)) rfl rfl) ?_
            refine wpR_nil ?_
            refine wpC_ret ?_
            exact ⟨.inl rfl, fun a ha => ⟨_, results_rep1 rfl ha rfl, false, rfl, h⟩⟩
          · replace h := h.2 hc57
            refine wpC_skip ?_
            refine wpC_region ?_
            refine wpR_val (v := (Value.int .i64 l23)) (w' := w19) rfl rfl rfl (x_move (v := (Value.int .i64 l23)) rfl e16) ?_
            refine wpR_val (v := (Value.int .i64 (IntKind.i64.wrap (l23 + 1)))) (w' := w19) rfl rfl rfl (x_add rfl rfl rfl) ?_
            refine wpR_val (v := (Value.int .i64 (IntKind.i64.wrap (l23 + 1)))) (w' := w19) rfl rfl rfl (x_assign (v := (Value.int .i64 (IntKind.i64.wrap (l23 + 1)))) rfl rfl) ?_
            refine wpR_nil ?_
            exact ⟨IntKind.i64.wrap (l23 + 1), ⟨rfl, e1, e2, e7, e8, e10, e12, e14, trivial⟩, h⟩
        · replace h := h.2 hc24
          refine wpC_exit ?_
          refine wpC_seq ?_
          refine wpC_seq ?_
          refine wpC_cut (fun ρ => ρ 2 = (Sl.v p2) ∧ ρ 7 = (Value.bool r1) ∧ ρ 12 = (Value.pointer r7.1) ∧ ρ 14 = (Value.pointer r8.1) ∧ True) ⟨e2, e7, e12, e14, trivial⟩ ?_
          rintro ρ ⟨e2, e7, e12, e14, -⟩
          refine wpC_region ?_
          refine wpR_val (v := (Value.int .i64 0)) (w' := w6) rfl rfl rfl (x_assign (v := (Value.int .i64 0)) rfl rfl) ?_
          refine wpR_nil ?_
          refine wpC_block ?_
          obtain ⟨I58, μ58, hI58, hr58⟩ := h
          refine wpC_loop (fun (x : Int) ρ => ρ 21 = (Value.int .i64 x) ∧ ρ 2 = (Sl.v p2) ∧ ρ 7 = (Value.bool r1) ∧ ρ 12 = (Value.pointer r7.1) ∧ ρ 14 = (Value.pointer r8.1) ∧ True) I58 μ58 0 ⟨rfl, e2, e7, e12, e14, trivial⟩ hI58 ?_
          rintro l58 ρ w20 ⟨e21, e2, e7, e12, e14, -⟩ h
          replace h := hr58 l58 w20 h
          clear hr58 hI58
          refine wpC_seq ?_
          refine wpC_seq ?_
          refine wpC_region ?_
          refine wpR_val (v := (Value.int .i64 l58)) (w' := w20) rfl rfl rfl (x_move (v := (Value.int .i64 l58)) rfl e21) ?_
          refine wpR_val (v := (Sl.v p2)) (w' := w20) rfl rfl rfl (x_move (v := (Sl.v p2)) rfl e2) ?_
          refine wpR_val (v := (Value.int .i64 (p2.len : Int))) (w' := w20) rfl rfl rfl (x_lenS (s := p2) rfl rfl isSliceT_22) ?_
          refine wpR_val (v := (Value.bool (decide (l58 < (p2.len : Int))))) (w' := w20) rfl rfl rfl (x_lss rfl rfl rfl) ?_
          refine wpR_nil ?_
          refine wpC_cond (b := decide (l58 < (p2.len : Int))) rfl (fun hc59 => ?_) (fun hc59 => ?_)
          · replace h := h.1 hc59
            refine wpC_skip ?_
            refine wpC_seq ?_
            refine wpC_block ?_
            refine wpC_seq ?_
            refine wpC_cut (fun ρ => ρ 2 = (Sl.v p2) ∧ ρ 7 = (Value.bool r1) ∧ ρ 12 = (Value.pointer r7.1) ∧ ρ 14 = (Value.pointer r8.1) ∧ ρ 21 = (Value.int .i64 l58) ∧ True) ⟨e2, e7, e12, e14, e21, trivial⟩ ?_
            rintro ρ ⟨e2, e7, e12, e14, e21, -⟩
            refine wpC_region ?_
            refine wpR_val (v := (Value.pointer r7.1)) (w' := w20) rfl rfl rfl (x_move (v := (Value.pointer r7.1)) rfl e12) ?_
            refine wpR_val (v := (Sl.v p2)) (w' := w20) rfl rfl rfl (x_move (v := (Sl.v p2)) rfl e2) ?_
            refine wpR_val (v := (Value.int .i64 l58)) (w' := w20) rfl rfl rfl (x_move (v := (Value.int .i64 l58)) rfl e21) ?_
            obtain ⟨q60, z60, r60, h⟩ := h
            generalize hp60 : z60.add ((l58 : Int).toNat * 1) = p60 at h
            refine wpR_val (v := (Value.pointer (some p60))) (w' := w20) rfl rfl rfl ((x_indexAddr (s := p2) rfl rfl rfl ES_22 q60 r60).trans (by rw [hp60])) ?_
            obtain ⟨x61, q61, h⟩ := h
            refine wpR_val (v := (Value.int .i64 x61)) (w' := w20) rfl rfl rfl (x_load1 rfl rfl SH_3 q61) ?_
            refine wpR_enter rfl rfl rfl (x_call (vs := [(Value.pointer r7.1), (Value.int .i64 x61)]) rfl rfl (mapl_cons rfl (mapl_cons rfl mapl_nil)) Try.func20 NN_20 NB_20) (Calls.mono h ?_)
            rintro _ w21 ⟨r62, rfl, h⟩
            refine ⟨_, rfl, ?_⟩
            refine wpR_val (v := (Value.tuple #[(Sl.v r62.1), (Value.int .i64 r62.2)])) (w' := w21) rfl rfl rfl (x_move (v := (Value.tuple #[(Sl.v r62.1), (Value.int .i64 r62.2)])) rfl rfl) ?_
            refine wpR_val (v := (Sl.v r62.1)) (w' := w21) rfl rfl rfl (x_extract rfl rfl rfl) ?_
            refine wpR_val (v := (Value.int .i64 r62.2)) (w' := w21) rfl rfl rfl (x_extract rfl rfl rfl) ?_
            refine wpR_val (v := (Sl.v r62.1)) (w' := w21) rfl rfl rfl (x_assign (v := (Sl.v r62.1)) rfl rfl) ?_
            refine wpR_val (v := (Value.int .i64 r62.2)) (w' := w21) rfl rfl rfl (x_assign (v := (Value.int .i64 r62.2)) rfl rfl) ?_
            refine wpR_nil ?_
            refine wpC_seq ?_
            refine wpC_cut (fun ρ => ρ 2 = (Sl.v p2) ∧ ρ 7 = (Value.bool r1) ∧ ρ 12 = (Value.pointer r7.1) ∧ ρ 14 = (Value.pointer r8.1) ∧ ρ 21 = (Value.int .i64 l58) ∧ ρ 22 = (Sl.v r62.1) ∧ ρ 23 = (Value.int .i64 r62.2) ∧ True) ⟨e2, e7, e12, e14, e21, rfl, rfl, trivial⟩ ?_
            rintro ρ ⟨e2, e7, e12, e14, e21, e22, e23, -⟩
            refine wpC_region ?_
            refine wpR_val (v := (Value.pointer r8.1)) (w' := w21) rfl rfl rfl (x_move (v := (Value.pointer r8.1)) rfl e14) ?_
            refine wpR_val (v := (Sl.v p2)) (w' := w21) rfl rfl rfl (x_move (v := (Sl.v p2)) rfl e2) ?_
            refine wpR_val (v := (Value.int .i64 l58)) (w' := w21) rfl rfl rfl (x_move (v := (Value.int .i64 l58)) rfl e21) ?_
            obtain ⟨q63, z63, r63, h⟩ := h
            generalize hp63 : z63.add ((l58 : Int).toNat * 1) = p63 at h
            refine wpR_val (v := (Value.pointer (some p63))) (w' := w21) rfl rfl rfl ((x_indexAddr (s := p2) rfl rfl rfl ES_22 q63 r63).trans (by rw [hp63])) ?_
            obtain ⟨x64, q64, h⟩ := h
            refine wpR_val (v := (Value.int .i64 x64)) (w' := w21) rfl rfl rfl (x_load1 rfl rfl SH_3 q64) ?_
            refine wpR_enter rfl rfl rfl (x_call (vs := [(Value.pointer r8.1), (Value.int .i64 x64)]) rfl rfl (mapl_cons rfl (mapl_cons rfl mapl_nil)) Try.func21 NN_21 NB_21) (Calls.mono h ?_)
            rintro _ w22 ⟨r65, rfl, h⟩
            refine ⟨_, rfl, ?_⟩
            refine wpR_val (v := (Value.tuple #[(Sl.v r65.1), (Value.int .i64 r65.2)])) (w' := w22) rfl rfl rfl (x_move (v := (Value.tuple #[(Sl.v r65.1), (Value.int .i64 r65.2)])) rfl rfl) ?_
            refine wpR_val (v := (Sl.v r65.1)) (w' := w22) rfl rfl rfl (x_extract rfl rfl rfl) ?_
            refine wpR_val (v := (Value.int .i64 r65.2)) (w' := w22) rfl rfl rfl (x_extract rfl rfl rfl) ?_
            refine wpR_val (v := (Sl.v r65.1)) (w' := w22) rfl rfl rfl (x_assign (v := (Sl.v r65.1)) rfl rfl) ?_
            refine wpR_val (v := (Value.int .i64 r65.2)) (w' := w22) rfl rfl rfl (x_assign (v := (Value.int .i64 r65.2)) rfl rfl) ?_
            refine wpR_nil ?_
            refine wpC_seq ?_
            refine wpC_cut (fun ρ => ρ 2 = (Sl.v p2) ∧ ρ 7 = (Value.bool r1) ∧ ρ 12 = (Value.pointer r7.1) ∧ ρ 14 = (Value.pointer r8.1) ∧ ρ 21 = (Value.int .i64 l58) ∧ ρ 22 = (Sl.v r62.1) ∧ ρ 23 = (Value.int .i64 r62.2) ∧ ρ 24 = (Sl.v r65.1) ∧ ρ 25 = (Value.int .i64 r65.2) ∧ True) ⟨e2, e7, e12, e14, e21, e22, e23, rfl, rfl, trivial⟩ ?_
            rintro ρ ⟨e2, e7, e12, e14, e21, e22, e23, e24, e25, -⟩
            obtain ⟨J67, h, hk⟩ := h
            refine wpC_drawJ (by kernel_rfl) (fun (x : Bool) ρ => ρ 196 = (Value.bool x) ∧ ρ 2 = (Sl.v p2) ∧ ρ 7 = (Value.bool r1) ∧ ρ 12 = (Value.pointer r7.1) ∧ ρ 14 = (Value.pointer r8.1) ∧ ρ 21 = (Value.int .i64 l58) ∧ True) J67 ?_ ?_
            · clear hk
              unfold tk at h
              generalize w22.drew = w23 at h ⊢
              refine wpD_take (v := (Sl.v r62.1)) 0 (fun _ => True) rfl (by kernel_rfl) (by kernel_rfl) (by kernel_rfl) rfl rfl rfl trivial (fun w _ => (x_move (v := (Sl.v r62.1)) rfl e22)) ?_
              refine wpD_take (v := (Sl.v r65.1)) 1 (fun _ => True) rfl (by kernel_rfl) (by kernel_rfl) (by kernel_rfl) rfl rfl rfl trivial (fun w _ => (x_move (v := (Sl.v r65.1)) rfl e24)) ?_
              refine wpD_all (rs := [2]) (by kernel_rfl) (by simp) (allD_cons ?_ allD_nil)
              refine stepD_enterL (L' := []) rfl rfl rfl rfl (x_call (vs := [(Sl.v r62.1), (Sl.v r65.1)]) rfl rfl (mapl_cons rfl (mapl_cons rfl mapl_nil)) Try.func16 NN_16 NB_16) (by kernel_rfl) (Calls.mono h ?_)
              rintro _ w24 ⟨r68, rfl, h⟩
              refine ⟨_, rfl, held_nil, ?_⟩
              refine wpD_take (v := (Value.bool (!r68))) 3 (fun _ => True) rfl (by kernel_rfl) (by kernel_rfl) (by kernel_rfl) rfl rfl rfl trivial (fun w _ => (x_not rfl rfl)) ?_
              refine wpD_take (v := (Value.bool (!r68))) 4 (fun _ => True) rfl (by kernel_rfl) (by kernel_rfl) (by kernel_rfl) rfl rfl rfl trivial (fun w _ => (x_move (v := (Value.bool (!r68))) rfl rfl)) ?_
              rcases Bool.eq_false_or_eq_true (!r68) with hc69 | hc69
              · replace h := h.1 hc69
                refine wpD_pass 5 rfl (by kernel_rfl) (by kernel_rfl) (by kernel_rfl) (wantN rfl rfl rfl hc69) rfl rfl ?_
                refine wpD_pass 6 rfl (by kernel_rfl) (by kernel_rfl) (by kernel_rfl) (wantN rfl rfl rfl hc69) rfl rfl ?_
                refine wpD_pass 7 rfl (by kernel_rfl) (by kernel_rfl) (by kernel_rfl) (wantN rfl rfl rfl hc69) rfl rfl ?_
                refine wpD_take (v := (Value.bool true)) 8 (fun _ => True) rfl (by kernel_rfl) (by kernel_rfl) (by kernel_rfl) rfl rfl rfl trivial (fun w _ => (x_pickT (v := (Value.bool true)) rfl rfl hc69 rfl)) ?_
                refine wpD_take (v := (Value.bool true)) 9 (fun _ => True) rfl (by kernel_rfl) (by kernel_rfl) (by kernel_rfl) rfl rfl rfl trivial (fun w _ => (x_move (v := (Value.bool true)) rfl rfl)) ?_
                rcases Bool.eq_false_or_eq_true (true) with hc70 | hc70
                · replace h := h.1 hc70
                  refine wpD_pass 10 rfl (by kernel_rfl) (by kernel_rfl) (by kernel_rfl) (wantN rfl rfl rfl hc70) rfl rfl ?_
                  refine wpD_pass 11 rfl (by kernel_rfl) (by kernel_rfl) (by kernel_rfl) (wantN rfl rfl rfl hc70) rfl rfl ?_
                  refine wpD_pass 12 rfl (by kernel_rfl) (by kernel_rfl) (by kernel_rfl) (wantN rfl rfl rfl hc70) rfl rfl ?_
                  refine wpD_pass 13 rfl (by kernel_rfl) (by kernel_rfl) (by kernel_rfl) (wantN rfl rfl rfl hc70) rfl rfl ?_
                  refine wpD_pass 14 rfl (by kernel_rfl) (by kernel_rfl) (by kernel_rfl) (wantN rfl rfl rfl hc70) rfl rfl ?_
                  refine wpD_pass 15 rfl (by kernel_rfl) (by kernel_rfl) (by kernel_rfl) (wantN rfl rfl rfl hc70) rfl rfl ?_
                  refine wpD_pass 16 rfl (by kernel_rfl) (by kernel_rfl) (by kernel_rfl) (wantN rfl rfl rfl hc70) rfl rfl ?_
                  refine wpD_take (v := (Value.bool true)) 17 (fun _ => True) rfl (by kernel_rfl) (by kernel_rfl) (by kernel_rfl) rfl rfl rfl trivial (fun w _ => (x_pickT (v := (Value.bool true)) rfl rfl hc70 rfl)) ?_
                  exact wpD_done (by kernel_rfl) ⟨true, ⟨rfl, e2, e7, e12, e14, e21, trivial⟩, h⟩
                · replace h := h.2 hc70
                  refine wpD_take (v := (Value.pointer r7.1)) 10 (fun _ => True) rfl (by kernel_rfl) (by kernel_rfl) (by kernel_rfl) (wantG rfl rfl rfl hc70) rfl rfl trivial (fun w _ => (x_move (v := (Value.pointer r7.1)) rfl e12)) ?_
                  refine wpD_take (v := (Value.pointer r8.1)) 12 (fun _ => True) rfl (by kernel_rfl) (by kernel_rfl) (by kernel_rfl) (wantG rfl rfl rfl hc70) rfl rfl trivial (fun w _ => (x_move (v := (Value.pointer r8.1)) rfl e14)) ?_
                  obtain ⟨a71, q71, h⟩ := h
                  refine wpD_take (v := (Value.pointer (some a71))) 13 (fun _ => True) rfl (by kernel_rfl) (by kernel_rfl) (by kernel_rfl) (wantG rfl rfl rfl hc70) rfl rfl trivial (fun w _ => (x_nilCheck rfl rfl q71)) ?_
                  refine wpD_take (v := (Value.pointer (some (a71.add 1)))) 14 (fun _ => True) rfl (by kernel_rfl) (by kernel_rfl) (by kernel_rfl) (wantG rfl rfl rfl hc70) rfl rfl trivial (fun w _ => (x_fieldAddr rfl rfl FA_49_1)) ?_
                  obtain ⟨x72, q72, h⟩ := h
                  refine wpD_take (v := (Value.int .i64 x72)) 15 (fun w => w.cell? (a71.add 1) = some (Value.int .i64 x72)) rfl (by kernel_rfl) (by kernel_rfl) (by kernel_rfl) (wantG rfl rfl rfl hc70) rfl rfl q72 (fun w q72 => (x_load1 rfl rfl SH_3 q72)) ?_
                  refine wpD_all (rs := [11]) (by kernel_rfl) (by simp) (allD_cons ?_ allD_nil)
                  refine stepD_enterL (L' := [(15, fun w => w.cell? (a71.add 1) = some (Value.int .i64 x72)), (14, fun _ => True), (13, fun _ => True), (12, fun _ => True), (8, fun _ => True), (7, fun _ => True), (6, fun _ => True), (5, fun _ => True), (4, fun _ => True), (3, fun _ => True)]) rfl (wantG rfl rfl rfl hc70) rfl rfl (x_call (vs := [(Value.pointer r7.1)]) rfl rfl (mapl_cons rfl mapl_nil) Try.func22 NN_22 NB_22) (by kernel_rfl) (Calls.mono h ?_)
                  rintro _ w25 ⟨r73, rfl, h⟩
                  obtain ⟨o15, h⟩ := h
                  refine ⟨_, rfl, (held_cons o15 (held_cons trivial (held_cons trivial (held_cons trivial (held_cons trivial (held_cons trivial (held_cons trivial (held_cons trivial (held_cons trivial (held_cons trivial held_nil)))))))))), ?_⟩
                  refine wpD_take (v := (Value.bool (!decide (r73 = x72)))) 16 (fun _ => True) rfl (by kernel_rfl) (by kernel_rfl) (by kernel_rfl) (wantG rfl rfl rfl hc70) rfl rfl trivial (fun w _ => (x_neq rfl rfl rfl)) ?_
                  refine wpD_take (v := (Value.bool (!decide (r73 = x72)))) 17 (fun _ => True) rfl (by kernel_rfl) (by kernel_rfl) (by kernel_rfl) rfl rfl rfl trivial (fun w _ => (x_pickF (v := (Value.bool (!decide (r73 = x72)))) rfl rfl hc70 rfl)) ?_
                  exact wpD_done (by kernel_rfl) ⟨!decide (r73 = x72), ⟨rfl, e2, e7, e12, e14, e21, trivial⟩, h⟩
              · replace h := h.2 hc69
                refine wpD_take (v := (Value.int .i64 r62.2)) 5 (fun _ => True) rfl (by kernel_rfl) (by kernel_rfl) (by kernel_rfl) (wantG rfl rfl rfl hc69) rfl rfl trivial (fun w _ => (x_move (v := (Value.int .i64 r62.2)) rfl e23)) ?_
                refine wpD_take (v := (Value.int .i64 r65.2)) 6 (fun _ => True) rfl (by kernel_rfl) (by kernel_rfl) (by kernel_rfl) (wantG rfl rfl rfl hc69) rfl rfl trivial (fun w _ => (x_move (v := (Value.int .i64 r65.2)) rfl e25)) ?_
                refine wpD_take (v := (Value.bool (!decide (r62.2 = r65.2)))) 7 (fun _ => True) rfl (by kernel_rfl) (by kernel_rfl) (by kernel_rfl) (wantG rfl rfl rfl hc69) rfl rfl trivial (fun w _ => (x_neq rfl rfl rfl)) ?_
                refine wpD_take (v := (Value.bool (!decide (r62.2 = r65.2)))) 8 (fun _ => True) rfl (by kernel_rfl) (by kernel_rfl) (by kernel_rfl) rfl rfl rfl trivial (fun w _ => (x_pickF (v := (Value.bool (!decide (r62.2 = r65.2)))) rfl rfl hc69 rfl)) ?_
                refine wpD_take (v := (Value.bool (!decide (r62.2 = r65.2)))) 9 (fun _ => True) rfl (by kernel_rfl) (by kernel_rfl) (by kernel_rfl) rfl rfl rfl trivial (fun w _ => (x_move (v := (Value.bool (!decide (r62.2 = r65.2)))) rfl rfl)) ?_
                rcases Bool.eq_false_or_eq_true (!decide (r62.2 = r65.2)) with hc74 | hc74
                · replace h := h.1 hc74
                  refine wpD_pass 10 rfl (by kernel_rfl) (by kernel_rfl) (by kernel_rfl) (wantN rfl rfl rfl hc74) rfl rfl ?_
                  refine wpD_pass 11 rfl (by kernel_rfl) (by kernel_rfl) (by kernel_rfl) (wantN rfl rfl rfl hc74) rfl rfl ?_
                  refine wpD_pass 12 rfl (by kernel_rfl) (by kernel_rfl) (by kernel_rfl) (wantN rfl rfl rfl hc74) rfl rfl ?_
                  refine wpD_pass 13 rfl (by kernel_rfl) (by kernel_rfl) (by kernel_rfl) (wantN rfl rfl rfl hc74) rfl rfl ?_
                  refine wpD_pass 14 rfl (by kernel_rfl) (by kernel_rfl) (by kernel_rfl) (wantN rfl rfl rfl hc74) rfl rfl ?_
                  refine wpD_pass 15 rfl (by kernel_rfl) (by kernel_rfl) (by kernel_rfl) (wantN rfl rfl rfl hc74) rfl rfl ?_
                  refine wpD_pass 16 rfl (by kernel_rfl) (by kernel_rfl) (by kernel_rfl) (wantN rfl rfl rfl hc74) rfl rfl ?_
                  refine wpD_take (v := (Value.bool true)) 17 (fun _ => True) rfl (by kernel_rfl) (by kernel_rfl) (by kernel_rfl) rfl rfl rfl trivial (fun w _ => (x_pickT (v := (Value.bool true)) rfl rfl hc74 rfl)) ?_
                  exact wpD_done (by kernel_rfl) ⟨true, ⟨rfl, e2, e7, e12, e14, e21, trivial⟩, h⟩
                · replace h := h.2 hc74
                  refine wpD_take (v := (Value.pointer r7.1)) 10 (fun _ => True) rfl (by kernel_rfl) (by kernel_rfl) (by kernel_rfl) (wantG rfl rfl rfl hc74) rfl rfl trivial (fun w _ => (x_move (v := (Value.pointer r7.1)) rfl e12)) ?_
                  refine wpD_take (v := (Value.pointer r8.1)) 12 (fun _ => True) rfl (by kernel_rfl) (by kernel_rfl) (by kernel_rfl) (wantG rfl rfl rfl hc74) rfl rfl trivial (fun w _ => (x_move (v := (Value.pointer r8.1)) rfl e14)) ?_
                  obtain ⟨a75, q75, h⟩ := h
                  refine wpD_take (v := (Value.pointer (some a75))) 13 (fun _ => True) rfl (by kernel_rfl) (by kernel_rfl) (by kernel_rfl) (wantG rfl rfl rfl hc74) rfl rfl trivial (fun w _ => (x_nilCheck rfl rfl q75)) ?_
                  refine wpD_take (v := (Value.pointer (some (a75.add 1)))) 14 (fun _ => True) rfl (by kernel_rfl) (by kernel_rfl) (by kernel_rfl) (wantG rfl rfl rfl hc74) rfl rfl trivial (fun w _ => (x_fieldAddr rfl rfl FA_49_1)) ?_
                  obtain ⟨x76, q76, h⟩ := h
                  refine wpD_take (v := (Value.int .i64 x76)) 15 (fun w => w.cell? (a75.add 1) = some (Value.int .i64 x76)) rfl (by kernel_rfl) (by kernel_rfl) (by kernel_rfl) (wantG rfl rfl rfl hc74) rfl rfl q76 (fun w q76 => (x_load1 rfl rfl SH_3 q76)) ?_
                  refine wpD_all (rs := [11]) (by kernel_rfl) (by simp) (allD_cons ?_ allD_nil)
                  refine stepD_enterL (L' := [(15, fun w => w.cell? (a75.add 1) = some (Value.int .i64 x76)), (14, fun _ => True), (13, fun _ => True), (12, fun _ => True), (8, fun _ => True), (7, fun _ => True), (6, fun _ => True), (5, fun _ => True), (4, fun _ => True), (3, fun _ => True)]) rfl (wantG rfl rfl rfl hc74) rfl rfl (x_call (vs := [(Value.pointer r7.1)]) rfl rfl (mapl_cons rfl mapl_nil) Try.func22 NN_22 NB_22) (by kernel_rfl) (Calls.mono h ?_)
                  rintro _ w26 ⟨r77, rfl, h⟩
                  obtain ⟨o15, h⟩ := h
                  refine ⟨_, rfl, (held_cons o15 (held_cons trivial (held_cons trivial (held_cons trivial (held_cons trivial (held_cons trivial (held_cons trivial (held_cons trivial (held_cons trivial (held_cons trivial held_nil)))))))))), ?_⟩
                  refine wpD_take (v := (Value.bool (!decide (r77 = x76)))) 16 (fun _ => True) rfl (by kernel_rfl) (by kernel_rfl) (by kernel_rfl) (wantG rfl rfl rfl hc74) rfl rfl trivial (fun w _ => (x_neq rfl rfl rfl)) ?_
                  refine wpD_take (v := (Value.bool (!decide (r77 = x76)))) 17 (fun _ => True) rfl (by kernel_rfl) (by kernel_rfl) (by kernel_rfl) rfl rfl rfl trivial (fun w _ => (x_pickF (v := (Value.bool (!decide (r77 = x76)))) rfl rfl hc74 rfl)) ?_
                  exact wpD_done (by kernel_rfl) ⟨!decide (r77 = x76), ⟨rfl, e2, e7, e12, e14, e21, trivial⟩, h⟩
            clear h
            rintro l78 ρ w27 ⟨e196, e2, e7, e12, e14, e21, -⟩ h
            replace h := hk l78 w27 h
            clear hk
            refine wpC_cond (b := l78) e196 (fun hc79 => ?_) (fun hc79 => ?_)
            · replace h := h.1 hc79
              refine wpC_seq ?_
              refine wpC_region ?_
              refine wpR_val (v := (Value.bool false)) (w' := w27) rfl rfl rfl (x_assign (v := (Value.bool false)) rfl rfl) ?_
              refine wpR_nil ?_
              refine wpC_ret ?_
              exact ⟨.inl rfl, fun a ha => ⟨_, results_rep1 rfl ha rfl, false, rfl, h⟩⟩
            · replace h := h.2 hc79
              refine wpC_skip ?_
              refine wpC_region ?_
              refine wpR_val (v := (Value.int .i64 l58)) (w' := w27) rfl rfl rfl (x_move (v := (Value.int .i64 l58)) rfl e21) ?_
              refine wpR_val (v := (Value.int .i64 (IntKind.i64.wrap (l58 + 1)))) (w' := w27) rfl rfl rfl (x_add rfl rfl rfl) ?_
              refine wpR_val (v := (Value.int .i64 (IntKind.i64.wrap (l58 + 1)))) (w' := w27) rfl rfl rfl (x_assign (v := (Value.int .i64 (IntKind.i64.wrap (l58 + 1)))) rfl rfl) ?_
              refine wpR_nil ?_
              exact ⟨IntKind.i64.wrap (l58 + 1), ⟨rfl, e2, e7, e12, e14, trivial⟩, h⟩
          · replace h := h.2 hc59
            refine wpC_exit ?_
            refine wpC_seq ?_
            refine wpC_cut (fun ρ => ρ 7 = (Value.bool r1) ∧ True) ⟨e7, trivial⟩ ?_
            rintro ρ ⟨e7, -⟩
            refine wpC_region ?_
            refine wpR_val (v := (Value.bool r1)) (w' := w20) rfl rfl rfl (x_move (v := (Value.bool r1)) rfl e7) ?_
            refine wpR_val (v := (Value.bool r1)) (w' := w20) rfl rfl rfl (x_assign (v := (Value.bool r1)) rfl rfl) ?_
            refine wpR_nil ?_
            refine wpC_ret ?_
            exact ⟨.inl rfl, fun a ha => ⟨_, results_rep1 rfl ha rfl, r1, rfl, h⟩⟩

/-- lingualaw31.LinkOrder -/
def F4 (p0 : Int) (p1 : Sl) (w0 : World) (K : Bool → World → Prop) : Prop :=
  callC Try.prog 7 #[] (fun (r : Bool) => (Value.bool r)) w0 fun r1 w1 =>
  callC Try.prog 8 #[(Value.int .i64 p0)] (fun (r : (Option Addr) × Int) => (Value.tuple #[(Value.pointer r.1), (Value.int .i64 r.2)])) w1 fun r2 w2 =>
  callC Try.prog 10 #[(Value.int .i64 p0)] (fun (r : (Option Addr) × Int) => (Value.tuple #[(Value.pointer r.1), (Value.int .i64 r.2)])) w2 fun r3 w3 =>
  cnd (((decide (60 < (p1.len : Int))) || (!decide (r2.2 = 0))) || (!decide (r3.2 = 0)))
    (
    K (r1 && (((decide (60 < (p1.len : Int))) || (decide (p0 < 1))) || (decide (64 < p0)))) w3
    )
    (
    cnd (r2.1.isNone || r3.1.isNone)
      (
      K false w3
      )
      (
      lp (fun (next26 : (Sl × Sl × Int × Int × Int × Int) → World → Prop) l26 w4 =>
        cnd (decide (l26.2.2.2.2.2 < (p1.len : Int)))
          (
          jn (fun (J28 : (Sl × Sl × Int × Int × Int) → World → Prop) =>
            jn (fun (J30 : (Sl × Sl × Int × Int × Int) → World → Prop) =>
              ix p1 l26.2.2.2.2.2 2 fun p32 =>
              ld (Value.int .i64) (p32.add 0) w4 fun x33 =>
              cnd (decide (x33 = 0))
                (
                callC Try.prog 12 #[(Value.pointer r2.1)] (fun (r : Int × Int) => (Value.tuple #[(Value.int .i64 r.1), (Value.int .i64 r.2)])) w4 fun r35 w7 =>
                cnd ((!decide (r35.2 = 0)) || (!decide (r35.1 = l26.2.2.1)))
                  (
                  K false w7
                  )
                  (
                  J30 (l26.1, l26.2.1, IntKind.i64.wrap (l26.2.2.1 + 1), l26.2.2.2.1, l26.2.2.2.2.1) w7
                  )
                )
                (
                cnd (decide (x33 = 1))
                  (
                  cnd (decide ((l26.1.len : Int) < 400))
                    (
                    callC Try.prog 17 #[(Value.pointer r2.1)] (fun (r : Sl) => (Sl.v r)) w4 fun r41 w8 =>
                    rn Try.prog (Builtin.append_ #[22, 22] 22 #[Sl.v l26.1, Sl.v r41]) Sl.v w8 fun r42 w9 =>
                    J30 (r42, l26.2.1, l26.2.2.1, l26.2.2.2.1, l26.2.2.2.2.1) w9
                    )
                    (
                    J30 (l26.1, l26.2.1, l26.2.2.1, l26.2.2.2.1, l26.2.2.2.2.1) w4
                    )
                  )
                  (
                  cnd (decide (x33 = 2))
                    (
                    cnd (decide ((l26.1.len : Int) = 0))
                      (
                      J28 (l26.1, l26.2.1, l26.2.2.1, l26.2.2.2.1, l26.2.2.2.2.1) w4
                      )
                      (
                      ix p1 l26.2.2.2.2.2 2 fun p45 =>
                      ld (Value.int .i64) (p45.add 1) w4 fun x46 =>
                      callC Try.prog 23 #[(Sl.v l26.1), (Value.int .i64 x46)] (fun (r : Int) => (Value.int .i64 r)) w4 fun r47 w10 =>
                      callC Try.prog 20 #[(Value.pointer r3.1), (Value.int .i64 r47)] (fun (r : Sl × Int) => (Value.tuple #[(Sl.v r.1), (Value.int .i64 r.2)])) w10 fun r48 w11 =>
                      lp (fun (next49 : (Int × Int) → World → Prop) l49 w12 =>
                        cnd (decide (l49.2 < (r48.1.len : Int)))
                          (
                          ix r48.1 l49.2 1 fun p51 =>
                          ld (Value.int .i64) p51 w12 fun x52 =>
                          cnd (!decide (x52 = l49.1))
                            (
                            K false w12
                            )
                            (
                            next49 (IntKind.i64.wrap (l49.1 + 1), IntKind.i64.wrap (l49.2 + 1)) w12
                            )
                          )
                          (
                          jn (fun J54 => cnd (!decide (r48.2 = l49.1))
                            (
                            J54 true w12
                            )
                            (
                            callC Try.prog 22 #[(Value.pointer r3.1)] (fun (r : Int) => (Value.int .i64 r)) w12 fun r56 w13 =>
                            J54 (!decide (r56 = l49.1)) w13
                            ))
                          fun c57 w14 =>
                          cnd (c57)
                            (
                            K false w14
                            )
                            (
                            nw 3 #[(Value.int .i64 r48.2)] w14 fun b59 w15 =>
                            rn Try.prog (Builtin.append_ #[22, 22] 22 #[Sl.v l26.2.1, Sl.v (⟨some ⟨b59, 0, none⟩, 1, 1⟩ : Sl)]) Sl.v w15 fun r60 w16 =>
                            J30 (l26.1, r60, l26.2.2.1, l49.1, l26.2.2.2.2.1) w16
                            )
                          )
                      ) (l26.2.2.2.1, 0) w11
                      )
                    )
                    (
                    jn (fun (J61 : Bool → World → Prop) =>
                      cnd (decide (x33 = 3))
                        (
                        J61 (decide (x33 = 3)) w4
                        )
                        (
                        J61 (decide (x33 = 4)) w4
                        )
                    )
                    fun l62 w17 =>
                    cnd (l62)
                      (
                      cnd (decide ((l26.2.1.len : Int) = 0))
                        (
                        J28 (l26.1, l26.2.1, l26.2.2.1, l26.2.2.2.1, l26.2.2.2.2.1) w17
                        )
                        (
                        ix l26.2.1 (IntKind.i64.wrap ((l26.2.1.len : Int) - 1)) 1 fun p66 =>
                        ld (Value.int .i64) p66 w17 fun x67 =>
                        jn (fun (J68 : Int → World → Prop) =>
                          ix p1 l26.2.2.2.2.2 2 fun p70 =>
                          ld (Value.int .i64) (p70.add 0) w17 fun x71 =>
                          cnd (decide (x71 = 3))
                            (
                            ix p1 l26.2.2.2.2.2 2 fun p73 =>
                            ld (Value.int .i64) (p73.add 1) w17 fun x74 =>
                            callC Try.prog 23 #[(Sl.v l26.2.1), (Value.int .i64 x74)] (fun (r : Int) => (Value.int .i64 r)) w17 fun r75 w19 =>
                            J68 r75 w19
                            )
                            (
                            J68 x67 w17
                            )
                        )
                        fun l69 w18 =>
                        callC Try.prog 14 #[(Value.pointer r2.1), (Value.int .i64 l69)] (fun (r : Int) => (Value.int .i64 r)) w18 fun r76 w20 =>
                        cnd (!decide (r76 = 0))
                          (
                          K false w20
                          )
                          (
                          J30 (l26.1, l26.2.1, l26.2.2.1, l26.2.2.2.1, max l26.2.2.2.2.1 l69) w20
                          )
                        )
                      )
                      (
                      J30 (l26.1, l26.2.1, l26.2.2.1, l26.2.2.2.1, l26.2.2.2.2.1) w17
                      )
                    )
                  )
                )
            )
            fun l31 w6 =>
            jn (fun J80 => cnd ((decide (l31.2.2.1 < l31.2.2.2.1)) || (decide (l31.2.2.2.1 < l31.2.2.2.2)))
              (
              J80 true w6
              )
              (
              callC Try.prog 19 #[(Value.pointer r2.1)] (fun (r : Int) => (Value.int .i64 r)) w6 fun r82 w21 =>
              J80 (!decide (r82 = (IntKind.i64.wrap (l31.2.2.1 - l31.2.2.2.2)))) w21
              ))
            fun c83 w22 =>
            cnd (c83)
              (
              K false w22
              )
              (
              J28 (l31.1, l31.2.1, l31.2.2.1, l31.2.2.2.1, l31.2.2.2.2) w22
              )
          )
          fun l29 w5 =>
          next26 (l29.1, l29.2.1, l29.2.2.1, l29.2.2.2.1, l29.2.2.2.2, IntKind.i64.wrap (l26.2.2.2.2.2 + 1)) w5
          )
          (
          K r1 w4
          )
      ) (Sl.nil, Sl.nil, 0, 0, 0, 0) w3
      )
    )
set_option maxRecDepth 100000 in
theorem D4 (p0 : Int) (p1 : Sl) (w0 : World) (K : Bool → World → Prop) (h : F4 p0 p1 w0 K) : callC Try.prog 4 #[(Value.int .i64 p0), (Sl.v p1)] (fun (r : Bool) => (Value.bool r)) w0 K := by
  unfold F4 at h
  refine calls_of_wpC Try.func4 rfl 193 rfl (by simp) ?_
  intro ρ hρ
  have e0 : ρ 0 = (Value.int .i64 p0) := hρ 0
  have e1 : ρ 1 = (Sl.v p1) := hρ 1
  clear hρ
  refine wpC_seq ?_
  refine wpC_region ?_
  refine wpR_val (v := (Value.bool false)) (w' := w0) rfl rfl rfl (x_assign (v := (Value.bool false)) rfl rfl) ?_
  refine wpR_nil ?_
  refine wpC_seq ?_
  refine wpC_cut (fun ρ => ρ 0 = (Value.int .i64 p0) ∧ ρ 1 = (Sl.v p1) ∧ True) ⟨e0, e1, trivial⟩ ?_
  rintro ρ ⟨e0, e1, -⟩
  refine wpC_region ?_
  refine wpR_enter rfl rfl rfl (x_call (vs := []) rfl rfl mapl_nil Try.func7 NN_7 NB_7) (Calls.mono h ?_)
  rintro _ w1 ⟨r1, rfl, h⟩
  refine ⟨_, rfl, ?_⟩
  refine wpR_val (v := (Value.bool r1)) (w' := w1) rfl rfl rfl (x_assign (v := (Value.bool r1)) rfl rfl) ?_
  refine wpR_nil ?_
  refine wpC_seq ?_
  refine wpC_cut (fun ρ => ρ 0 = (Value.int .i64 p0) ∧ ρ 1 = (Sl.v p1) ∧ ρ 5 = (Value.bool r1) ∧ True) ⟨e0, e1, rfl, trivial⟩ ?_
  rintro ρ ⟨e0, e1, e5, -⟩
  refine wpC_region ?_
  refine wpR_val (v := (Value.int .i64 p0)) (w' := w1) rfl rfl rfl (x_move (v := (Value.int .i64 p0)) rfl e0) ?_
  refine wpR_enter rfl rfl rfl (x_call (vs := [(Value.int .i64 p0)]) rfl rfl (mapl_cons rfl mapl_nil) Try.func8 NN_8 NB_8) (Calls.mono h ?_)
  rintro _ w2 ⟨r2, rfl, h⟩
  refine ⟨_, rfl, ?_⟩
  refine wpR_val (v := (Value.tuple #[(Value.pointer r2.1), (Value.int .i64 r2.2)])) (w' := w2) rfl rfl rfl (x_move (v := (Value.tuple #[(Value.pointer r2.1), (Value.int .i64 r2.2)])) rfl rfl) ?_
  refine wpR_val (v := (Value.pointer r2.1)) (w' := w2) rfl rfl rfl (x_extract rfl rfl rfl) ?_
  refine wpR_val (v := (Value.int .i64 r2.2)) (w' := w2) rfl rfl rfl (x_extract rfl rfl rfl) ?_
  refine wpR_val (v := (Value.pointer r2.1)) (w' := w2) rfl rfl rfl (x_assign (v := (Value.pointer r2.1)) rfl rfl) ?_
  refine wpR_val (v := (Value.int .i64 r2.2)) (w' := w2) rfl rfl rfl (x_assign (v := (Value.int .i64 r2.2)) rfl rfl) ?_
  refine wpR_nil ?_
  refine wpC_seq ?_
  refine wpC_cut (fun ρ => ρ 0 = (Value.int .i64 p0) ∧ ρ 1 = (Sl.v p1) ∧ ρ 5 = (Value.bool r1) ∧ ρ 6 = (Value.pointer r2.1) ∧ ρ 7 = (Value.int .i64 r2.2) ∧ True) ⟨e0, e1, e5, rfl, rfl, trivial⟩ ?_
  rintro ρ ⟨e0, e1, e5, e6, e7, -⟩
  refine wpC_region ?_
  refine wpR_val (v := (Value.int .i64 p0)) (w' := w2) rfl rfl rfl (x_move (v := (Value.int .i64 p0)) rfl e0) ?_
  refine wpR_enter rfl rfl rfl (x_call (vs := [(Value.int .i64 p0)]) rfl rfl (mapl_cons rfl mapl_nil) Try.func10 NN_10 NB_10) (Calls.mono h ?_)
  rintro _ w3 ⟨r3, rfl, h⟩
  refine ⟨_, rfl, ?_⟩
  refine wpR_val (v := (Value.tuple #[(Value.pointer r3.1), (Value.int .i64 r3.2)])) (w' := w3) rfl rfl rfl (x_move (v := (Value.tuple #[(Value.pointer r3.1), (Value.int .i64 r3.2)])) rfl rfl) ?_
  refine wpR_val (v := (Value.pointer r3.1)) (w' := w3) rfl rfl rfl (x_extract rfl rfl rfl) ?_
  refine wpR_val (v := (Value.int .i64 r3.2)) (w' := w3) rfl rfl rfl (x_extract rfl rfl rfl) ?_
  refine wpR_val (v := (Value.pointer r3.1)) (w' := w3) rfl rfl rfl (x_assign (v := (Value.pointer r3.1)) rfl rfl) ?_
  refine wpR_val (v := (Value.int .i64 r3.2)) (w' := w3) rfl rfl rfl (x_assign (v := (Value.int .i64 r3.2)) rfl rfl) ?_
  refine wpR_nil ?_
  refine wpC_seq ?_
  refine wpC_seq ?_
  refine wpC_cut (fun ρ => ρ 0 = (Value.int .i64 p0) ∧ ρ 1 = (Sl.v p1) ∧ ρ 5 = (Value.bool r1) ∧ ρ 6 = (Value.pointer r2.1) ∧ ρ 7 = (Value.int .i64 r2.2) ∧ ρ 8 = (Value.pointer r3.1) ∧ ρ 9 = (Value.int .i64 r3.2) ∧ True) ⟨e0, e1, e5, e6, e7, rfl, rfl, trivial⟩ ?_
  rintro ρ ⟨e0, e1, e5, e6, e7, e8, e9, -⟩
  refine wpC_region ?_
  refine wpR_val (v := (Sl.v p1)) (w' := w3) rfl rfl rfl (x_move (v := (Sl.v p1)) rfl e1) ?_
  refine wpR_val (v := (Value.int .i64 (p1.len : Int))) (w' := w3) rfl rfl rfl (x_lenS (s := p1) rfl rfl isSliceT_51) ?_
  refine wpR_val (v := (Value.bool (decide (60 < (p1.len : Int))))) (w' := w3) rfl rfl rfl (x_gtr rfl rfl rfl) ?_
  refine wpR_val (v := (Value.bool (decide (60 < (p1.len : Int))))) (w' := w3) rfl rfl rfl (x_move (v := (Value.bool (decide (60 < (p1.len : Int))))) rfl rfl) ?_
  refine wpR_joinJ 3 (fun (_ : Unit) ρ => ρ 39 = Value.bool ((decide (60 < (p1.len : Int))) || (!decide (r2.2 = 0))) ∧ ρ 0 = (Value.int .i64 p0) ∧ ρ 1 = (Sl.v p1) ∧ ρ 5 = (Value.bool r1) ∧ ρ 6 = (Value.pointer r2.1) ∧ ρ 8 = (Value.pointer r3.1) ∧ ρ 9 = (Value.int .i64 r3.2) ∧ True) (fun _ w => w3 = w) ?_ ?_
  · clear h
    rcases Bool.eq_false_or_eq_true (decide (60 < (p1.len : Int))) with hc5 | hc5
    · skip
      refine wpR_pass (wantN rfl rfl rfl hc5) rfl rfl ?_
      refine wpR_pass (wantN rfl rfl rfl hc5) rfl rfl ?_
      refine wpR_val (v := (Value.bool true)) (w' := w3) rfl rfl rfl (x_pickT (v := (Value.bool true)) rfl rfl hc5 rfl) ?_
      refine wpR_nil ?_
      exact ⟨(), ⟨(by rw [hc5]; rfl), e0, e1, e5, e6, e8, e9, trivial⟩, rfl⟩
    · skip
      refine wpR_val (v := (Value.int .i64 r2.2)) (w' := w3) (wantG rfl rfl rfl hc5) rfl rfl (x_move (v := (Value.int .i64 r2.2)) rfl e7) ?_
      refine wpR_val (v := (Value.bool (!decide (r2.2 = 0)))) (w' := w3) (wantG rfl rfl rfl hc5) rfl rfl (x_neq rfl rfl rfl) ?_
      refine wpR_val (v := (Value.bool (!decide (r2.2 = 0)))) (w' := w3) rfl rfl rfl (x_pickF (v := (Value.bool (!decide (r2.2 = 0)))) rfl rfl hc5 rfl) ?_
      refine wpR_nil ?_
      exact ⟨(), ⟨(by rw [hc5]; rfl), e0, e1, e5, e6, e8, e9, trivial⟩, rfl⟩
  rintro _ ρ wj ⟨e39, e0, e1, e5, e6, e8, e9, -⟩ rfl
  refine wpR_val (v := (Value.bool ((decide (60 < (p1.len : Int))) || (!decide (r2.2 = 0))))) (w' := w3) rfl rfl rfl (x_move (v := (Value.bool ((decide (60 < (p1.len : Int))) || (!decide (r2.2 = 0))))) rfl e39) ?_
  refine wpR_joinJ 3 (fun (_ : Unit) ρ => ρ 43 = Value.bool (((decide (60 < (p1.len : Int))) || (!decide (r2.2 = 0))) || (!decide (r3.2 = 0))) ∧ ρ 0 = (Value.int .i64 p0) ∧ ρ 1 = (Sl.v p1) ∧ ρ 5 = (Value.bool r1) ∧ ρ 6 = (Value.pointer r2.1) ∧ ρ 8 = (Value.pointer r3.1) ∧ True) (fun _ w => w3 = w) ?_ ?_
  · clear h
    rcases Bool.eq_false_or_eq_true ((decide (60 < (p1.len : Int))) || (!decide (r2.2 = 0))) with hc7 | hc7
    · skip
      refine wpR_pass (wantN rfl rfl rfl hc7) rfl rfl ?_
      refine wpR_pass (wantN rfl rfl rfl hc7) rfl rfl ?_
      refine wpR_val (v := (Value.bool true)) (w' := w3) rfl rfl rfl (x_pickT (v := (Value.bool true)) rfl rfl hc7 rfl) ?_
      refine wpR_nil ?_
      exact ⟨(), ⟨(by rw [hc7]; rfl), e0, e1, e5, e6, e8, trivial⟩, rfl⟩
    · skip
      refine wpR_val (v := (Value.int .i64 r3.2)) (w' := w3) (wantG rfl rfl rfl hc7) rfl rfl (x_move (v := (Value.int .i64 r3.2)) rfl e9) ?_
      refine wpR_val (v := (Value.bool (!decide (r3.2 = 0)))) (w' := w3) (wantG rfl rfl rfl hc7) rfl rfl (x_neq rfl rfl rfl) ?_
      refine wpR_val (v := (Value.bool (!decide (r3.2 = 0)))) (w' := w3) rfl rfl rfl (x_pickF (v := (Value.bool (!decide (r3.2 = 0)))) rfl rfl hc7 rfl) ?_
      refine wpR_nil ?_
      exact ⟨(), ⟨(by rw [hc7]; rfl), e0, e1, e5, e6, e8, trivial⟩, rfl⟩
  rintro _ ρ wj ⟨e43, e0, e1, e5, e6, e8, -⟩ rfl
  refine wpR_nil ?_
  refine wpC_cond (b := ((decide (60 < (p1.len : Int))) || (!decide (r2.2 = 0))) || (!decide (r3.2 = 0))) e43 (fun hc8 => ?_) (fun hc8 => ?_)
  · replace h := h.1 hc8
    refine wpC_seq ?_
    refine wpC_region ?_
    refine wpR_val (v := (Value.bool r1)) (w' := w3) rfl rfl rfl (x_move (v := (Value.bool r1)) rfl e5) ?_
    refine wpR_val (v := (Value.bool r1)) (w' := w3) rfl rfl rfl (x_move (v := (Value.bool r1)) rfl rfl) ?_
    refine wpR_joinJ 12 (fun (_ : Unit) ρ => ρ 57 = Value.bool (r1 && (((decide (60 < (p1.len : Int))) || (decide (p0 < 1))) || (decide (64 < p0)))) ∧ True) (fun _ w => w3 = w) ?_ ?_
    · clear h
      rcases Bool.eq_false_or_eq_true (r1) with hc10 | hc10
      · skip
        refine wpR_val (v := (Sl.v p1)) (w' := w3) (wantG rfl rfl rfl hc10) rfl rfl (x_move (v := (Sl.v p1)) rfl e1) ?_
        refine wpR_val (v := (Value.int .i64 (p1.len : Int))) (w' := w3) (wantG rfl rfl rfl hc10) rfl rfl (x_lenS (s := p1) rfl rfl isSliceT_51) ?_
        refine wpR_val (v := (Value.bool (decide (60 < (p1.len : Int))))) (w' := w3) (wantG rfl rfl rfl hc10) rfl rfl (x_gtr rfl rfl rfl) ?_
        refine wpR_val (v := (Value.bool (decide (60 < (p1.len : Int))))) (w' := w3) (wantG rfl rfl rfl hc10) rfl rfl (x_move (v := (Value.bool (decide (60 < (p1.len : Int))))) rfl rfl) ?_
        refine wpR_joinJ 3 (fun (_ : Unit) ρ => ρ 52 = Value.bool ((decide (60 < (p1.len : Int))) || (decide (p0 < 1))) ∧ ρ 0 = (Value.int .i64 p0) ∧ ρ 45 = (Value.bool r1) ∧ True) (fun _ w => w3 = w) ?_ ?_
        · clear h
          rcases Bool.eq_false_or_eq_true (decide (60 < (p1.len : Int))) with hc20 | hc20
          · skip
            refine wpR_pass (wantN rfl rfl rfl hc20) rfl rfl ?_
            refine wpR_pass (wantN rfl rfl rfl hc20) rfl rfl ?_
            refine wpR_val (v := (Value.bool true)) (w' := w3) (wantG rfl rfl rfl hc10) rfl rfl (x_pickT (v := (Value.bool true)) rfl rfl hc20 rfl) ?_
            refine wpR_nil ?_
            exact ⟨(), ⟨(by rw [hc20]; rfl), e0, rfl, trivial⟩, rfl⟩
          · skip
            refine wpR_val (v := (Value.int .i64 p0)) (w' := w3) (wantG rfl rfl rfl hc20) rfl rfl (x_move (v := (Value.int .i64 p0)) rfl e0) ?_
            refine wpR_val (v := (Value.bool (decide (p0 < 1)))) (w' := w3) (wantG rfl rfl rfl hc20) rfl rfl (x_lss rfl rfl rfl) ?_
            refine wpR_val (v := (Value.bool (decide (p0 < 1)))) (w' := w3) (wantG rfl rfl rfl hc10) rfl rfl (x_pickF (v := (Value.bool (decide (p0 < 1)))) rfl rfl hc20 rfl) ?_
            refine wpR_nil ?_
            exact ⟨(), ⟨(by rw [hc20]; rfl), e0, rfl, trivial⟩, rfl⟩
        rintro _ ρ wj ⟨e52, e0, e45, -⟩ rfl
        refine wpR_val (v := (Value.bool ((decide (60 < (p1.len : Int))) || (decide (p0 < 1))))) (w' := w3) (wantG rfl rfl e45 hc10) rfl rfl (x_move (v := (Value.bool ((decide (60 < (p1.len : Int))) || (decide (p0 < 1))))) rfl e52) ?_
        refine wpR_joinJ 3 (fun (_ : Unit) ρ => ρ 56 = Value.bool (((decide (60 < (p1.len : Int))) || (decide (p0 < 1))) || (decide (64 < p0))) ∧ ρ 45 = (Value.bool r1) ∧ True) (fun _ w => w3 = w) ?_ ?_
        · clear h
          rcases Bool.eq_false_or_eq_true ((decide (60 < (p1.len : Int))) || (decide (p0 < 1))) with hc22 | hc22
          · skip
            refine wpR_pass (wantN rfl rfl rfl hc22) rfl rfl ?_
            refine wpR_pass (wantN rfl rfl rfl hc22) rfl rfl ?_
            refine wpR_val (v := (Value.bool true)) (w' := w3) (wantG rfl rfl e45 hc10) rfl rfl (x_pickT (v := (Value.bool true)) rfl rfl hc22 rfl) ?_
            refine wpR_nil ?_
            exact ⟨(), ⟨(by rw [hc22]; rfl), e45, trivial⟩, rfl⟩
          · skip
            refine wpR_val (v := (Value.int .i64 p0)) (w' := w3) (wantG rfl rfl rfl hc22) rfl rfl (x_move (v := (Value.int .i64 p0)) rfl e0) ?_
            refine wpR_val (v := (Value.bool (decide (64 < p0)))) (w' := w3) (wantG rfl rfl rfl hc22) rfl rfl (x_gtr rfl rfl rfl) ?_
            refine wpR_val (v := (Value.bool (decide (64 < p0)))) (w' := w3) (wantG rfl rfl e45 hc10) rfl rfl (x_pickF (v := (Value.bool (decide (64 < p0)))) rfl rfl hc22 rfl) ?_
            refine wpR_nil ?_
            exact ⟨(), ⟨(by rw [hc22]; rfl), e45, trivial⟩, rfl⟩
        rintro _ ρ wj ⟨e56, e45, -⟩ rfl
        refine wpR_val (v := (Value.bool (((decide (60 < (p1.len : Int))) || (decide (p0 < 1))) || (decide (64 < p0))))) (w' := w3) rfl rfl rfl (x_pickT (v := (Value.bool (((decide (60 < (p1.len : Int))) || (decide (p0 < 1))) || (decide (64 < p0))))) rfl e45 hc10 e56) ?_
        refine wpR_nil ?_
        exact ⟨(), ⟨(by rw [hc10]; rfl), trivial⟩, rfl⟩
      · skip
        refine wpR_pass (wantN rfl rfl rfl hc10) rfl rfl ?_
        refine wpR_pass (wantN rfl rfl rfl hc10) rfl rfl ?_
        refine wpR_pass (wantN rfl rfl rfl hc10) rfl rfl ?_
        refine wpR_pass (wantN rfl rfl rfl hc10) rfl rfl ?_
        refine wpR_pass (wantU rfl rfl rfl) rfl rfl ?_
        refine wpR_pass (wantU rfl rfl rfl) rfl rfl ?_
        refine wpR_pass (wantN rfl rfl rfl hc10) rfl rfl ?_
        refine wpR_pass (wantN rfl rfl rfl hc10) rfl rfl ?_
        refine wpR_pass (wantU rfl rfl rfl) rfl rfl ?_
        refine wpR_pass (wantU rfl rfl rfl) rfl rfl ?_
        refine wpR_pass (wantN rfl rfl rfl hc10) rfl rfl ?_
        refine wpR_val (v := (Value.bool false)) (w' := w3) rfl rfl rfl (x_pickF (v := (Value.bool false)) rfl rfl hc10 rfl) ?_
        refine wpR_nil ?_
        exact ⟨(), ⟨(by rw [hc10]; rfl), trivial⟩, rfl⟩
    rintro _ ρ wj ⟨e57, -⟩ rfl
    refine wpR_val (v := (Value.bool (r1 && (((decide (60 < (p1.len : Int))) || (decide (p0 < 1))) || (decide (64 < p0)))))) (w' := w3) rfl rfl rfl (x_assign (v := (Value.bool (r1 && (((decide (60 < (p1.len : Int))) || (decide (p0 < 1))) || (decide (64 < p0)))))) rfl e57) ?_
    refine wpR_nil ?_
    refine wpC_ret ?_
    exact ⟨.inl rfl, fun a ha => ⟨_, results_rep1 rfl ha rfl, r1 && (((decide (60 < (p1.len : Int))) || (decide (p0 < 1))) || (decide (64 < p0))), rfl, h⟩⟩
  · replace h := h.2 hc8
    refine wpC_skip ?_
    refine wpC_seq ?_
    refine wpC_seq ?_
    refine wpC_region ?_
    refine wpR_val (v := (Value.pointer r2.1)) (w' := w3) rfl rfl rfl (x_move (v := (Value.pointer r2.1)) rfl e6) ?_
    refine wpR_val (v := (Value.bool r2.1.isNone)) (w' := w3) rfl rfl rfl (x_eqlNil rfl rfl rfl isPtrT_24) ?_
    refine wpR_val (v := (Value.bool r2.1.isNone)) (w' := w3) rfl rfl rfl (x_move (v := (Value.bool r2.1.isNone)) rfl rfl) ?_
    refine wpR_joinJ 3 (fun (_ : Unit) ρ => ρ 63 = Value.bool (r2.1.isNone || r3.1.isNone) ∧ ρ 1 = (Sl.v p1) ∧ ρ 5 = (Value.bool r1) ∧ ρ 6 = (Value.pointer r2.1) ∧ ρ 8 = (Value.pointer r3.1) ∧ True) (fun _ w => w3 = w) ?_ ?_
    · clear h
      rcases Bool.eq_false_or_eq_true (r2.1.isNone) with hc24 | hc24
      · skip
        refine wpR_pass (wantN rfl rfl rfl hc24) rfl rfl ?_
        refine wpR_pass (wantN rfl rfl rfl hc24) rfl rfl ?_
        refine wpR_val (v := (Value.bool true)) (w' := w3) rfl rfl rfl (x_pickT (v := (Value.bool true)) rfl rfl hc24 rfl) ?_
        refine wpR_nil ?_
        exact ⟨(), ⟨(by rw [hc24]; rfl), e1, e5, e6, e8, trivial⟩, rfl⟩
      · skip
        refine wpR_val (v := (Value.pointer r3.1)) (w' := w3) (wantG rfl rfl rfl hc24) rfl rfl (x_move (v := (Value.pointer r3.1)) rfl e8) ?_
        refine wpR_val (v := (Value.bool r3.1.isNone)) (w' := w3) (wantG rfl rfl rfl hc24) rfl rfl (x_eqlNil rfl rfl rfl isPtrT_31) ?_
        refine wpR_val (v := (Value.bool r3.1.isNone)) (w' := w3) rfl rfl rfl (x_pickF (v := (Value.bool r3.1.isNone)) rfl rfl hc24 rfl) ?_
        refine wpR_nil ?_
        exact ⟨(), ⟨(by rw [hc24]; rfl), e1, e5, e6, e8, trivial⟩, rfl⟩
    rintro _ ρ wj ⟨e63, e1, e5, e6, e8, -⟩ rfl
    refine wpR_nil ?_
    refine wpC_cond (b := r2.1.isNone || r3.1.isNone) e63 (fun hc25 => ?_) (fun hc25 => ?_)
    · replace h := h.1 hc25
      refine wpC_seq ?_
      refine wpC_region ?_
      refine wpR_val (v := (Value.bool false)) (w' := w3) rfl rfl rfl (x_assign (v := (Value.bool false)) rfl rfl) ?_
      refine wpR_nil ?_
      refine wpC_ret ?_
      exact ⟨.inl rfl, fun a ha => ⟨_, results_rep1 rfl ha rfl, false, rfl, h⟩⟩
    · replace h := h.2 hc25
      refine wpC_skip ?_
      refine wpC_seq ?_
      refine wpC_region ?_
      refine wpR_val (v := (Sl.v Sl.nil)) (w' := w3) rfl rfl rfl (x_assign (v := (Sl.v Sl.nil)) rfl rfl) ?_
      refine wpR_nil ?_
      refine wpC_seq ?_
      refine wpC_cut (fun ρ => ρ 1 = (Sl.v p1) ∧ ρ 5 = (Value.bool r1) ∧ ρ 6 = (Value.pointer r2.1) ∧ ρ 8 = (Value.pointer r3.1) ∧ ρ 10 = (Sl.v Sl.nil) ∧ True) ⟨e1, e5, e6, e8, rfl, trivial⟩ ?_
      rintro ρ ⟨e1, e5, e6, e8, e10, -⟩
      refine wpC_region ?_
      refine wpR_val (v := (Sl.v Sl.nil)) (w' := w3) rfl rfl rfl (x_assign (v := (Sl.v Sl.nil)) rfl rfl) ?_
      refine wpR_nil ?_
      refine wpC_seq ?_
      refine wpC_cut (fun ρ => ρ 1 = (Sl.v p1) ∧ ρ 5 = (Value.bool r1) ∧ ρ 6 = (Value.pointer r2.1) ∧ ρ 8 = (Value.pointer r3.1) ∧ ρ 10 = (Sl.v Sl.nil) ∧ ρ 11 = (Sl.v Sl.nil) ∧ True) ⟨e1, e5, e6, e8, e10, rfl, trivial⟩ ?_
      rintro ρ ⟨e1, e5, e6, e8, e10, e11, -⟩
      refine wpC_region ?_
      refine wpR_val (v := (Value.int .i64 0)) (w' := w3) rfl rfl rfl (x_assign (v := (Value.int .i64 0)) rfl rfl) ?_
      refine wpR_nil ?_
      refine wpC_seq ?_
      refine wpC_cut (fun ρ => ρ 1 = (Sl.v p1) ∧ ρ 5 = (Value.bool r1) ∧ ρ 6 = (Value.pointer r2.1) ∧ ρ 8 = (Value.pointer r3.1) ∧ ρ 10 = (Sl.v Sl.nil) ∧ ρ 11 = (Sl.v Sl.nil) ∧ ρ 12 = (Value.int .i64 0) ∧ True) ⟨e1, e5, e6, e8, e10, e11, rfl, trivial⟩ ?_
      rintro ρ ⟨e1, e5, e6, e8, e10, e11, e12, -⟩
      refine wpC_region ?_
      refine wpR_val (v := (Value.int .i64 0)) (w' := w3) rfl rfl rfl (x_assign (v := (Value.int .i64 0)) rfl rfl) ?_
      refine wpR_nil ?_
      refine wpC_seq ?_
      refine wpC_cut (fun ρ => ρ 1 = (Sl.v p1) ∧ ρ 5 = (Value.bool r1) ∧ ρ 6 = (Value.pointer r2.1) ∧ ρ 8 = (Value.pointer r3.1) ∧ ρ 10 = (Sl.v Sl.nil) ∧ ρ 11 = (Sl.v Sl.nil) ∧ ρ 12 = (Value.int .i64 0) ∧ ρ 13 = (Value.int .i64 0) ∧ True) ⟨e1, e5, e6, e8, e10, e11, e12, rfl, trivial⟩ ?_
      rintro ρ ⟨e1, e5, e6, e8, e10, e11, e12, e13, -⟩
      refine wpC_region ?_
      refine wpR_val (v := (Value.int .i64 0)) (w' := w3) rfl rfl rfl (x_assign (v := (Value.int .i64 0)) rfl rfl) ?_
      refine wpR_nil ?_
      refine wpC_seq ?_
      refine wpC_seq ?_
      refine wpC_cut (fun ρ => ρ 1 = (Sl.v p1) ∧ ρ 5 = (Value.bool r1) ∧ ρ 6 = (Value.pointer r2.1) ∧ ρ 8 = (Value.pointer r3.1) ∧ ρ 10 = (Sl.v Sl.nil) ∧ ρ 11 = (Sl.v Sl.nil) ∧ ρ 12 = (Value.int .i64 0) ∧ ρ 13 = (Value.int .i64 0) ∧ ρ 14 = (Value.int .i64 0) ∧ True) ⟨e1, e5, e6, e8, e10, e11, e12, e13, rfl, trivial⟩ ?_
      rintro ρ ⟨e1, e5, e6, e8, e10, e11, e12, e13, e14, -⟩
      refine wpC_region ?_
      refine wpR_val (v := (Value.int .i64 0)) (w' := w3) rfl rfl rfl (x_assign (v := (Value.int .i64 0)) rfl rfl) ?_
      refine wpR_nil ?_
      refine wpC_block ?_
      obtain ⟨I26, μ26, hI26, hr26⟩ := h
      refine wpC_loop (fun (x : Sl × Sl × Int × Int × Int × Int) ρ => ρ 10 = (Sl.v x.1) ∧ ρ 11 = (Sl.v x.2.1) ∧ ρ 12 = (Value.int .i64 x.2.2.1) ∧ ρ 13 = (Value.int .i64 x.2.2.2.1) ∧ ρ 14 = (Value.int .i64 x.2.2.2.2.1) ∧ ρ 15 = (Value.int .i64 x.2.2.2.2.2) ∧ ρ 1 = (Sl.v p1) ∧ ρ 5 = (Value.bool r1) ∧ ρ 6 = (Value.pointer r2.1) ∧ ρ 8 = (Value.pointer r3.1) ∧ True) I26 μ26 (Sl.nil, Sl.nil, 0, 0, 0, 0) ⟨e10, e11, e12, e13, e14, rfl, e1, e5, e6, e8, trivial⟩ hI26 ?_
      rintro l26 ρ w4 ⟨e10, e11, e12, e13, e14, e15, e1, e5, e6, e8, -⟩ h
      replace h := hr26 l26 w4 h
      clear hr26 hI26
      refine wpC_seq ?_
      refine wpC_seq ?_
      refine wpC_region ?_
      refine wpR_val (v := (Value.int .i64 l26.2.2.2.2.2)) (w' := w4) rfl rfl rfl (x_move (v := (Value.int .i64 l26.2.2.2.2.2)) rfl e15) ?_
      refine wpR_val (v := (Sl.v p1)) (w' := w4) rfl rfl rfl (x_move (v := (Sl.v p1)) rfl e1) ?_
      refine wpR_val (v := (Value.int .i64 (p1.len : Int))) (w' := w4) rfl rfl rfl (x_lenS (s := p1) rfl rfl isSliceT_51) ?_
      refine wpR_val (v := (Value.bool (decide (l26.2.2.2.2.2 < (p1.len : Int))))) (w' := w4) rfl rfl rfl (x_lss rfl rfl rfl) ?_
      refine wpR_nil ?_
      refine wpC_cond (b := decide (l26.2.2.2.2.2 < (p1.len : Int))) rfl (fun hc27 => ?_) (fun hc27 => ?_)
      · replace h := h.1 hc27
        refine wpC_skip ?_
        obtain ⟨J28, h, hk⟩ := h
        refine wpC_seqJ (fun (x : Sl × Sl × Int × Int × Int) ρ => ρ 10 = (Sl.v x.1) ∧ ρ 11 = (Sl.v x.2.1) ∧ ρ 12 = (Value.int .i64 x.2.2.1) ∧ ρ 13 = (Value.int .i64 x.2.2.2.1) ∧ ρ 14 = (Value.int .i64 x.2.2.2.2) ∧ ρ 1 = (Sl.v p1) ∧ ρ 5 = (Value.bool r1) ∧ ρ 6 = (Value.pointer r2.1) ∧ ρ 8 = (Value.pointer r3.1) ∧ ρ 15 = (Value.int .i64 l26.2.2.2.2.2) ∧ True) J28 ?_ ?_
        · clear hk
          refine wpC_block ?_
          obtain ⟨J30, h, hk⟩ := h
          refine wpC_seqJ (fun (x : Sl × Sl × Int × Int × Int) ρ => ρ 10 = (Sl.v x.1) ∧ ρ 11 = (Sl.v x.2.1) ∧ ρ 12 = (Value.int .i64 x.2.2.1) ∧ ρ 13 = (Value.int .i64 x.2.2.2.1) ∧ ρ 14 = (Value.int .i64 x.2.2.2.2) ∧ ρ 1 = (Sl.v p1) ∧ ρ 5 = (Value.bool r1) ∧ ρ 6 = (Value.pointer r2.1) ∧ ρ 8 = (Value.pointer r3.1) ∧ ρ 15 = (Value.int .i64 l26.2.2.2.2.2) ∧ True) J30 ?_ ?_
          · clear hk
            refine wpC_seq ?_
            refine wpC_cut (fun ρ => ρ 1 = (Sl.v p1) ∧ ρ 5 = (Value.bool r1) ∧ ρ 6 = (Value.pointer r2.1) ∧ ρ 8 = (Value.pointer r3.1) ∧ ρ 10 = (Sl.v l26.1) ∧ ρ 11 = (Sl.v l26.2.1) ∧ ρ 12 = (Value.int .i64 l26.2.2.1) ∧ ρ 13 = (Value.int .i64 l26.2.2.2.1) ∧ ρ 14 = (Value.int .i64 l26.2.2.2.2.1) ∧ ρ 15 = (Value.int .i64 l26.2.2.2.2.2) ∧ True) ⟨e1, e5, e6, e8, e10, e11, e12, e13, e14, e15, trivial⟩ ?_
            rintro ρ ⟨e1, e5, e6, e8, e10, e11, e12, e13, e14, e15, -⟩
            refine wpC_region ?_
            refine wpR_val (v := (Sl.v p1)) (w' := w4) rfl rfl rfl (x_move (v := (Sl.v p1)) rfl e1) ?_
            refine wpR_val (v := (Value.int .i64 l26.2.2.2.2.2)) (w' := w4) rfl rfl rfl (x_move (v := (Value.int .i64 l26.2.2.2.2.2)) rfl e15) ?_
            obtain ⟨q32, z32, r32, h⟩ := h
            generalize hp32 : z32.add ((l26.2.2.2.2.2 : Int).toNat * 2) = p32 at h
            refine wpR_val (v := (Value.pointer (some p32))) (w' := w4) rfl rfl rfl ((x_indexAddr (s := p1) rfl rfl rfl ES_51 q32 r32).trans (by rw [hp32])) ?_
            refine wpR_val (v := (Value.pointer (some (p32.add 0)))) (w' := w4) rfl rfl rfl (x_fieldAddr rfl rfl FA_53_0) ?_
            obtain ⟨x33, q33, h⟩ := h
            refine wpR_val (v := (Value.int .i64 x33)) (w' := w4) rfl rfl rfl (x_load1 rfl rfl SH_3 q33) ?_
            refine wpR_nil ?_
            refine wpC_block ?_
            refine wpC_seq ?_
            refine wpC_cut (fun ρ => ρ 1 = (Sl.v p1) ∧ ρ 5 = (Value.bool r1) ∧ ρ 6 = (Value.pointer r2.1) ∧ ρ 8 = (Value.pointer r3.1) ∧ ρ 10 = (Sl.v l26.1) ∧ ρ 11 = (Sl.v l26.2.1) ∧ ρ 12 = (Value.int .i64 l26.2.2.1) ∧ ρ 13 = (Value.int .i64 l26.2.2.2.1) ∧ ρ 14 = (Value.int .i64 l26.2.2.2.2.1) ∧ ρ 15 = (Value.int .i64 l26.2.2.2.2.2) ∧ ρ 74 = (Value.int .i64 x33) ∧ True) ⟨e1, e5, e6, e8, e10, e11, e12, e13, e14, e15, rfl, trivial⟩ ?_
            rintro ρ ⟨e1, e5, e6, e8, e10, e11, e12, e13, e14, e15, e74, -⟩
            refine wpC_region ?_
            refine wpR_val (v := (Value.bool (decide (x33 = 0)))) (w' := w4) rfl rfl rfl (x_eql rfl e74 rfl) ?_
            refine wpR_val (v := (Value.bool (decide (x33 = 0)))) (w' := w4) rfl rfl rfl (x_assign (v := (Value.bool (decide (x33 = 0)))) rfl rfl) ?_
            refine wpR_nil ?_
            refine wpC_cond (b := decide (x33 = 0)) rfl (fun hc34 => ?_) (fun hc34 => ?_)
            · replace h := h.1 hc34
              refine wpC_seq ?_
              refine wpC_cut (fun ρ => ρ 1 = (Sl.v p1) ∧ ρ 5 = (Value.bool r1) ∧ ρ 6 = (Value.pointer r2.1) ∧ ρ 8 = (Value.pointer r3.1) ∧ ρ 10 = (Sl.v l26.1) ∧ ρ 11 = (Sl.v l26.2.1) ∧ ρ 12 = (Value.int .i64 l26.2.2.1) ∧ ρ 13 = (Value.int .i64 l26.2.2.2.1) ∧ ρ 14 = (Value.int .i64 l26.2.2.2.2.1) ∧ ρ 15 = (Value.int .i64 l26.2.2.2.2.2) ∧ True) ⟨e1, e5, e6, e8, e10, e11, e12, e13, e14, e15, trivial⟩ ?_
              rintro ρ ⟨e1, e5, e6, e8, e10, e11, e12, e13, e14, e15, -⟩
              refine wpC_region ?_
              refine wpR_val (v := (Value.pointer r2.1)) (w' := w4) rfl rfl rfl (x_move (v := (Value.pointer r2.1)) rfl e6) ?_
              refine wpR_enter rfl rfl rfl (x_call (vs := [(Value.pointer r2.1)]) rfl rfl (mapl_cons rfl mapl_nil) Try.func12 NN_12 NB_12) (Calls.mono h ?_)
              rintro _ w7 ⟨r35, rfl, h⟩
              refine ⟨_, rfl, ?_⟩
              refine wpR_val (v := (Value.tuple #[(Value.int .i64 r35.1), (Value.int .i64 r35.2)])) (w' := w7) rfl rfl rfl (x_move (v := (Value.tuple #[(Value.int .i64 r35.1), (Value.int .i64 r35.2)])) rfl rfl) ?_
              refine wpR_val (v := (Value.int .i64 r35.1)) (w' := w7) rfl rfl rfl (x_extract rfl rfl rfl) ?_
              refine wpR_val (v := (Value.int .i64 r35.2)) (w' := w7) rfl rfl rfl (x_extract rfl rfl rfl) ?_
              refine wpR_val (v := (Value.int .i64 r35.1)) (w' := w7) rfl rfl rfl (x_assign (v := (Value.int .i64 r35.1)) rfl rfl) ?_
              refine wpR_val (v := (Value.int .i64 r35.2)) (w' := w7) rfl rfl rfl (x_assign (v := (Value.int .i64 r35.2)) rfl rfl) ?_
              refine wpR_nil ?_
              refine wpC_seq ?_
              refine wpC_seq ?_
              refine wpC_cut (fun ρ => ρ 1 = (Sl.v p1) ∧ ρ 5 = (Value.bool r1) ∧ ρ 6 = (Value.pointer r2.1) ∧ ρ 8 = (Value.pointer r3.1) ∧ ρ 10 = (Sl.v l26.1) ∧ ρ 11 = (Sl.v l26.2.1) ∧ ρ 12 = (Value.int .i64 l26.2.2.1) ∧ ρ 13 = (Value.int .i64 l26.2.2.2.1) ∧ ρ 14 = (Value.int .i64 l26.2.2.2.2.1) ∧ ρ 15 = (Value.int .i64 l26.2.2.2.2.2) ∧ ρ 16 = (Value.int .i64 r35.1) ∧ ρ 17 = (Value.int .i64 r35.2) ∧ True) ⟨e1, e5, e6, e8, e10, e11, e12, e13, e14, e15, rfl, rfl, trivial⟩ ?_
              rintro ρ ⟨e1, e5, e6, e8, e10, e11, e12, e13, e14, e15, e16, e17, -⟩
              refine wpC_region ?_
              refine wpR_val (v := (Value.int .i64 r35.2)) (w' := w7) rfl rfl rfl (x_move (v := (Value.int .i64 r35.2)) rfl e17) ?_
              refine wpR_val (v := (Value.bool (!decide (r35.2 = 0)))) (w' := w7) rfl rfl rfl (x_neq rfl rfl rfl) ?_
              refine wpR_val (v := (Value.bool (!decide (r35.2 = 0)))) (w' := w7) rfl rfl rfl (x_move (v := (Value.bool (!decide (r35.2 = 0)))) rfl rfl) ?_
              refine wpR_joinJ 4 (fun (_ : Unit) ρ => ρ 88 = Value.bool ((!decide (r35.2 = 0)) || (!decide (r35.1 = l26.2.2.1))) ∧ ρ 1 = (Sl.v p1) ∧ ρ 5 = (Value.bool r1) ∧ ρ 6 = (Value.pointer r2.1) ∧ ρ 8 = (Value.pointer r3.1) ∧ ρ 10 = (Sl.v l26.1) ∧ ρ 11 = (Sl.v l26.2.1) ∧ ρ 12 = (Value.int .i64 l26.2.2.1) ∧ ρ 13 = (Value.int .i64 l26.2.2.2.1) ∧ ρ 14 = (Value.int .i64 l26.2.2.2.2.1) ∧ ρ 15 = (Value.int .i64 l26.2.2.2.2.2) ∧ True) (fun _ w => w7 = w) ?_ ?_
              · clear h
                rcases Bool.eq_false_or_eq_true (!decide (r35.2 = 0)) with hc37 | hc37
                · skip
                  refine wpR_pass (wantN rfl rfl rfl hc37) rfl rfl ?_
                  refine wpR_pass (wantN rfl rfl rfl hc37) rfl rfl ?_
                  refine wpR_pass (wantN rfl rfl rfl hc37) rfl rfl ?_
                  refine wpR_val (v := (Value.bool true)) (w' := w7) rfl rfl rfl (x_pickT (v := (Value.bool true)) rfl rfl hc37 rfl) ?_
                  refine wpR_nil ?_
                  exact ⟨(), ⟨(by rw [hc37]; rfl), e1, e5, e6, e8, e10, e11, e12, e13, e14, e15, trivial⟩, rfl⟩
                · skip
                  refine wpR_val (v := (Value.int .i64 r35.1)) (w' := w7) (wantG rfl rfl rfl hc37) rfl rfl (x_move (v := (Value.int .i64 r35.1)) rfl e16) ?_
                  refine wpR_val (v := (Value.int .i64 l26.2.2.1)) (w' := w7) (wantG rfl rfl rfl hc37) rfl rfl (x_move (v := (Value.int .i64 l26.2.2.1)) rfl e12) ?_
                  refine wpR_val (v := (Value.bool (!decide (r35.1 = l26.2.2.1)))) (w' := w7) (wantG rfl rfl rfl hc37) rfl rfl (x_neq rfl rfl rfl) ?_
                  refine wpR_val (v := (Value.bool (!decide (r35.1 = l26.2.2.1)))) (w' := w7) rfl rfl rfl (x_pickF (v := (Value.bool (!decide (r35.1 = l26.2.2.1)))) rfl rfl hc37 rfl) ?_
                  refine wpR_nil ?_
                  exact ⟨(), ⟨(by rw [hc37]; rfl), e1, e5, e6, e8, e10, e11, e12, e13, e14, e15, trivial⟩, rfl⟩
              rintro _ ρ wj ⟨e88, e1, e5, e6, e8, e10, e11, e12, e13, e14, e15, -⟩ rfl
              refine wpR_nil ?_
              refine wpC_cond (b := (!decide (r35.2 = 0)) || (!decide (r35.1 = l26.2.2.1))) e88 (fun hc38 => ?_) (fun hc38 => ?_)
              · replace h := h.1 hc38
                refine wpC_seq ?_
                refine wpC_region ?_
                refine wpR_val (v := (Value.bool false)) (w' := w7) rfl rfl rfl (x_assign (v := (Value.bool false)) rfl rfl) ?_
                refine wpR_nil ?_
                refine wpC_ret ?_
                exact ⟨.inl rfl, fun a ha => ⟨_, results_rep1 rfl ha rfl, false, rfl, h⟩⟩
              · replace h := h.2 hc38
                refine wpC_skip ?_
                refine wpC_region ?_
                refine wpR_val (v := (Value.int .i64 l26.2.2.1)) (w' := w7) rfl rfl rfl (x_move (v := (Value.int .i64 l26.2.2.1)) rfl e12) ?_
                refine wpR_val (v := (Value.int .i64 (IntKind.i64.wrap (l26.2.2.1 + 1)))) (w' := w7) rfl rfl rfl (x_add rfl rfl rfl) ?_
                refine wpR_val (v := (Value.int .i64 (IntKind.i64.wrap (l26.2.2.1 + 1)))) (w' := w7) rfl rfl rfl (x_assign (v := (Value.int .i64 (IntKind.i64.wrap (l26.2.2.1 + 1)))) rfl rfl) ?_
                refine wpR_nil ?_
                exact ⟨(l26.1, l26.2.1, IntKind.i64.wrap (l26.2.2.1 + 1), l26.2.2.2.1, l26.2.2.2.2.1), ⟨e10, e11, rfl, e13, e14, e1, e5, e6, e8, e15, trivial⟩, h⟩
            · replace h := h.2 hc34
              refine wpC_seq ?_
              refine wpC_cut (fun ρ => ρ 1 = (Sl.v p1) ∧ ρ 5 = (Value.bool r1) ∧ ρ 6 = (Value.pointer r2.1) ∧ ρ 8 = (Value.pointer r3.1) ∧ ρ 10 = (Sl.v l26.1) ∧ ρ 11 = (Sl.v l26.2.1) ∧ ρ 12 = (Value.int .i64 l26.2.2.1) ∧ ρ 13 = (Value.int .i64 l26.2.2.2.1) ∧ ρ 14 = (Value.int .i64 l26.2.2.2.2.1) ∧ ρ 15 = (Value.int .i64 l26.2.2.2.2.2) ∧ ρ 74 = (Value.int .i64 x33) ∧ True) ⟨e1, e5, e6, e8, e10, e11, e12, e13, e14, e15, e74, trivial⟩ ?_
              rintro ρ ⟨e1, e5, e6, e8, e10, e11, e12, e13, e14, e15, e74, -⟩
              refine wpC_region ?_
              refine wpR_val (v := (Value.bool (decide (x33 = 1)))) (w' := w4) rfl rfl rfl (x_eql rfl e74 rfl) ?_
              refine wpR_val (v := (Value.bool (decide (x33 = 1)))) (w' := w4) rfl rfl rfl (x_assign (v := (Value.bool (decide (x33 = 1)))) rfl rfl) ?_
              refine wpR_nil ?_
              refine wpC_cond (b := decide (x33 = 1)) rfl (fun hc39 => ?_) (fun hc39 => ?_)
              · replace h := h.1 hc39
                refine wpC_seq ?_
                refine wpC_cut (fun ρ => ρ 1 = (Sl.v p1) ∧ ρ 5 = (Value.bool r1) ∧ ρ 6 = (Value.pointer r2.1) ∧ ρ 8 = (Value.pointer r3.1) ∧ ρ 10 = (Sl.v l26.1) ∧ ρ 11 = (Sl.v l26.2.1) ∧ ρ 12 = (Value.int .i64 l26.2.2.1) ∧ ρ 13 = (Value.int .i64 l26.2.2.2.1) ∧ ρ 14 = (Value.int .i64 l26.2.2.2.2.1) ∧ ρ 15 = (Value.int .i64 l26.2.2.2.2.2) ∧ True) ⟨e1, e5, e6, e8, e10, e11, e12, e13, e14, e15, trivial⟩ ?_
                rintro ρ ⟨e1, e5, e6, e8, e10, e11, e12, e13, e14, e15, -⟩
                refine wpC_region ?_
                refine wpR_val (v := (Sl.v l26.1)) (w' := w4) rfl rfl rfl (x_move (v := (Sl.v l26.1)) rfl e10) ?_
                refine wpR_val (v := (Value.int .i64 (l26.1.len : Int))) (w' := w4) rfl rfl rfl (x_lenS (s := l26.1) rfl rfl isSliceT_22) ?_
                refine wpR_val (v := (Value.bool (decide ((l26.1.len : Int) < 400)))) (w' := w4) rfl rfl rfl (x_lss rfl rfl rfl) ?_
                refine wpR_nil ?_
                refine wpC_cond (b := decide ((l26.1.len : Int) < 400)) rfl (fun hc40 => ?_) (fun hc40 => ?_)
                · replace h := h.1 hc40
                  refine wpC_cut (fun ρ => ρ 1 = (Sl.v p1) ∧ ρ 5 = (Value.bool r1) ∧ ρ 6 = (Value.pointer r2.1) ∧ ρ 8 = (Value.pointer r3.1) ∧ ρ 10 = (Sl.v l26.1) ∧ ρ 11 = (Sl.v l26.2.1) ∧ ρ 12 = (Value.int .i64 l26.2.2.1) ∧ ρ 13 = (Value.int .i64 l26.2.2.2.1) ∧ ρ 14 = (Value.int .i64 l26.2.2.2.2.1) ∧ ρ 15 = (Value.int .i64 l26.2.2.2.2.2) ∧ True) ⟨e1, e5, e6, e8, e10, e11, e12, e13, e14, e15, trivial⟩ ?_
                  rintro ρ ⟨e1, e5, e6, e8, e10, e11, e12, e13, e14, e15, -⟩
                  refine wpC_region ?_
                  refine wpR_val (v := (Sl.v l26.1)) (w' := w4) rfl rfl rfl (x_move (v := (Sl.v l26.1)) rfl e10) ?_
                  refine wpR_val (v := (Value.pointer r2.1)) (w' := w4) rfl rfl rfl (x_move (v := (Value.pointer r2.1)) rfl e6) ?_
                  refine wpR_enter rfl rfl rfl (x_call (vs := [(Value.pointer r2.1)]) rfl rfl (mapl_cons rfl mapl_nil) Try.func17 NN_17 NB_17) (Calls.mono h ?_)
                  rintro _ w8 ⟨r41, rfl, h⟩
                  refine ⟨_, rfl, ?_⟩
                  obtain ⟨r42, w9, q42, h⟩ := h
                  refine wpR_val (v := (Sl.v r42)) (w' := w9) rfl rfl rfl (x_append (s := l26.1) (u := r41) rfl rfl rfl rfl q42) ?_
                  refine wpR_val (v := (Sl.v r42)) (w' := w9) rfl rfl rfl (x_assign (v := (Sl.v r42)) rfl rfl) ?_
                  refine wpR_nil ?_
                  exact ⟨(r42, l26.2.1, l26.2.2.1, l26.2.2.2.1, l26.2.2.2.2.1), ⟨rfl, e11, e12, e13, e14, e1, e5, e6, e8, e15, trivial⟩, h⟩
                · replace h := h.2 hc40
                  refine wpC_skip ?_
                  exact ⟨(l26.1, l26.2.1, l26.2.2.1, l26.2.2.2.1, l26.2.2.2.2.1), ⟨e10, e11, e12, e13, e14, e1, e5, e6, e8, e15, trivial⟩, h⟩
              · replace h := h.2 hc39
                refine wpC_seq ?_
                refine wpC_cut (fun ρ => ρ 1 = (Sl.v p1) ∧ ρ 5 = (Value.bool r1) ∧ ρ 6 = (Value.pointer r2.1) ∧ ρ 8 = (Value.pointer r3.1) ∧ ρ 10 = (Sl.v l26.1) ∧ ρ 11 = (Sl.v l26.2.1) ∧ ρ 12 = (Value.int .i64 l26.2.2.1) ∧ ρ 13 = (Value.int .i64 l26.2.2.2.1) ∧ ρ 14 = (Value.int .i64 l26.2.2.2.2.1) ∧ ρ 15 = (Value.int .i64 l26.2.2.2.2.2) ∧ ρ 74 = (Value.int .i64 x33) ∧ True) ⟨e1, e5, e6, e8, e10, e11, e12, e13, e14, e15, e74, trivial⟩ ?_
                rintro ρ ⟨e1, e5, e6, e8, e10, e11, e12, e13, e14, e15, e74, -⟩
                refine wpC_region ?_
                refine wpR_val (v := (Value.bool (decide (x33 = 2)))) (w' := w4) rfl rfl rfl (x_eql rfl e74 rfl) ?_
                refine wpR_val (v := (Value.bool (decide (x33 = 2)))) (w' := w4) rfl rfl rfl (x_assign (v := (Value.bool (decide (x33 = 2)))) rfl rfl) ?_
                refine wpR_nil ?_
                refine wpC_cond (b := decide (x33 = 2)) rfl (fun hc43 => ?_) (fun hc43 => ?_)
                · replace h := h.1 hc43
                  refine wpC_seq ?_
                  refine wpC_seq ?_
                  refine wpC_cut (fun ρ => ρ 1 = (Sl.v p1) ∧ ρ 5 = (Value.bool r1) ∧ ρ 6 = (Value.pointer r2.1) ∧ ρ 8 = (Value.pointer r3.1) ∧ ρ 10 = (Sl.v l26.1) ∧ ρ 11 = (Sl.v l26.2.1) ∧ ρ 12 = (Value.int .i64 l26.2.2.1) ∧ ρ 13 = (Value.int .i64 l26.2.2.2.1) ∧ ρ 14 = (Value.int .i64 l26.2.2.2.2.1) ∧ ρ 15 = (Value.int .i64 l26.2.2.2.2.2) ∧ True) ⟨e1, e5, e6, e8, e10, e11, e12, e13, e14, e15, trivial⟩ ?_
                  rintro ρ ⟨e1, e5, e6, e8, e10, e11, e12, e13, e14, e15, -⟩
                  refine wpC_region ?_
                  refine wpR_val (v := (Sl.v l26.1)) (w' := w4) rfl rfl rfl (x_move (v := (Sl.v l26.1)) rfl e10) ?_
                  refine wpR_val (v := (Value.int .i64 (l26.1.len : Int))) (w' := w4) rfl rfl rfl (x_lenS (s := l26.1) rfl rfl isSliceT_22) ?_
                  refine wpR_val (v := (Value.bool (decide ((l26.1.len : Int) = 0)))) (w' := w4) rfl rfl rfl (x_eql rfl rfl rfl) ?_
                  refine wpR_nil ?_
                  refine wpC_cond (b := decide ((l26.1.len : Int) = 0)) rfl (fun hc44 => ?_) (fun hc44 => ?_)
                  · replace h := h.1 hc44
                    refine wpC_exit ?_
                    exact ⟨(l26.1, l26.2.1, l26.2.2.1, l26.2.2.2.1, l26.2.2.2.2.1), ⟨e10, e11, e12, e13, e14, e1, e5, e6, e8, e15, trivial⟩, h⟩
                  · replace h := h.2 hc44
                    refine wpC_skip ?_
                    refine wpC_seq ?_
                    refine wpC_cut (fun ρ => ρ 1 = (Sl.v p1) ∧ ρ 5 = (Value.bool r1) ∧ ρ 6 = (Value.pointer r2.1) ∧ ρ 8 = (Value.pointer r3.1) ∧ ρ 10 = (Sl.v l26.1) ∧ ρ 11 = (Sl.v l26.2.1) ∧ ρ 12 = (Value.int .i64 l26.2.2.1) ∧ ρ 13 = (Value.int .i64 l26.2.2.2.1) ∧ ρ 14 = (Value.int .i64 l26.2.2.2.2.1) ∧ ρ 15 = (Value.int .i64 l26.2.2.2.2.2) ∧ True) ⟨e1, e5, e6, e8, e10, e11, e12, e13, e14, e15, trivial⟩ ?_
                    rintro ρ ⟨e1, e5, e6, e8, e10, e11, e12, e13, e14, e15, -⟩
                    refine wpC_region ?_
                    refine wpR_val (v := (Value.pointer r3.1)) (w' := w4) rfl rfl rfl (x_move (v := (Value.pointer r3.1)) rfl e8) ?_
                    refine wpR_val (v := (Sl.v l26.1)) (w' := w4) rfl rfl rfl (x_move (v := (Sl.v l26.1)) rfl e10) ?_
                    refine wpR_val (v := (Sl.v p1)) (w' := w4) rfl rfl rfl (x_move (v := (Sl.v p1)) rfl e1) ?_
                    refine wpR_val (v := (Value.int .i64 l26.2.2.2.2.2)) (w' := w4) rfl rfl rfl (x_move (v := (Value.int .i64 l26.2.2.2.2.2)) rfl e15) ?_
                    obtain ⟨q45, z45, r45, h⟩ := h
                    generalize hp45 : z45.add ((l26.2.2.2.2.2 : Int).toNat * 2) = p45 at h
                    refine wpR_val (v := (Value.pointer (some p45))) (w' := w4) rfl rfl rfl ((x_indexAddr (s := p1) rfl rfl rfl ES_51 q45 r45).trans (by rw [hp45])) ?_
                    refine wpR_val (v := (Value.pointer (some (p45.add 1)))) (w' := w4) rfl rfl rfl (x_fieldAddr rfl rfl FA_53_1) ?_
                    obtain ⟨x46, q46, h⟩ := h
                    refine wpR_val (v := (Value.int .i64 x46)) (w' := w4) rfl rfl rfl (x_load1 rfl rfl SH_3 q46) ?_
                    refine wpR_enter rfl rfl rfl (x_call (vs := [(Sl.v l26.1), (Value.int .i64 x46)]) rfl rfl (mapl_cons rfl (mapl_cons rfl mapl_nil)) Try.func23 NN_23 NB_23) (Calls.mono h ?_)
                    rintro _ w10 ⟨r47, rfl, h⟩
                    refine ⟨_, rfl, ?_⟩
                    refine wpR_enter rfl rfl rfl (x_call (vs := [(Value.pointer r3.1), (Value.int .i64 r47)]) rfl rfl (mapl_cons rfl (mapl_cons rfl mapl_nil)) Try.func20 NN_20 NB_20) (Calls.mono h ?_)
                    rintro _ w11 ⟨r48, rfl, h⟩
                    refine ⟨_, rfl, ?_⟩
                    refine wpR_val (v := (Value.tuple #[(Sl.v r48.1), (Value.int .i64 r48.2)])) (w' := w11) rfl rfl rfl (x_move (v := (Value.tuple #[(Sl.v r48.1), (Value.int .i64 r48.2)])) rfl rfl) ?_
                    refine wpR_val (v := (Sl.v r48.1)) (w' := w11) rfl rfl rfl (x_extract rfl rfl rfl) ?_
                    refine wpR_val (v := (Value.int .i64 r48.2)) (w' := w11) rfl rfl rfl (x_extract rfl rfl rfl) ?_
                    refine wpR_val (v := (Sl.v r48.1)) (w' := w11) rfl rfl rfl (x_assign (v := (Sl.v r48.1)) rfl rfl) ?_
                    refine wpR_val (v := (Value.int .i64 r48.2)) (w' := w11) rfl rfl rfl (x_assign (v := (Value.int .i64 r48.2)) rfl rfl) ?_
                    refine wpR_nil ?_
                    refine wpC_seq ?_
                    refine wpC_seq ?_
                    refine wpC_cut (fun ρ => ρ 1 = (Sl.v p1) ∧ ρ 5 = (Value.bool r1) ∧ ρ 6 = (Value.pointer r2.1) ∧ ρ 8 = (Value.pointer r3.1) ∧ ρ 10 = (Sl.v l26.1) ∧ ρ 11 = (Sl.v l26.2.1) ∧ ρ 12 = (Value.int .i64 l26.2.2.1) ∧ ρ 13 = (Value.int .i64 l26.2.2.2.1) ∧ ρ 14 = (Value.int .i64 l26.2.2.2.2.1) ∧ ρ 15 = (Value.int .i64 l26.2.2.2.2.2) ∧ ρ 18 = (Sl.v r48.1) ∧ ρ 19 = (Value.int .i64 r48.2) ∧ True) ⟨e1, e5, e6, e8, e10, e11, e12, e13, e14, e15, rfl, rfl, trivial⟩ ?_
                    rintro ρ ⟨e1, e5, e6, e8, e10, e11, e12, e13, e14, e15, e18, e19, -⟩
                    refine wpC_region ?_
                    refine wpR_val (v := (Value.int .i64 0)) (w' := w11) rfl rfl rfl (x_assign (v := (Value.int .i64 0)) rfl rfl) ?_
                    refine wpR_nil ?_
                    refine wpC_block ?_
                    obtain ⟨I49, μ49, hI49, hr49⟩ := h
                    refine wpC_loop (fun (x : Int × Int) ρ => ρ 13 = (Value.int .i64 x.1) ∧ ρ 20 = (Value.int .i64 x.2) ∧ ρ 1 = (Sl.v p1) ∧ ρ 5 = (Value.bool r1) ∧ ρ 6 = (Value.pointer r2.1) ∧ ρ 8 = (Value.pointer r3.1) ∧ ρ 10 = (Sl.v l26.1) ∧ ρ 11 = (Sl.v l26.2.1) ∧ ρ 12 = (Value.int .i64 l26.2.2.1) ∧ ρ 14 = (Value.int .i64 l26.2.2.2.2.1) ∧ ρ 15 = (Value.int .i64 l26.2.2.2.2.2) ∧ ρ 18 = (Sl.v r48.1) ∧ ρ 19 = (Value.int .i64 r48.2) ∧ True) I49 μ49 (l26.2.2.2.1, 0) ⟨e13, rfl, e1, e5, e6, e8, e10, e11, e12, e14, e15, e18, e19, trivial⟩ hI49 ?_
                    rintro l49 ρ w12 ⟨e13, e20, e1, e5, e6, e8, e10, e11, e12, e14, e15, e18, e19, -⟩ h
                    replace h := hr49 l49 w12 h
                    clear hr49 hI49
                    refine wpC_seq ?_
                    refine wpC_seq ?_
                    refine wpC_region ?_
                    refine wpR_val (v := (Value.int .i64 l49.2)) (w' := w12) rfl rfl rfl (x_move (v := (Value.int .i64 l49.2)) rfl e20) ?_
                    refine wpR_val (v := (Sl.v r48.1)) (w' := w12) rfl rfl rfl (x_move (v := (Sl.v r48.1)) rfl e18) ?_
                    refine wpR_val (v := (Value.int .i64 (r48.1.len : Int))) (w' := w12) rfl rfl rfl (x_lenS (s := r48.1) rfl rfl isSliceT_22) ?_
                    refine wpR_val (v := (Value.bool (decide (l49.2 < (r48.1.len : Int))))) (w' := w12) rfl rfl rfl (x_lss rfl rfl rfl) ?_
                    refine wpR_nil ?_
                    refine wpC_cond (b := decide (l49.2 < (r48.1.len : Int))) rfl (fun hc50 => ?_) (fun hc50 => ?_)
                    · replace h := h.1 hc50
                      refine wpC_skip ?_
                      refine wpC_seq ?_
                      refine wpC_block ?_
                      refine wpC_seq ?_
                      refine wpC_seq ?_
                      refine wpC_cut (fun ρ => ρ 1 = (Sl.v p1) ∧ ρ 5 = (Value.bool r1) ∧ ρ 6 = (Value.pointer r2.1) ∧ ρ 8 = (Value.pointer r3.1) ∧ ρ 10 = (Sl.v l26.1) ∧ ρ 11 = (Sl.v l26.2.1) ∧ ρ 12 = (Value.int .i64 l26.2.2.1) ∧ ρ 13 = (Value.int .i64 l49.1) ∧ ρ 14 = (Value.int .i64 l26.2.2.2.2.1) ∧ ρ 15 = (Value.int .i64 l26.2.2.2.2.2) ∧ ρ 18 = (Sl.v r48.1) ∧ ρ 19 = (Value.int .i64 r48.2) ∧ ρ 20 = (Value.int .i64 l49.2) ∧ True) ⟨e1, e5, e6, e8, e10, e11, e12, e13, e14, e15, e18, e19, e20, trivial⟩ ?_
                      rintro ρ ⟨e1, e5, e6, e8, e10, e11, e12, e13, e14, e15, e18, e19, e20, -⟩
                      refine wpC_region ?_
                      refine wpR_val (v := (Sl.v r48.1)) (w' := w12) rfl rfl rfl (x_move (v := (Sl.v r48.1)) rfl e18) ?_
                      refine wpR_val (v := (Value.int .i64 l49.2)) (w' := w12) rfl rfl rfl (x_move (v := (Value.int .i64 l49.2)) rfl e20) ?_
                      obtain ⟨q51, z51, r51, h⟩ := h
                      generalize hp51 : z51.add ((l49.2 : Int).toNat * 1) = p51 at h
                      refine wpR_val (v := (Value.pointer (some p51))) (w' := w12) rfl rfl rfl ((x_indexAddr (s := r48.1) rfl rfl rfl ES_22 q51 r51).trans (by rw [hp51])) ?_
                      obtain ⟨x52, q52, h⟩ := h
                      refine wpR_val (v := (Value.int .i64 x52)) (w' := w12) rfl rfl rfl (x_load1 rfl rfl SH_3 q52) ?_
                      refine wpR_val (v := (Value.int .i64 l49.1)) (w' := w12) rfl rfl rfl (x_move (v := (Value.int .i64 l49.1)) rfl e13) ?_
                      refine wpR_val (v := (Value.bool (!decide (x52 = l49.1)))) (w' := w12) rfl rfl rfl (x_neq rfl rfl rfl) ?_
                      refine wpR_nil ?_
                      refine wpC_cond (b := !decide (x52 = l49.1)) rfl (fun hc53 => ?_) (fun hc53 => ?_)
                      · replace h := h.1 hc53
                        refine wpC_seq ?_
                        refine wpC_cut (fun ρ => True) trivial ?_
                        rintro ρ -
                        refine wpC_region ?_
                        refine wpR_val (v := (Value.bool false)) (w' := w12) rfl rfl rfl (x_assign (v := (Value.bool false)) rfl rfl) ?_
                        refine wpR_nil ?_
                        refine wpC_ret ?_
                        exact ⟨.inl rfl, fun a ha => ⟨_, results_rep1 rfl ha rfl, false, rfl, h⟩⟩
                      · replace h := h.2 hc53
                        refine wpC_skip ?_
                        refine wpC_cut (fun ρ => ρ 1 = (Sl.v p1) ∧ ρ 5 = (Value.bool r1) ∧ ρ 6 = (Value.pointer r2.1) ∧ ρ 8 = (Value.pointer r3.1) ∧ ρ 10 = (Sl.v l26.1) ∧ ρ 11 = (Sl.v l26.2.1) ∧ ρ 12 = (Value.int .i64 l26.2.2.1) ∧ ρ 13 = (Value.int .i64 l49.1) ∧ ρ 14 = (Value.int .i64 l26.2.2.2.2.1) ∧ ρ 15 = (Value.int .i64 l26.2.2.2.2.2) ∧ ρ 18 = (Sl.v r48.1) ∧ ρ 19 = (Value.int .i64 r48.2) ∧ ρ 20 = (Value.int .i64 l49.2) ∧ True) ⟨e1, e5, e6, e8, e10, e11, e12, e13, e14, e15, e18, e19, e20, trivial⟩ ?_
                        rintro ρ ⟨e1, e5, e6, e8, e10, e11, e12, e13, e14, e15, e18, e19, e20, -⟩
                        refine wpC_region ?_
                        refine wpR_val (v := (Value.int .i64 l49.1)) (w' := w12) rfl rfl rfl (x_move (v := (Value.int .i64 l49.1)) rfl e13) ?_
                        refine wpR_val (v := (Value.int .i64 (IntKind.i64.wrap (l49.1 + 1)))) (w' := w12) rfl rfl rfl (x_add rfl rfl rfl) ?_
                        refine wpR_val (v := (Value.int .i64 (IntKind.i64.wrap (l49.1 + 1)))) (w' := w12) rfl rfl rfl (x_assign (v := (Value.int .i64 (IntKind.i64.wrap (l49.1 + 1)))) rfl rfl) ?_
                        refine wpR_nil ?_
                        refine wpC_cut (fun ρ => ρ 1 = (Sl.v p1) ∧ ρ 5 = (Value.bool r1) ∧ ρ 6 = (Value.pointer r2.1) ∧ ρ 8 = (Value.pointer r3.1) ∧ ρ 10 = (Sl.v l26.1) ∧ ρ 11 = (Sl.v l26.2.1) ∧ ρ 12 = (Value.int .i64 l26.2.2.1) ∧ ρ 13 = (Value.int .i64 (IntKind.i64.wrap (l49.1 + 1))) ∧ ρ 14 = (Value.int .i64 l26.2.2.2.2.1) ∧ ρ 15 = (Value.int .i64 l26.2.2.2.2.2) ∧ ρ 18 = (Sl.v r48.1) ∧ ρ 19 = (Value.int .i64 r48.2) ∧ ρ 20 = (Value.int .i64 l49.2) ∧ True) ⟨e1, e5, e6, e8, e10, e11, e12, rfl, e14, e15, e18, e19, e20, trivial⟩ ?_
                        rintro ρ ⟨e1, e5, e6, e8, e10, e11, e12, e13, e14, e15, e18, e19, e20, -⟩
                        refine wpC_region ?_
                        refine wpR_val (v := (Value.int .i64 l49.2)) (w' := w12) rfl rfl rfl (x_move (v := (Value.int .i64 l49.2)) rfl e20) ?_
                        refine wpR_val (v := (Value.int .i64 (IntKind.i64.wrap (l49.2 + 1)))) (w' := w12) rfl rfl rfl (x_add rfl rfl rfl) ?_
                        refine wpR_val (v := (Value.int .i64 (IntKind.i64.wrap (l49.2 + 1)))) (w' := w12) rfl rfl rfl (x_assign (v := (Value.int .i64 (IntKind.i64.wrap (l49.2 + 1)))) rfl rfl) ?_
                        refine wpR_nil ?_
                        exact ⟨(IntKind.i64.wrap (l49.1 + 1), IntKind.i64.wrap (l49.2 + 1)), ⟨e13, rfl, e1, e5, e6, e8, e10, e11, e12, e14, e15, e18, e19, trivial⟩, h⟩
                    · replace h := h.2 hc50
                      refine wpC_exit ?_
                      refine wpC_seq ?_
                      refine wpC_seq ?_
                      refine wpC_cut (fun ρ => ρ 1 = (Sl.v p1) ∧ ρ 5 = (Value.bool r1) ∧ ρ 6 = (Value.pointer r2.1) ∧ ρ 8 = (Value.pointer r3.1) ∧ ρ 10 = (Sl.v l26.1) ∧ ρ 11 = (Sl.v l26.2.1) ∧ ρ 12 = (Value.int .i64 l26.2.2.1) ∧ ρ 13 = (Value.int .i64 l49.1) ∧ ρ 14 = (Value.int .i64 l26.2.2.2.2.1) ∧ ρ 15 = (Value.int .i64 l26.2.2.2.2.2) ∧ ρ 19 = (Value.int .i64 r48.2) ∧ True) ⟨e1, e5, e6, e8, e10, e11, e12, e13, e14, e15, e19, trivial⟩ ?_
                      rintro ρ ⟨e1, e5, e6, e8, e10, e11, e12, e13, e14, e15, e19, -⟩
                      refine wpC_region ?_
                      refine wpR_val (v := (Value.int .i64 r48.2)) (w' := w12) rfl rfl rfl (x_move (v := (Value.int .i64 r48.2)) rfl e19) ?_
                      refine wpR_val (v := (Value.int .i64 l49.1)) (w' := w12) rfl rfl rfl (x_move (v := (Value.int .i64 l49.1)) rfl e13) ?_
                      refine wpR_val (v := (Value.bool (!decide (r48.2 = l49.1)))) (w' := w12) rfl rfl rfl (x_neq rfl rfl rfl) ?_
                      refine wpR_val (v := (Value.bool (!decide (r48.2 = l49.1)))) (w' := w12) rfl rfl rfl (x_move (v := (Value.bool (!decide (r48.2 = l49.1)))) rfl rfl) ?_
                      obtain ⟨J54, h, hk⟩ := h
                      refine wpR_joinJ 5 (fun x ρ => ρ 139 = Value.bool x ∧ ρ 1 = (Sl.v p1) ∧ ρ 5 = (Value.bool r1) ∧ ρ 6 = (Value.pointer r2.1) ∧ ρ 8 = (Value.pointer r3.1) ∧ ρ 10 = (Sl.v l26.1) ∧ ρ 11 = (Sl.v l26.2.1) ∧ ρ 12 = (Value.int .i64 l26.2.2.1) ∧ ρ 13 = (Value.int .i64 l49.1) ∧ ρ 14 = (Value.int .i64 l26.2.2.2.2.1) ∧ ρ 15 = (Value.int .i64 l26.2.2.2.2.2) ∧ ρ 19 = (Value.int .i64 r48.2) ∧ True) (J54) ?_ ?_
                      · clear hk
                        rcases Bool.eq_false_or_eq_true (!decide (r48.2 = l49.1)) with hc55 | hc55
                        · replace h := h.1 hc55
                          refine wpR_pass (wantN rfl rfl rfl hc55) rfl rfl ?_
                          refine wpR_pass (wantN rfl rfl rfl hc55) rfl rfl ?_
                          refine wpR_pass (wantN rfl rfl rfl hc55) rfl rfl ?_
                          refine wpR_pass (wantN rfl rfl rfl hc55) rfl rfl ?_
                          refine wpR_val (v := (Value.bool true)) (w' := w12) rfl rfl rfl (x_pickT (v := (Value.bool true)) rfl rfl hc55 rfl) ?_
                          refine wpR_nil ?_
                          exact ⟨true, ⟨rfl, e1, e5, e6, e8, e10, e11, e12, e13, e14, e15, e19, trivial⟩, h⟩
                        · replace h := h.2 hc55
                          refine wpR_val (v := (Value.pointer r3.1)) (w' := w12) (wantG rfl rfl rfl hc55) rfl rfl (x_move (v := (Value.pointer r3.1)) rfl e8) ?_
                          refine wpR_enter (wantG rfl rfl rfl hc55) rfl rfl (x_call (vs := [(Value.pointer r3.1)]) rfl rfl (mapl_cons rfl mapl_nil) Try.func22 NN_22 NB_22) (Calls.mono h ?_)
                          rintro _ w13 ⟨r56, rfl, h⟩
                          refine ⟨_, rfl, ?_⟩
                          refine wpR_val (v := (Value.int .i64 l49.1)) (w' := w13) (wantG rfl rfl rfl hc55) rfl rfl (x_move (v := (Value.int .i64 l49.1)) rfl e13) ?_
                          refine wpR_val (v := (Value.bool (!decide (r56 = l49.1)))) (w' := w13) (wantG rfl rfl rfl hc55) rfl rfl (x_neq rfl rfl rfl) ?_
                          refine wpR_val (v := (Value.bool (!decide (r56 = l49.1)))) (w' := w13) rfl rfl rfl (x_pickF (v := (Value.bool (!decide (r56 = l49.1)))) rfl rfl hc55 rfl) ?_
                          refine wpR_nil ?_
                          exact ⟨!decide (r56 = l49.1), ⟨rfl, e1, e5, e6, e8, e10, e11, e12, e13, e14, e15, e19, trivial⟩, h⟩
                      clear h
                      rintro c57 ρ w14 ⟨e139, e1, e5, e6, e8, e10, e11, e12, e13, e14, e15, e19, -⟩ h
                      replace h := hk c57 w14 h
                      clear hk
                      refine wpR_nil ?_
                      refine wpC_cond (b := c57) e139 (fun hc58 => ?_) (fun hc58 => ?_)
                      · replace h := h.1 hc58
                        refine wpC_seq ?_
                        refine wpC_region ?_
                        refine wpR_val (v := (Value.bool false)) (w' := w14) rfl rfl rfl (x_assign (v := (Value.bool false)) rfl rfl) ?_
                        refine wpR_nil ?_
                        refine wpC_ret ?_
                        exact ⟨.inl rfl, fun a ha => ⟨_, results_rep1 rfl ha rfl, false, rfl, h⟩⟩
                      · replace h := h.2 hc58
                        refine wpC_skip ?_
                        refine wpC_region ?_
                        refine wpR_val (v := (Sl.v l26.2.1)) (w' := w14) rfl rfl rfl (x_move (v := (Sl.v l26.2.1)) rfl e11) ?_
                        refine wpR_val (v := (Value.int .i64 r48.2)) (w' := w14) rfl rfl rfl (x_move (v := (Value.int .i64 r48.2)) rfl e19) ?_
                        obtain ⟨b59, hb59⟩ : ∃ u, u = w14.heap.size := ⟨_, rfl⟩
                        obtain ⟨w15, hw59⟩ : ∃ u, u = w14.alloc (.cells #[(Value.int .i64 r48.2)] 3) := ⟨_, rfl⟩
                        replace h := h b59 w15 hb59 hw59
                        refine wpR_val (v := (Sl.v (⟨some ⟨b59, 0, none⟩, 1, 1⟩ : Sl))) (w' := w15) rfl rfl rfl ((x_buildSlice (qs := [(0, (Value.int .i64 r48.2))]) rfl (by rfl) (BS_22_1_0 r48.2)).trans (by rw [← hb59, ← hw59])) ?_
                        obtain ⟨r60, w16, q60, h⟩ := h
                        refine wpR_val (v := (Sl.v r60)) (w' := w16) rfl rfl rfl (x_append (s := l26.2.1) (u := (⟨some ⟨b59, 0, none⟩, 1, 1⟩ : Sl)) rfl rfl rfl rfl q60) ?_
                        refine wpR_val (v := (Sl.v r60)) (w' := w16) rfl rfl rfl (x_assign (v := (Sl.v r60)) rfl rfl) ?_
                        refine wpR_nil ?_
                        exact ⟨(l26.1, r60, l26.2.2.1, l49.1, l26.2.2.2.2.1), ⟨e10, rfl, e12, e13, e14, e1, e5, e6, e8, e15, trivial⟩, h⟩
                · replace h := h.2 hc43
                  obtain ⟨J61, h, hk⟩ := h
                  refine wpC_seqJ (fun (x : Bool) ρ => ρ 144 = (Value.bool x) ∧ ρ 1 = (Sl.v p1) ∧ ρ 5 = (Value.bool r1) ∧ ρ 6 = (Value.pointer r2.1) ∧ ρ 8 = (Value.pointer r3.1) ∧ ρ 10 = (Sl.v l26.1) ∧ ρ 11 = (Sl.v l26.2.1) ∧ ρ 12 = (Value.int .i64 l26.2.2.1) ∧ ρ 13 = (Value.int .i64 l26.2.2.2.1) ∧ ρ 14 = (Value.int .i64 l26.2.2.2.2.1) ∧ ρ 15 = (Value.int .i64 l26.2.2.2.2.2) ∧ True) J61 ?_ ?_
                  · clear hk
                    refine wpC_seq ?_
                    refine wpC_cut (fun ρ => ρ 1 = (Sl.v p1) ∧ ρ 5 = (Value.bool r1) ∧ ρ 6 = (Value.pointer r2.1) ∧ ρ 8 = (Value.pointer r3.1) ∧ ρ 10 = (Sl.v l26.1) ∧ ρ 11 = (Sl.v l26.2.1) ∧ ρ 12 = (Value.int .i64 l26.2.2.1) ∧ ρ 13 = (Value.int .i64 l26.2.2.2.1) ∧ ρ 14 = (Value.int .i64 l26.2.2.2.2.1) ∧ ρ 15 = (Value.int .i64 l26.2.2.2.2.2) ∧ ρ 74 = (Value.int .i64 x33) ∧ True) ⟨e1, e5, e6, e8, e10, e11, e12, e13, e14, e15, e74, trivial⟩ ?_
                    rintro ρ ⟨e1, e5, e6, e8, e10, e11, e12, e13, e14, e15, e74, -⟩
                    refine wpC_region ?_
                    refine wpR_val (v := (Value.bool (decide (x33 = 3)))) (w' := w4) rfl rfl rfl (x_eql rfl e74 rfl) ?_
                    refine wpR_val (v := (Value.bool (decide (x33 = 3)))) (w' := w4) rfl rfl rfl (x_assign (v := (Value.bool (decide (x33 = 3)))) rfl rfl) ?_
                    refine wpR_nil ?_
                    refine wpC_cond (b := decide (x33 = 3)) rfl (fun hc63 => ?_) (fun hc63 => ?_)
                    · replace h := h.1 hc63
                      refine wpC_skip ?_
                      exact ⟨decide (x33 = 3), ⟨rfl, e1, e5, e6, e8, e10, e11, e12, e13, e14, e15, trivial⟩, h⟩
                    · replace h := h.2 hc63
                      refine wpC_cut (fun ρ => ρ 1 = (Sl.v p1) ∧ ρ 5 = (Value.bool r1) ∧ ρ 6 = (Value.pointer r2.1) ∧ ρ 8 = (Value.pointer r3.1) ∧ ρ 10 = (Sl.v l26.1) ∧ ρ 11 = (Sl.v l26.2.1) ∧ ρ 12 = (Value.int .i64 l26.2.2.1) ∧ ρ 13 = (Value.int .i64 l26.2.2.2.1) ∧ ρ 14 = (Value.int .i64 l26.2.2.2.2.1) ∧ ρ 15 = (Value.int .i64 l26.2.2.2.2.2) ∧ ρ 74 = (Value.int .i64 x33) ∧ True) ⟨e1, e5, e6, e8, e10, e11, e12, e13, e14, e15, e74, trivial⟩ ?_
                      rintro ρ ⟨e1, e5, e6, e8, e10, e11, e12, e13, e14, e15, e74, -⟩
                      refine wpC_region ?_
                      refine wpR_val (v := (Value.bool (decide (x33 = 4)))) (w' := w4) rfl rfl rfl (x_eql rfl e74 rfl) ?_
                      refine wpR_val (v := (Value.bool (decide (x33 = 4)))) (w' := w4) rfl rfl rfl (x_assign (v := (Value.bool (decide (x33 = 4)))) rfl rfl) ?_
                      refine wpR_nil ?_
                      exact ⟨decide (x33 = 4), ⟨rfl, e1, e5, e6, e8, e10, e11, e12, e13, e14, e15, trivial⟩, h⟩
                  clear h
                  rintro l62 ρ w17 ⟨e144, e1, e5, e6, e8, e10, e11, e12, e13, e14, e15, -⟩ h
                  replace h := hk l62 w17 h
                  clear hk
                  refine wpC_cond (b := l62) e144 (fun hc64 => ?_) (fun hc64 => ?_)
                  · replace h := h.1 hc64
                    refine wpC_seq ?_
                    refine wpC_seq ?_
                    refine wpC_region ?_
                    refine wpR_val (v := (Sl.v l26.2.1)) (w' := w17) rfl rfl rfl (x_move (v := (Sl.v l26.2.1)) rfl e11) ?_
                    refine wpR_val (v := (Value.int .i64 (l26.2.1.len : Int))) (w' := w17) rfl rfl rfl (x_lenS (s := l26.2.1) rfl rfl isSliceT_22) ?_
                    refine wpR_val (v := (Value.bool (decide ((l26.2.1.len : Int) = 0)))) (w' := w17) rfl rfl rfl (x_eql rfl rfl rfl) ?_
                    refine wpR_nil ?_
                    refine wpC_cond (b := decide ((l26.2.1.len : Int) = 0)) rfl (fun hc65 => ?_) (fun hc65 => ?_)
                    · replace h := h.1 hc65
                      refine wpC_exit ?_
                      exact ⟨(l26.1, l26.2.1, l26.2.2.1, l26.2.2.2.1, l26.2.2.2.2.1), ⟨e10, e11, e12, e13, e14, e1, e5, e6, e8, e15, trivial⟩, h⟩
                    · replace h := h.2 hc65
                      refine wpC_skip ?_
                      refine wpC_seq ?_
                      refine wpC_cut (fun ρ => ρ 1 = (Sl.v p1) ∧ ρ 5 = (Value.bool r1) ∧ ρ 6 = (Value.pointer r2.1) ∧ ρ 8 = (Value.pointer r3.1) ∧ ρ 10 = (Sl.v l26.1) ∧ ρ 11 = (Sl.v l26.2.1) ∧ ρ 12 = (Value.int .i64 l26.2.2.1) ∧ ρ 13 = (Value.int .i64 l26.2.2.2.1) ∧ ρ 14 = (Value.int .i64 l26.2.2.2.2.1) ∧ ρ 15 = (Value.int .i64 l26.2.2.2.2.2) ∧ True) ⟨e1, e5, e6, e8, e10, e11, e12, e13, e14, e15, trivial⟩ ?_
                      rintro ρ ⟨e1, e5, e6, e8, e10, e11, e12, e13, e14, e15, -⟩
                      refine wpC_region ?_
                      refine wpR_val (v := (Sl.v l26.2.1)) (w' := w17) rfl rfl rfl (x_move (v := (Sl.v l26.2.1)) rfl e11) ?_
                      refine wpR_val (v := (Sl.v l26.2.1)) (w' := w17) rfl rfl rfl (x_move (v := (Sl.v l26.2.1)) rfl e11) ?_
                      refine wpR_val (v := (Value.int .i64 (l26.2.1.len : Int))) (w' := w17) rfl rfl rfl (x_lenS (s := l26.2.1) rfl rfl isSliceT_22) ?_
                      refine wpR_val (v := (Value.int .i64 (IntKind.i64.wrap ((l26.2.1.len : Int) - 1)))) (w' := w17) rfl rfl rfl (x_sub rfl rfl rfl) ?_
                      obtain ⟨q66, z66, r66, h⟩ := h
                      generalize hp66 : z66.add ((IntKind.i64.wrap ((l26.2.1.len : Int) - 1) : Int).toNat * 1) = p66 at h
                      refine wpR_val (v := (Value.pointer (some p66))) (w' := w17) rfl rfl rfl ((x_indexAddr (s := l26.2.1) rfl rfl rfl ES_22 q66 r66).trans (by rw [hp66])) ?_
                      obtain ⟨x67, q67, h⟩ := h
                      refine wpR_val (v := (Value.int .i64 x67)) (w' := w17) rfl rfl rfl (x_load1 rfl rfl SH_3 q67) ?_
                      refine wpR_val (v := (Value.int .i64 x67)) (w' := w17) rfl rfl rfl (x_assign (v := (Value.int .i64 x67)) rfl rfl) ?_
                      refine wpR_nil ?_
                      obtain ⟨J68, h, hk⟩ := h
                      refine wpC_seqJ (fun (x : Int) ρ => ρ 21 = (Value.int .i64 x) ∧ ρ 1 = (Sl.v p1) ∧ ρ 5 = (Value.bool r1) ∧ ρ 6 = (Value.pointer r2.1) ∧ ρ 8 = (Value.pointer r3.1) ∧ ρ 10 = (Sl.v l26.1) ∧ ρ 11 = (Sl.v l26.2.1) ∧ ρ 12 = (Value.int .i64 l26.2.2.1) ∧ ρ 13 = (Value.int .i64 l26.2.2.2.1) ∧ ρ 14 = (Value.int .i64 l26.2.2.2.2.1) ∧ ρ 15 = (Value.int .i64 l26.2.2.2.2.2) ∧ True) J68 ?_ ?_
                      · clear hk
                        refine wpC_seq ?_
                        refine wpC_cut (fun ρ => ρ 1 = (Sl.v p1) ∧ ρ 5 = (Value.bool r1) ∧ ρ 6 = (Value.pointer r2.1) ∧ ρ 8 = (Value.pointer r3.1) ∧ ρ 10 = (Sl.v l26.1) ∧ ρ 11 = (Sl.v l26.2.1) ∧ ρ 12 = (Value.int .i64 l26.2.2.1) ∧ ρ 13 = (Value.int .i64 l26.2.2.2.1) ∧ ρ 14 = (Value.int .i64 l26.2.2.2.2.1) ∧ ρ 15 = (Value.int .i64 l26.2.2.2.2.2) ∧ ρ 21 = (Value.int .i64 x67) ∧ True) ⟨e1, e5, e6, e8, e10, e11, e12, e13, e14, e15, rfl, trivial⟩ ?_
                        rintro ρ ⟨e1, e5, e6, e8, e10, e11, e12, e13, e14, e15, e21, -⟩
                        refine wpC_region ?_
                        refine wpR_val (v := (Sl.v p1)) (w' := w17) rfl rfl rfl (x_move (v := (Sl.v p1)) rfl e1) ?_
                        refine wpR_val (v := (Value.int .i64 l26.2.2.2.2.2)) (w' := w17) rfl rfl rfl (x_move (v := (Value.int .i64 l26.2.2.2.2.2)) rfl e15) ?_
                        obtain ⟨q70, z70, r70, h⟩ := h
                        generalize hp70 : z70.add ((l26.2.2.2.2.2 : Int).toNat * 2) = p70 at h
                        refine wpR_val (v := (Value.pointer (some p70))) (w' := w17) rfl rfl rfl ((x_indexAddr (s := p1) rfl rfl rfl ES_51 q70 r70).trans (by rw [hp70])) ?_
                        refine wpR_val (v := (Value.pointer (some (p70.add 0)))) (w' := w17) rfl rfl rfl (x_fieldAddr rfl rfl FA_53_0) ?_
                        obtain ⟨x71, q71, h⟩ := h
                        refine wpR_val (v := (Value.int .i64 x71)) (w' := w17) rfl rfl rfl (x_load1 rfl rfl SH_3 q71) ?_
                        refine wpR_val (v := (Value.bool (decide (x71 = 3)))) (w' := w17) rfl rfl rfl (x_eql rfl rfl rfl) ?_
                        refine wpR_nil ?_
                        refine wpC_cond (b := decide (x71 = 3)) rfl (fun hc72 => ?_) (fun hc72 => ?_)
                        · replace h := h.1 hc72
                          refine wpC_cut (fun ρ => ρ 1 = (Sl.v p1) ∧ ρ 5 = (Value.bool r1) ∧ ρ 6 = (Value.pointer r2.1) ∧ ρ 8 = (Value.pointer r3.1) ∧ ρ 10 = (Sl.v l26.1) ∧ ρ 11 = (Sl.v l26.2.1) ∧ ρ 12 = (Value.int .i64 l26.2.2.1) ∧ ρ 13 = (Value.int .i64 l26.2.2.2.1) ∧ ρ 14 = (Value.int .i64 l26.2.2.2.2.1) ∧ ρ 15 = (Value.int .i64 l26.2.2.2.2.2) ∧ True) ⟨e1, e5, e6, e8, e10, e11, e12, e13, e14, e15, trivial⟩ ?_
                          rintro ρ ⟨e1, e5, e6, e8, e10, e11, e12, e13, e14, e15, -⟩
                          refine wpC_region ?_
                          refine wpR_val (v := (Sl.v l26.2.1)) (w' := w17) rfl rfl rfl (x_move (v := (Sl.v l26.2.1)) rfl e11) ?_
                          refine wpR_val (v := (Sl.v p1)) (w' := w17) rfl rfl rfl (x_move (v := (Sl.v p1)) rfl e1) ?_
                          refine wpR_val (v := (Value.int .i64 l26.2.2.2.2.2)) (w' := w17) rfl rfl rfl (x_move (v := (Value.int .i64 l26.2.2.2.2.2)) rfl e15) ?_
                          obtain ⟨q73, z73, r73, h⟩ := h
                          generalize hp73 : z73.add ((l26.2.2.2.2.2 : Int).toNat * 2) = p73 at h
                          refine wpR_val (v := (Value.pointer (some p73))) (w' := w17) rfl rfl rfl ((x_indexAddr (s := p1) rfl rfl rfl ES_51 q73 r73).trans (by rw [hp73])) ?_
                          refine wpR_val (v := (Value.pointer (some (p73.add 1)))) (w' := w17) rfl rfl rfl (x_fieldAddr rfl rfl FA_53_1) ?_
                          obtain ⟨x74, q74, h⟩ := h
                          refine wpR_val (v := (Value.int .i64 x74)) (w' := w17) rfl rfl rfl (x_load1 rfl rfl SH_3 q74) ?_
                          refine wpR_enter rfl rfl rfl (x_call (vs := [(Sl.v l26.2.1), (Value.int .i64 x74)]) rfl rfl (mapl_cons rfl (mapl_cons rfl mapl_nil)) Try.func23 NN_23 NB_23) (Calls.mono h ?_)
                          rintro _ w19 ⟨r75, rfl, h⟩
                          refine ⟨_, rfl, ?_⟩
                          refine wpR_val (v := (Value.int .i64 r75)) (w' := w19) rfl rfl rfl (x_assign (v := (Value.int .i64 r75)) rfl rfl) ?_
                          refine wpR_nil ?_
                          exact ⟨r75, ⟨rfl, e1, e5, e6, e8, e10, e11, e12, e13, e14, e15, trivial⟩, h⟩
                        · replace h := h.2 hc72
                          refine wpC_skip ?_
                          exact ⟨x67, ⟨e21, e1, e5, e6, e8, e10, e11, e12, e13, e14, e15, trivial⟩, h⟩
                      clear h
                      rintro l69 ρ w18 ⟨e21, e1, e5, e6, e8, e10, e11, e12, e13, e14, e15, -⟩ h
                      replace h := hk l69 w18 h
                      clear hk
                      refine wpC_seq ?_
                      refine wpC_seq ?_
                      refine wpC_region ?_
                      refine wpR_val (v := (Value.pointer r2.1)) (w' := w18) rfl rfl rfl (x_move (v := (Value.pointer r2.1)) rfl e6) ?_
                      refine wpR_val (v := (Value.int .i64 l69)) (w' := w18) rfl rfl rfl (x_move (v := (Value.int .i64 l69)) rfl e21) ?_
                      refine wpR_enter rfl rfl rfl (x_call (vs := [(Value.pointer r2.1), (Value.int .i64 l69)]) rfl rfl (mapl_cons rfl (mapl_cons rfl mapl_nil)) Try.func14 NN_14 NB_14) (Calls.mono h ?_)
                      rintro _ w20 ⟨r76, rfl, h⟩
                      refine ⟨_, rfl, ?_⟩
                      refine wpR_val (v := (Value.bool (!decide (r76 = 0)))) (w' := w20) rfl rfl rfl (x_neq rfl rfl rfl) ?_
                      refine wpR_nil ?_
                      refine wpC_cond (b := !decide (r76 = 0)) rfl (fun hc77 => ?_) (fun hc77 => ?_)
                      · replace h := h.1 hc77
                        refine wpC_seq ?_
                        refine wpC_cut (fun ρ => True) trivial ?_
                        rintro ρ -
                        refine wpC_region ?_
                        refine wpR_val (v := (Value.bool false)) (w' := w20) rfl rfl rfl (x_assign (v := (Value.bool false)) rfl rfl) ?_
                        refine wpR_nil ?_
                        refine wpC_ret ?_
                        exact ⟨.inl rfl, fun a ha => ⟨_, results_rep1 rfl ha rfl, false, rfl, h⟩⟩
                      · replace h := h.2 hc77
                        refine wpC_skip ?_
                        refine wpC_cut (fun ρ => ρ 1 = (Sl.v p1) ∧ ρ 5 = (Value.bool r1) ∧ ρ 6 = (Value.pointer r2.1) ∧ ρ 8 = (Value.pointer r3.1) ∧ ρ 10 = (Sl.v l26.1) ∧ ρ 11 = (Sl.v l26.2.1) ∧ ρ 12 = (Value.int .i64 l26.2.2.1) ∧ ρ 13 = (Value.int .i64 l26.2.2.2.1) ∧ ρ 14 = (Value.int .i64 l26.2.2.2.2.1) ∧ ρ 15 = (Value.int .i64 l26.2.2.2.2.2) ∧ ρ 21 = (Value.int .i64 l69) ∧ True) ⟨e1, e5, e6, e8, e10, e11, e12, e13, e14, e15, e21, trivial⟩ ?_
                        rintro ρ ⟨e1, e5, e6, e8, e10, e11, e12, e13, e14, e15, e21, -⟩
                        refine wpC_region ?_
                        refine wpR_val (v := (Value.int .i64 l26.2.2.2.2.1)) (w' := w20) rfl rfl rfl (x_move (v := (Value.int .i64 l26.2.2.2.2.1)) rfl e14) ?_
                        refine wpR_val (v := (Value.int .i64 l69)) (w' := w20) rfl rfl rfl (x_move (v := (Value.int .i64 l69)) rfl e21) ?_
                        refine wpR_val (v := (Value.int .i64 (max l26.2.2.2.2.1 l69))) (w' := w20) rfl rfl rfl (x_max rfl rfl rfl) ?_
                        refine wpR_val (v := (Value.int .i64 (max l26.2.2.2.2.1 l69))) (w' := w20) rfl rfl rfl (x_assign (v := (Value.int .i64 (max l26.2.2.2.2.1 l69))) rfl rfl) ?_
                        refine wpR_nil ?_
                        exact ⟨(l26.1, l26.2.1, l26.2.2.1, l26.2.2.2.1, max l26.2.2.2.2.1 l69), ⟨e10, e11, e12, e13, rfl, e1, e5, e6, e8, e15, trivial⟩, h⟩
                  · replace h := h.2 hc64
                    refine wpC_skip ?_
                    exact ⟨(l26.1, l26.2.1, l26.2.2.1, l26.2.2.2.1, l26.2.2.2.2.1), ⟨e10, e11, e12, e13, e14, e1, e5, e6, e8, e15, trivial⟩, h⟩
          clear h
          rintro l31 ρ w6 ⟨e10, e11, e12, e13, e14, e1, e5, e6, e8, e15, -⟩ h
          replace h := hk l31 w6 h
          clear hk
          refine wpC_seq ?_
          refine wpC_region ?_
          refine wpR_val (v := (Value.int .i64 l31.2.2.2.1)) (w' := w6) rfl rfl rfl (x_move (v := (Value.int .i64 l31.2.2.2.1)) rfl e13) ?_
          refine wpR_val (v := (Value.int .i64 l31.2.2.1)) (w' := w6) rfl rfl rfl (x_move (v := (Value.int .i64 l31.2.2.1)) rfl e12) ?_
          refine wpR_val (v := (Value.bool (decide (l31.2.2.1 < l31.2.2.2.1)))) (w' := w6) rfl rfl rfl (x_gtr rfl rfl rfl) ?_
          refine wpR_val (v := (Value.bool (decide (l31.2.2.1 < l31.2.2.2.1)))) (w' := w6) rfl rfl rfl (x_move (v := (Value.bool (decide (l31.2.2.1 < l31.2.2.2.1)))) rfl rfl) ?_
          refine wpR_joinJ 4 (fun (_ : Unit) ρ => ρ 183 = Value.bool ((decide (l31.2.2.1 < l31.2.2.2.1)) || (decide (l31.2.2.2.1 < l31.2.2.2.2))) ∧ ρ 1 = (Sl.v p1) ∧ ρ 5 = (Value.bool r1) ∧ ρ 6 = (Value.pointer r2.1) ∧ ρ 8 = (Value.pointer r3.1) ∧ ρ 10 = (Sl.v l31.1) ∧ ρ 11 = (Sl.v l31.2.1) ∧ ρ 12 = (Value.int .i64 l31.2.2.1) ∧ ρ 13 = (Value.int .i64 l31.2.2.2.1) ∧ ρ 14 = (Value.int .i64 l31.2.2.2.2) ∧ ρ 15 = (Value.int .i64 l26.2.2.2.2.2) ∧ True) (fun _ w => w6 = w) ?_ ?_
          · clear h
            rcases Bool.eq_false_or_eq_true (decide (l31.2.2.1 < l31.2.2.2.1)) with hc79 | hc79
            · skip
              refine wpR_pass (wantN rfl rfl rfl hc79) rfl rfl ?_
              refine wpR_pass (wantN rfl rfl rfl hc79) rfl rfl ?_
              refine wpR_pass (wantN rfl rfl rfl hc79) rfl rfl ?_
              refine wpR_val (v := (Value.bool true)) (w' := w6) rfl rfl rfl (x_pickT (v := (Value.bool true)) rfl rfl hc79 rfl) ?_
              refine wpR_nil ?_
              exact ⟨(), ⟨(by rw [hc79]; rfl), e1, e5, e6, e8, e10, e11, e12, e13, e14, e15, trivial⟩, rfl⟩
            · skip
              refine wpR_val (v := (Value.int .i64 l31.2.2.2.2)) (w' := w6) (wantG rfl rfl rfl hc79) rfl rfl (x_move (v := (Value.int .i64 l31.2.2.2.2)) rfl e14) ?_
              refine wpR_val (v := (Value.int .i64 l31.2.2.2.1)) (w' := w6) (wantG rfl rfl rfl hc79) rfl rfl (x_move (v := (Value.int .i64 l31.2.2.2.1)) rfl e13) ?_
              refine wpR_val (v := (Value.bool (decide (l31.2.2.2.1 < l31.2.2.2.2)))) (w' := w6) (wantG rfl rfl rfl hc79) rfl rfl (x_gtr rfl rfl rfl) ?_
              refine wpR_val (v := (Value.bool (decide (l31.2.2.2.1 < l31.2.2.2.2)))) (w' := w6) rfl rfl rfl (x_pickF (v := (Value.bool (decide (l31.2.2.2.1 < l31.2.2.2.2)))) rfl rfl hc79 rfl) ?_
              refine wpR_nil ?_
              exact ⟨(), ⟨(by rw [hc79]; rfl), e1, e5, e6, e8, e10, e11, e12, e13, e14, e15, trivial⟩, rfl⟩
          rintro _ ρ wj ⟨e183, e1, e5, e6, e8, e10, e11, e12, e13, e14, e15, -⟩ rfl
          refine wpR_val (v := (Value.bool ((decide (l31.2.2.1 < l31.2.2.2.1)) || (decide (l31.2.2.2.1 < l31.2.2.2.2))))) (w' := w6) rfl rfl rfl (x_move (v := (Value.bool ((decide (l31.2.2.1 < l31.2.2.2.1)) || (decide (l31.2.2.2.1 < l31.2.2.2.2))))) rfl e183) ?_
          obtain ⟨J80, h, hk⟩ := h
          refine wpR_joinJ 7 (fun x ρ => ρ 191 = Value.bool x ∧ ρ 1 = (Sl.v p1) ∧ ρ 5 = (Value.bool r1) ∧ ρ 6 = (Value.pointer r2.1) ∧ ρ 8 = (Value.pointer r3.1) ∧ ρ 10 = (Sl.v l31.1) ∧ ρ 11 = (Sl.v l31.2.1) ∧ ρ 12 = (Value.int .i64 l31.2.2.1) ∧ ρ 13 = (Value.int .i64 l31.2.2.2.1) ∧ ρ 14 = (Value.int .i64 l31.2.2.2.2) ∧ ρ 15 = (Value.int .i64 l26.2.2.2.2.2) ∧ True) (J80) ?_ ?_
          · clear hk
            rcases Bool.eq_false_or_eq_true ((decide (l31.2.2.1 < l31.2.2.2.1)) || (decide (l31.2.2.2.1 < l31.2.2.2.2))) with hc81 | hc81
            · replace h := h.1 hc81
              refine wpR_pass (wantN rfl rfl rfl hc81) rfl rfl ?_
              refine wpR_pass (wantN rfl rfl rfl hc81) rfl rfl ?_
              refine wpR_pass (wantN rfl rfl rfl hc81) rfl rfl ?_
              refine wpR_pass (wantN rfl rfl rfl hc81) rfl rfl ?_
              refine wpR_pass (wantN rfl rfl rfl hc81) rfl rfl ?_
              refine wpR_pass (wantN rfl rfl rfl hc81) rfl rfl ?_
              refine wpR_val (v := (Value.bool true)) (w' := w6) rfl rfl rfl (x_pickT (v := (Value.bool true)) rfl rfl hc81 rfl) ?_
              refine wpR_nil ?_
              exact ⟨true, ⟨rfl, e1, e5, e6, e8, e10, e11, e12, e13, e14, e15, trivial⟩, h⟩
            · replace h := h.2 hc81
              refine wpR_val (v := (Value.pointer r2.1)) (w' := w6) (wantG rfl rfl rfl hc81) rfl rfl (x_move (v := (Value.pointer r2.1)) rfl e6) ?_
              refine wpR_enter (wantG rfl rfl rfl hc81) rfl rfl (x_call (vs := [(Value.pointer r2.1)]) rfl rfl (mapl_cons rfl mapl_nil) Try.func19 NN_19 NB_19) (Calls.mono h ?_)
              rintro _ w21 ⟨r82, rfl, h⟩
              refine ⟨_, rfl, ?_⟩
              refine wpR_val (v := (Value.int .i64 l31.2.2.1)) (w' := w21) (wantG rfl rfl rfl hc81) rfl rfl (x_move (v := (Value.int .i64 l31.2.2.1)) rfl e12) ?_
              refine wpR_val (v := (Value.int .i64 l31.2.2.2.2)) (w' := w21) (wantG rfl rfl rfl hc81) rfl rfl (x_move (v := (Value.int .i64 l31.2.2.2.2)) rfl e14) ?_
              refine wpR_val (v := (Value.int .i64 (IntKind.i64.wrap (l31.2.2.1 - l31.2.2.2.2)))) (w' := w21) (wantG rfl rfl rfl hc81) rfl rfl (x_sub rfl rfl rfl) ?_
              refine wpR_val (v := (Value.bool (!decide (r82 = (IntKind.i64.wrap (l31.2.2.1 - l31.2.2.2.2)))))) (w' := w21) (wantG rfl rfl rfl hc81) rfl rfl (x_neq rfl rfl rfl) ?_
              refine wpR_val (v := (Value.bool (!decide (r82 = (IntKind.i64.wrap (l31.2.2.1 - l31.2.2.2.2)))))) (w' := w21) rfl rfl rfl (x_pickF (v := (Value.bool (!decide (r82 = (IntKind.i64.wrap (l31.2.2.1 - l31.2.2.2.2)))))) rfl rfl hc81 rfl) ?_
              refine wpR_nil ?_
              exact ⟨!decide (r82 = (IntKind.i64.wrap (l31.2.2.1 - l31.2.2.2.2))), ⟨rfl, e1, e5, e6, e8, e10, e11, e12, e13, e14, e15, trivial⟩, h⟩
          clear h
          rintro c83 ρ w22 ⟨e191, e1, e5, e6, e8, e10, e11, e12, e13, e14, e15, -⟩ h
          replace h := hk c83 w22 h
          clear hk
          refine wpR_nil ?_
          refine wpC_cond (b := c83) e191 (fun hc84 => ?_) (fun hc84 => ?_)
          · replace h := h.1 hc84
            refine wpC_seq ?_
            refine wpC_region ?_
            refine wpR_val (v := (Value.bool false)) (w' := w22) rfl rfl rfl (x_assign (v := (Value.bool false)) rfl rfl) ?_
            refine wpR_nil ?_
            refine wpC_ret ?_
            exact ⟨.inl rfl, fun a ha => ⟨_, results_rep1 rfl ha rfl, false, rfl, h⟩⟩
          · replace h := h.2 hc84
            refine wpC_skip ?_
            exact ⟨(l31.1, l31.2.1, l31.2.2.1, l31.2.2.2.1, l31.2.2.2.2), ⟨e10, e11, e12, e13, e14, e1, e5, e6, e8, e15, trivial⟩, h⟩
        clear h
        rintro l29 ρ w5 ⟨e10, e11, e12, e13, e14, e1, e5, e6, e8, e15, -⟩ h
        replace h := hk l29 w5 h
        clear hk
        refine wpC_region ?_
        refine wpR_val (v := (Value.int .i64 l26.2.2.2.2.2)) (w' := w5) rfl rfl rfl (x_move (v := (Value.int .i64 l26.2.2.2.2.2)) rfl e15) ?_
        refine wpR_val (v := (Value.int .i64 (IntKind.i64.wrap (l26.2.2.2.2.2 + 1)))) (w' := w5) rfl rfl rfl (x_add rfl rfl rfl) ?_
        refine wpR_val (v := (Value.int .i64 (IntKind.i64.wrap (l26.2.2.2.2.2 + 1)))) (w' := w5) rfl rfl rfl (x_assign (v := (Value.int .i64 (IntKind.i64.wrap (l26.2.2.2.2.2 + 1)))) rfl rfl) ?_
        refine wpR_nil ?_
        exact ⟨(l29.1, l29.2.1, l29.2.2.1, l29.2.2.2.1, l29.2.2.2.2, IntKind.i64.wrap (l26.2.2.2.2.2 + 1)), ⟨e10, e11, e12, e13, e14, rfl, e1, e5, e6, e8, trivial⟩, h⟩
      · replace h := h.2 hc27
        refine wpC_exit ?_
        refine wpC_seq ?_
        refine wpC_cut (fun ρ => ρ 5 = (Value.bool r1) ∧ True) ⟨e5, trivial⟩ ?_
        rintro ρ ⟨e5, -⟩
        refine wpC_region ?_
        refine wpR_val (v := (Value.bool r1)) (w' := w4) rfl rfl rfl (x_move (v := (Value.bool r1)) rfl e5) ?_
        refine wpR_val (v := (Value.bool r1)) (w' := w4) rfl rfl rfl (x_assign (v := (Value.bool r1)) rfl rfl) ?_
        refine wpR_nil ?_
        refine wpC_ret ?_
        exact ⟨.inl rfl, fun a ha => ⟨_, results_rep1 rfl ha rfl, r1, rfl, h⟩⟩


end Go.Proofs.Ytaogjbmgobfdoaa
