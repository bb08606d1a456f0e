import Derived.Test.YtiohncdkpkonmaaRows
import Derived.Test.YtiohncdkpkonmaaDecRaw
namespace Go.Proofs.Ytiohncdkpkonmaa
open Go.Dec
set_option maxHeartbeats 400000

theorem BD_47_ : ∀ w, (Instr.build 47 #[]).run Try.prog w = .ok (Value.agg #[(Sl.v Sl.nil)]) w := fun w => by kernel_rfl
theorem BD_50_0_1 (y0 : Sl) (y1 : Option Nat) : ∀ w, (Instr.build 50 #[(0, (Sl.v y0)), (1, (Value.map y1))]).run Try.prog w = .ok (Value.agg #[(Sl.v y0), (Value.map y1)]) w := fun w => by kernel_rfl
theorem BD_50_1 (y1 : Option Nat) : ∀ w, (Instr.build 50 #[(1, (Value.map y1))]).run Try.prog w = .ok (Value.agg #[(Sl.v Sl.nil), (Value.map y1)]) w := fun w => by kernel_rfl
theorem BS_22_0_ : ∀ w, (Instr.buildSlice 22 0 #[]).run Try.prog w = .ok (.slice (some ⟨w.heap.size, 0, none⟩) 0 0) (w.alloc (.cells #[] 9)) := fun w => by kernel_rfl
theorem BS_22_1_0 (y0 : ByteArray) : ∀ w, (Instr.buildSlice 22 1 #[(0, (Value.string y0))]).run Try.prog w = .ok (.slice (some ⟨w.heap.size, 0, none⟩) 1 1) (w.alloc (.cells #[(Value.string y0)] 9)) := fun w => by kernel_rfl
theorem BS_22_3_0_1_2 (y0 : ByteArray) (y1 : ByteArray) (y2 : ByteArray) : ∀ w, (Instr.buildSlice 22 3 #[(0, (Value.string y0)), (1, (Value.string y1)), (2, (Value.string y2))]).run Try.prog w = .ok (.slice (some ⟨w.heap.size, 0, none⟩) 3 3) (w.alloc (.cells #[(Value.string y0), (Value.string y1), (Value.string y2)] 9)) := fun w => by kernel_rfl
theorem BS_42_1_0 (y0 : Int) : ∀ w, (Instr.buildSlice 42 1 #[(0, (Value.int .i64 y0))]).run Try.prog w = .ok (.slice (some ⟨w.heap.size, 0, none⟩) 1 1) (w.alloc (.cells #[(Value.int .i64 y0)] 3)) := fun w => by kernel_rfl
theorem ES_22 : elemSize Try.prog 22 = some 1 := by kernel_rfl
theorem ES_42 : elemSize Try.prog 42 = some 1 := by kernel_rfl
theorem FA_47_0 : fieldOff Try.prog 47 0 = some 0 := by kernel_rfl
theorem FA_50_0 : fieldOff Try.prog 50 0 = some 0 := by kernel_rfl
theorem FA_50_1 : fieldOff Try.prog 50 1 = some 1 := by kernel_rfl
theorem NB_10 : Try.f10.body.isNone = false := by kernel_rfl
theorem NN_10 : (Try.f10.name == "runtime.NumGoroutine") = false := by kernel_rfl
theorem NB_11 : Try.f11.body.isNone = false := by kernel_rfl
theorem NN_11 : (Try.f11.name == "runtime.NumGoroutine") = false := by kernel_rfl
theorem NB_12 : Try.f12.body.isNone = false := by kernel_rfl
theorem NN_12 : (Try.f12.name == "runtime.NumGoroutine") = false := by kernel_rfl
theorem NB_13 : Try.f13.body.isNone = false := by kernel_rfl
theorem NN_13 : (Try.f13.name == "runtime.NumGoroutine") = false := by kernel_rfl
theorem NB_14 : Try.f14.body.isNone = false := by kernel_rfl
theorem NN_14 : (Try.f14.name == "runtime.NumGoroutine") = false := by kernel_rfl
theorem NB_15 : Try.f15.body.isNone = false := by kernel_rfl
theorem NN_15 : (Try.f15.name == "runtime.NumGoroutine") = false := by kernel_rfl
theorem NB_16 : Try.f16.body.isNone = false := by kernel_rfl
theorem NN_16 : (Try.f16.name == "runtime.NumGoroutine") = false := by kernel_rfl
theorem NB_17 : Try.f17.body.isNone = false := by kernel_rfl
theorem NN_17 : (Try.f17.name == "runtime.NumGoroutine") = false := by kernel_rfl
theorem NB_18 : Try.f18.body.isNone = false := by kernel_rfl
theorem NN_18 : (Try.f18.name == "runtime.NumGoroutine") = false := by kernel_rfl
theorem NB_19 : Try.f19.body.isNone = false := by kernel_rfl
theorem NN_19 : (Try.f19.name == "runtime.NumGoroutine") = false := by kernel_rfl
theorem NB_20 : Try.f20.body.isNone = false := by kernel_rfl
theorem NN_20 : (Try.f20.name == "runtime.NumGoroutine") = false := by kernel_rfl
theorem NB_21 : Try.f21.body.isNone = false := by kernel_rfl
theorem NN_21 : (Try.f21.name == "runtime.NumGoroutine") = false := by kernel_rfl
theorem NB_22 : Try.f22.body.isNone = false := by kernel_rfl
theorem NN_22 : (Try.f22.name == "runtime.NumGoroutine") = false := by kernel_rfl
theorem NB_23 : Try.f23.body.isNone = false := by kernel_rfl
theorem NN_23 : (Try.f23.name == "runtime.NumGoroutine") = false := by kernel_rfl
theorem NB_24 : Try.f24.body.isNone = false := by kernel_rfl
theorem NN_24 : (Try.f24.name == "runtime.NumGoroutine") = false := by kernel_rfl
theorem NB_25 : Try.f25.body.isNone = false := by kernel_rfl
theorem NN_25 : (Try.f25.name == "runtime.NumGoroutine") = false := by kernel_rfl
theorem NB_26 : Try.f26.body.isNone = false := by kernel_rfl
theorem NN_26 : (Try.f26.name == "runtime.NumGoroutine") = false := by kernel_rfl
theorem NB_7 : Try.f7.body.isNone = false := by kernel_rfl
theorem NN_7 : (Try.f7.name == "runtime.NumGoroutine") = false := by kernel_rfl
theorem NB_8 : Try.f8.body.isNone = false := by kernel_rfl
theorem NN_8 : (Try.f8.name == "runtime.NumGoroutine") = false := by kernel_rfl
theorem NB_9 : Try.f9.body.isNone = false := by kernel_rfl
theorem NN_9 : (Try.f9.name == "runtime.NumGoroutine") = false := by kernel_rfl
theorem SH_22 : shapeT Try.prog 22 = some 0 := by kernel_rfl
theorem SH_3 : shapeT Try.prog 3 = some 0 := by kernel_rfl
theorem SH_48 : shapeT Try.prog 48 = some 0 := by kernel_rfl
theorem SH_9 : shapeT Try.prog 9 = some 0 := by kernel_rfl
theorem SZ_22 : sizeT Try.prog 22 = some 1 := by kernel_rfl
theorem isBoolT_4 : isBoolT Try.prog 4 = true := by kernel_rfl
theorem isMapT_48 : isMapT Try.prog 48 = true := by kernel_rfl
theorem isPtrT_25 : isPtrT Try.prog 25 = true := by kernel_rfl
theorem isPtrT_30 : isPtrT Try.prog 30 = true := by kernel_rfl
theorem isSliceT_22 : isSliceT Try.prog 22 = true := by kernel_rfl
theorem isStrT_9 : isStrT Try.prog 9 = true := by kernel_rfl

/-- lingualaw04.NamesTells -/
def F3 (p0 : Sl) (p1 : Sl) (p2 : Int) (p3 : Int) (w0 : World) (K : Bool → World → Prop) : Prop :=
  callC Try.prog 7 #[] (fun (r : Bool) => (Value.bool r)) w0 fun r1 w1 =>
  callC Try.prog 8 #[(Sl.v p0), (Value.int .i64 24)] (fun (r : Bool) => (Value.bool r)) w1 fun r2 w2 =>
  jn (fun J3 => cnd (!r2)
    (
    J3 true w2
    )
    (
    callC Try.prog 8 #[(Sl.v p1), (Value.int .i64 24)] (fun (r : Bool) => (Value.bool r)) w2 fun r5 w3 =>
    J3 (!r5) w3
    ))
  fun c6 w4 =>
  cnd (c6)
    (
    K r1 w4
    )
    (
    callC Try.prog 10 #[(Value.int .i64 p2)] (fun (r : ByteArray) => (Value.string r)) w4 fun r8 w5 =>
    nw 9 #[(Value.string r8)] w5 fun b9 w6 =>
    callC Try.prog 9 #[(Sl.v (⟨some ⟨b9, 0, none⟩, 1, 1⟩ : Sl))] (fun (r : (Option Addr) × Int) => (Value.tuple #[(Value.pointer r.1), (Value.int .i64 r.2)])) w6 fun r10 w7 =>
    callC Try.prog 10 #[(Value.int .i64 p2)] (fun (r : ByteArray) => (Value.string r)) w7 fun r11 w8 =>
    nw 9 #[(Value.string r11)] w8 fun b12 w9 =>
    callC Try.prog 11 #[(Sl.v (⟨some ⟨b12, 0, none⟩, 1, 1⟩ : Sl))] (fun (r : (Option Addr) × Int) => (Value.tuple #[(Value.pointer r.1), (Value.int .i64 r.2)])) w9 fun r13 w10 =>
    callC Try.prog 9 #[(Sl.v p0)] (fun (r : (Option Addr) × Int) => (Value.tuple #[(Value.pointer r.1), (Value.int .i64 r.2)])) w10 fun r14 w11 =>
    callC Try.prog 11 #[(Sl.v p0)] (fun (r : (Option Addr) × Int) => (Value.tuple #[(Value.pointer r.1), (Value.int .i64 r.2)])) w11 fun r15 w12 =>
    cnd (((!decide (r10.2 = r13.2)) || (!decide (r14.2 = r15.2))) || (!(r14.1.isNone == r15.1.isNone)))
      (
      K false w12
      )
      (
      jn (fun (J21 : ((Option Addr) × (Option Addr)) → World → Prop) =>
        cnd (r14.1.isNone || r15.1.isNone)
          (
          callC Try.prog 12 #[] (fun (r : (Option Addr)) => (Value.pointer r)) w12 fun r26 w14 =>
          callC Try.prog 13 #[] (fun (r : (Option Addr)) => (Value.pointer r)) w14 fun r27 w15 =>
          J21 (r26, r27) w15
          )
          (
          J21 (r14.1, r15.1) w12
          )
      )
      fun l22 w13 =>
      cnd (l22.1.isNone)
        (
        K false w13
        )
        (
        callC Try.prog 10 #[(Value.int .i64 p2)] (fun (r : ByteArray) => (Value.string r)) w13 fun r29 w16 =>
        callC Try.prog 14 #[(Value.pointer l22.1), (Value.string r29)] (fun (r : Int) => (Value.int .i64 r)) w16 fun r30 w17 =>
        callC Try.prog 10 #[(Value.int .i64 p2)] (fun (r : ByteArray) => (Value.string r)) w17 fun r31 w18 =>
        callC Try.prog 15 #[(Value.pointer l22.2), (Value.string r31)] (fun (r : Int) => (Value.int .i64 r)) w18 fun r32 w19 =>
        cnd (!decide (r30 = r32))
          (
          K false w19
          )
          (
          lp (fun (next34 : Int → World → Prop) l34 w20 =>
            cnd (decide (l34 < (p1.len : Int)))
              (
              callC Try.prog 16 #[(Value.pointer l22.1), (Value.int .i64 p3)] (fun (r : ByteArray × Bool) => (Value.tuple #[(Value.string r.1), (Value.bool r.2)])) w20 fun r36 w21 =>
              callC Try.prog 17 #[(Value.pointer l22.2), (Value.int .i64 p3)] (fun (r : ByteArray × Bool) => (Value.tuple #[(Value.string r.1), (Value.bool r.2)])) w21 fun r37 w22 =>
              jn (fun (J39 : Bool → World → Prop) => tk w22 fun w23 =>
                ix p1 l34 1 fun p40 =>
                ld Value.string p40 w23 fun x41 =>
                ix p1 l34 1 fun p42 =>
                ld Value.string p42 w23 fun x43 =>
                callC Try.prog 14 #[(Value.pointer l22.1), (Value.string x41)] (fun (r : Int) => (Value.int .i64 r)) w23 fun r44 w24 =>
                (w24.cell? p42 = some (Value.string x43)) ∧
                callC Try.prog 15 #[(Value.pointer l22.2), (Value.string x43)] (fun (r : Int) => (Value.int .i64 r)) w24 fun r45 w25 =>
                cnd (!decide (r44 = r45))
                  (
                  cnd (true)
                    (
                    cnd (true)
                      (
                      J39 true w25
                      )
                      (
                      J39 (!(r36.2 == r37.2)) w25
                      )
                    )
                    (
                    cnd (!beqS r36.1 r37.1)
                      (
                      J39 true w25
                      )
                      (
                      J39 (!(r36.2 == r37.2)) w25
                      )
                    )
                  )
                  (
                  callC Try.prog 18 #[(Value.pointer l22.1)] (fun (r : Int) => (Value.int .i64 r)) w25 fun r50 w26 =>
                  callC Try.prog 19 #[(Value.pointer l22.2)] (fun (r : Int) => (Value.int .i64 r)) w26 fun r51 w27 =>
                  cnd (!decide (r50 = r51))
                    (
                    cnd (true)
                      (
                      J39 true w27
                      )
                      (
                      J39 (!(r36.2 == r37.2)) w27
                      )
                    )
                    (
                    cnd (!beqS r36.1 r37.1)
                      (
                      J39 true w27
                      )
                      (
                      J39 (!(r36.2 == r37.2)) w27
                      )
                    )
                  )
              )
              fun l55 w28 =>
              cnd (l55)
                (
                K false w28
                )
                (
                next34 (IntKind.i64.wrap (l34 + 1)) w28
                )
              )
              (
              callC Try.prog 16 #[(Value.pointer l22.1), (Value.int .i64 p3)] (fun (r : ByteArray × Bool) => (Value.tuple #[(Value.string r.1), (Value.bool r.2)])) w20 fun r57 w29 =>
              callC Try.prog 17 #[(Value.pointer l22.2), (Value.int .i64 p3)] (fun (r : ByteArray × Bool) => (Value.tuple #[(Value.string r.1), (Value.bool r.2)])) w29 fun r58 w30 =>
              jn (fun J63 => cnd ((r1 && (beqS r57.1 r58.1)) && (r57.2 == r58.2))
                (
                callC Try.prog 21 #[(Value.pointer l22.1)] (fun (r : Sl) => (Sl.v r)) w30 fun r65 w31 =>
                callC Try.prog 22 #[(Value.pointer l22.2)] (fun (r : Sl) => (Sl.v r)) w31 fun r66 w32 =>
                callC Try.prog 20 #[(Sl.v r65), (Sl.v r66)] (fun (r : Bool) => (Value.bool r)) w32 fun r67 w33 =>
                J63 r67 w33
                )
                (
                J63 false w30
                ))
              fun c68 w34 =>
              K c68 w34
              )
          ) 0 w19
          )
        )
      )
    )
set_option maxRecDepth 100000 in
theorem D3 (p0 : Sl) (p1 : Sl) (p2 : Int) (p3 : Int) (w0 : World) (K : Bool → World → Prop) (h : F3 p0 p1 p2 p3 w0 K) : callC Try.prog 3 #[(Sl.v p0), (Sl.v p1), (Value.int .i64 p2), (Value.int .i64 p3)] (fun (r : Bool) => (Value.bool r)) w0 K := by
  unfold F3 at h
  refine calls_of_wpC Try.func3 rfl 173 rfl (by simp) ?_
  intro ρ hρ
  have e0 : ρ 0 = (Sl.v p0) := hρ 0
  have e1 : ρ 1 = (Sl.v p1) := hρ 1
  have e2 : ρ 2 = (Value.int .i64 p2) := hρ 2
  have e3 : ρ 3 = (Value.int .i64 p3) := hρ 3
  clear hρ
  refine wpC_seq ?_
  refine wpC_region ?_
  refine wpR_val (v := (Value.bool false)) (w' := w0) rfl rfl rfl (x_assign (v := (Value.bool false)) rfl rfl) ?_
  refine wpR_nil ?_
  refine wpC_seq ?_
  refine wpC_cut (fun ρ => ρ 0 = (Sl.v p0) ∧ ρ 1 = (Sl.v p1) ∧ ρ 2 = (Value.int .i64 p2) ∧ ρ 3 = (Value.int .i64 p3) ∧ True) ⟨e0, e1, e2, e3, trivial⟩ ?_
  rintro ρ ⟨e0, e1, e2, e3, -⟩
  refine wpC_region ?_
  refine wpR_enter rfl rfl rfl (x_call (vs := []) rfl rfl mapl_nil Try.func7 NN_7 NB_7) (Calls.mono h ?_)
  rintro _ w1 ⟨r1, rfl, h⟩
  refine ⟨_, rfl, ?_⟩
  refine wpR_val (v := (Value.bool r1)) (w' := w1) rfl rfl rfl (x_assign (v := (Value.bool r1)) rfl rfl) ?_
  refine wpR_nil ?_
  refine wpC_seq ?_
  refine wpC_seq ?_
  refine wpC_cut (fun ρ => ρ 0 = (Sl.v p0) ∧ ρ 1 = (Sl.v p1) ∧ ρ 2 = (Value.int .i64 p2) ∧ ρ 3 = (Value.int .i64 p3) ∧ ρ 9 = (Value.bool r1) ∧ True) ⟨e0, e1, e2, e3, rfl, trivial⟩ ?_
  rintro ρ ⟨e0, e1, e2, e3, e9, -⟩
  refine wpC_region ?_
  refine wpR_val (v := (Sl.v p0)) (w' := w1) rfl rfl rfl (x_move (v := (Sl.v p0)) rfl e0) ?_
  refine wpR_enter rfl rfl rfl (x_call (vs := [(Sl.v p0), (Value.int .i64 24)]) rfl rfl (mapl_cons rfl (mapl_cons rfl mapl_nil)) Try.func8 NN_8 NB_8) (Calls.mono h ?_)
  rintro _ w2 ⟨r2, rfl, h⟩
  refine ⟨_, rfl, ?_⟩
  refine wpR_val (v := (Value.bool (!r2))) (w' := w2) rfl rfl rfl (x_not rfl rfl) ?_
  refine wpR_val (v := (Value.bool (!r2))) (w' := w2) rfl rfl rfl (x_move (v := (Value.bool (!r2))) rfl rfl) ?_
  obtain ⟨J3, h, hk⟩ := h
  refine wpR_joinJ 4 (fun x ρ => ρ 35 = Value.bool x ∧ ρ 0 = (Sl.v p0) ∧ ρ 1 = (Sl.v p1) ∧ ρ 2 = (Value.int .i64 p2) ∧ ρ 3 = (Value.int .i64 p3) ∧ ρ 9 = (Value.bool r1) ∧ True) (J3) ?_ ?_
  · clear hk
    rcases Bool.eq_false_or_eq_true (!r2) with hc4 | hc4
    · replace h := h.1 hc4
      refine wpR_pass (wantN rfl rfl rfl hc4) rfl rfl ?_
      refine wpR_pass (wantN rfl rfl rfl hc4) rfl rfl ?_
      refine wpR_pass (wantN rfl rfl rfl hc4) rfl rfl ?_
      refine wpR_val (v := (Value.bool true)) (w' := w2) rfl rfl rfl (x_pickT (v := (Value.bool true)) rfl rfl hc4 rfl) ?_
      refine wpR_nil ?_
      exact ⟨true, ⟨rfl, e0, e1, e2, e3, e9, trivial⟩, h⟩
    · replace h := h.2 hc4
      refine wpR_val (v := (Sl.v p1)) (w' := w2) (wantG rfl rfl rfl hc4) rfl rfl (x_move (v := (Sl.v p1)) rfl e1) ?_
      refine wpR_enter (wantG rfl rfl rfl hc4) rfl rfl (x_call (vs := [(Sl.v p1), (Value.int .i64 24)]) rfl rfl (mapl_cons rfl (mapl_cons rfl mapl_nil)) Try.func8 NN_8 NB_8) (Calls.mono h ?_)
      rintro _ w3 ⟨r5, rfl, h⟩
      refine ⟨_, rfl, ?_⟩
      refine wpR_val (v := (Value.bool (!r5))) (w' := w3) (wantG rfl rfl rfl hc4) rfl rfl (x_not rfl rfl) ?_
      refine wpR_val (v := (Value.bool (!r5))) (w' := w3) rfl rfl rfl (x_pickF (v := (Value.bool (!r5))) rfl rfl hc4 rfl) ?_
      refine wpR_nil ?_
      exact ⟨!r5, ⟨rfl, e0, e1, e2, e3, e9, trivial⟩, h⟩
  clear h
  rintro c6 ρ w4 ⟨e35, e0, e1, e2, e3, e9, -⟩ h
  replace h := hk c6 w4 h
  clear hk
  refine wpR_nil ?_
  refine wpC_cond (b := c6) e35 (fun hc7 => ?_) (fun hc7 => ?_)
  · replace h := h.1 hc7
    refine wpC_seq ?_
    refine wpC_region ?_
    refine wpR_val (v := (Value.bool r1)) (w' := w4) rfl rfl rfl (x_move (v := (Value.bool r1)) rfl e9) ?_
    refine wpR_val (v := (Value.bool r1)) (w' := w4) rfl rfl rfl (x_assign (v := (Value.bool r1)) rfl rfl) ?_
    refine wpR_nil ?_
    refine wpC_ret ?_
    exact ⟨.inl rfl, fun a ha => ⟨_, results_rep1 rfl ha rfl, r1, rfl, h⟩⟩
  · replace h := h.2 hc7
    refine wpC_skip ?_
    refine wpC_seq ?_
    refine wpC_region ?_
    refine wpR_val (v := (Value.int .i64 p2)) (w' := w4) rfl rfl rfl (x_move (v := (Value.int .i64 p2)) rfl e2) ?_
    refine wpR_enter rfl rfl rfl (x_call (vs := [(Value.int .i64 p2)]) rfl rfl (mapl_cons rfl mapl_nil) Try.func10 NN_10 NB_10) (Calls.mono h ?_)
    rintro _ w5 ⟨r8, rfl, h⟩
    refine ⟨_, rfl, ?_⟩
    obtain ⟨b9, hb9⟩ : ∃ u, u = w5.heap.size := ⟨_, rfl⟩
    obtain ⟨w6, hw9⟩ : ∃ u, u = w5.alloc (.cells #[(Value.string r8)] 9) := ⟨_, rfl⟩
    replace h := h b9 w6 hb9 hw9
    refine wpR_val (v := (Sl.v (⟨some ⟨b9, 0, none⟩, 1, 1⟩ : Sl))) (w' := w6) rfl rfl rfl ((x_buildSlice (qs := [(0, (Value.string r8))]) rfl (by rfl) (BS_22_1_0 r8)).trans (by rw [← hb9, ← hw9])) ?_
    refine wpR_enter rfl rfl rfl (x_call (vs := [(Sl.v (⟨some ⟨b9, 0, none⟩, 1, 1⟩ : Sl))]) rfl rfl (mapl_cons rfl mapl_nil) Try.func9 NN_9 NB_9) (Calls.mono h ?_)
    rintro _ w7 ⟨r10, rfl, h⟩
    refine ⟨_, rfl, ?_⟩
    refine wpR_val (v := (Value.tuple #[(Value.pointer r10.1), (Value.int .i64 r10.2)])) (w' := w7) rfl rfl rfl (x_move (v := (Value.tuple #[(Value.pointer r10.1), (Value.int .i64 r10.2)])) rfl rfl) ?_
    refine wpR_val (v := (Value.pointer r10.1)) (w' := w7) rfl rfl rfl (x_extract rfl rfl rfl) ?_
    refine wpR_val (v := (Value.int .i64 r10.2)) (w' := w7) rfl rfl rfl (x_extract rfl rfl rfl) ?_
    refine wpR_val (v := (Value.pointer r10.1)) (w' := w7) rfl rfl rfl (x_assign (v := (Value.pointer r10.1)) rfl rfl) ?_
    refine wpR_val (v := (Value.int .i64 r10.2)) (w' := w7) rfl rfl rfl (x_assign (v := (Value.int .i64 r10.2)) rfl rfl) ?_
    refine wpR_nil ?_
    refine wpC_seq ?_
    refine wpC_cut (fun ρ => ρ 0 = (Sl.v p0) ∧ ρ 1 = (Sl.v p1) ∧ ρ 2 = (Value.int .i64 p2) ∧ ρ 3 = (Value.int .i64 p3) ∧ ρ 9 = (Value.bool r1) ∧ ρ 11 = (Value.int .i64 r10.2) ∧ True) ⟨e0, e1, e2, e3, e9, rfl, trivial⟩ ?_
    rintro ρ ⟨e0, e1, e2, e3, e9, e11, -⟩
    refine wpC_region ?_
    refine wpR_val (v := (Value.int .i64 p2)) (w' := w7) rfl rfl rfl (x_move (v := (Value.int .i64 p2)) rfl e2) ?_
    refine wpR_enter rfl rfl rfl (x_call (vs := [(Value.int .i64 p2)]) rfl rfl (mapl_cons rfl mapl_nil) Try.func10 NN_10 NB_10) (Calls.mono h ?_)
    rintro _ w8 ⟨r11, rfl, h⟩
    refine ⟨_, rfl, ?_⟩
    obtain ⟨b12, hb12⟩ : ∃ u, u = w8.heap.size := ⟨_, rfl⟩
    obtain ⟨w9, hw12⟩ : ∃ u, u = w8.alloc (.cells #[(Value.string r11)] 9) := ⟨_, rfl⟩
    replace h := h b12 w9 hb12 hw12
    refine wpR_val (v := (Sl.v (⟨some ⟨b12, 0, none⟩, 1, 1⟩ : Sl))) (w' := w9) rfl rfl rfl ((x_buildSlice (qs := [(0, (Value.string r11))]) rfl (by rfl) (BS_22_1_0 r11)).trans (by rw [← hb12, ← hw12])) ?_
    refine wpR_enter rfl rfl rfl (x_call (vs := [(Sl.v (⟨some ⟨b12, 0, none⟩, 1, 1⟩ : Sl))]) rfl rfl (mapl_cons rfl mapl_nil) Try.func11 NN_11 NB_11) (Calls.mono h ?_)
    rintro _ w10 ⟨r13, rfl, h⟩
    refine ⟨_, rfl, ?_⟩
    refine wpR_val (v := (Value.tuple #[(Value.pointer r13.1), (Value.int .i64 r13.2)])) (w' := w10) rfl rfl rfl (x_move (v := (Value.tuple #[(Value.pointer r13.1), (Value.int .i64 r13.2)])) rfl rfl) ?_
    refine wpR_val (v := (Value.pointer r13.1)) (w' := w10) rfl rfl rfl (x_extract rfl rfl rfl) ?_
    refine wpR_val (v := (Value.int .i64 r13.2)) (w' := w10) rfl rfl rfl (x_extract rfl rfl rfl) ?_
    refine wpR_val (v := (Value.pointer r13.1)) (w' := w10) rfl rfl rfl (x_assign (v := (Value.pointer r13.1)) rfl rfl) ?_
    refine wpR_val (v := (Value.int .i64 r13.2)) (w' := w10) rfl rfl rfl (x_assign (v := (Value.int .i64 r13.2)) rfl rfl) ?_
    refine wpR_nil ?_
    refine wpC_seq ?_
    refine wpC_cut (fun ρ => ρ 0 = (Sl.v p0) ∧ ρ 1 = (Sl.v p1) ∧ ρ 2 = (Value.int .i64 p2) ∧ ρ 3 = (Value.int .i64 p3) ∧ ρ 9 = (Value.bool r1) ∧ ρ 11 = (Value.int .i64 r10.2) ∧ ρ 13 = (Value.int .i64 r13.2) ∧ True) ⟨e0, e1, e2, e3, e9, e11, rfl, trivial⟩ ?_
    rintro ρ ⟨e0, e1, e2, e3, e9, e11, e13, -⟩
    refine wpC_region ?_
    refine wpR_val (v := (Sl.v p0)) (w' := w10) rfl rfl rfl (x_move (v := (Sl.v p0)) rfl e0) ?_
    refine wpR_enter rfl rfl rfl (x_call (vs := [(Sl.v p0)]) rfl rfl (mapl_cons rfl mapl_nil) Try.func9 NN_9 NB_9) (Calls.mono h ?_)
    rintro _ w11 ⟨r14, rfl, h⟩
    refine ⟨_, rfl, ?_⟩
    refine wpR_val (v := (Value.tuple #[(Value.pointer r14.1), (Value.int .i64 r14.2)])) (w' := w11) rfl rfl rfl (x_move (v := (Value.tuple #[(Value.pointer r14.1), (Value.int .i64 r14.2)])) rfl rfl) ?_
    refine wpR_val (v := (Value.pointer r14.1)) (w' := w11) rfl rfl rfl (x_extract rfl rfl rfl) ?_
    refine wpR_val (v := (Value.int .i64 r14.2)) (w' := w11) rfl rfl rfl (x_extract rfl rfl rfl) ?_
    refine wpR_val (v := (Value.pointer r14.1)) (w' := w11) rfl rfl rfl (x_assign (v := (Value.pointer r14.1)) rfl rfl) ?_
    refine wpR_val (v := (Value.int .i64 r14.2)) (w' := w11) rfl rfl rfl (x_assign (v := (Value.int .i64 r14.2)) rfl rfl) ?_
    refine wpR_nil ?_
    refine wpC_seq ?_
    refine wpC_cut (fun ρ => ρ 0 = (Sl.v p0) ∧ ρ 1 = (Sl.v p1) ∧ ρ 2 = (Value.int .i64 p2) ∧ ρ 3 = (Value.int .i64 p3) ∧ ρ 9 = (Value.bool r1) ∧ ρ 11 = (Value.int .i64 r10.2) ∧ ρ 13 = (Value.int .i64 r13.2) ∧ ρ 14 = (Value.pointer r14.1) ∧ ρ 15 = (Value.int .i64 r14.2) ∧ True) ⟨e0, e1, e2, e3, e9, e11, e13, rfl, rfl, trivial⟩ ?_
    rintro ρ ⟨e0, e1, e2, e3, e9, e11, e13, e14, e15, -⟩
    refine wpC_region ?_
    refine wpR_val (v := (Sl.v p0)) (w' := w11) rfl rfl rfl (x_move (v := (Sl.v p0)) rfl e0) ?_
    refine wpR_enter rfl rfl rfl (x_call (vs := [(Sl.v p0)]) rfl rfl (mapl_cons rfl mapl_nil) Try.func11 NN_11 NB_11) (Calls.mono h ?_)
    rintro _ w12 ⟨r15, rfl, h⟩
    refine ⟨_, rfl, ?_⟩
    refine wpR_val (v := (Value.tuple #[(Value.pointer r15.1), (Value.int .i64 r15.2)])) (w' := w12) rfl rfl rfl (x_move (v := (Value.tuple #[(Value.pointer r15.1), (Value.int .i64 r15.2)])) rfl rfl) ?_
    refine wpR_val (v := (Value.pointer r15.1)) (w' := w12) rfl rfl rfl (x_extract rfl rfl rfl) ?_
    refine wpR_val (v := (Value.int .i64 r15.2)) (w' := w12) rfl rfl rfl (x_extract rfl rfl rfl) ?_
    refine wpR_val (v := (Value.pointer r15.1)) (w' := w12) rfl rfl rfl (x_assign (v := (Value.pointer r15.1)) rfl rfl) ?_
    refine wpR_val (v := (Value.int .i64 r15.2)) (w' := w12) rfl rfl rfl (x_assign (v := (Value.int .i64 r15.2)) rfl rfl) ?_
    refine wpR_nil ?_
    refine wpC_seq ?_
    refine wpC_seq ?_
    refine wpC_cut (fun ρ => ρ 1 = (Sl.v p1) ∧ ρ 2 = (Value.int .i64 p2) ∧ ρ 3 = (Value.int .i64 p3) ∧ ρ 9 = (Value.bool r1) ∧ ρ 11 = (Value.int .i64 r10.2) ∧ ρ 13 = (Value.int .i64 r13.2) ∧ ρ 14 = (Value.pointer r14.1) ∧ ρ 15 = (Value.int .i64 r14.2) ∧ ρ 16 = (Value.pointer r15.1) ∧ ρ 17 = (Value.int .i64 r15.2) ∧ True) ⟨e1, e2, e3, e9, e11, e13, e14, e15, rfl, rfl, trivial⟩ ?_
    rintro ρ ⟨e1, e2, e3, e9, e11, e13, e14, e15, e16, e17, -⟩
    refine wpC_region ?_
    refine wpR_val (v := (Value.int .i64 r10.2)) (w' := w12) rfl rfl rfl (x_move (v := (Value.int .i64 r10.2)) rfl e11) ?_
    refine wpR_val (v := (Value.int .i64 r13.2)) (w' := w12) rfl rfl rfl (x_move (v := (Value.int .i64 r13.2)) rfl e13) ?_
    refine wpR_val (v := (Value.bool (!decide (r10.2 = r13.2)))) (w' := w12) rfl rfl rfl (x_neq rfl rfl rfl) ?_
    refine wpR_val (v := (Value.bool (!decide (r10.2 = r13.2)))) (w' := w12) rfl rfl rfl (x_move (v := (Value.bool (!decide (r10.2 = r13.2)))) rfl rfl) ?_
    refine wpR_joinJ 4 (fun (_ : Unit) ρ => ρ 68 = Value.bool ((!decide (r10.2 = r13.2)) || (!decide (r14.2 = r15.2))) ∧ ρ 1 = (Sl.v p1) ∧ ρ 2 = (Value.int .i64 p2) ∧ ρ 3 = (Value.int .i64 p3) ∧ ρ 9 = (Value.bool r1) ∧ ρ 14 = (Value.pointer r14.1) ∧ ρ 16 = (Value.pointer r15.1) ∧ True) (fun _ w => w12 = w) ?_ ?_
    · clear h
      rcases Bool.eq_false_or_eq_true (!decide (r10.2 = r13.2)) with hc17 | hc17
      · skip
        refine wpR_pass (wantN rfl rfl rfl hc17) rfl rfl ?_
        refine wpR_pass (wantN rfl rfl rfl hc17) rfl rfl ?_
        refine wpR_pass (wantN rfl rfl rfl hc17) rfl rfl ?_
        refine wpR_val (v := (Value.bool true)) (w' := w12) rfl rfl rfl (x_pickT (v := (Value.bool true)) rfl rfl hc17 rfl) ?_
        refine wpR_nil ?_
        exact ⟨(), ⟨(by rw [hc17]; rfl), e1, e2, e3, e9, e14, e16, trivial⟩, rfl⟩
      · skip
        refine wpR_val (v := (Value.int .i64 r14.2)) (w' := w12) (wantG rfl rfl rfl hc17) rfl rfl (x_move (v := (Value.int .i64 r14.2)) rfl e15) ?_
        refine wpR_val (v := (Value.int .i64 r15.2)) (w' := w12) (wantG rfl rfl rfl hc17) rfl rfl (x_move (v := (Value.int .i64 r15.2)) rfl e17) ?_
        refine wpR_val (v := (Value.bool (!decide (r14.2 = r15.2)))) (w' := w12) (wantG rfl rfl rfl hc17) rfl rfl (x_neq rfl rfl rfl) ?_
        refine wpR_val (v := (Value.bool (!decide (r14.2 = r15.2)))) (w' := w12) rfl rfl rfl (x_pickF (v := (Value.bool (!decide (r14.2 = r15.2)))) rfl rfl hc17 rfl) ?_
        refine wpR_nil ?_
        exact ⟨(), ⟨(by rw [hc17]; rfl), e1, e2, e3, e9, e14, e16, trivial⟩, rfl⟩
    rintro _ ρ wj ⟨e68, e1, e2, e3, e9, e14, e16, -⟩ rfl
    refine wpR_val (v := (Value.bool ((!decide (r10.2 = r13.2)) || (!decide (r14.2 = r15.2))))) (w' := w12) rfl rfl rfl (x_move (v := (Value.bool ((!decide (r10.2 = r13.2)) || (!decide (r14.2 = r15.2))))) rfl e68) ?_
    refine wpR_joinJ 6 (fun (_ : Unit) ρ => ρ 75 = Value.bool (((!decide (r10.2 = r13.2)) || (!decide (r14.2 = r15.2))) || (!(r14.1.isNone == r15.1.isNone))) ∧ ρ 1 = (Sl.v p1) ∧ ρ 2 = (Value.int .i64 p2) ∧ ρ 3 = (Value.int .i64 p3) ∧ ρ 9 = (Value.bool r1) ∧ ρ 14 = (Value.pointer r14.1) ∧ ρ 16 = (Value.pointer r15.1) ∧ True) (fun _ w => w12 = w) ?_ ?_
    · clear h
      rcases Bool.eq_false_or_eq_true ((!decide (r10.2 = r13.2)) || (!decide (r14.2 = r15.2))) with hc19 | hc19
      · skip
        refine wpR_pass (wantN rfl rfl rfl hc19) rfl rfl ?_
        refine wpR_pass (wantN rfl rfl rfl hc19) rfl rfl ?_
        refine wpR_pass (wantN rfl rfl rfl hc19) rfl rfl ?_
        refine wpR_pass (wantN rfl rfl rfl hc19) rfl rfl ?_
        refine wpR_pass (wantN rfl rfl rfl hc19) rfl rfl ?_
        refine wpR_val (v := (Value.bool true)) (w' := w12) rfl rfl rfl (x_pickT (v := (Value.bool true)) rfl rfl hc19 rfl) ?_
        refine wpR_nil ?_
        exact ⟨(), ⟨(by rw [hc19]; rfl), e1, e2, e3, e9, e14, e16, trivial⟩, rfl⟩
      · skip
        refine wpR_val (v := (Value.pointer r14.1)) (w' := w12) (wantG rfl rfl rfl hc19) rfl rfl (x_move (v := (Value.pointer r14.1)) rfl e14) ?_
        refine wpR_val (v := (Value.bool r14.1.isNone)) (w' := w12) (wantG rfl rfl rfl hc19) rfl rfl (x_eqlNil rfl rfl rfl isPtrT_25) ?_
        refine wpR_val (v := (Value.pointer r15.1)) (w' := w12) (wantG rfl rfl rfl hc19) rfl rfl (x_move (v := (Value.pointer r15.1)) rfl e16) ?_
        refine wpR_val (v := (Value.bool r15.1.isNone)) (w' := w12) (wantG rfl rfl rfl hc19) rfl rfl (x_eqlNil rfl rfl rfl isPtrT_30) ?_
        refine wpR_val (v := (Value.bool (!(r14.1.isNone == r15.1.isNone)))) (w' := w12) (wantG rfl rfl rfl hc19) rfl rfl (x_neqB rfl rfl rfl isBoolT_4) ?_
        refine wpR_val (v := (Value.bool (!(r14.1.isNone == r15.1.isNone)))) (w' := w12) rfl rfl rfl (x_pickF (v := (Value.bool (!(r14.1.isNone == r15.1.isNone)))) rfl rfl hc19 rfl) ?_
        refine wpR_nil ?_
        exact ⟨(), ⟨(by rw [hc19]; rfl), e1, e2, e3, e9, e14, e16, trivial⟩, rfl⟩
    rintro _ ρ wj ⟨e75, e1, e2, e3, e9, e14, e16, -⟩ rfl
    refine wpR_nil ?_
    refine wpC_cond (b := ((!decide (r10.2 = r13.2)) || (!decide (r14.2 = r15.2))) || (!(r14.1.isNone == r15.1.isNone))) e75 (fun hc20 => ?_) (fun hc20 => ?_)
    · replace h := h.1 hc20
      refine wpC_seq ?_
      refine wpC_region ?_
      refine wpR_val (v := (Value.bool false)) (w' := w12) rfl rfl rfl (x_assign (v := (Value.bool false)) rfl rfl) ?_
      refine wpR_nil ?_
      refine wpC_ret ?_
      exact ⟨.inl rfl, fun a ha => ⟨_, results_rep1 rfl ha rfl, false, rfl, h⟩⟩
    · replace h := h.2 hc20
      refine wpC_skip ?_
      obtain ⟨J21, h, hk⟩ := h
      refine wpC_seqJ (fun (x : (Option Addr) × (Option Addr)) ρ => ρ 14 = (Value.pointer x.1) ∧ ρ 16 = (Value.pointer x.2) ∧ ρ 1 = (Sl.v p1) ∧ ρ 2 = (Value.int .i64 p2) ∧ ρ 3 = (Value.int .i64 p3) ∧ ρ 9 = (Value.bool r1) ∧ True) J21 ?_ ?_
      · clear hk
        refine wpC_seq ?_
        refine wpC_region ?_
        refine wpR_val (v := (Value.pointer r14.1)) (w' := w12) rfl rfl rfl (x_move (v := (Value.pointer r14.1)) rfl e14) ?_
        refine wpR_val (v := (Value.bool r14.1.isNone)) (w' := w12) rfl rfl rfl (x_eqlNil rfl rfl rfl isPtrT_25) ?_
        refine wpR_val (v := (Value.bool r14.1.isNone)) (w' := w12) rfl rfl rfl (x_move (v := (Value.bool r14.1.isNone)) rfl rfl) ?_
        refine wpR_joinJ 3 (fun (_ : Unit) ρ => ρ 81 = Value.bool (r14.1.isNone || r15.1.isNone) ∧ ρ 1 = (Sl.v p1) ∧ ρ 2 = (Value.int .i64 p2) ∧ ρ 3 = (Value.int .i64 p3) ∧ ρ 9 = (Value.bool r1) ∧ ρ 14 = (Value.pointer r14.1) ∧ ρ 16 = (Value.pointer r15.1) ∧ True) (fun _ w => w12 = w) ?_ ?_
        · clear h
          rcases Bool.eq_false_or_eq_true (r14.1.isNone) with hc24 | hc24
          · skip
            refine wpR_pass (wantN rfl rfl rfl hc24) rfl rfl ?_
            refine wpR_pass (wantN rfl rfl rfl hc24) rfl rfl ?_
            refine wpR_val (v := (Value.bool true)) (w' := w12) rfl rfl rfl (x_pickT (v := (Value.bool true)) rfl rfl hc24 rfl) ?_
            refine wpR_nil ?_
            exact ⟨(), ⟨(by rw [hc24]; rfl), e1, e2, e3, e9, e14, e16, trivial⟩, rfl⟩
          · skip
            refine wpR_val (v := (Value.pointer r15.1)) (w' := w12) (wantG rfl rfl rfl hc24) rfl rfl (x_move (v := (Value.pointer r15.1)) rfl e16) ?_
            refine wpR_val (v := (Value.bool r15.1.isNone)) (w' := w12) (wantG rfl rfl rfl hc24) rfl rfl (x_eqlNil rfl rfl rfl isPtrT_30) ?_
            refine wpR_val (v := (Value.bool r15.1.isNone)) (w' := w12) rfl rfl rfl (x_pickF (v := (Value.bool r15.1.isNone)) rfl rfl hc24 rfl) ?_
            refine wpR_nil ?_
            exact ⟨(), ⟨(by rw [hc24]; rfl), e1, e2, e3, e9, e14, e16, trivial⟩, rfl⟩
        rintro _ ρ wj ⟨e81, e1, e2, e3, e9, e14, e16, -⟩ rfl
        refine wpR_nil ?_
        refine wpC_cond (b := r14.1.isNone || r15.1.isNone) e81 (fun hc25 => ?_) (fun hc25 => ?_)
        · replace h := h.1 hc25
          refine wpC_seq ?_
          refine wpC_region ?_
          refine wpR_enter rfl rfl rfl (x_call (vs := []) rfl rfl mapl_nil Try.func12 NN_12 NB_12) (Calls.mono h ?_)
          rintro _ w14 ⟨r26, rfl, h⟩
          refine ⟨_, rfl, ?_⟩
          refine wpR_val (v := (Value.pointer r26)) (w' := w14) rfl rfl rfl (x_assign (v := (Value.pointer r26)) rfl rfl) ?_
          refine wpR_nil ?_
          refine wpC_cut (fun ρ => ρ 1 = (Sl.v p1) ∧ ρ 2 = (Value.int .i64 p2) ∧ ρ 3 = (Value.int .i64 p3) ∧ ρ 9 = (Value.bool r1) ∧ ρ 14 = (Value.pointer r26) ∧ True) ⟨e1, e2, e3, e9, rfl, trivial⟩ ?_
          rintro ρ ⟨e1, e2, e3, e9, e14, -⟩
          refine wpC_region ?_
          refine wpR_enter rfl rfl rfl (x_call (vs := []) rfl rfl mapl_nil Try.func13 NN_13 NB_13) (Calls.mono h ?_)
          rintro _ w15 ⟨r27, rfl, h⟩
          refine ⟨_, rfl, ?_⟩
          refine wpR_val (v := (Value.pointer r27)) (w' := w15) rfl rfl rfl (x_assign (v := (Value.pointer r27)) rfl rfl) ?_
          refine wpR_nil ?_
          exact ⟨(r26, r27), ⟨e14, rfl, e1, e2, e3, e9, trivial⟩, h⟩
        · replace h := h.2 hc25
          refine wpC_skip ?_
          exact ⟨(r14.1, r15.1), ⟨e14, e16, e1, e2, e3, e9, trivial⟩, h⟩
      clear h
      rintro l22 ρ w13 ⟨e14, e16, e1, e2, e3, e9, -⟩ h
      replace h := hk l22 w13 h
      clear hk
      refine wpC_seq ?_
      refine wpC_seq ?_
      refine wpC_region ?_
      refine wpR_val (v := (Value.pointer l22.1)) (w' := w13) rfl rfl rfl (x_move (v := (Value.pointer l22.1)) rfl e14) ?_
      refine wpR_val (v := (Value.bool l22.1.isNone)) (w' := w13) rfl rfl rfl (x_eqlNil rfl rfl rfl isPtrT_25) ?_
      refine wpR_nil ?_
      refine wpC_cond (b := l22.1.isNone) rfl (fun hc28 => ?_) (fun hc28 => ?_)
      · replace h := h.1 hc28
        refine wpC_seq ?_
        refine wpC_cut (fun ρ => True) trivial ?_
        rintro ρ -
        refine wpC_region ?_
        refine wpR_val (v := (Value.bool false)) (w' := w13) rfl rfl rfl (x_assign (v := (Value.bool false)) rfl rfl) ?_
        refine wpR_nil ?_
        refine wpC_ret ?_
        exact ⟨.inl rfl, fun a ha => ⟨_, results_rep1 rfl ha rfl, false, rfl, h⟩⟩
      · replace h := h.2 hc28
        refine wpC_skip ?_
        refine wpC_seq ?_
        refine wpC_seq ?_
        refine wpC_cut (fun ρ => ρ 1 = (Sl.v p1) ∧ ρ 2 = (Value.int .i64 p2) ∧ ρ 3 = (Value.int .i64 p3) ∧ ρ 9 = (Value.bool r1) ∧ ρ 14 = (Value.pointer l22.1) ∧ ρ 16 = (Value.pointer l22.2) ∧ True) ⟨e1, e2, e3, e9, e14, e16, trivial⟩ ?_
        rintro ρ ⟨e1, e2, e3, e9, e14, e16, -⟩
        refine wpC_region ?_
        refine wpR_val (v := (Value.pointer l22.1)) (w' := w13) rfl rfl rfl (x_move (v := (Value.pointer l22.1)) rfl e14) ?_
        refine wpR_val (v := (Value.int .i64 p2)) (w' := w13) rfl rfl rfl (x_move (v := (Value.int .i64 p2)) rfl e2) ?_
        refine wpR_enter rfl rfl rfl (x_call (vs := [(Value.int .i64 p2)]) rfl rfl (mapl_cons rfl mapl_nil) Try.func10 NN_10 NB_10) (Calls.mono h ?_)
        rintro _ w16 ⟨r29, rfl, h⟩
        refine ⟨_, rfl, ?_⟩
        refine wpR_enter rfl rfl rfl (x_call (vs := [(Value.pointer l22.1), (Value.string r29)]) rfl rfl (mapl_cons rfl (mapl_cons rfl mapl_nil)) Try.func14 NN_14 NB_14) (Calls.mono h ?_)
        rintro _ w17 ⟨r30, rfl, h⟩
        refine ⟨_, rfl, ?_⟩
        refine wpR_val (v := (Value.pointer l22.2)) (w' := w17) rfl rfl rfl (x_move (v := (Value.pointer l22.2)) rfl e16) ?_
        refine wpR_val (v := (Value.int .i64 p2)) (w' := w17) rfl rfl rfl (x_move (v := (Value.int .i64 p2)) rfl e2) ?_
        refine wpR_enter rfl rfl rfl (x_call (vs := [(Value.int .i64 p2)]) rfl rfl (mapl_cons rfl mapl_nil) Try.func10 NN_10 NB_10) (Calls.mono h ?_)
        rintro _ w18 ⟨r31, rfl, h⟩
        refine ⟨_, rfl, ?_⟩
        refine wpR_enter rfl rfl rfl (x_call (vs := [(Value.pointer l22.2), (Value.string r31)]) rfl rfl (mapl_cons rfl (mapl_cons rfl mapl_nil)) Try.func15 NN_15 NB_15) (Calls.mono h ?_)
        rintro _ w19 ⟨r32, rfl, h⟩
        refine ⟨_, rfl, ?_⟩
        refine wpR_val (v := (Value.bool (!decide (r30 = r32)))) (w' := w19) rfl rfl rfl (x_neq rfl rfl rfl) ?_
        refine wpR_nil ?_
        refine wpC_cond (b := !decide (r30 = r32)) rfl (fun hc33 => ?_) (fun hc33 => ?_)
        · replace h := h.1 hc33
          refine wpC_seq ?_
          refine wpC_cut (fun ρ => True) trivial ?_
          rintro ρ -
          refine wpC_region ?_
          refine wpR_val (v := (Value.bool false)) (w' := w19) rfl rfl rfl (x_assign (v := (Value.bool false)) rfl rfl) ?_
          refine wpR_nil ?_
          refine wpC_ret ?_
          exact ⟨.inl rfl, fun a ha => ⟨_, results_rep1 rfl ha rfl, false, rfl, h⟩⟩
        · replace h := h.2 hc33
          refine wpC_skip ?_
          refine wpC_seq ?_
          refine wpC_seq ?_
          refine wpC_cut (fun ρ => ρ 1 = (Sl.v p1) ∧ ρ 3 = (Value.int .i64 p3) ∧ ρ 9 = (Value.bool r1) ∧ ρ 14 = (Value.pointer l22.1) ∧ ρ 16 = (Value.pointer l22.2) ∧ True) ⟨e1, e3, e9, e14, e16, trivial⟩ ?_
          rintro ρ ⟨e1, e3, e9, e14, e16, -⟩
          refine wpC_region ?_
          refine wpR_val (v := (Value.int .i64 0)) (w' := w19) rfl rfl rfl (x_assign (v := (Value.int .i64 0)) rfl rfl) ?_
          refine wpR_nil ?_
          refine wpC_block ?_
          obtain ⟨I34, μ34, hI34, hr34⟩ := h
          refine wpC_loop (fun (x : Int) ρ => ρ 18 = (Value.int .i64 x) ∧ ρ 1 = (Sl.v p1) ∧ ρ 3 = (Value.int .i64 p3) ∧ ρ 9 = (Value.bool r1) ∧ ρ 14 = (Value.pointer l22.1) ∧ ρ 16 = (Value.pointer l22.2) ∧ True) I34 μ34 0 ⟨rfl, e1, e3, e9, e14, e16, trivial⟩ hI34 ?_
          rintro l34 ρ w20 ⟨e18, e1, e3, e9, e14, e16, -⟩ h
          replace h := hr34 l34 w20 h
          clear hr34 hI34
          refine wpC_seq ?_
          refine wpC_seq ?_
          refine wpC_region ?_
          refine wpR_val (v := (Value.int .i64 l34)) (w' := w20) rfl rfl rfl (x_move (v := (Value.int .i64 l34)) rfl e18) ?_
          refine wpR_val (v := (Sl.v p1)) (w' := w20) rfl rfl rfl (x_move (v := (Sl.v p1)) rfl e1) ?_
          refine wpR_val (v := (Value.int .i64 (p1.len : Int))) (w' := w20) rfl rfl rfl (x_lenS (s := p1) rfl rfl isSliceT_22) ?_
          refine wpR_val (v := (Value.bool (decide (l34 < (p1.len : Int))))) (w' := w20) rfl rfl rfl (x_lss rfl rfl rfl) ?_
          refine wpR_nil ?_
          refine wpC_cond (b := decide (l34 < (p1.len : Int))) rfl (fun hc35 => ?_) (fun hc35 => ?_)
          · replace h := h.1 hc35
            refine wpC_skip ?_
            refine wpC_seq ?_
            refine wpC_block ?_
            refine wpC_seq ?_
            refine wpC_cut (fun ρ => ρ 1 = (Sl.v p1) ∧ ρ 3 = (Value.int .i64 p3) ∧ ρ 9 = (Value.bool r1) ∧ ρ 14 = (Value.pointer l22.1) ∧ ρ 16 = (Value.pointer l22.2) ∧ ρ 18 = (Value.int .i64 l34) ∧ True) ⟨e1, e3, e9, e14, e16, e18, trivial⟩ ?_
            rintro ρ ⟨e1, e3, e9, e14, e16, e18, -⟩
            refine wpC_region ?_
            refine wpR_val (v := (Value.pointer l22.1)) (w' := w20) rfl rfl rfl (x_move (v := (Value.pointer l22.1)) rfl e14) ?_
            refine wpR_val (v := (Value.int .i64 p3)) (w' := w20) rfl rfl rfl (x_move (v := (Value.int .i64 p3)) rfl e3) ?_
            refine wpR_enter rfl rfl rfl (x_call (vs := [(Value.pointer l22.1), (Value.int .i64 p3)]) rfl rfl (mapl_cons rfl (mapl_cons rfl mapl_nil)) Try.func16 NN_16 NB_16) (Calls.mono h ?_)
            rintro _ w21 ⟨r36, rfl, h⟩
            refine ⟨_, rfl, ?_⟩
            refine wpR_val (v := (Value.tuple #[(Value.string r36.1), (Value.bool r36.2)])) (w' := w21) rfl rfl rfl (x_move (v := (Value.tuple #[(Value.string r36.1), (Value.bool r36.2)])) rfl rfl) ?_
            refine wpR_val (v := (Value.string r36.1)) (w' := w21) rfl rfl rfl (x_extract rfl rfl rfl) ?_
            refine wpR_val (v := (Value.bool r36.2)) (w' := w21) rfl rfl rfl (x_extract rfl rfl rfl) ?_
            refine wpR_val (v := (Value.string r36.1)) (w' := w21) rfl rfl rfl (x_assign (v := (Value.string r36.1)) rfl rfl) ?_
            refine wpR_val (v := (Value.bool r36.2)) (w' := w21) rfl rfl rfl (x_assign (v := (Value.bool r36.2)) rfl rfl) ?_
            refine wpR_nil ?_
            refine wpC_seq ?_
            refine wpC_cut (fun ρ => ρ 1 = (Sl.v p1) ∧ ρ 3 = (Value.int .i64 p3) ∧ ρ 9 = (Value.bool r1) ∧ ρ 14 = (Value.pointer l22.1) ∧ ρ 16 = (Value.pointer l22.2) ∧ ρ 18 = (Value.int .i64 l34) ∧ ρ 19 = (Value.string r36.1) ∧ ρ 20 = (Value.bool r36.2) ∧ True) ⟨e1, e3, e9, e14, e16, e18, rfl, rfl, trivial⟩ ?_
            rintro ρ ⟨e1, e3, e9, e14, e16, e18, e19, e20, -⟩
            refine wpC_region ?_
            refine wpR_val (v := (Value.pointer l22.2)) (w' := w21) rfl rfl rfl (x_move (v := (Value.pointer l22.2)) rfl e16) ?_
            refine wpR_val (v := (Value.int .i64 p3)) (w' := w21) rfl rfl rfl (x_move (v := (Value.int .i64 p3)) rfl e3) ?_
            refine wpR_enter rfl rfl rfl (x_call (vs := [(Value.pointer l22.2), (Value.int .i64 p3)]) rfl rfl (mapl_cons rfl (mapl_cons rfl mapl_nil)) Try.func17 NN_17 NB_17) (Calls.mono h ?_)
            rintro _ w22 ⟨r37, rfl, h⟩
            refine ⟨_, rfl, ?_⟩
            refine wpR_val (v := (Value.tuple #[(Value.string r37.1), (Value.bool r37.2)])) (w' := w22) rfl rfl rfl (x_move (v := (Value.tuple #[(Value.string r37.1), (Value.bool r37.2)])) rfl rfl) ?_
            refine wpR_val (v := (Value.string r37.1)) (w' := w22) rfl rfl rfl (x_extract rfl rfl rfl) ?_
            refine wpR_val (v := (Value.bool r37.2)) (w' := w22) rfl rfl rfl (x_extract rfl rfl rfl) ?_
            refine wpR_val (v := (Value.string r37.1)) (w' := w22) rfl rfl rfl (x_assign (v := (Value.string r37.1)) rfl rfl) ?_
            refine wpR_val (v := (Value.bool r37.2)) (w' := w22) rfl rfl rfl (x_assign (v := (Value.bool r37.2)) rfl rfl) ?_
            refine wpR_nil ?_
            refine wpC_seq ?_
            refine wpC_cut (fun ρ => ρ 1 = (Sl.v p1) ∧ ρ 3 = (Value.int .i64 p3) ∧ ρ 9 = (Value.bool r1) ∧ ρ 14 = (Value.pointer l22.1) ∧ ρ 16 = (Value.pointer l22.2) ∧ ρ 18 = (Value.int .i64 l34) ∧ ρ 19 = (Value.string r36.1) ∧ ρ 20 = (Value.bool r36.2) ∧ ρ 21 = (Value.string r37.1) ∧ ρ 22 = (Value.bool r37.2) ∧ True) ⟨e1, e3, e9, e14, e16, e18, e19, e20, rfl, rfl, trivial⟩ ?_
            rintro ρ ⟨e1, e3, e9, e14, e16, e18, e19, e20, e21, e22, -⟩
            obtain ⟨J39, h, hk⟩ := h
            refine wpC_drawJ (by kernel_rfl) (fun (x : Bool) ρ => ρ 142 = (Value.bool x) ∧ ρ 1 = (Sl.v p1) ∧ ρ 3 = (Value.int .i64 p3) ∧ ρ 9 = (Value.bool r1) ∧ ρ 14 = (Value.pointer l22.1) ∧ ρ 16 = (Value.pointer l22.2) ∧ ρ 18 = (Value.int .i64 l34) ∧ True) J39 ?_ ?_
            · clear hk
              unfold tk at h
              generalize w22.drew = w23 at h ⊢
              refine wpD_take (v := (Value.pointer l22.1)) 0 (fun _ => True) rfl (by kernel_rfl) (by kernel_rfl) (by kernel_rfl) rfl rfl rfl trivial (fun w _ => (x_move (v := (Value.pointer l22.1)) rfl e14)) ?_
              refine wpD_take (v := (Sl.v p1)) 1 (fun _ => True) rfl (by kernel_rfl) (by kernel_rfl) (by kernel_rfl) rfl rfl rfl trivial (fun w _ => (x_move (v := (Sl.v p1)) rfl e1)) ?_
              refine wpD_take (v := (Value.int .i64 l34)) 2 (fun _ => True) rfl (by kernel_rfl) (by kernel_rfl) (by kernel_rfl) rfl rfl rfl trivial (fun w _ => (x_move (v := (Value.int .i64 l34)) rfl e18)) ?_
              obtain ⟨q40, z40, r40, h⟩ := h
              generalize hp40 : z40.add ((l34 : Int).toNat * 1) = p40 at h
              refine wpD_take (v := (Value.pointer (some p40))) 3 (fun _ => True) rfl (by kernel_rfl) (by kernel_rfl) (by kernel_rfl) rfl rfl rfl trivial (fun w _ => ((x_indexAddr (s := p1) rfl rfl rfl ES_22 q40 r40).trans (by rw [hp40]))) ?_
              obtain ⟨x41, q41, h⟩ := h
              refine wpD_take (v := (Value.string x41)) 4 (fun w => w.cell? p40 = some (Value.string x41)) rfl (by kernel_rfl) (by kernel_rfl) (by kernel_rfl) rfl rfl rfl q41 (fun w q41 => (x_load1 rfl rfl SH_9 q41)) ?_
              refine wpD_take (v := (Value.pointer l22.2)) 6 (fun _ => True) rfl (by kernel_rfl) (by kernel_rfl) (by kernel_rfl) rfl rfl rfl trivial (fun w _ => (x_move (v := (Value.pointer l22.2)) rfl e16)) ?_
              refine wpD_take (v := (Sl.v p1)) 7 (fun _ => True) rfl (by kernel_rfl) (by kernel_rfl) (by kernel_rfl) rfl rfl rfl trivial (fun w _ => (x_move (v := (Sl.v p1)) rfl e1)) ?_
              refine wpD_take (v := (Value.int .i64 l34)) 8 (fun _ => True) rfl (by kernel_rfl) (by kernel_rfl) (by kernel_rfl) rfl rfl rfl trivial (fun w _ => (x_move (v := (Value.int .i64 l34)) rfl e18)) ?_
              obtain ⟨q42, z42, r42, h⟩ := h
              generalize hp42 : z42.add ((l34 : Int).toNat * 1) = p42 at h
              refine wpD_take (v := (Value.pointer (some p42))) 9 (fun _ => True) rfl (by kernel_rfl) (by kernel_rfl) (by kernel_rfl) rfl rfl rfl trivial (fun w _ => ((x_indexAddr (s := p1) rfl rfl rfl ES_22 q42 r42).trans (by rw [hp42]))) ?_
              obtain ⟨x43, q43, h⟩ := h
              refine wpD_take (v := (Value.string x43)) 10 (fun w => w.cell? p42 = some (Value.string x43)) rfl (by kernel_rfl) (by kernel_rfl) (by kernel_rfl) rfl rfl rfl q43 (fun w q43 => (x_load1 rfl rfl SH_9 q43)) ?_
              refine wpD_all (rs := [5]) (by kernel_rfl) (by simp) (allD_cons ?_ allD_nil)
              refine stepD_enterL (L' := [(10, fun w => w.cell? p42 = some (Value.string x43)), (9, fun _ => True), (8, fun _ => True), (7, fun _ => True), (6, fun _ => True), (3, fun _ => True), (2, fun _ => True), (1, fun _ => True)]) rfl rfl rfl rfl (x_call (vs := [(Value.pointer l22.1), (Value.string x41)]) rfl rfl (mapl_cons rfl (mapl_cons rfl mapl_nil)) Try.func14 NN_14 NB_14) (by kernel_rfl) (Calls.mono h ?_)
              rintro _ w24 ⟨r44, rfl, h⟩
              obtain ⟨o10, h⟩ := h
              refine ⟨_, rfl, (held_cons o10 (held_cons trivial (held_cons trivial (held_cons trivial (held_cons trivial (held_cons trivial (held_cons trivial (held_cons trivial held_nil)))))))), ?_⟩
              refine wpD_all (rs := [11]) (by kernel_rfl) (by simp) (allD_cons ?_ allD_nil)
              refine stepD_enterL (L' := [(9, fun _ => True), (8, fun _ => True), (7, fun _ => True), (3, fun _ => True), (2, fun _ => True), (1, fun _ => True)]) rfl rfl rfl rfl (x_call (vs := [(Value.pointer l22.2), (Value.string x43)]) rfl rfl (mapl_cons rfl (mapl_cons rfl mapl_nil)) Try.func15 NN_15 NB_15) (by kernel_rfl) (Calls.mono h ?_)
              rintro _ w25 ⟨r45, rfl, h⟩
              refine ⟨_, rfl, (held_cons trivial (held_cons trivial (held_cons trivial (held_cons trivial (held_cons trivial (held_cons trivial held_nil)))))), ?_⟩
              refine wpD_take (v := (Value.bool (!decide (r44 = r45)))) 12 (fun _ => True) rfl (by kernel_rfl) (by kernel_rfl) (by kernel_rfl) rfl rfl rfl trivial (fun w _ => (x_neq rfl rfl rfl)) ?_
              refine wpD_take (v := (Value.bool (!decide (r44 = r45)))) 13 (fun _ => True) rfl (by kernel_rfl) (by kernel_rfl) (by kernel_rfl) rfl rfl rfl trivial (fun w _ => (x_move (v := (Value.bool (!decide (r44 = r45)))) rfl rfl)) ?_
              rcases Bool.eq_false_or_eq_true (!decide (r44 = r45)) with hc46 | hc46
              · replace h := h.1 hc46
                refine wpD_pass 14 rfl (by kernel_rfl) (by kernel_rfl) (by kernel_rfl) (wantN rfl rfl rfl hc46) rfl rfl ?_
                refine wpD_pass 15 rfl (by kernel_rfl) (by kernel_rfl) (by kernel_rfl) (wantN rfl rfl rfl hc46) rfl rfl ?_
                refine wpD_pass 16 rfl (by kernel_rfl) (by kernel_rfl) (by kernel_rfl) (wantN rfl rfl rfl hc46) rfl rfl ?_
                refine wpD_pass 17 rfl (by kernel_rfl) (by kernel_rfl) (by kernel_rfl) (wantN rfl rfl rfl hc46) rfl rfl ?_
                refine wpD_pass 18 rfl (by kernel_rfl) (by kernel_rfl) (by kernel_rfl) (wantN rfl rfl rfl hc46) rfl rfl ?_
                refine wpD_take (v := (Value.bool true)) 19 (fun _ => True) rfl (by kernel_rfl) (by kernel_rfl) (by kernel_rfl) rfl rfl rfl trivial (fun w _ => (x_pickT (v := (Value.bool true)) rfl rfl hc46 rfl)) ?_
                refine wpD_take (v := (Value.bool true)) 20 (fun _ => True) rfl (by kernel_rfl) (by kernel_rfl) (by kernel_rfl) rfl rfl rfl trivial (fun w _ => (x_move (v := (Value.bool true)) rfl rfl)) ?_
                rcases Bool.eq_false_or_eq_true (true) with hc47 | hc47
                · replace h := h.1 hc47
                  refine wpD_pass 21 rfl (by kernel_rfl) (by kernel_rfl) (by kernel_rfl) (wantN rfl rfl rfl hc47) rfl rfl ?_
                  refine wpD_pass 22 rfl (by kernel_rfl) (by kernel_rfl) (by kernel_rfl) (wantN rfl rfl rfl hc47) rfl rfl ?_
                  refine wpD_pass 23 rfl (by kernel_rfl) (by kernel_rfl) (by kernel_rfl) (wantN rfl rfl rfl hc47) rfl rfl ?_
                  refine wpD_take (v := (Value.bool true)) 24 (fun _ => True) rfl (by kernel_rfl) (by kernel_rfl) (by kernel_rfl) rfl rfl rfl trivial (fun w _ => (x_pickT (v := (Value.bool true)) rfl rfl hc47 rfl)) ?_
                  refine wpD_take (v := (Value.bool true)) 25 (fun _ => True) rfl (by kernel_rfl) (by kernel_rfl) (by kernel_rfl) rfl rfl rfl trivial (fun w _ => (x_move (v := (Value.bool true)) rfl rfl)) ?_
                  rcases Bool.eq_false_or_eq_true (true) with hc48 | hc48
                  · replace h := h.1 hc48
                    refine wpD_pass 26 rfl (by kernel_rfl) (by kernel_rfl) (by kernel_rfl) (wantN rfl rfl rfl hc48) rfl rfl ?_
                    refine wpD_pass 27 rfl (by kernel_rfl) (by kernel_rfl) (by kernel_rfl) (wantN rfl rfl rfl hc48) rfl rfl ?_
                    refine wpD_pass 28 rfl (by kernel_rfl) (by kernel_rfl) (by kernel_rfl) (wantN rfl rfl rfl hc48) rfl rfl ?_
                    refine wpD_take (v := (Value.bool true)) 29 (fun _ => True) rfl (by kernel_rfl) (by kernel_rfl) (by kernel_rfl) rfl rfl rfl trivial (fun w _ => (x_pickT (v := (Value.bool true)) rfl rfl hc48 rfl)) ?_
                    exact wpD_done (by kernel_rfl) ⟨true, ⟨rfl, e1, e3, e9, e14, e16, e18, trivial⟩, h⟩
                  · replace h := h.2 hc48
                    refine wpD_take (v := (Value.bool r36.2)) 26 (fun _ => True) rfl (by kernel_rfl) (by kernel_rfl) (by kernel_rfl) (wantG rfl rfl rfl hc48) rfl rfl trivial (fun w _ => (x_move (v := (Value.bool r36.2)) rfl e20)) ?_
                    refine wpD_take (v := (Value.bool r37.2)) 27 (fun _ => True) rfl (by kernel_rfl) (by kernel_rfl) (by kernel_rfl) (wantG rfl rfl rfl hc48) rfl rfl trivial (fun w _ => (x_move (v := (Value.bool r37.2)) rfl e22)) ?_
                    refine wpD_take (v := (Value.bool (!(r36.2 == r37.2)))) 28 (fun _ => True) rfl (by kernel_rfl) (by kernel_rfl) (by kernel_rfl) (wantG rfl rfl rfl hc48) rfl rfl trivial (fun w _ => (x_neqB rfl rfl rfl isBoolT_4)) ?_
                    refine wpD_take (v := (Value.bool (!(r36.2 == r37.2)))) 29 (fun _ => True) rfl (by kernel_rfl) (by kernel_rfl) (by kernel_rfl) rfl rfl rfl trivial (fun w _ => (x_pickF (v := (Value.bool (!(r36.2 == r37.2)))) rfl rfl hc48 rfl)) ?_
                    exact wpD_done (by kernel_rfl) ⟨!(r36.2 == r37.2), ⟨rfl, e1, e3, e9, e14, e16, e18, trivial⟩, h⟩
                · replace h := h.2 hc47
                  refine wpD_take (v := (Value.string r36.1)) 21 (fun _ => True) rfl (by kernel_rfl) (by kernel_rfl) (by kernel_rfl) (wantG rfl rfl rfl hc47) rfl rfl trivial (fun w _ => (x_move (v := (Value.string r36.1)) rfl e19)) ?_
                  refine wpD_take (v := (Value.string r37.1)) 22 (fun _ => True) rfl (by kernel_rfl) (by kernel_rfl) (by kernel_rfl) (wantG rfl rfl rfl hc47) rfl rfl trivial (fun w _ => (x_move (v := (Value.string r37.1)) rfl e21)) ?_
                  refine wpD_take (v := (Value.bool (!beqS r36.1 r37.1))) 23 (fun _ => True) rfl (by kernel_rfl) (by kernel_rfl) (by kernel_rfl) (wantG rfl rfl rfl hc47) rfl rfl trivial (fun w _ => (x_neqS rfl rfl rfl)) ?_
                  refine wpD_take (v := (Value.bool (!beqS r36.1 r37.1))) 24 (fun _ => True) rfl (by kernel_rfl) (by kernel_rfl) (by kernel_rfl) rfl rfl rfl trivial (fun w _ => (x_pickF (v := (Value.bool (!beqS r36.1 r37.1))) rfl rfl hc47 rfl)) ?_
                  refine wpD_take (v := (Value.bool (!beqS r36.1 r37.1))) 25 (fun _ => True) rfl (by kernel_rfl) (by kernel_rfl) (by kernel_rfl) rfl rfl rfl trivial (fun w _ => (x_move (v := (Value.bool (!beqS r36.1 r37.1))) rfl rfl)) ?_
                  rcases Bool.eq_false_or_eq_true (!beqS r36.1 r37.1) with hc49 | hc49
                  · replace h := h.1 hc49
                    refine wpD_pass 26 rfl (by kernel_rfl) (by kernel_rfl) (by kernel_rfl) (wantN rfl rfl rfl hc49) rfl rfl ?_
                    refine wpD_pass 27 rfl (by kernel_rfl) (by kernel_rfl) (by kernel_rfl) (wantN rfl rfl rfl hc49) rfl rfl ?_
                    refine wpD_pass 28 rfl (by kernel_rfl) (by kernel_rfl) (by kernel_rfl) (wantN rfl rfl rfl hc49) rfl rfl ?_
                    refine wpD_take (v := (Value.bool true)) 29 (fun _ => True) rfl (by kernel_rfl) (by kernel_rfl) (by kernel_rfl) rfl rfl rfl trivial (fun w _ => (x_pickT (v := (Value.bool true)) rfl rfl hc49 rfl)) ?_
                    exact wpD_done (by kernel_rfl) ⟨true, ⟨rfl, e1, e3, e9, e14, e16, e18, trivial⟩, h⟩
                  · replace h := h.2 hc49
                    refine wpD_take (v := (Value.bool r36.2)) 26 (fun _ => True) rfl (by kernel_rfl) (by kernel_rfl) (by kernel_rfl) (wantG rfl rfl rfl hc49) rfl rfl trivial (fun w _ => (x_move (v := (Value.bool r36.2)) rfl e20)) ?_
                    refine wpD_take (v := (Value.bool r37.2)) 27 (fun _ => True) rfl (by kernel_rfl) (by kernel_rfl) (by kernel_rfl) (wantG rfl rfl rfl hc49) rfl rfl trivial (fun w _ => (x_move (v := (Value.bool r37.2)) rfl e22)) ?_
                    refine wpD_take (v := (Value.bool (!(r36.2 == r37.2)))) 28 (fun _ => True) rfl (by kernel_rfl) (by kernel_rfl) (by kernel_rfl) (wantG rfl rfl rfl hc49) rfl rfl trivial (fun w _ => (x_neqB rfl rfl rfl isBoolT_4)) ?_
                    refine wpD_take (v := (Value.bool (!(r36.2 == r37.2)))) 29 (fun _ => True) rfl (by kernel_rfl) (by kernel_rfl) (by kernel_rfl) rfl rfl rfl trivial (fun w _ => (x_pickF (v := (Value.bool (!(r36.2 == r37.2)))) rfl rfl hc49 rfl)) ?_
                    exact wpD_done (by kernel_rfl) ⟨!(r36.2 == r37.2), ⟨rfl, e1, e3, e9, e14, e16, e18, trivial⟩, h⟩
              · replace h := h.2 hc46
                refine wpD_take (v := (Value.pointer l22.1)) 14 (fun _ => True) rfl (by kernel_rfl) (by kernel_rfl) (by kernel_rfl) (wantG rfl rfl rfl hc46) rfl rfl trivial (fun w _ => (x_move (v := (Value.pointer l22.1)) rfl e14)) ?_
                refine wpD_take (v := (Value.pointer l22.2)) 16 (fun _ => True) rfl (by kernel_rfl) (by kernel_rfl) (by kernel_rfl) (wantG rfl rfl rfl hc46) rfl rfl trivial (fun w _ => (x_move (v := (Value.pointer l22.2)) rfl e16)) ?_
                refine wpD_all (rs := [15]) (by kernel_rfl) (by simp) (allD_cons ?_ allD_nil)
                refine stepD_enterL (L' := [(16, fun _ => True), (12, fun _ => True), (9, fun _ => True), (8, fun _ => True), (7, fun _ => True), (3, fun _ => True), (2, fun _ => True), (1, fun _ => True)]) rfl (wantG rfl rfl rfl hc46) rfl rfl (x_call (vs := [(Value.pointer l22.1)]) rfl rfl (mapl_cons rfl mapl_nil) Try.func18 NN_18 NB_18) (by kernel_rfl) (Calls.mono h ?_)
                rintro _ w26 ⟨r50, rfl, h⟩
                refine ⟨_, rfl, (held_cons trivial (held_cons trivial (held_cons trivial (held_cons trivial (held_cons trivial (held_cons trivial (held_cons trivial (held_cons trivial held_nil)))))))), ?_⟩
                refine wpD_all (rs := [17]) (by kernel_rfl) (by simp) (allD_cons ?_ allD_nil)
                refine stepD_enterL (L' := [(12, fun _ => True), (9, fun _ => True), (8, fun _ => True), (7, fun _ => True), (3, fun _ => True), (2, fun _ => True), (1, fun _ => True)]) rfl (wantG rfl rfl rfl hc46) rfl rfl (x_call (vs := [(Value.pointer l22.2)]) rfl rfl (mapl_cons rfl mapl_nil) Try.func19 NN_19 NB_19) (by kernel_rfl) (Calls.mono h ?_)
                rintro _ w27 ⟨r51, rfl, h⟩
                refine ⟨_, rfl, (held_cons trivial (held_cons trivial (held_cons trivial (held_cons trivial (held_cons trivial (held_cons trivial (held_cons trivial held_nil))))))), ?_⟩
                refine wpD_take (v := (Value.bool (!decide (r50 = r51)))) 18 (fun _ => True) rfl (by kernel_rfl) (by kernel_rfl) (by kernel_rfl) (wantG rfl rfl rfl hc46) rfl rfl trivial (fun w _ => (x_neq rfl rfl rfl)) ?_
                refine wpD_take (v := (Value.bool (!decide (r50 = r51)))) 19 (fun _ => True) rfl (by kernel_rfl) (by kernel_rfl) (by kernel_rfl) rfl rfl rfl trivial (fun w _ => (x_pickF (v := (Value.bool (!decide (r50 = r51)))) rfl rfl hc46 rfl)) ?_
                refine wpD_take (v := (Value.bool (!decide (r50 = r51)))) 20 (fun _ => True) rfl (by kernel_rfl) (by kernel_rfl) (by kernel_rfl) rfl rfl rfl trivial (fun w _ => (x_move (v := (Value.bool (!decide (r50 = r51)))) rfl rfl)) ?_
                rcases Bool.eq_false_or_eq_true (!decide (r50 = r51)) with hc52 | hc52
                · replace h := h.1 hc52
                  refine wpD_pass 21 rfl (by kernel_rfl) (by kernel_rfl) (by kernel_rfl) (wantN rfl rfl rfl hc52) rfl rfl ?_
                  refine wpD_pass 22 rfl (by kernel_rfl) (by kernel_rfl) (by kernel_rfl) (wantN rfl rfl rfl hc52) rfl rfl ?_
                  refine wpD_pass 23 rfl (by kernel_rfl) (by kernel_rfl) (by kernel_rfl) (wantN rfl rfl rfl hc52) rfl rfl ?_
                  refine wpD_take (v := (Value.bool true)) 24 (fun _ => True) rfl (by kernel_rfl) (by kernel_rfl) (by kernel_rfl) rfl rfl rfl trivial (fun w _ => (x_pickT (v := (Value.bool true)) rfl rfl hc52 rfl)) ?_
                  refine wpD_take (v := (Value.bool true)) 25 (fun _ => True) rfl (by kernel_rfl) (by kernel_rfl) (by kernel_rfl) rfl rfl rfl trivial (fun w _ => (x_move (v := (Value.bool true)) rfl rfl)) ?_
                  rcases Bool.eq_false_or_eq_true (true) with hc53 | hc53
                  · replace h := h.1 hc53
                    refine wpD_pass 26 rfl (by kernel_rfl) (by kernel_rfl) (by kernel_rfl) (wantN rfl rfl rfl hc53) rfl rfl ?_
                    refine wpD_pass 27 rfl (by kernel_rfl) (by kernel_rfl) (by kernel_rfl) (wantN rfl rfl rfl hc53) rfl rfl ?_
                    refine wpD_pass 28 rfl (by kernel_rfl) (by kernel_rfl) (by kernel_rfl) (wantN rfl rfl rfl hc53) rfl rfl ?_
                    refine wpD_take (v := (Value.bool true)) 29 (fun _ => True) rfl (by kernel_rfl) (by kernel_rfl) (by kernel_rfl) rfl rfl rfl trivial (fun w _ => (x_pickT (v := (Value.bool true)) rfl rfl hc53 rfl)) ?_
                    exact wpD_done (by kernel_rfl) ⟨true, ⟨rfl, e1, e3, e9, e14, e16, e18, trivial⟩, h⟩
                  · replace h := h.2 hc53
                    refine wpD_take (v := (Value.bool r36.2)) 26 (fun _ => True) rfl (by kernel_rfl) (by kernel_rfl) (by kernel_rfl) (wantG rfl rfl rfl hc53) rfl rfl trivial (fun w _ => (x_move (v := (Value.bool r36.2)) rfl e20)) ?_
                    refine wpD_take (v := (Value.bool r37.2)) 27 (fun _ => True) rfl (by kernel_rfl) (by kernel_rfl) (by kernel_rfl) (wantG rfl rfl rfl hc53) rfl rfl trivial (fun w _ => (x_move (v := (Value.bool r37.2)) rfl e22)) ?_
                    refine wpD_take (v := (Value.bool (!(r36.2 == r37.2)))) 28 (fun _ => True) rfl (by kernel_rfl) (by kernel_rfl) (by kernel_rfl) (wantG rfl rfl rfl hc53) rfl rfl trivial (fun w _ => (x_neqB rfl rfl rfl isBoolT_4)) ?_
                    refine wpD_take (v := (Value.bool (!(r36.2 == r37.2)))) 29 (fun _ => True) rfl (by kernel_rfl) (by kernel_rfl) (by kernel_rfl) rfl rfl rfl trivial (fun w _ => (x_pickF (v := (Value.bool (!(r36.2 == r37.2)))) rfl rfl hc53 rfl)) ?_
                    exact wpD_done (by kernel_rfl) ⟨!(r36.2 == r37.2), ⟨rfl, e1, e3, e9, e14, e16, e18, trivial⟩, h⟩
                · replace h := h.2 hc52
                  refine wpD_take (v := (Value.string r36.1)) 21 (fun _ => True) rfl (by kernel_rfl) (by kernel_rfl) (by kernel_rfl) (wantG rfl rfl rfl hc52) rfl rfl trivial (fun w _ => (x_move (v := (Value.string r36.1)) rfl e19)) ?_
                  refine wpD_take (v := (Value.string r37.1)) 22 (fun _ => True) rfl (by kernel_rfl) (by kernel_rfl) (by kernel_rfl) (wantG rfl rfl rfl hc52) rfl rfl trivial (fun w _ => (x_move (v := (Value.string r37.1)) rfl e21)) ?_
                  refine wpD_take (v := (Value.bool (!beqS r36.1 r37.1))) 23 (fun _ => True) rfl (by kernel_rfl) (by kernel_rfl) (by kernel_rfl) (wantG rfl rfl rfl hc52) rfl rfl trivial (fun w _ => (x_neqS rfl rfl rfl)) ?_
                  refine wpD_take (v := (Value.bool (!beqS r36.1 r37.1))) 24 (fun _ => True) rfl (by kernel_rfl) (by kernel_rfl) (by kernel_rfl) rfl rfl rfl trivial (fun w _ => (x_pickF (v := (Value.bool (!beqS r36.1 r37.1))) rfl rfl hc52 rfl)) ?_
                  refine wpD_take (v := (Value.bool (!beqS r36.1 r37.1))) 25 (fun _ => True) rfl (by kernel_rfl) (by kernel_rfl) (by kernel_rfl) rfl rfl rfl trivial (fun w _ => (x_move (v := (Value.bool (!beqS r36.1 r37.1))) rfl rfl)) ?_
                  rcases Bool.eq_false_or_eq_true (!beqS r36.1 r37.1) with hc54 | hc54
                  · replace h := h.1 hc54
                    refine wpD_pass 26 rfl (by kernel_rfl) (by kernel_rfl) (by kernel_rfl) (wantN rfl rfl rfl hc54) rfl rfl ?_
                    refine wpD_pass 27 rfl (by kernel_rfl) (by kernel_rfl) (by kernel_rfl) (wantN rfl rfl rfl hc54) rfl rfl ?_
                    refine wpD_pass 28 rfl (by kernel_rfl) (by kernel_rfl) (by kernel_rfl) (wantN rfl rfl rfl hc54) rfl rfl ?_
                    refine wpD_take (v := (Value.bool true)) 29 (fun _ => True) rfl (by kernel_rfl) (by kernel_rfl) (by kernel_rfl) rfl rfl rfl trivial (fun w _ => (x_pickT (v := (Value.bool true)) rfl rfl hc54 rfl)) ?_
                    exact wpD_done (by kernel_rfl) ⟨true, ⟨rfl, e1, e3, e9, e14, e16, e18, trivial⟩, h⟩
                  · replace h := h.2 hc54
                    refine wpD_take (v := (Value.bool r36.2)) 26 (fun _ => True) rfl (by kernel_rfl) (by kernel_rfl) (by kernel_rfl) (wantG rfl rfl rfl hc54) rfl rfl trivial (fun w _ => (x_move (v := (Value.bool r36.2)) rfl e20)) ?_
                    refine wpD_take (v := (Value.bool r37.2)) 27 (fun _ => True) rfl (by kernel_rfl) (by kernel_rfl) (by kernel_rfl) (wantG rfl rfl rfl hc54) rfl rfl trivial (fun w _ => (x_move (v := (Value.bool r37.2)) rfl e22)) ?_
                    refine wpD_take (v := (Value.bool (!(r36.2 == r37.2)))) 28 (fun _ => True) rfl (by kernel_rfl) (by kernel_rfl) (by kernel_rfl) (wantG rfl rfl rfl hc54) rfl rfl trivial (fun w _ => (x_neqB rfl rfl rfl isBoolT_4)) ?_
                    refine wpD_take (v := (Value.bool (!(r36.2 == r37.2)))) 29 (fun _ => True) rfl (by kernel_rfl) (by kernel_rfl) (by kernel_rfl) rfl rfl rfl trivial (fun w _ => (x_pickF (v := (Value.bool (!(r36.2 == r37.2)))) rfl rfl hc54 rfl)) ?_
                    exact wpD_done (by kernel_rfl) ⟨!(r36.2 == r37.2), ⟨rfl, e1, e3, e9, e14, e16, e18, trivial⟩, h⟩
            clear h
            rintro l55 ρ w28 ⟨e142, e1, e3, e9, e14, e16, e18, -⟩ h
            replace h := hk l55 w28 h
            clear hk
            refine wpC_cond (b := l55) e142 (fun hc56 => ?_) (fun hc56 => ?_)
            · replace h := h.1 hc56
              refine wpC_seq ?_
              refine wpC_region ?_
              refine wpR_val (v := (Value.bool false)) (w' := w28) rfl rfl rfl (x_assign (v := (Value.bool false)) rfl rfl) ?_
              refine wpR_nil ?_
              refine wpC_ret ?_
              exact ⟨.inl rfl, fun a ha => ⟨_, results_rep1 rfl ha rfl, false, rfl, h⟩⟩
            · replace h := h.2 hc56
              refine wpC_skip ?_
              refine wpC_region ?_
              refine wpR_val (v := (Value.int .i64 l34)) (w' := w28) rfl rfl rfl (x_move (v := (Value.int .i64 l34)) rfl e18) ?_
              refine wpR_val (v := (Value.int .i64 (IntKind.i64.wrap (l34 + 1)))) (w' := w28) rfl rfl rfl (x_add rfl rfl rfl) ?_
              refine wpR_val (v := (Value.int .i64 (IntKind.i64.wrap (l34 + 1)))) (w' := w28) rfl rfl rfl (x_assign (v := (Value.int .i64 (IntKind.i64.wrap (l34 + 1)))) rfl rfl) ?_
              refine wpR_nil ?_
              exact ⟨IntKind.i64.wrap (l34 + 1), ⟨rfl, e1, e3, e9, e14, e16, trivial⟩, h⟩
          · replace h := h.2 hc35
            refine wpC_exit ?_
            refine wpC_seq ?_
            refine wpC_cut (fun ρ => ρ 3 = (Value.int .i64 p3) ∧ ρ 9 = (Value.bool r1) ∧ ρ 14 = (Value.pointer l22.1) ∧ ρ 16 = (Value.pointer l22.2) ∧ True) ⟨e3, e9, e14, e16, trivial⟩ ?_
            rintro ρ ⟨e3, e9, e14, e16, -⟩
            refine wpC_region ?_
            refine wpR_val (v := (Value.pointer l22.1)) (w' := w20) rfl rfl rfl (x_move (v := (Value.pointer l22.1)) rfl e14) ?_
            refine wpR_val (v := (Value.int .i64 p3)) (w' := w20) rfl rfl rfl (x_move (v := (Value.int .i64 p3)) rfl e3) ?_
            refine wpR_enter rfl rfl rfl (x_call (vs := [(Value.pointer l22.1), (Value.int .i64 p3)]) rfl rfl (mapl_cons rfl (mapl_cons rfl mapl_nil)) Try.func16 NN_16 NB_16) (Calls.mono h ?_)
            rintro _ w29 ⟨r57, rfl, h⟩
            refine ⟨_, rfl, ?_⟩
            refine wpR_val (v := (Value.tuple #[(Value.string r57.1), (Value.bool r57.2)])) (w' := w29) rfl rfl rfl (x_move (v := (Value.tuple #[(Value.string r57.1), (Value.bool r57.2)])) rfl rfl) ?_
            refine wpR_val (v := (Value.string r57.1)) (w' := w29) rfl rfl rfl (x_extract rfl rfl rfl) ?_
            refine wpR_val (v := (Value.bool r57.2)) (w' := w29) rfl rfl rfl (x_extract rfl rfl rfl) ?_
            refine wpR_val (v := (Value.string r57.1)) (w' := w29) rfl rfl rfl (x_assign (v := (Value.string r57.1)) rfl rfl) ?_
            refine wpR_val (v := (Value.bool r57.2)) (w' := w29) rfl rfl rfl (x_assign (v := (Value.bool r57.2)) rfl rfl) ?_
            refine wpR_nil ?_
            refine wpC_seq ?_
            refine wpC_cut (fun ρ => ρ 3 = (Value.int .i64 p3) ∧ ρ 9 = (Value.bool r1) ∧ ρ 14 = (Value.pointer l22.1) ∧ ρ 16 = (Value.pointer l22.2) ∧ ρ 23 = (Value.string r57.1) ∧ ρ 24 = (Value.bool r57.2) ∧ True) ⟨e3, e9, e14, e16, rfl, rfl, trivial⟩ ?_
            rintro ρ ⟨e3, e9, e14, e16, e23, e24, -⟩
            refine wpC_region ?_
            refine wpR_val (v := (Value.pointer l22.2)) (w' := w29) rfl rfl rfl (x_move (v := (Value.pointer l22.2)) rfl e16) ?_
            refine wpR_val (v := (Value.int .i64 p3)) (w' := w29) rfl rfl rfl (x_move (v := (Value.int .i64 p3)) rfl e3) ?_
            refine wpR_enter rfl rfl rfl (x_call (vs := [(Value.pointer l22.2), (Value.int .i64 p3)]) rfl rfl (mapl_cons rfl (mapl_cons rfl mapl_nil)) Try.func17 NN_17 NB_17) (Calls.mono h ?_)
            rintro _ w30 ⟨r58, rfl, h⟩
            refine ⟨_, rfl, ?_⟩
            refine wpR_val (v := (Value.tuple #[(Value.string r58.1), (Value.bool r58.2)])) (w' := w30) rfl rfl rfl (x_move (v := (Value.tuple #[(Value.string r58.1), (Value.bool r58.2)])) rfl rfl) ?_
            refine wpR_val (v := (Value.string r58.1)) (w' := w30) rfl rfl rfl (x_extract rfl rfl rfl) ?_
            refine wpR_val (v := (Value.bool r58.2)) (w' := w30) rfl rfl rfl (x_extract rfl rfl rfl) ?_
            refine wpR_val (v := (Value.string r58.1)) (w' := w30) rfl rfl rfl (x_assign (v := (Value.string r58.1)) rfl rfl) ?_
            refine wpR_val (v := (Value.bool r58.2)) (w' := w30) rfl rfl rfl (x_assign (v := (Value.bool r58.2)) rfl rfl) ?_
            refine wpR_nil ?_
            refine wpC_seq ?_
            refine wpC_cut (fun ρ => ρ 9 = (Value.bool r1) ∧ ρ 14 = (Value.pointer l22.1) ∧ ρ 16 = (Value.pointer l22.2) ∧ ρ 23 = (Value.string r57.1) ∧ ρ 24 = (Value.bool r57.2) ∧ ρ 25 = (Value.string r58.1) ∧ ρ 26 = (Value.bool r58.2) ∧ True) ⟨e9, e14, e16, e23, e24, rfl, rfl, trivial⟩ ?_
            rintro ρ ⟨e9, e14, e16, e23, e24, e25, e26, -⟩
            refine wpC_region ?_
            refine wpR_val (v := (Value.bool r1)) (w' := w30) rfl rfl rfl (x_move (v := (Value.bool r1)) rfl e9) ?_
            refine wpR_val (v := (Value.bool r1)) (w' := w30) rfl rfl rfl (x_move (v := (Value.bool r1)) rfl rfl) ?_
            refine wpR_joinJ 4 (fun (_ : Unit) ρ => ρ 160 = Value.bool (r1 && (beqS r57.1 r58.1)) ∧ ρ 14 = (Value.pointer l22.1) ∧ ρ 16 = (Value.pointer l22.2) ∧ ρ 24 = (Value.bool r57.2) ∧ ρ 26 = (Value.bool r58.2) ∧ True) (fun _ w => w30 = w) ?_ ?_
            · clear h
              rcases Bool.eq_false_or_eq_true (r1) with hc60 | hc60
              · skip
                refine wpR_val (v := (Value.string r57.1)) (w' := w30) (wantG rfl rfl rfl hc60) rfl rfl (x_move (v := (Value.string r57.1)) rfl e23) ?_
                refine wpR_val (v := (Value.string r58.1)) (w' := w30) (wantG rfl rfl rfl hc60) rfl rfl (x_move (v := (Value.string r58.1)) rfl e25) ?_
                refine wpR_val (v := (Value.bool (beqS r57.1 r58.1))) (w' := w30) (wantG rfl rfl rfl hc60) rfl rfl (x_eqlS rfl rfl rfl) ?_
                refine wpR_val (v := (Value.bool (beqS r57.1 r58.1))) (w' := w30) rfl rfl rfl (x_pickT (v := (Value.bool (beqS r57.1 r58.1))) rfl rfl hc60 rfl) ?_
                refine wpR_nil ?_
                exact ⟨(), ⟨(by rw [hc60]; rfl), e14, e16, e24, e26, trivial⟩, rfl⟩
              · skip
                refine wpR_pass (wantN rfl rfl rfl hc60) rfl rfl ?_
                refine wpR_pass (wantN rfl rfl rfl hc60) rfl rfl ?_
                refine wpR_pass (wantN rfl rfl rfl hc60) rfl rfl ?_
                refine wpR_val (v := (Value.bool false)) (w' := w30) rfl rfl rfl (x_pickF (v := (Value.bool false)) rfl rfl hc60 rfl) ?_
                refine wpR_nil ?_
                exact ⟨(), ⟨(by rw [hc60]; rfl), e14, e16, e24, e26, trivial⟩, rfl⟩
            rintro _ ρ wj ⟨e160, e14, e16, e24, e26, -⟩ rfl
            refine wpR_val (v := (Value.bool (r1 && (beqS r57.1 r58.1)))) (w' := w30) rfl rfl rfl (x_move (v := (Value.bool (r1 && (beqS r57.1 r58.1)))) rfl e160) ?_
            refine wpR_joinJ 4 (fun (_ : Unit) ρ => ρ 165 = Value.bool ((r1 && (beqS r57.1 r58.1)) && (r57.2 == r58.2)) ∧ ρ 14 = (Value.pointer l22.1) ∧ ρ 16 = (Value.pointer l22.2) ∧ True) (fun _ w => w30 = w) ?_ ?_
            · clear h
              rcases Bool.eq_false_or_eq_true (r1 && (beqS r57.1 r58.1)) with hc62 | hc62
              · skip
                refine wpR_val (v := (Value.bool r57.2)) (w' := w30) (wantG rfl rfl rfl hc62) rfl rfl (x_move (v := (Value.bool r57.2)) rfl e24) ?_
                refine wpR_val (v := (Value.bool r58.2)) (w' := w30) (wantG rfl rfl rfl hc62) rfl rfl (x_move (v := (Value.bool r58.2)) rfl e26) ?_
                refine wpR_val (v := (Value.bool (r57.2 == r58.2))) (w' := w30) (wantG rfl rfl rfl hc62) rfl rfl (x_eqlB rfl rfl rfl isBoolT_4) ?_
                refine wpR_val (v := (Value.bool (r57.2 == r58.2))) (w' := w30) rfl rfl rfl (x_pickT (v := (Value.bool (r57.2 == r58.2))) rfl rfl hc62 rfl) ?_
                refine wpR_nil ?_
                exact ⟨(), ⟨(by rw [hc62]; rfl), e14, e16, trivial⟩, rfl⟩
              · skip
                refine wpR_pass (wantN rfl rfl rfl hc62) rfl rfl ?_
                refine wpR_pass (wantN rfl rfl rfl hc62) rfl rfl ?_
                refine wpR_pass (wantN rfl rfl rfl hc62) rfl rfl ?_
                refine wpR_val (v := (Value.bool false)) (w' := w30) rfl rfl rfl (x_pickF (v := (Value.bool false)) rfl rfl hc62 rfl) ?_
                refine wpR_nil ?_
                exact ⟨(), ⟨(by rw [hc62]; rfl), e14, e16, trivial⟩, rfl⟩
            rintro _ ρ wj ⟨e165, e14, e16, -⟩ rfl
            refine wpR_val (v := (Value.bool ((r1 && (beqS r57.1 r58.1)) && (r57.2 == r58.2)))) (w' := w30) rfl rfl rfl (x_move (v := (Value.bool ((r1 && (beqS r57.1 r58.1)) && (r57.2 == r58.2)))) rfl e165) ?_
            obtain ⟨J63, h, hk⟩ := h
            refine wpR_joinJ 6 (fun x ρ => ρ 172 = Value.bool x ∧ True) (J63) ?_ ?_
            · clear hk
              rcases Bool.eq_false_or_eq_true ((r1 && (beqS r57.1 r58.1)) && (r57.2 == r58.2)) with hc64 | hc64
              · replace h := h.1 hc64
                refine wpR_val (v := (Value.pointer l22.1)) (w' := w30) (wantG rfl rfl rfl hc64) rfl rfl (x_move (v := (Value.pointer l22.1)) rfl e14) ?_
                refine wpR_enter (wantG rfl rfl rfl hc64) rfl rfl (x_call (vs := [(Value.pointer l22.1)]) rfl rfl (mapl_cons rfl mapl_nil) Try.func21 NN_21 NB_21) (Calls.mono h ?_)
                rintro _ w31 ⟨r65, rfl, h⟩
                refine ⟨_, rfl, ?_⟩
                refine wpR_val (v := (Value.pointer l22.2)) (w' := w31) (wantG rfl rfl rfl hc64) rfl rfl (x_move (v := (Value.pointer l22.2)) rfl e16) ?_
                refine wpR_enter (wantG rfl rfl rfl hc64) rfl rfl (x_call (vs := [(Value.pointer l22.2)]) rfl rfl (mapl_cons rfl mapl_nil) Try.func22 NN_22 NB_22) (Calls.mono h ?_)
                rintro _ w32 ⟨r66, rfl, h⟩
                refine ⟨_, rfl, ?_⟩
                refine wpR_enter (wantG rfl rfl rfl hc64) rfl rfl (x_call (vs := [(Sl.v r65), (Sl.v r66)]) rfl rfl (mapl_cons rfl (mapl_cons rfl mapl_nil)) Try.func20 NN_20 NB_20) (Calls.mono h ?_)
                rintro _ w33 ⟨r67, rfl, h⟩
                refine ⟨_, rfl, ?_⟩
                refine wpR_val (v := (Value.bool r67)) (w' := w33) rfl rfl rfl (x_pickT (v := (Value.bool r67)) rfl rfl hc64 rfl) ?_
                refine wpR_nil ?_
                exact ⟨r67, ⟨rfl, trivial⟩, h⟩
              · replace h := h.2 hc64
                refine wpR_pass (wantN rfl rfl rfl hc64) rfl rfl ?_
                refine wpR_pass (wantN rfl rfl rfl hc64) rfl rfl ?_
                refine wpR_pass (wantN rfl rfl rfl hc64) rfl rfl ?_
                refine wpR_pass (wantN rfl rfl rfl hc64) rfl rfl ?_
                refine wpR_pass (wantN rfl rfl rfl hc64) rfl rfl ?_
                refine wpR_val (v := (Value.bool false)) (w' := w30) rfl rfl rfl (x_pickF (v := (Value.bool false)) rfl rfl hc64 rfl) ?_
                refine wpR_nil ?_
                exact ⟨false, ⟨rfl, trivial⟩, h⟩
            clear h
            rintro c68 ρ w34 ⟨e172, -⟩ h
            replace h := hk c68 w34 h
            clear hk
            refine wpR_val (v := (Value.bool c68)) (w' := w34) rfl rfl rfl (x_assign (v := (Value.bool c68)) rfl e172) ?_
            refine wpR_nil ?_
            refine wpC_ret ?_
            exact ⟨.inl rfl, fun a ha => ⟨_, results_rep1 rfl ha rfl, c68, rfl, h⟩⟩

/-- lingualaw04.NamesIdeal -/
def F4 (p0 : Sl) (w0 : World) (K : Bool → World → Prop) : Prop :=
  callC Try.prog 7 #[] (fun (r : Bool) => (Value.bool r)) w0 fun r1 w1 =>
  callC Try.prog 12 #[] (fun (r : (Option Addr)) => (Value.pointer r)) w1 fun r2 w2 =>
  callC Try.prog 8 #[(Sl.v p0), (Value.int .i64 30)] (fun (r : Bool) => (Value.bool r)) w2 fun r3 w3 =>
  cnd (!r3)
    (
    K r1 w3
    )
    (
    cnd (r2.isNone)
      (
      K false w3
      )
      (
      lp (fun (next6 : (Sl × Int) → World → Prop) l6 w4 =>
        cnd (decide (l6.2 < (p0.len : Int)))
          (
          callC Try.prog 18 #[(Value.pointer r2)] (fun (r : Int) => (Value.int .i64 r)) w4 fun r8 w5 =>
          ix p0 l6.2 1 fun p9 =>
          ld Value.string p9 w5 fun x10 =>
          callC Try.prog 14 #[(Value.pointer r2), (Value.string x10)] (fun (r : Int) => (Value.int .i64 r)) w5 fun r11 w6 =>
          jn (fun J14 => cnd ((decide (r11 < 0)) || (decide (r8 < r11)))
            (
            J14 true w6
            )
            (
            jn (fun J16 => cnd (decide (r11 = r8))
              (
              callC Try.prog 18 #[(Value.pointer r2)] (fun (r : Int) => (Value.int .i64 r)) w6 fun r18 w7 =>
              J16 (!decide (r18 = (IntKind.i64.wrap (r8 + 1)))) w7
              )
              (
              J16 false w6
              ))
            fun c19 w8 =>
            J14 c19 w8
            ))
          fun c20 w9 =>
          jn (fun J21 => cnd (c20)
            (
            J21 true w9
            )
            (
            jn (fun J23 => cnd (decide (r11 < r8))
              (
              callC Try.prog 18 #[(Value.pointer r2)] (fun (r : Int) => (Value.int .i64 r)) w9 fun r25 w10 =>
              J23 (!decide (r25 = r8)) w10
              )
              (
              J23 false w9
              ))
            fun c26 w11 =>
            J21 c26 w11
            ))
          fun c27 w12 =>
          cnd (c27)
            (
            K false w12
            )
            (
            nw 3 #[(Value.int .i64 r11)] w12 fun b29 w13 =>
            rn Try.prog (Builtin.append_ #[42, 42] 42 #[Sl.v l6.1, Sl.v (⟨some ⟨b29, 0, none⟩, 1, 1⟩ : Sl)]) Sl.v w13 fun r30 w14 =>
            lp (fun (next31 : Int → World → Prop) l31 w15 =>
              cnd (decide (l31 ≤ l6.2))
                (
                ix r30 l31 1 fun p33 =>
                ld (Value.int .i64) p33 w15 fun x34 =>
                callC Try.prog 16 #[(Value.pointer r2), (Value.int .i64 x34)] (fun (r : ByteArray × Bool) => (Value.tuple #[(Value.string r.1), (Value.bool r.2)])) w15 fun r35 w16 =>
                jn (fun (J37 : Bool → World → Prop) => tk w16 fun w17 =>
                  cnd (!r35.2)
                    (
                    cnd (true)
                      (
                      J37 true w17
                      )
                      (
                      ix r30 l31 1 fun p40 =>
                      ld (Value.int .i64) p40 w17 fun x41 =>
                      ix p0 l31 1 fun p42 =>
                      ld Value.string p42 w17 fun x43 =>
                      ix p0 l6.2 1 fun p44 =>
                      ld Value.string p44 w17 fun x45 =>
                      J37 (!((decide (x41 = r11)) == (beqS x43 x45))) w17
                      )
                    )
                    (
                    ix p0 l31 1 fun p46 =>
                    ld Value.string p46 w17 fun x47 =>
                    cnd (!beqS r35.1 x47)
                      (
                      J37 true w17
                      )
                      (
                      ix r30 l31 1 fun p49 =>
                      ld (Value.int .i64) p49 w17 fun x50 =>
                      ix p0 l31 1 fun p51 =>
                      ld Value.string p51 w17 fun x52 =>
                      ix p0 l6.2 1 fun p53 =>
                      ld Value.string p53 w17 fun x54 =>
                      J37 (!((decide (x50 = r11)) == (beqS x52 x54))) w17
                      )
                    )
                )
                fun l55 w18 =>
                cnd (l55)
                  (
                  K false w18
                  )
                  (
                  next31 (IntKind.i64.wrap (l31 + 1)) w18
                  )
                )
                (
                next6 (r30, IntKind.i64.wrap (l6.2 + 1)) w15
                )
            ) 0 w14
            )
          )
          (
          callC Try.prog 21 #[(Value.pointer r2)] (fun (r : Sl) => (Sl.v r)) w4 fun r57 w19 =>
          callC Try.prog 18 #[(Value.pointer r2)] (fun (r : Int) => (Value.int .i64 r)) w19 fun r58 w20 =>
          cnd (!decide ((r57.len : Int) = r58))
            (
            K false w20
            )
            (
            lp (fun (next60 : Int → World → Prop) l60 w21 =>
              cnd (decide (l60 < (p0.len : Int)))
                (
                jn (fun (J63 : Bool → World → Prop) => tk w21 fun w22 =>
                  ix l6.1 l60 1 fun p64 =>
                  ld (Value.int .i64) p64 w22 fun x65 =>
                  ix r57 x65 1 fun p66 =>
                  ld Value.string p66 w22 fun x67 =>
                  ix p0 l60 1 fun p68 =>
                  ld Value.string p68 w22 fun x69 =>
                  cnd (!beqS x67 x69)
                    (
                    J63 true w22
                    )
                    (
                    ix p0 l60 1 fun p71 =>
                    ld Value.string p71 w22 fun x72 =>
                    ix l6.1 l60 1 fun p73 =>
                    ld (Value.int .i64) p73 w22 fun x74 =>
                    callC Try.prog 14 #[(Value.pointer r2), (Value.string x72)] (fun (r : Int) => (Value.int .i64 r)) w22 fun r75 w23 =>
                    (w23.cell? p73 = some (Value.int .i64 x74)) ∧
                    (w23.cell? p68 = some (Value.string x69)) ∧
                    (w23.cell? p66 = some (Value.string x67)) ∧
                    (w23.cell? p64 = some (Value.int .i64 x65)) ∧
                    J63 (!decide (r75 = x74)) w23
                    )
                )
                fun l76 w24 =>
                cnd (l76)
                  (
                  K false w24
                  )
                  (
                  next60 (IntKind.i64.wrap (l60 + 1)) w24
                  )
                )
                (
                K r1 w21
                )
            ) 0 w20
            )
          )
      ) (Sl.nil, 0) w3
      )
    )
set_option maxRecDepth 100000 in
theorem D4 (p0 : Sl) (w0 : World) (K : Bool → World → Prop) (h : F4 p0 w0 K) : callC Try.prog 4 #[(Sl.v p0)] (fun (r : Bool) => (Value.bool r)) w0 K := by
  unfold F4 at h
  refine calls_of_wpC Try.func4 rfl 151 rfl (by simp) ?_
  intro ρ hρ
  have e0 : ρ 0 = (Sl.v p0) := hρ 0
  clear hρ
  refine wpC_seq ?_
  refine wpC_region ?_
  refine wpR_val (v := (Value.bool false)) (w' := w0) rfl rfl rfl (x_assign (v := (Value.bool false)) rfl rfl) ?_
  refine wpR_nil ?_
  refine wpC_seq ?_
  refine wpC_cut (fun ρ => ρ 0 = (Sl.v p0) ∧ True) ⟨e0, trivial⟩ ?_
  rintro ρ ⟨e0, -⟩
  refine wpC_region ?_
  refine wpR_enter rfl rfl rfl (x_call (vs := []) rfl rfl mapl_nil Try.func7 NN_7 NB_7) (Calls.mono h ?_)
  rintro _ w1 ⟨r1, rfl, h⟩
  refine ⟨_, rfl, ?_⟩
  refine wpR_val (v := (Value.bool r1)) (w' := w1) rfl rfl rfl (x_assign (v := (Value.bool r1)) rfl rfl) ?_
  refine wpR_nil ?_
  refine wpC_seq ?_
  refine wpC_cut (fun ρ => ρ 0 = (Sl.v p0) ∧ ρ 3 = (Value.bool r1) ∧ True) ⟨e0, rfl, trivial⟩ ?_
  rintro ρ ⟨e0, e3, -⟩
  refine wpC_region ?_
  refine wpR_enter rfl rfl rfl (x_call (vs := []) rfl rfl mapl_nil Try.func12 NN_12 NB_12) (Calls.mono h ?_)
  rintro _ w2 ⟨r2, rfl, h⟩
  refine ⟨_, rfl, ?_⟩
  refine wpR_val (v := (Value.pointer r2)) (w' := w2) rfl rfl rfl (x_assign (v := (Value.pointer r2)) rfl rfl) ?_
  refine wpR_nil ?_
  refine wpC_seq ?_
  refine wpC_seq ?_
  refine wpC_cut (fun ρ => ρ 0 = (Sl.v p0) ∧ ρ 3 = (Value.bool r1) ∧ ρ 4 = (Value.pointer r2) ∧ True) ⟨e0, e3, rfl, trivial⟩ ?_
  rintro ρ ⟨e0, e3, e4, -⟩
  refine wpC_region ?_
  refine wpR_val (v := (Sl.v p0)) (w' := w2) rfl rfl rfl (x_move (v := (Sl.v p0)) rfl e0) ?_
  refine wpR_enter rfl rfl rfl (x_call (vs := [(Sl.v p0), (Value.int .i64 30)]) rfl rfl (mapl_cons rfl (mapl_cons rfl mapl_nil)) Try.func8 NN_8 NB_8) (Calls.mono h ?_)
  rintro _ w3 ⟨r3, rfl, h⟩
  refine ⟨_, rfl, ?_⟩
  refine wpR_val (v := (Value.bool (!r3))) (w' := w3) rfl rfl rfl (x_not rfl rfl) ?_
  refine wpR_nil ?_
  refine wpC_cond (b := !r3) rfl (fun hc4 => ?_) (fun hc4 => ?_)
  · replace h := h.1 hc4
    refine wpC_seq ?_
    refine wpC_cut (fun ρ => ρ 3 = (Value.bool r1) ∧ True) ⟨e3, trivial⟩ ?_
    rintro ρ ⟨e3, -⟩
    refine wpC_region ?_
    refine wpR_val (v := (Value.bool r1)) (w' := w3) rfl rfl rfl (x_move (v := (Value.bool r1)) rfl e3) ?_
    refine wpR_val (v := (Value.bool r1)) (w' := w3) rfl rfl rfl (x_assign (v := (Value.bool r1)) rfl rfl) ?_
    refine wpR_nil ?_
    refine wpC_ret ?_
    exact ⟨.inl rfl, fun a ha => ⟨_, results_rep1 rfl ha rfl, r1, rfl, h⟩⟩
  · replace h := h.2 hc4
    refine wpC_skip ?_
    refine wpC_seq ?_
    refine wpC_seq ?_
    refine wpC_cut (fun ρ => ρ 0 = (Sl.v p0) ∧ ρ 3 = (Value.bool r1) ∧ ρ 4 = (Value.pointer r2) ∧ True) ⟨e0, e3, e4, trivial⟩ ?_
    rintro ρ ⟨e0, e3, e4, -⟩
    refine wpC_region ?_
    refine wpR_val (v := (Value.pointer r2)) (w' := w3) rfl rfl rfl (x_move (v := (Value.pointer r2)) rfl e4) ?_
    refine wpR_val (v := (Value.bool r2.isNone)) (w' := w3) rfl rfl rfl (x_eqlNil rfl rfl rfl isPtrT_25) ?_
    refine wpR_nil ?_
    refine wpC_cond (b := r2.isNone) rfl (fun hc5 => ?_) (fun hc5 => ?_)
    · replace h := h.1 hc5
      refine wpC_seq ?_
      refine wpC_cut (fun ρ => True) trivial ?_
      rintro ρ -
      refine wpC_region ?_
      refine wpR_val (v := (Value.bool false)) (w' := w3) rfl rfl rfl (x_assign (v := (Value.bool false)) rfl rfl) ?_
      refine wpR_nil ?_
      refine wpC_ret ?_
      exact ⟨.inl rfl, fun a ha => ⟨_, results_rep1 rfl ha rfl, false, rfl, h⟩⟩
    · replace h := h.2 hc5
      refine wpC_skip ?_
      refine wpC_seq ?_
      refine wpC_cut (fun ρ => ρ 0 = (Sl.v p0) ∧ ρ 3 = (Value.bool r1) ∧ ρ 4 = (Value.pointer r2) ∧ True) ⟨e0, e3, e4, trivial⟩ ?_
      rintro ρ ⟨e0, e3, e4, -⟩
      refine wpC_region ?_
      refine wpR_val (v := (Sl.v Sl.nil)) (w' := w3) rfl rfl rfl (x_assign (v := (Sl.v Sl.nil)) rfl rfl) ?_
      refine wpR_nil ?_
      refine wpC_seq ?_
      refine wpC_seq ?_
      refine wpC_cut (fun ρ => ρ 0 = (Sl.v p0) ∧ ρ 3 = (Value.bool r1) ∧ ρ 4 = (Value.pointer r2) ∧ ρ 5 = (Sl.v Sl.nil) ∧ True) ⟨e0, e3, e4, rfl, trivial⟩ ?_
      rintro ρ ⟨e0, e3, e4, e5, -⟩
      refine wpC_region ?_
      refine wpR_val (v := (Value.int .i64 0)) (w' := w3) rfl rfl rfl (x_assign (v := (Value.int .i64 0)) rfl rfl) ?_
      refine wpR_nil ?_
      refine wpC_block ?_
      obtain ⟨I6, μ6, hI6, hr6⟩ := h
      refine wpC_loop (fun (x : Sl × Int) ρ => ρ 5 = (Sl.v x.1) ∧ ρ 6 = (Value.int .i64 x.2) ∧ ρ 0 = (Sl.v p0) ∧ ρ 3 = (Value.bool r1) ∧ ρ 4 = (Value.pointer r2) ∧ True) I6 μ6 (Sl.nil, 0) ⟨e5, rfl, e0, e3, e4, trivial⟩ hI6 ?_
      rintro l6 ρ w4 ⟨e5, e6, e0, e3, e4, -⟩ h
      replace h := hr6 l6 w4 h
      clear hr6 hI6
      refine wpC_seq ?_
      refine wpC_seq ?_
      refine wpC_region ?_
      refine wpR_val (v := (Value.int .i64 l6.2)) (w' := w4) rfl rfl rfl (x_move (v := (Value.int .i64 l6.2)) rfl e6) ?_
      refine wpR_val (v := (Sl.v p0)) (w' := w4) rfl rfl rfl (x_move (v := (Sl.v p0)) rfl e0) ?_
      refine wpR_val (v := (Value.int .i64 (p0.len : Int))) (w' := w4) rfl rfl rfl (x_lenS (s := p0) rfl rfl isSliceT_22) ?_
      refine wpR_val (v := (Value.bool (decide (l6.2 < (p0.len : Int))))) (w' := w4) rfl rfl rfl (x_lss rfl rfl rfl) ?_
      refine wpR_nil ?_
      refine wpC_cond (b := decide (l6.2 < (p0.len : Int))) rfl (fun hc7 => ?_) (fun hc7 => ?_)
      · replace h := h.1 hc7
        refine wpC_skip ?_
        refine wpC_seq ?_
        refine wpC_block ?_
        refine wpC_seq ?_
        refine wpC_cut (fun ρ => ρ 0 = (Sl.v p0) ∧ ρ 3 = (Value.bool r1) ∧ ρ 4 = (Value.pointer r2) ∧ ρ 5 = (Sl.v l6.1) ∧ ρ 6 = (Value.int .i64 l6.2) ∧ True) ⟨e0, e3, e4, e5, e6, trivial⟩ ?_
        rintro ρ ⟨e0, e3, e4, e5, e6, -⟩
        refine wpC_region ?_
        refine wpR_val (v := (Value.pointer r2)) (w' := w4) rfl rfl rfl (x_move (v := (Value.pointer r2)) rfl e4) ?_
        refine wpR_enter rfl rfl rfl (x_call (vs := [(Value.pointer r2)]) rfl rfl (mapl_cons rfl mapl_nil) Try.func18 NN_18 NB_18) (Calls.mono h ?_)
        rintro _ w5 ⟨r8, rfl, h⟩
        refine ⟨_, rfl, ?_⟩
        refine wpR_val (v := (Value.int .i64 r8)) (w' := w5) rfl rfl rfl (x_assign (v := (Value.int .i64 r8)) rfl rfl) ?_
        refine wpR_nil ?_
        refine wpC_seq ?_
        refine wpC_cut (fun ρ => ρ 0 = (Sl.v p0) ∧ ρ 3 = (Value.bool r1) ∧ ρ 4 = (Value.pointer r2) ∧ ρ 5 = (Sl.v l6.1) ∧ ρ 6 = (Value.int .i64 l6.2) ∧ ρ 7 = (Value.int .i64 r8) ∧ True) ⟨e0, e3, e4, e5, e6, rfl, trivial⟩ ?_
        rintro ρ ⟨e0, e3, e4, e5, e6, e7, -⟩
        refine wpC_region ?_
        refine wpR_val (v := (Value.pointer r2)) (w' := w5) rfl rfl rfl (x_move (v := (Value.pointer r2)) rfl e4) ?_
        refine wpR_val (v := (Sl.v p0)) (w' := w5) rfl rfl rfl (x_move (v := (Sl.v p0)) rfl e0) ?_
        refine wpR_val (v := (Value.int .i64 l6.2)) (w' := w5) rfl rfl rfl (x_move (v := (Value.int .i64 l6.2)) rfl e6) ?_
        obtain ⟨q9, z9, r9, h⟩ := h
        generalize hp9 : z9.add ((l6.2 : Int).toNat * 1) = p9 at h
        refine wpR_val (v := (Value.pointer (some p9))) (w' := w5) rfl rfl rfl ((x_indexAddr (s := p0) rfl rfl rfl ES_22 q9 r9).trans (by rw [hp9])) ?_
        obtain ⟨x10, q10, h⟩ := h
        refine wpR_val (v := (Value.string x10)) (w' := w5) rfl rfl rfl (x_load1 rfl rfl SH_9 q10) ?_
        refine wpR_enter rfl rfl rfl (x_call (vs := [(Value.pointer r2), (Value.string x10)]) rfl rfl (mapl_cons rfl (mapl_cons rfl mapl_nil)) Try.func14 NN_14 NB_14) (Calls.mono h ?_)
        rintro _ w6 ⟨r11, rfl, h⟩
        refine ⟨_, rfl, ?_⟩
        refine wpR_val (v := (Value.int .i64 r11)) (w' := w6) rfl rfl rfl (x_assign (v := (Value.int .i64 r11)) rfl rfl) ?_
        refine wpR_nil ?_
        refine wpC_seq ?_
        refine wpC_seq ?_
        refine wpC_cut (fun ρ => ρ 0 = (Sl.v p0) ∧ ρ 3 = (Value.bool r1) ∧ ρ 4 = (Value.pointer r2) ∧ ρ 5 = (Sl.v l6.1) ∧ ρ 6 = (Value.int .i64 l6.2) ∧ ρ 7 = (Value.int .i64 r8) ∧ ρ 8 = (Value.int .i64 r11) ∧ True) ⟨e0, e3, e4, e5, e6, e7, rfl, trivial⟩ ?_
        rintro ρ ⟨e0, e3, e4, e5, e6, e7, e8, -⟩
        refine wpC_region ?_
        refine wpR_val (v := (Value.int .i64 r11)) (w' := w6) rfl rfl rfl (x_move (v := (Value.int .i64 r11)) rfl e8) ?_
        refine wpR_val (v := (Value.bool (decide (r11 < 0)))) (w' := w6) rfl rfl rfl (x_lss rfl rfl rfl) ?_
        refine wpR_val (v := (Value.bool (decide (r11 < 0)))) (w' := w6) rfl rfl rfl (x_move (v := (Value.bool (decide (r11 < 0)))) rfl rfl) ?_
        refine wpR_joinJ 4 (fun (_ : Unit) ρ => ρ 42 = Value.bool ((decide (r11 < 0)) || (decide (r8 < r11))) ∧ ρ 0 = (Sl.v p0) ∧ ρ 3 = (Value.bool r1) ∧ ρ 4 = (Value.pointer r2) ∧ ρ 5 = (Sl.v l6.1) ∧ ρ 6 = (Value.int .i64 l6.2) ∧ ρ 7 = (Value.int .i64 r8) ∧ ρ 8 = (Value.int .i64 r11) ∧ True) (fun _ w => w6 = w) ?_ ?_
        · clear h
          rcases Bool.eq_false_or_eq_true (decide (r11 < 0)) with hc13 | hc13
          · skip
            refine wpR_pass (wantN rfl rfl rfl hc13) rfl rfl ?_
            refine wpR_pass (wantN rfl rfl rfl hc13) rfl rfl ?_
            refine wpR_pass (wantN rfl rfl rfl hc13) rfl rfl ?_
            refine wpR_val (v := (Value.bool true)) (w' := w6) rfl rfl rfl (x_pickT (v := (Value.bool true)) rfl rfl hc13 rfl) ?_
            refine wpR_nil ?_
            exact ⟨(), ⟨(by rw [hc13]; rfl), e0, e3, e4, e5, e6, e7, e8, trivial⟩, rfl⟩
          · skip
            refine wpR_val (v := (Value.int .i64 r11)) (w' := w6) (wantG rfl rfl rfl hc13) rfl rfl (x_move (v := (Value.int .i64 r11)) rfl e8) ?_
            refine wpR_val (v := (Value.int .i64 r8)) (w' := w6) (wantG rfl rfl rfl hc13) rfl rfl (x_move (v := (Value.int .i64 r8)) rfl e7) ?_
            refine wpR_val (v := (Value.bool (decide (r8 < r11)))) (w' := w6) (wantG rfl rfl rfl hc13) rfl rfl (x_gtr rfl rfl rfl) ?_
            refine wpR_val (v := (Value.bool (decide (r8 < r11)))) (w' := w6) rfl rfl rfl (x_pickF (v := (Value.bool (decide (r8 < r11)))) rfl rfl hc13 rfl) ?_
            refine wpR_nil ?_
            exact ⟨(), ⟨(by rw [hc13]; rfl), e0, e3, e4, e5, e6, e7, e8, trivial⟩, rfl⟩
        rintro _ ρ wj ⟨e42, e0, e3, e4, e5, e6, e7, e8, -⟩ rfl
        refine wpR_val (v := (Value.bool ((decide (r11 < 0)) || (decide (r8 < r11))))) (w' := w6) rfl rfl rfl (x_move (v := (Value.bool ((decide (r11 < 0)) || (decide (r8 < r11))))) rfl e42) ?_
        obtain ⟨J14, h, hk⟩ := h
        refine wpR_joinJ 11 (fun x ρ => ρ 54 = Value.bool x ∧ ρ 0 = (Sl.v p0) ∧ ρ 3 = (Value.bool r1) ∧ ρ 4 = (Value.pointer r2) ∧ ρ 5 = (Sl.v l6.1) ∧ ρ 6 = (Value.int .i64 l6.2) ∧ ρ 7 = (Value.int .i64 r8) ∧ ρ 8 = (Value.int .i64 r11) ∧ True) (J14) ?_ ?_
        · clear hk
          rcases Bool.eq_false_or_eq_true ((decide (r11 < 0)) || (decide (r8 < r11))) with hc15 | hc15
          · replace h := h.1 hc15
            refine wpR_pass (wantN rfl rfl rfl hc15) rfl rfl ?_
            refine wpR_pass (wantN rfl rfl rfl hc15) rfl rfl ?_
            refine wpR_pass (wantN rfl rfl rfl hc15) rfl rfl ?_
            refine wpR_pass (wantN rfl rfl rfl hc15) rfl rfl ?_
            refine wpR_pass (wantU rfl rfl rfl) rfl rfl ?_
            refine wpR_pass (wantU rfl rfl rfl) rfl rfl ?_
            refine wpR_pass (wantU rfl rfl rfl) rfl rfl ?_
            refine wpR_pass (wantU rfl rfl rfl) rfl rfl ?_
            refine wpR_pass (wantU rfl rfl rfl) rfl rfl ?_
            refine wpR_pass (wantN rfl rfl rfl hc15) rfl rfl ?_
            refine wpR_val (v := (Value.bool true)) (w' := w6) rfl rfl rfl (x_pickT (v := (Value.bool true)) rfl rfl hc15 rfl) ?_
            refine wpR_nil ?_
            exact ⟨true, ⟨rfl, e0, e3, e4, e5, e6, e7, e8, trivial⟩, h⟩
          · replace h := h.2 hc15
            refine wpR_val (v := (Value.int .i64 r11)) (w' := w6) (wantG rfl rfl rfl hc15) rfl rfl (x_move (v := (Value.int .i64 r11)) rfl e8) ?_
            refine wpR_val (v := (Value.int .i64 r8)) (w' := w6) (wantG rfl rfl rfl hc15) rfl rfl (x_move (v := (Value.int .i64 r8)) rfl e7) ?_
            refine wpR_val (v := (Value.bool (decide (r11 = r8)))) (w' := w6) (wantG rfl rfl rfl hc15) rfl rfl (x_eql rfl rfl rfl) ?_
            refine wpR_val (v := (Value.bool (decide (r11 = r8)))) (w' := w6) (wantG rfl rfl rfl hc15) rfl rfl (x_move (v := (Value.bool (decide (r11 = r8)))) rfl rfl) ?_
            obtain ⟨J16, h, hk⟩ := h
            refine wpR_joinJ 6 (fun x ρ => ρ 53 = Value.bool x ∧ ρ 0 = (Sl.v p0) ∧ ρ 3 = (Value.bool r1) ∧ ρ 4 = (Value.pointer r2) ∧ ρ 5 = (Sl.v l6.1) ∧ ρ 6 = (Value.int .i64 l6.2) ∧ ρ 7 = (Value.int .i64 r8) ∧ ρ 8 = (Value.int .i64 r11) ∧ ρ 43 = (Value.bool ((decide (r11 < 0)) || (decide (r8 < r11)))) ∧ True) (J16) ?_ ?_
            · clear hk
              rcases Bool.eq_false_or_eq_true (decide (r11 = r8)) with hc17 | hc17
              · replace h := h.1 hc17
                refine wpR_val (v := (Value.pointer r2)) (w' := w6) (wantG rfl rfl rfl hc17) rfl rfl (x_move (v := (Value.pointer r2)) rfl e4) ?_
                refine wpR_enter (wantG rfl rfl rfl hc17) rfl rfl (x_call (vs := [(Value.pointer r2)]) rfl rfl (mapl_cons rfl mapl_nil) Try.func18 NN_18 NB_18) (Calls.mono h ?_)
                rintro _ w7 ⟨r18, rfl, h⟩
                refine ⟨_, rfl, ?_⟩
                refine wpR_val (v := (Value.int .i64 r8)) (w' := w7) (wantG rfl rfl rfl hc17) rfl rfl (x_move (v := (Value.int .i64 r8)) rfl e7) ?_
                refine wpR_val (v := (Value.int .i64 (IntKind.i64.wrap (r8 + 1)))) (w' := w7) (wantG rfl rfl rfl hc17) rfl rfl (x_add rfl rfl rfl) ?_
                refine wpR_val (v := (Value.bool (!decide (r18 = (IntKind.i64.wrap (r8 + 1)))))) (w' := w7) (wantG rfl rfl rfl hc17) rfl rfl (x_neq rfl rfl rfl) ?_
                refine wpR_val (v := (Value.bool (!decide (r18 = (IntKind.i64.wrap (r8 + 1)))))) (w' := w7) (wantG rfl rfl rfl hc15) rfl rfl (x_pickT (v := (Value.bool (!decide (r18 = (IntKind.i64.wrap (r8 + 1)))))) rfl rfl hc17 rfl) ?_
                refine wpR_nil ?_
                exact ⟨!decide (r18 = (IntKind.i64.wrap (r8 + 1))), ⟨rfl, e0, e3, e4, e5, e6, e7, e8, rfl, trivial⟩, h⟩
              · replace h := h.2 hc17
                refine wpR_pass (wantN rfl rfl rfl hc17) rfl rfl ?_
                refine wpR_pass (wantN rfl rfl rfl hc17) rfl rfl ?_
                refine wpR_pass (wantN rfl rfl rfl hc17) rfl rfl ?_
                refine wpR_pass (wantN rfl rfl rfl hc17) rfl rfl ?_
                refine wpR_pass (wantN rfl rfl rfl hc17) rfl rfl ?_
                refine wpR_val (v := (Value.bool false)) (w' := w6) (wantG rfl rfl rfl hc15) rfl rfl (x_pickF (v := (Value.bool false)) rfl rfl hc17 rfl) ?_
                refine wpR_nil ?_
                exact ⟨false, ⟨rfl, e0, e3, e4, e5, e6, e7, e8, rfl, trivial⟩, h⟩
            clear h
            rintro c19 ρ w8 ⟨e53, e0, e3, e4, e5, e6, e7, e8, e43, -⟩ h
            replace h := hk c19 w8 h
            clear hk
            refine wpR_val (v := (Value.bool c19)) (w' := w8) rfl rfl rfl (x_pickF (v := (Value.bool c19)) rfl e43 hc15 e53) ?_
            refine wpR_nil ?_
            exact ⟨c19, ⟨rfl, e0, e3, e4, e5, e6, e7, e8, trivial⟩, h⟩
        clear h
        rintro c20 ρ w9 ⟨e54, e0, e3, e4, e5, e6, e7, e8, -⟩ h
        replace h := hk c20 w9 h
        clear hk
        refine wpR_val (v := (Value.bool c20)) (w' := w9) rfl rfl rfl (x_move (v := (Value.bool c20)) rfl e54) ?_
        obtain ⟨J21, h, hk⟩ := h
        refine wpR_joinJ 10 (fun x ρ => ρ 65 = Value.bool x ∧ ρ 0 = (Sl.v p0) ∧ ρ 3 = (Value.bool r1) ∧ ρ 4 = (Value.pointer r2) ∧ ρ 5 = (Sl.v l6.1) ∧ ρ 6 = (Value.int .i64 l6.2) ∧ ρ 8 = (Value.int .i64 r11) ∧ True) (J21) ?_ ?_
        · clear hk
          rcases Bool.eq_false_or_eq_true (c20) with hc22 | hc22
          · replace h := h.1 hc22
            refine wpR_pass (wantN rfl rfl rfl hc22) rfl rfl ?_
            refine wpR_pass (wantN rfl rfl rfl hc22) rfl rfl ?_
            refine wpR_pass (wantN rfl rfl rfl hc22) rfl rfl ?_
            refine wpR_pass (wantN rfl rfl rfl hc22) rfl rfl ?_
            refine wpR_pass (wantU rfl rfl rfl) rfl rfl ?_
            refine wpR_pass (wantU rfl rfl rfl) rfl rfl ?_
            refine wpR_pass (wantU rfl rfl rfl) rfl rfl ?_
            refine wpR_pass (wantU rfl rfl rfl) rfl rfl ?_
            refine wpR_pass (wantN rfl rfl rfl hc22) rfl rfl ?_
            refine wpR_val (v := (Value.bool true)) (w' := w9) rfl rfl rfl (x_pickT (v := (Value.bool true)) rfl rfl hc22 rfl) ?_
            refine wpR_nil ?_
            exact ⟨true, ⟨rfl, e0, e3, e4, e5, e6, e8, trivial⟩, h⟩
          · replace h := h.2 hc22
            refine wpR_val (v := (Value.int .i64 r11)) (w' := w9) (wantG rfl rfl rfl hc22) rfl rfl (x_move (v := (Value.int .i64 r11)) rfl e8) ?_
            refine wpR_val (v := (Value.int .i64 r8)) (w' := w9) (wantG rfl rfl rfl hc22) rfl rfl (x_move (v := (Value.int .i64 r8)) rfl e7) ?_
            refine wpR_val (v := (Value.bool (decide (r11 < r8)))) (w' := w9) (wantG rfl rfl rfl hc22) rfl rfl (x_lss rfl rfl rfl) ?_
            refine wpR_val (v := (Value.bool (decide (r11 < r8)))) (w' := w9) (wantG rfl rfl rfl hc22) rfl rfl (x_move (v := (Value.bool (decide (r11 < r8)))) rfl rfl) ?_
            obtain ⟨J23, h, hk⟩ := h
            refine wpR_joinJ 5 (fun x ρ => ρ 64 = Value.bool x ∧ ρ 0 = (Sl.v p0) ∧ ρ 3 = (Value.bool r1) ∧ ρ 4 = (Value.pointer r2) ∧ ρ 5 = (Sl.v l6.1) ∧ ρ 6 = (Value.int .i64 l6.2) ∧ ρ 8 = (Value.int .i64 r11) ∧ ρ 55 = (Value.bool c20) ∧ True) (J23) ?_ ?_
            · clear hk
              rcases Bool.eq_false_or_eq_true (decide (r11 < r8)) with hc24 | hc24
              · replace h := h.1 hc24
                refine wpR_val (v := (Value.pointer r2)) (w' := w9) (wantG rfl rfl rfl hc24) rfl rfl (x_move (v := (Value.pointer r2)) rfl e4) ?_
                refine wpR_enter (wantG rfl rfl rfl hc24) rfl rfl (x_call (vs := [(Value.pointer r2)]) rfl rfl (mapl_cons rfl mapl_nil) Try.func18 NN_18 NB_18) (Calls.mono h ?_)
                rintro _ w10 ⟨r25, rfl, h⟩
                refine ⟨_, rfl, ?_⟩
                refine wpR_val (v := (Value.int .i64 r8)) (w' := w10) (wantG rfl rfl rfl hc24) rfl rfl (x_move (v := (Value.int .i64 r8)) rfl e7) ?_
                refine wpR_val (v := (Value.bool (!decide (r25 = r8)))) (w' := w10) (wantG rfl rfl rfl hc24) rfl rfl (x_neq rfl rfl rfl) ?_
                refine wpR_val (v := (Value.bool (!decide (r25 = r8)))) (w' := w10) (wantG rfl rfl rfl hc22) rfl rfl (x_pickT (v := (Value.bool (!decide (r25 = r8)))) rfl rfl hc24 rfl) ?_
                refine wpR_nil ?_
                exact ⟨!decide (r25 = r8), ⟨rfl, e0, e3, e4, e5, e6, e8, rfl, trivial⟩, h⟩
              · replace h := h.2 hc24
                refine wpR_pass (wantN rfl rfl rfl hc24) rfl rfl ?_
                refine wpR_pass (wantN rfl rfl rfl hc24) rfl rfl ?_
                refine wpR_pass (wantN rfl rfl rfl hc24) rfl rfl ?_
                refine wpR_pass (wantN rfl rfl rfl hc24) rfl rfl ?_
                refine wpR_val (v := (Value.bool false)) (w' := w9) (wantG rfl rfl rfl hc22) rfl rfl (x_pickF (v := (Value.bool false)) rfl rfl hc24 rfl) ?_
                refine wpR_nil ?_
                exact ⟨false, ⟨rfl, e0, e3, e4, e5, e6, e8, rfl, trivial⟩, h⟩
            clear h
            rintro c26 ρ w11 ⟨e64, e0, e3, e4, e5, e6, e8, e55, -⟩ h
            replace h := hk c26 w11 h
            clear hk
            refine wpR_val (v := (Value.bool c26)) (w' := w11) rfl rfl rfl (x_pickF (v := (Value.bool c26)) rfl e55 hc22 e64) ?_
            refine wpR_nil ?_
            exact ⟨c26, ⟨rfl, e0, e3, e4, e5, e6, e8, trivial⟩, h⟩
        clear h
        rintro c27 ρ w12 ⟨e65, e0, e3, e4, e5, e6, e8, -⟩ h
        replace h := hk c27 w12 h
        clear hk
        refine wpR_nil ?_
        refine wpC_cond (b := c27) e65 (fun hc28 => ?_) (fun hc28 => ?_)
        · replace h := h.1 hc28
          refine wpC_seq ?_
          refine wpC_region ?_
          refine wpR_val (v := (Value.bool false)) (w' := w12) rfl rfl rfl (x_assign (v := (Value.bool false)) rfl rfl) ?_
          refine wpR_nil ?_
          refine wpC_ret ?_
          exact ⟨.inl rfl, fun a ha => ⟨_, results_rep1 rfl ha rfl, false, rfl, h⟩⟩
        · replace h := h.2 hc28
          refine wpC_skip ?_
          refine wpC_seq ?_
          refine wpC_region ?_
          refine wpR_val (v := (Sl.v l6.1)) (w' := w12) rfl rfl rfl (x_move (v := (Sl.v l6.1)) rfl e5) ?_
          refine wpR_val (v := (Value.int .i64 r11)) (w' := w12) rfl rfl rfl (x_move (v := (Value.int .i64 r11)) rfl e8) ?_
          obtain ⟨b29, hb29⟩ : ∃ u, u = w12.heap.size := ⟨_, rfl⟩
          obtain ⟨w13, hw29⟩ : ∃ u, u = w12.alloc (.cells #[(Value.int .i64 r11)] 3) := ⟨_, rfl⟩
          replace h := h b29 w13 hb29 hw29
          refine wpR_val (v := (Sl.v (⟨some ⟨b29, 0, none⟩, 1, 1⟩ : Sl))) (w' := w13) rfl rfl rfl ((x_buildSlice (qs := [(0, (Value.int .i64 r11))]) rfl (by rfl) (BS_42_1_0 r11)).trans (by rw [← hb29, ← hw29])) ?_
          obtain ⟨r30, w14, q30, h⟩ := h
          refine wpR_val (v := (Sl.v r30)) (w' := w14) rfl rfl rfl (x_append (s := l6.1) (u := (⟨some ⟨b29, 0, none⟩, 1, 1⟩ : Sl)) rfl rfl rfl rfl q30) ?_
          refine wpR_val (v := (Sl.v r30)) (w' := w14) rfl rfl rfl (x_assign (v := (Sl.v r30)) rfl rfl) ?_
          refine wpR_nil ?_
          refine wpC_seq ?_
          refine wpC_cut (fun ρ => ρ 0 = (Sl.v p0) ∧ ρ 3 = (Value.bool r1) ∧ ρ 4 = (Value.pointer r2) ∧ ρ 5 = (Sl.v r30) ∧ ρ 6 = (Value.int .i64 l6.2) ∧ ρ 8 = (Value.int .i64 r11) ∧ True) ⟨e0, e3, e4, rfl, e6, e8, trivial⟩ ?_
          rintro ρ ⟨e0, e3, e4, e5, e6, e8, -⟩
          refine wpC_region ?_
          refine wpR_val (v := (Value.int .i64 0)) (w' := w14) rfl rfl rfl (x_assign (v := (Value.int .i64 0)) rfl rfl) ?_
          refine wpR_nil ?_
          refine wpC_block ?_
          obtain ⟨I31, μ31, hI31, hr31⟩ := h
          refine wpC_loop (fun (x : Int) ρ => ρ 9 = (Value.int .i64 x) ∧ ρ 0 = (Sl.v p0) ∧ ρ 3 = (Value.bool r1) ∧ ρ 4 = (Value.pointer r2) ∧ ρ 5 = (Sl.v r30) ∧ ρ 6 = (Value.int .i64 l6.2) ∧ ρ 8 = (Value.int .i64 r11) ∧ True) I31 μ31 0 ⟨rfl, e0, e3, e4, e5, e6, e8, trivial⟩ hI31 ?_
          rintro l31 ρ w15 ⟨e9, e0, e3, e4, e5, e6, e8, -⟩ h
          replace h := hr31 l31 w15 h
          clear hr31 hI31
          refine wpC_seq ?_
          refine wpC_seq ?_
          refine wpC_region ?_
          refine wpR_val (v := (Value.int .i64 l31)) (w' := w15) rfl rfl rfl (x_move (v := (Value.int .i64 l31)) rfl e9) ?_
          refine wpR_val (v := (Value.int .i64 l6.2)) (w' := w15) rfl rfl rfl (x_move (v := (Value.int .i64 l6.2)) rfl e6) ?_
          refine wpR_val (v := (Value.bool (decide (l31 ≤ l6.2)))) (w' := w15) rfl rfl rfl (x_leq rfl rfl rfl) ?_
          refine wpR_nil ?_
          refine wpC_cond (b := decide (l31 ≤ l6.2)) rfl (fun hc32 => ?_) (fun hc32 => ?_)
          · replace h := h.1 hc32
            refine wpC_skip ?_
            refine wpC_seq ?_
            refine wpC_block ?_
            refine wpC_seq ?_
            refine wpC_cut (fun ρ => ρ 0 = (Sl.v p0) ∧ ρ 3 = (Value.bool r1) ∧ ρ 4 = (Value.pointer r2) ∧ ρ 5 = (Sl.v r30) ∧ ρ 6 = (Value.int .i64 l6.2) ∧ ρ 8 = (Value.int .i64 r11) ∧ ρ 9 = (Value.int .i64 l31) ∧ True) ⟨e0, e3, e4, e5, e6, e8, e9, trivial⟩ ?_
            rintro ρ ⟨e0, e3, e4, e5, e6, e8, e9, -⟩
            refine wpC_region ?_
            refine wpR_val (v := (Value.pointer r2)) (w' := w15) rfl rfl rfl (x_move (v := (Value.pointer r2)) rfl e4) ?_
            refine wpR_val (v := (Sl.v r30)) (w' := w15) rfl rfl rfl (x_move (v := (Sl.v r30)) rfl e5) ?_
            refine wpR_val (v := (Value.int .i64 l31)) (w' := w15) rfl rfl rfl (x_move (v := (Value.int .i64 l31)) rfl e9) ?_
            obtain ⟨q33, z33, r33, h⟩ := h
            generalize hp33 : z33.add ((l31 : Int).toNat * 1) = p33 at h
            refine wpR_val (v := (Value.pointer (some p33))) (w' := w15) rfl rfl rfl ((x_indexAddr (s := r30) rfl rfl rfl ES_42 q33 r33).trans (by rw [hp33])) ?_
            obtain ⟨x34, q34, h⟩ := h
            refine wpR_val (v := (Value.int .i64 x34)) (w' := w15) rfl rfl rfl (x_load1 rfl rfl SH_3 q34) ?_
            refine wpR_enter rfl rfl rfl (x_call (vs := [(Value.pointer r2), (Value.int .i64 x34)]) rfl rfl (mapl_cons rfl (mapl_cons rfl mapl_nil)) Try.func16 NN_16 NB_16) (Calls.mono h ?_)
            rintro _ w16 ⟨r35, rfl, h⟩
            refine ⟨_, rfl, ?_⟩
            refine wpR_val (v := (Value.tuple #[(Value.string r35.1), (Value.bool r35.2)])) (w' := w16) rfl rfl rfl (x_move (v := (Value.tuple #[(Value.string r35.1), (Value.bool r35.2)])) rfl rfl) ?_
            refine wpR_val (v := (Value.string r35.1)) (w' := w16) rfl rfl rfl (x_extract rfl rfl rfl) ?_
            refine wpR_val (v := (Value.bool r35.2)) (w' := w16) rfl rfl rfl (x_extract rfl rfl rfl) ?_
            refine wpR_val (v := (Value.string r35.1)) (w' := w16) rfl rfl rfl (x_assign (v := (Value.string r35.1)) rfl rfl) ?_
            refine wpR_val (v := (Value.bool r35.2)) (w' := w16) rfl rfl rfl (x_assign (v := (Value.bool r35.2)) rfl rfl) ?_
            refine wpR_nil ?_
            refine wpC_seq ?_
            refine wpC_cut (fun ρ => ρ 0 = (Sl.v p0) ∧ ρ 3 = (Value.bool r1) ∧ ρ 4 = (Value.pointer r2) ∧ ρ 5 = (Sl.v r30) ∧ ρ 6 = (Value.int .i64 l6.2) ∧ ρ 8 = (Value.int .i64 r11) ∧ ρ 9 = (Value.int .i64 l31) ∧ ρ 10 = (Value.string r35.1) ∧ ρ 11 = (Value.bool r35.2) ∧ True) ⟨e0, e3, e4, e5, e6, e8, e9, rfl, rfl, trivial⟩ ?_
            rintro ρ ⟨e0, e3, e4, e5, e6, e8, e9, e10, e11, -⟩
            obtain ⟨J37, h, hk⟩ := h
            refine wpC_drawJ (by kernel_rfl) (fun (x : Bool) ρ => ρ 111 = (Value.bool x) ∧ ρ 0 = (Sl.v p0) ∧ ρ 3 = (Value.bool r1) ∧ ρ 4 = (Value.pointer r2) ∧ ρ 5 = (Sl.v r30) ∧ ρ 6 = (Value.int .i64 l6.2) ∧ ρ 8 = (Value.int .i64 r11) ∧ ρ 9 = (Value.int .i64 l31) ∧ True) J37 ?_ ?_
            · clear hk
              unfold tk at h
              generalize w16.drew = w17 at h ⊢
              refine wpD_take (v := (Value.bool r35.2)) 0 (fun _ => True) rfl (by kernel_rfl) (by kernel_rfl) (by kernel_rfl) rfl rfl rfl trivial (fun w _ => (x_move (v := (Value.bool r35.2)) rfl e11)) ?_
              refine wpD_take (v := (Value.bool (!r35.2))) 1 (fun _ => True) rfl (by kernel_rfl) (by kernel_rfl) (by kernel_rfl) rfl rfl rfl trivial (fun w _ => (x_not rfl rfl)) ?_
              refine wpD_take (v := (Value.bool (!r35.2))) 2 (fun _ => True) rfl (by kernel_rfl) (by kernel_rfl) (by kernel_rfl) rfl rfl rfl trivial (fun w _ => (x_move (v := (Value.bool (!r35.2))) rfl rfl)) ?_
              rcases Bool.eq_false_or_eq_true (!r35.2) with hc38 | hc38
              · replace h := h.1 hc38
                refine wpD_pass 3 rfl (by kernel_rfl) (by kernel_rfl) (by kernel_rfl) (wantN rfl rfl rfl hc38) rfl rfl ?_
                refine wpD_pass 4 rfl (by kernel_rfl) (by kernel_rfl) (by kernel_rfl) (wantN rfl rfl rfl hc38) rfl rfl ?_
                refine wpD_pass 5 rfl (by kernel_rfl) (by kernel_rfl) (by kernel_rfl) (wantN rfl rfl rfl hc38) rfl rfl ?_
                refine wpD_pass 6 rfl (by kernel_rfl) (by kernel_rfl) (by kernel_rfl) (wantN rfl rfl rfl hc38) rfl rfl ?_
                refine wpD_pass 7 rfl (by kernel_rfl) (by kernel_rfl) (by kernel_rfl) (wantN rfl rfl rfl hc38) rfl rfl ?_
                refine wpD_pass 8 rfl (by kernel_rfl) (by kernel_rfl) (by kernel_rfl) (wantN rfl rfl rfl hc38) rfl rfl ?_
                refine wpD_take (v := (Value.bool true)) 9 (fun _ => True) rfl (by kernel_rfl) (by kernel_rfl) (by kernel_rfl) rfl rfl rfl trivial (fun w _ => (x_pickT (v := (Value.bool true)) rfl rfl hc38 rfl)) ?_
                refine wpD_take (v := (Value.bool true)) 10 (fun _ => True) rfl (by kernel_rfl) (by kernel_rfl) (by kernel_rfl) rfl rfl rfl trivial (fun w _ => (x_move (v := (Value.bool true)) rfl rfl)) ?_
                rcases Bool.eq_false_or_eq_true (true) with hc39 | hc39
                · replace h := h.1 hc39
                  refine wpD_pass 11 rfl (by kernel_rfl) (by kernel_rfl) (by kernel_rfl) (wantN rfl rfl rfl hc39) rfl rfl ?_
                  refine wpD_pass 12 rfl (by kernel_rfl) (by kernel_rfl) (by kernel_rfl) (wantN rfl rfl rfl hc39) rfl rfl ?_
                  refine wpD_pass 13 rfl (by kernel_rfl) (by kernel_rfl) (by kernel_rfl) (wantN rfl rfl rfl hc39) rfl rfl ?_
                  refine wpD_pass 14 rfl (by kernel_rfl) (by kernel_rfl) (by kernel_rfl) (wantN rfl rfl rfl hc39) rfl rfl ?_
                  refine wpD_pass 15 rfl (by kernel_rfl) (by kernel_rfl) (by kernel_rfl) (wantN rfl rfl rfl hc39) rfl rfl ?_
                  refine wpD_pass 16 rfl (by kernel_rfl) (by kernel_rfl) (by kernel_rfl) (wantN rfl rfl rfl hc39) rfl rfl ?_
                  refine wpD_pass 17 rfl (by kernel_rfl) (by kernel_rfl) (by kernel_rfl) (wantN rfl rfl rfl hc39) rfl rfl ?_
                  refine wpD_pass 18 rfl (by kernel_rfl) (by kernel_rfl) (by kernel_rfl) (wantN rfl rfl rfl hc39) rfl rfl ?_
                  refine wpD_pass 19 rfl (by kernel_rfl) (by kernel_rfl) (by kernel_rfl) (wantN rfl rfl rfl hc39) rfl rfl ?_
                  refine wpD_pass 20 rfl (by kernel_rfl) (by kernel_rfl) (by kernel_rfl) (wantN rfl rfl rfl hc39) rfl rfl ?_
                  refine wpD_pass 21 rfl (by kernel_rfl) (by kernel_rfl) (by kernel_rfl) (wantN rfl rfl rfl hc39) rfl rfl ?_
                  refine wpD_pass 22 rfl (by kernel_rfl) (by kernel_rfl) (by kernel_rfl) (wantN rfl rfl rfl hc39) rfl rfl ?_
                  refine wpD_pass 23 rfl (by kernel_rfl) (by kernel_rfl) (by kernel_rfl) (wantN rfl rfl rfl hc39) rfl rfl ?_
                  refine wpD_pass 24 rfl (by kernel_rfl) (by kernel_rfl) (by kernel_rfl) (wantN rfl rfl rfl hc39) rfl rfl ?_
                  refine wpD_pass 25 rfl (by kernel_rfl) (by kernel_rfl) (by kernel_rfl) (wantN rfl rfl rfl hc39) rfl rfl ?_
                  refine wpD_pass 26 rfl (by kernel_rfl) (by kernel_rfl) (by kernel_rfl) (wantN rfl rfl rfl hc39) rfl rfl ?_
                  refine wpD_take (v := (Value.bool true)) 27 (fun _ => True) rfl (by kernel_rfl) (by kernel_rfl) (by kernel_rfl) rfl rfl rfl trivial (fun w _ => (x_pickT (v := (Value.bool true)) rfl rfl hc39 rfl)) ?_
                  exact wpD_done (by kernel_rfl) ⟨true, ⟨rfl, e0, e3, e4, e5, e6, e8, e9, trivial⟩, h⟩
                · replace h := h.2 hc39
                  refine wpD_take (v := (Sl.v r30)) 11 (fun _ => True) rfl (by kernel_rfl) (by kernel_rfl) (by kernel_rfl) (wantG rfl rfl rfl hc39) rfl rfl trivial (fun w _ => (x_move (v := (Sl.v r30)) rfl e5)) ?_
                  refine wpD_take (v := (Value.int .i64 l31)) 12 (fun _ => True) rfl (by kernel_rfl) (by kernel_rfl) (by kernel_rfl) (wantG rfl rfl rfl hc39) rfl rfl trivial (fun w _ => (x_move (v := (Value.int .i64 l31)) rfl e9)) ?_
                  obtain ⟨q40, z40, r40, h⟩ := h
                  generalize hp40 : z40.add ((l31 : Int).toNat * 1) = p40 at h
                  refine wpD_take (v := (Value.pointer (some p40))) 13 (fun _ => True) rfl (by kernel_rfl) (by kernel_rfl) (by kernel_rfl) (wantG rfl rfl rfl hc39) rfl rfl trivial (fun w _ => ((x_indexAddr (s := r30) rfl rfl rfl ES_42 q40 r40).trans (by rw [hp40]))) ?_
                  obtain ⟨x41, q41, h⟩ := h
                  refine wpD_take (v := (Value.int .i64 x41)) 14 (fun w => w.cell? p40 = some (Value.int .i64 x41)) rfl (by kernel_rfl) (by kernel_rfl) (by kernel_rfl) (wantG rfl rfl rfl hc39) rfl rfl q41 (fun w q41 => (x_load1 rfl rfl SH_3 q41)) ?_
                  refine wpD_take (v := (Value.int .i64 r11)) 15 (fun _ => True) rfl (by kernel_rfl) (by kernel_rfl) (by kernel_rfl) (wantG rfl rfl rfl hc39) rfl rfl trivial (fun w _ => (x_move (v := (Value.int .i64 r11)) rfl e8)) ?_
                  refine wpD_take (v := (Value.bool (decide (x41 = r11)))) 16 (fun _ => True) rfl (by kernel_rfl) (by kernel_rfl) (by kernel_rfl) (wantG rfl rfl rfl hc39) rfl rfl trivial (fun w _ => (x_eql rfl rfl rfl)) ?_
                  refine wpD_take (v := (Sl.v p0)) 17 (fun _ => True) rfl (by kernel_rfl) (by kernel_rfl) (by kernel_rfl) (wantG rfl rfl rfl hc39) rfl rfl trivial (fun w _ => (x_move (v := (Sl.v p0)) rfl e0)) ?_
                  refine wpD_take (v := (Value.int .i64 l31)) 18 (fun _ => True) rfl (by kernel_rfl) (by kernel_rfl) (by kernel_rfl) (wantG rfl rfl rfl hc39) rfl rfl trivial (fun w _ => (x_move (v := (Value.int .i64 l31)) rfl e9)) ?_
                  obtain ⟨q42, z42, r42, h⟩ := h
                  generalize hp42 : z42.add ((l31 : Int).toNat * 1) = p42 at h
                  refine wpD_take (v := (Value.pointer (some p42))) 19 (fun _ => True) rfl (by kernel_rfl) (by kernel_rfl) (by kernel_rfl) (wantG rfl rfl rfl hc39) rfl rfl trivial (fun w _ => ((x_indexAddr (s := p0) rfl rfl rfl ES_22 q42 r42).trans (by rw [hp42]))) ?_
                  obtain ⟨x43, q43, h⟩ := h
                  refine wpD_take (v := (Value.string x43)) 20 (fun w => w.cell? p42 = some (Value.string x43)) rfl (by kernel_rfl) (by kernel_rfl) (by kernel_rfl) (wantG rfl rfl rfl hc39) rfl rfl q43 (fun w q43 => (x_load1 rfl rfl SH_9 q43)) ?_
                  refine wpD_take (v := (Sl.v p0)) 21 (fun _ => True) rfl (by kernel_rfl) (by kernel_rfl) (by kernel_rfl) (wantG rfl rfl rfl hc39) rfl rfl trivial (fun w _ => (x_move (v := (Sl.v p0)) rfl e0)) ?_
                  refine wpD_take (v := (Value.int .i64 l6.2)) 22 (fun _ => True) rfl (by kernel_rfl) (by kernel_rfl) (by kernel_rfl) (wantG rfl rfl rfl hc39) rfl rfl trivial (fun w _ => (x_move (v := (Value.int .i64 l6.2)) rfl e6)) ?_
                  obtain ⟨q44, z44, r44, h⟩ := h
                  generalize hp44 : z44.add ((l6.2 : Int).toNat * 1) = p44 at h
                  refine wpD_take (v := (Value.pointer (some p44))) 23 (fun _ => True) rfl (by kernel_rfl) (by kernel_rfl) (by kernel_rfl) (wantG rfl rfl rfl hc39) rfl rfl trivial (fun w _ => ((x_indexAddr (s := p0) rfl rfl rfl ES_22 q44 r44).trans (by rw [hp44]))) ?_
                  obtain ⟨x45, q45, h⟩ := h
                  refine wpD_take (v := (Value.string x45)) 24 (fun w => w.cell? p44 = some (Value.string x45)) rfl (by kernel_rfl) (by kernel_rfl) (by kernel_rfl) (wantG rfl rfl rfl hc39) rfl rfl q45 (fun w q45 => (x_load1 rfl rfl SH_9 q45)) ?_
                  refine wpD_take (v := (Value.bool (beqS x43 x45))) 25 (fun _ => True) rfl (by kernel_rfl) (by kernel_rfl) (by kernel_rfl) (wantG rfl rfl rfl hc39) rfl rfl trivial (fun w _ => (x_eqlS rfl rfl rfl)) ?_
                  refine wpD_take (v := (Value.bool (!((decide (x41 = r11)) == (beqS x43 x45))))) 26 (fun _ => True) rfl (by kernel_rfl) (by kernel_rfl) (by kernel_rfl) (wantG rfl rfl rfl hc39) rfl rfl trivial (fun w _ => (x_neqB rfl rfl rfl isBoolT_4)) ?_
                  refine wpD_take (v := (Value.bool (!((decide (x41 = r11)) == (beqS x43 x45))))) 27 (fun _ => True) rfl (by kernel_rfl) (by kernel_rfl) (by kernel_rfl) rfl rfl rfl trivial (fun w _ => (x_pickF (v := (Value.bool (!((decide (x41 = r11)) == (beqS x43 x45))))) rfl rfl hc39 rfl)) ?_
                  exact wpD_done (by kernel_rfl) ⟨!((decide (x41 = r11)) == (beqS x43 x45)), ⟨rfl, e0, e3, e4, e5, e6, e8, e9, trivial⟩, h⟩
              · replace h := h.2 hc38
                refine wpD_take (v := (Value.string r35.1)) 3 (fun _ => True) rfl (by kernel_rfl) (by kernel_rfl) (by kernel_rfl) (wantG rfl rfl rfl hc38) rfl rfl trivial (fun w _ => (x_move (v := (Value.string r35.1)) rfl e10)) ?_
                refine wpD_take (v := (Sl.v p0)) 4 (fun _ => True) rfl (by kernel_rfl) (by kernel_rfl) (by kernel_rfl) (wantG rfl rfl rfl hc38) rfl rfl trivial (fun w _ => (x_move (v := (Sl.v p0)) rfl e0)) ?_
                refine wpD_take (v := (Value.int .i64 l31)) 5 (fun _ => True) rfl (by kernel_rfl) (by kernel_rfl) (by kernel_rfl) (wantG rfl rfl rfl hc38) rfl rfl trivial (fun w _ => (x_move (v := (Value.int .i64 l31)) rfl e9)) ?_
                obtain ⟨q46, z46, r46, h⟩ := h
                generalize hp46 : z46.add ((l31 : Int).toNat * 1) = p46 at h
                refine wpD_take (v := (Value.pointer (some p46))) 6 (fun _ => True) rfl (by kernel_rfl) (by kernel_rfl) (by kernel_rfl) (wantG rfl rfl rfl hc38) rfl rfl trivial (fun w _ => ((x_indexAddr (s := p0) rfl rfl rfl ES_22 q46 r46).trans (by rw [hp46]))) ?_
                obtain ⟨x47, q47, h⟩ := h
                refine wpD_take (v := (Value.string x47)) 7 (fun w => w.cell? p46 = some (Value.string x47)) rfl (by kernel_rfl) (by kernel_rfl) (by kernel_rfl) (wantG rfl rfl rfl hc38) rfl rfl q47 (fun w q47 => (x_load1 rfl rfl SH_9 q47)) ?_
                refine wpD_take (v := (Value.bool (!beqS r35.1 x47))) 8 (fun _ => True) rfl (by kernel_rfl) (by kernel_rfl) (by kernel_rfl) (wantG rfl rfl rfl hc38) rfl rfl trivial (fun w _ => (x_neqS rfl rfl rfl)) ?_
                refine wpD_take (v := (Value.bool (!beqS r35.1 x47))) 9 (fun _ => True) rfl (by kernel_rfl) (by kernel_rfl) (by kernel_rfl) rfl rfl rfl trivial (fun w _ => (x_pickF (v := (Value.bool (!beqS r35.1 x47))) rfl rfl hc38 rfl)) ?_
                refine wpD_take (v := (Value.bool (!beqS r35.1 x47))) 10 (fun _ => True) rfl (by kernel_rfl) (by kernel_rfl) (by kernel_rfl) rfl rfl rfl trivial (fun w _ => (x_move (v := (Value.bool (!beqS r35.1 x47))) rfl rfl)) ?_
                rcases Bool.eq_false_or_eq_true (!beqS r35.1 x47) with hc48 | hc48
                · replace h := h.1 hc48
                  refine wpD_pass 11 rfl (by kernel_rfl) (by kernel_rfl) (by kernel_rfl) (wantN rfl rfl rfl hc48) rfl rfl ?_
                  refine wpD_pass 12 rfl (by kernel_rfl) (by kernel_rfl) (by kernel_rfl) (wantN rfl rfl rfl hc48) rfl rfl ?_
                  refine wpD_pass 13 rfl (by kernel_rfl) (by kernel_rfl) (by kernel_rfl) (wantN rfl rfl rfl hc48) rfl rfl ?_
                  refine wpD_pass 14 rfl (by kernel_rfl) (by kernel_rfl) (by kernel_rfl) (wantN rfl rfl rfl hc48) rfl rfl ?_
                  refine wpD_pass 15 rfl (by kernel_rfl) (by kernel_rfl) (by kernel_rfl) (wantN rfl rfl rfl hc48) rfl rfl ?_
                  refine wpD_pass 16 rfl (by kernel_rfl) (by kernel_rfl) (by kernel_rfl) (wantN rfl rfl rfl hc48) rfl rfl ?_
                  refine wpD_pass 17 rfl (by kernel_rfl) (by kernel_rfl) (by kernel_rfl) (wantN rfl rfl rfl hc48) rfl rfl ?_
                  refine wpD_pass 18 rfl (by kernel_rfl) (by kernel_rfl) (by kernel_rfl) (wantN rfl rfl rfl hc48) rfl rfl ?_
                  refine wpD_pass 19 rfl (by kernel_rfl) (by kernel_rfl) (by kernel_rfl) (wantN rfl rfl rfl hc48) rfl rfl ?_
                  refine wpD_pass 20 rfl (by kernel_rfl) (by kernel_rfl) (by kernel_rfl) (wantN rfl rfl rfl hc48) rfl rfl ?_
                  refine wpD_pass 21 rfl (by kernel_rfl) (by kernel_rfl) (by kernel_rfl) (wantN rfl rfl rfl hc48) rfl rfl ?_
                  refine wpD_pass 22 rfl (by kernel_rfl) (by kernel_rfl) (by kernel_rfl) (wantN rfl rfl rfl hc48) rfl rfl ?_
                  refine wpD_pass 23 rfl (by kernel_rfl) (by kernel_rfl) (by kernel_rfl) (wantN rfl rfl rfl hc48) rfl rfl ?_
                  refine wpD_pass 24 rfl (by kernel_rfl) (by kernel_rfl) (by kernel_rfl) (wantN rfl rfl rfl hc48) rfl rfl ?_
                  refine wpD_pass 25 rfl (by kernel_rfl) (by kernel_rfl) (by kernel_rfl) (wantN rfl rfl rfl hc48) rfl rfl ?_
                  refine wpD_pass 26 rfl (by kernel_rfl) (by kernel_rfl) (by kernel_rfl) (wantN rfl rfl rfl hc48) rfl rfl ?_
                  refine wpD_take (v := (Value.bool true)) 27 (fun _ => True) rfl (by kernel_rfl) (by kernel_rfl) (by kernel_rfl) rfl rfl rfl trivial (fun w _ => (x_pickT (v := (Value.bool true)) rfl rfl hc48 rfl)) ?_
                  exact wpD_done (by kernel_rfl) ⟨true, ⟨rfl, e0, e3, e4, e5, e6, e8, e9, trivial⟩, h⟩
                · replace h := h.2 hc48
                  refine wpD_take (v := (Sl.v r30)) 11 (fun _ => True) rfl (by kernel_rfl) (by kernel_rfl) (by kernel_rfl) (wantG rfl rfl rfl hc48) rfl rfl trivial (fun w _ => (x_move (v := (Sl.v r30)) rfl e5)) ?_
                  refine wpD_take (v := (Value.int .i64 l31)) 12 (fun _ => True) rfl (by kernel_rfl) (by kernel_rfl) (by kernel_rfl) (wantG rfl rfl rfl hc48) rfl rfl trivial (fun w _ => (x_move (v := (Value.int .i64 l31)) rfl e9)) ?_
                  obtain ⟨q49, z49, r49, h⟩ := h
                  generalize hp49 : z49.add ((l31 : Int).toNat * 1) = p49 at h
                  refine wpD_take (v := (Value.pointer (some p49))) 13 (fun _ => True) rfl (by kernel_rfl) (by kernel_rfl) (by kernel_rfl) (wantG rfl rfl rfl hc48) rfl rfl trivial (fun w _ => ((x_indexAddr (s := r30) rfl rfl rfl ES_42 q49 r49).trans (by rw [hp49]))) ?_
                  obtain ⟨x50, q50, h⟩ := h
                  refine wpD_take (v := (Value.int .i64 x50)) 14 (fun w => w.cell? p49 = some (Value.int .i64 x50)) rfl (by kernel_rfl) (by kernel_rfl) (by kernel_rfl) (wantG rfl rfl rfl hc48) rfl rfl q50 (fun w q50 => (x_load1 rfl rfl SH_3 q50)) ?_
                  refine wpD_take (v := (Value.int .i64 r11)) 15 (fun _ => True) rfl (by kernel_rfl) (by kernel_rfl) (by kernel_rfl) (wantG rfl rfl rfl hc48) rfl rfl trivial (fun w _ => (x_move (v := (Value.int .i64 r11)) rfl e8)) ?_
                  refine wpD_take (v := (Value.bool (decide (x50 = r11)))) 16 (fun _ => True) rfl (by kernel_rfl) (by kernel_rfl) (by kernel_rfl) (wantG rfl rfl rfl hc48) rfl rfl trivial (fun w _ => (x_eql rfl rfl rfl)) ?_
                  refine wpD_take (v := (Sl.v p0)) 17 (fun _ => True) rfl (by kernel_rfl) (by kernel_rfl) (by kernel_rfl) (wantG rfl rfl rfl hc48) rfl rfl trivial (fun w _ => (x_move (v := (Sl.v p0)) rfl e0)) ?_
                  refine wpD_take (v := (Value.int .i64 l31)) 18 (fun _ => True) rfl (by kernel_rfl) (by kernel_rfl) (by kernel_rfl) (wantG rfl rfl rfl hc48) rfl rfl trivial (fun w _ => (x_move (v := (Value.int .i64 l31)) rfl e9)) ?_
                  obtain ⟨q51, z51, r51, h⟩ := h
                  generalize hp51 : z51.add ((l31 : Int).toNat * 1) = p51 at h
                  refine wpD_take (v := (Value.pointer (some p51))) 19 (fun _ => True) rfl (by kernel_rfl) (by kernel_rfl) (by kernel_rfl) (wantG rfl rfl rfl hc48) rfl rfl trivial (fun w _ => ((x_indexAddr (s := p0) rfl rfl rfl ES_22 q51 r51).trans (by rw [hp51]))) ?_
                  obtain ⟨x52, q52, h⟩ := h
                  refine wpD_take (v := (Value.string x52)) 20 (fun w => w.cell? p51 = some (Value.string x52)) rfl (by kernel_rfl) (by kernel_rfl) (by kernel_rfl) (wantG rfl rfl rfl hc48) rfl rfl q52 (fun w q52 => (x_load1 rfl rfl SH_9 q52)) ?_
                  refine wpD_take (v := (Sl.v p0)) 21 (fun _ => True) rfl (by kernel_rfl) (by kernel_rfl) (by kernel_rfl) (wantG rfl rfl rfl hc48) rfl rfl trivial (fun w _ => (x_move (v := (Sl.v p0)) rfl e0)) ?_
                  refine wpD_take (v := (Value.int .i64 l6.2)) 22 (fun _ => True) rfl (by kernel_rfl) (by kernel_rfl) (by kernel_rfl) (wantG rfl rfl rfl hc48) rfl rfl trivial (fun w _ => (x_move (v := (Value.int .i64 l6.2)) rfl e6)) ?_
                  obtain ⟨q53, z53, r53, h⟩ := h
                  generalize hp53 : z53.add ((l6.2 : Int).toNat * 1) = p53 at h
                  refine wpD_take (v := (Value.pointer (some p53))) 23 (fun _ => True) rfl (by kernel_rfl) (by kernel_rfl) (by kernel_rfl) (wantG rfl rfl rfl hc48) rfl rfl trivial (fun w _ => ((x_indexAddr (s := p0) rfl rfl rfl ES_22 q53 r53).trans (by rw [hp53]))) ?_
                  obtain ⟨x54, q54, h⟩ := h
                  refine wpD_take (v := (Value.string x54)) 24 (fun w => w.cell? p53 = some (Value.string x54)) rfl (by kernel_rfl) (by kernel_rfl) (by kernel_rfl) (wantG rfl rfl rfl hc48) rfl rfl q54 (fun w q54 => (x_load1 rfl rfl SH_9 q54)) ?_
                  refine wpD_take (v := (Value.bool (beqS x52 x54))) 25 (fun _ => True) rfl (by kernel_rfl) (by kernel_rfl) (by kernel_rfl) (wantG rfl rfl rfl hc48) rfl rfl trivial (fun w _ => (x_eqlS rfl rfl rfl)) ?_
                  refine wpD_take (v := (Value.bool (!((decide (x50 = r11)) == (beqS x52 x54))))) 26 (fun _ => True) rfl (by kernel_rfl) (by kernel_rfl) (by kernel_rfl) (wantG rfl rfl rfl hc48) rfl rfl trivial (fun w _ => (x_neqB rfl rfl rfl isBoolT_4)) ?_
                  refine wpD_take (v := (Value.bool (!((decide (x50 = r11)) == (beqS x52 x54))))) 27 (fun _ => True) rfl (by kernel_rfl) (by kernel_rfl) (by kernel_rfl) rfl rfl rfl trivial (fun w _ => (x_pickF (v := (Value.bool (!((decide (x50 = r11)) == (beqS x52 x54))))) rfl rfl hc48 rfl)) ?_
                  exact wpD_done (by kernel_rfl) ⟨!((decide (x50 = r11)) == (beqS x52 x54)), ⟨rfl, e0, e3, e4, e5, e6, e8, e9, trivial⟩, h⟩
            clear h
            rintro l55 ρ w18 ⟨e111, e0, e3, e4, e5, e6, e8, e9, -⟩ h
            replace h := hk l55 w18 h
            clear hk
            refine wpC_cond (b := l55) e111 (fun hc56 => ?_) (fun hc56 => ?_)
            · replace h := h.1 hc56
              refine wpC_seq ?_
              refine wpC_region ?_
              refine wpR_val (v := (Value.bool false)) (w' := w18) rfl rfl rfl (x_assign (v := (Value.bool false)) rfl rfl) ?_
              refine wpR_nil ?_
              refine wpC_ret ?_
              exact ⟨.inl rfl, fun a ha => ⟨_, results_rep1 rfl ha rfl, false, rfl, h⟩⟩
            · replace h := h.2 hc56
              refine wpC_skip ?_
              refine wpC_region ?_
              refine wpR_val (v := (Value.int .i64 l31)) (w' := w18) rfl rfl rfl (x_move (v := (Value.int .i64 l31)) rfl e9) ?_
              refine wpR_val (v := (Value.int .i64 (IntKind.i64.wrap (l31 + 1)))) (w' := w18) rfl rfl rfl (x_add rfl rfl rfl) ?_
              refine wpR_val (v := (Value.int .i64 (IntKind.i64.wrap (l31 + 1)))) (w' := w18) rfl rfl rfl (x_assign (v := (Value.int .i64 (IntKind.i64.wrap (l31 + 1)))) rfl rfl) ?_
              refine wpR_nil ?_
              exact ⟨IntKind.i64.wrap (l31 + 1), ⟨rfl, e0, e3, e4, e5, e6, e8, trivial⟩, h⟩
          · replace h := h.2 hc32
            refine wpC_exit ?_
            refine wpC_cut (fun ρ => ρ 0 = (Sl.v p0) ∧ ρ 3 = (Value.bool r1) ∧ ρ 4 = (Value.pointer r2) ∧ ρ 5 = (Sl.v r30) ∧ ρ 6 = (Value.int .i64 l6.2) ∧ True) ⟨e0, e3, e4, e5, e6, trivial⟩ ?_
            rintro ρ ⟨e0, e3, e4, e5, e6, -⟩
            refine wpC_region ?_
            refine wpR_val (v := (Value.int .i64 l6.2)) (w' := w15) rfl rfl rfl (x_move (v := (Value.int .i64 l6.2)) rfl e6) ?_
            refine wpR_val (v := (Value.int .i64 (IntKind.i64.wrap (l6.2 + 1)))) (w' := w15) rfl rfl rfl (x_add rfl rfl rfl) ?_
            refine wpR_val (v := (Value.int .i64 (IntKind.i64.wrap (l6.2 + 1)))) (w' := w15) rfl rfl rfl (x_assign (v := (Value.int .i64 (IntKind.i64.wrap (l6.2 + 1)))) rfl rfl) ?_
            refine wpR_nil ?_
            exact ⟨(r30, IntKind.i64.wrap (l6.2 + 1)), ⟨e5, rfl, e0, e3, e4, trivial⟩, h⟩
      · replace h := h.2 hc7
        refine wpC_exit ?_
        refine wpC_seq ?_
        refine wpC_cut (fun ρ => ρ 0 = (Sl.v p0) ∧ ρ 3 = (Value.bool r1) ∧ ρ 4 = (Value.pointer r2) ∧ ρ 5 = (Sl.v l6.1) ∧ True) ⟨e0, e3, e4, e5, trivial⟩ ?_
        rintro ρ ⟨e0, e3, e4, e5, -⟩
        refine wpC_region ?_
        refine wpR_val (v := (Value.pointer r2)) (w' := w4) rfl rfl rfl (x_move (v := (Value.pointer r2)) rfl e4) ?_
        refine wpR_enter rfl rfl rfl (x_call (vs := [(Value.pointer r2)]) rfl rfl (mapl_cons rfl mapl_nil) Try.func21 NN_21 NB_21) (Calls.mono h ?_)
        rintro _ w19 ⟨r57, rfl, h⟩
        refine ⟨_, rfl, ?_⟩
        refine wpR_val (v := (Sl.v r57)) (w' := w19) rfl rfl rfl (x_assign (v := (Sl.v r57)) rfl rfl) ?_
        refine wpR_nil ?_
        refine wpC_seq ?_
        refine wpC_seq ?_
        refine wpC_cut (fun ρ => ρ 0 = (Sl.v p0) ∧ ρ 3 = (Value.bool r1) ∧ ρ 4 = (Value.pointer r2) ∧ ρ 5 = (Sl.v l6.1) ∧ ρ 12 = (Sl.v r57) ∧ True) ⟨e0, e3, e4, e5, rfl, trivial⟩ ?_
        rintro ρ ⟨e0, e3, e4, e5, e12, -⟩
        refine wpC_region ?_
        refine wpR_val (v := (Sl.v r57)) (w' := w19) rfl rfl rfl (x_move (v := (Sl.v r57)) rfl e12) ?_
        refine wpR_val (v := (Value.int .i64 (r57.len : Int))) (w' := w19) rfl rfl rfl (x_lenS (s := r57) rfl rfl isSliceT_22) ?_
        refine wpR_val (v := (Value.pointer r2)) (w' := w19) rfl rfl rfl (x_move (v := (Value.pointer r2)) rfl e4) ?_
        refine wpR_enter rfl rfl rfl (x_call (vs := [(Value.pointer r2)]) rfl rfl (mapl_cons rfl mapl_nil) Try.func18 NN_18 NB_18) (Calls.mono h ?_)
        rintro _ w20 ⟨r58, rfl, h⟩
        refine ⟨_, rfl, ?_⟩
        refine wpR_val (v := (Value.bool (!decide ((r57.len : Int) = r58)))) (w' := w20) rfl rfl rfl (x_neq rfl rfl rfl) ?_
        refine wpR_nil ?_
        refine wpC_cond (b := !decide ((r57.len : Int) = r58)) rfl (fun hc59 => ?_) (fun hc59 => ?_)
        · replace h := h.1 hc59
          refine wpC_seq ?_
          refine wpC_cut (fun ρ => True) trivial ?_
          rintro ρ -
          refine wpC_region ?_
          refine wpR_val (v := (Value.bool false)) (w' := w20) rfl rfl rfl (x_assign (v := (Value.bool false)) rfl rfl) ?_
          refine wpR_nil ?_
          refine wpC_ret ?_
          exact ⟨.inl rfl, fun a ha => ⟨_, results_rep1 rfl ha rfl, false, rfl, h⟩⟩
        · replace h := h.2 hc59
          refine wpC_skip ?_
          refine wpC_seq ?_
          refine wpC_seq ?_
          refine wpC_cut (fun ρ => ρ 0 = (Sl.v p0) ∧ ρ 3 = (Value.bool r1) ∧ ρ 4 = (Value.pointer r2) ∧ ρ 5 = (Sl.v l6.1) ∧ ρ 12 = (Sl.v r57) ∧ True) ⟨e0, e3, e4, e5, e12, trivial⟩ ?_
          rintro ρ ⟨e0, e3, e4, e5, e12, -⟩
          refine wpC_region ?_
          refine wpR_val (v := (Value.int .i64 0)) (w' := w20) rfl rfl rfl (x_assign (v := (Value.int .i64 0)) rfl rfl) ?_
          refine wpR_nil ?_
          refine wpC_block ?_
          obtain ⟨I60, μ60, hI60, hr60⟩ := h
          refine wpC_loop (fun (x : Int) ρ => ρ 13 = (Value.int .i64 x) ∧ ρ 0 = (Sl.v p0) ∧ ρ 3 = (Value.bool r1) ∧ ρ 4 = (Value.pointer r2) ∧ ρ 5 = (Sl.v l6.1) ∧ ρ 12 = (Sl.v r57) ∧ True) I60 μ60 0 ⟨rfl, e0, e3, e4, e5, e12, trivial⟩ hI60 ?_
          rintro l60 ρ w21 ⟨e13, e0, e3, e4, e5, e12, -⟩ h
          replace h := hr60 l60 w21 h
          clear hr60 hI60
          refine wpC_seq ?_
          refine wpC_seq ?_
          refine wpC_region ?_
          refine wpR_val (v := (Value.int .i64 l60)) (w' := w21) rfl rfl rfl (x_move (v := (Value.int .i64 l60)) rfl e13) ?_
          refine wpR_val (v := (Sl.v p0)) (w' := w21) rfl rfl rfl (x_move (v := (Sl.v p0)) rfl e0) ?_
          refine wpR_val (v := (Value.int .i64 (p0.len : Int))) (w' := w21) rfl rfl rfl (x_lenS (s := p0) rfl rfl isSliceT_22) ?_
          refine wpR_val (v := (Value.bool (decide (l60 < (p0.len : Int))))) (w' := w21) rfl rfl rfl (x_lss rfl rfl rfl) ?_
          refine wpR_nil ?_
          refine wpC_cond (b := decide (l60 < (p0.len : Int))) rfl (fun hc61 => ?_) (fun hc61 => ?_)
          · replace h := h.1 hc61
            refine wpC_skip ?_
            refine wpC_seq ?_
            refine wpC_block ?_
            refine wpC_seq ?_
            refine wpC_cut (fun ρ => ρ 0 = (Sl.v p0) ∧ ρ 3 = (Value.bool r1) ∧ ρ 4 = (Value.pointer r2) ∧ ρ 5 = (Sl.v l6.1) ∧ ρ 12 = (Sl.v r57) ∧ ρ 13 = (Value.int .i64 l60) ∧ True) ⟨e0, e3, e4, e5, e12, e13, trivial⟩ ?_
            rintro ρ ⟨e0, e3, e4, e5, e12, e13, -⟩
            obtain ⟨J63, h, hk⟩ := h
            refine wpC_drawJ (by kernel_rfl) (fun (x : Bool) ρ => ρ 149 = (Value.bool x) ∧ ρ 0 = (Sl.v p0) ∧ ρ 3 = (Value.bool r1) ∧ ρ 4 = (Value.pointer r2) ∧ ρ 5 = (Sl.v l6.1) ∧ ρ 12 = (Sl.v r57) ∧ ρ 13 = (Value.int .i64 l60) ∧ True) J63 ?_ ?_
            · clear hk
              unfold tk at h
              generalize w21.drew = w22 at h ⊢
              refine wpD_take (v := (Sl.v r57)) 0 (fun _ => True) rfl (by kernel_rfl) (by kernel_rfl) (by kernel_rfl) rfl rfl rfl trivial (fun w _ => (x_move (v := (Sl.v r57)) rfl e12)) ?_
              refine wpD_take (v := (Sl.v l6.1)) 1 (fun _ => True) rfl (by kernel_rfl) (by kernel_rfl) (by kernel_rfl) rfl rfl rfl trivial (fun w _ => (x_move (v := (Sl.v l6.1)) rfl e5)) ?_
              refine wpD_take (v := (Value.int .i64 l60)) 2 (fun _ => True) rfl (by kernel_rfl) (by kernel_rfl) (by kernel_rfl) rfl rfl rfl trivial (fun w _ => (x_move (v := (Value.int .i64 l60)) rfl e13)) ?_
              obtain ⟨q64, z64, r64, h⟩ := h
              generalize hp64 : z64.add ((l60 : Int).toNat * 1) = p64 at h
              refine wpD_take (v := (Value.pointer (some p64))) 3 (fun _ => True) rfl (by kernel_rfl) (by kernel_rfl) (by kernel_rfl) rfl rfl rfl trivial (fun w _ => ((x_indexAddr (s := l6.1) rfl rfl rfl ES_42 q64 r64).trans (by rw [hp64]))) ?_
              obtain ⟨x65, q65, h⟩ := h
              refine wpD_take (v := (Value.int .i64 x65)) 4 (fun w => w.cell? p64 = some (Value.int .i64 x65)) rfl (by kernel_rfl) (by kernel_rfl) (by kernel_rfl) rfl rfl rfl q65 (fun w q65 => (x_load1 rfl rfl SH_3 q65)) ?_
              obtain ⟨q66, z66, r66, h⟩ := h
              generalize hp66 : z66.add ((x65 : Int).toNat * 1) = p66 at h
              refine wpD_take (v := (Value.pointer (some p66))) 5 (fun _ => True) rfl (by kernel_rfl) (by kernel_rfl) (by kernel_rfl) rfl rfl rfl trivial (fun w _ => ((x_indexAddr (s := r57) rfl rfl rfl ES_22 q66 r66).trans (by rw [hp66]))) ?_
              obtain ⟨x67, q67, h⟩ := h
              refine wpD_take (v := (Value.string x67)) 6 (fun w => w.cell? p66 = some (Value.string x67)) rfl (by kernel_rfl) (by kernel_rfl) (by kernel_rfl) rfl rfl rfl q67 (fun w q67 => (x_load1 rfl rfl SH_9 q67)) ?_
              refine wpD_take (v := (Sl.v p0)) 7 (fun _ => True) rfl (by kernel_rfl) (by kernel_rfl) (by kernel_rfl) rfl rfl rfl trivial (fun w _ => (x_move (v := (Sl.v p0)) rfl e0)) ?_
              refine wpD_take (v := (Value.int .i64 l60)) 8 (fun _ => True) rfl (by kernel_rfl) (by kernel_rfl) (by kernel_rfl) rfl rfl rfl trivial (fun w _ => (x_move (v := (Value.int .i64 l60)) rfl e13)) ?_
              obtain ⟨q68, z68, r68, h⟩ := h
              generalize hp68 : z68.add ((l60 : Int).toNat * 1) = p68 at h
              refine wpD_take (v := (Value.pointer (some p68))) 9 (fun _ => True) rfl (by kernel_rfl) (by kernel_rfl) (by kernel_rfl) rfl rfl rfl trivial (fun w _ => ((x_indexAddr (s := p0) rfl rfl rfl ES_22 q68 r68).trans (by rw [hp68]))) ?_
              obtain ⟨x69, q69, h⟩ := h
              refine wpD_take (v := (Value.string x69)) 10 (fun w => w.cell? p68 = some (Value.string x69)) rfl (by kernel_rfl) (by kernel_rfl) (by kernel_rfl) rfl rfl rfl q69 (fun w q69 => (x_load1 rfl rfl SH_9 q69)) ?_
              refine wpD_take (v := (Value.bool (!beqS x67 x69))) 11 (fun _ => True) rfl (by kernel_rfl) (by kernel_rfl) (by kernel_rfl) rfl rfl rfl trivial (fun w _ => (x_neqS rfl rfl rfl)) ?_
              refine wpD_take (v := (Value.bool (!beqS x67 x69))) 12 (fun _ => True) rfl (by kernel_rfl) (by kernel_rfl) (by kernel_rfl) rfl rfl rfl trivial (fun w _ => (x_move (v := (Value.bool (!beqS x67 x69))) rfl rfl)) ?_
              rcases Bool.eq_false_or_eq_true (!beqS x67 x69) with hc70 | hc70
              · replace h := h.1 hc70
                refine wpD_pass 13 rfl (by kernel_rfl) (by kernel_rfl) (by kernel_rfl) (wantN rfl rfl rfl hc70) rfl rfl ?_
                refine wpD_pass 14 rfl (by kernel_rfl) (by kernel_rfl) (by kernel_rfl) (wantN rfl rfl rfl hc70) rfl rfl ?_
                refine wpD_pass 15 rfl (by kernel_rfl) (by kernel_rfl) (by kernel_rfl) (wantN rfl rfl rfl hc70) rfl rfl ?_
                refine wpD_pass 16 rfl (by kernel_rfl) (by kernel_rfl) (by kernel_rfl) (wantN rfl rfl rfl hc70) rfl rfl ?_
                refine wpD_pass 17 rfl (by kernel_rfl) (by kernel_rfl) (by kernel_rfl) (wantN rfl rfl rfl hc70) rfl rfl ?_
                refine wpD_pass 18 rfl (by kernel_rfl) (by kernel_rfl) (by kernel_rfl) (wantN rfl rfl rfl hc70) rfl rfl ?_
                refine wpD_pass 19 rfl (by kernel_rfl) (by kernel_rfl) (by kernel_rfl) (wantN rfl rfl rfl hc70) rfl rfl ?_
                refine wpD_pass 20 rfl (by kernel_rfl) (by kernel_rfl) (by kernel_rfl) (wantN rfl rfl rfl hc70) rfl rfl ?_
                refine wpD_pass 21 rfl (by kernel_rfl) (by kernel_rfl) (by kernel_rfl) (wantN rfl rfl rfl hc70) rfl rfl ?_
                refine wpD_pass 22 rfl (by kernel_rfl) (by kernel_rfl) (by kernel_rfl) (wantN rfl rfl rfl hc70) rfl rfl ?_
                refine wpD_pass 23 rfl (by kernel_rfl) (by kernel_rfl) (by kernel_rfl) (wantN rfl rfl rfl hc70) rfl rfl ?_
                refine wpD_take (v := (Value.bool true)) 24 (fun _ => True) rfl (by kernel_rfl) (by kernel_rfl) (by kernel_rfl) rfl rfl rfl trivial (fun w _ => (x_pickT (v := (Value.bool true)) rfl rfl hc70 rfl)) ?_
                exact wpD_done (by kernel_rfl) ⟨true, ⟨rfl, e0, e3, e4, e5, e12, e13, trivial⟩, h⟩
              · replace h := h.2 hc70
                refine wpD_take (v := (Value.pointer r2)) 13 (fun _ => True) rfl (by kernel_rfl) (by kernel_rfl) (by kernel_rfl) (wantG rfl rfl rfl hc70) rfl rfl trivial (fun w _ => (x_move (v := (Value.pointer r2)) rfl e4)) ?_
                refine wpD_take (v := (Sl.v p0)) 14 (fun _ => True) rfl (by kernel_rfl) (by kernel_rfl) (by kernel_rfl) (wantG rfl rfl rfl hc70) rfl rfl trivial (fun w _ => (x_move (v := (Sl.v p0)) rfl e0)) ?_
                refine wpD_take (v := (Value.int .i64 l60)) 15 (fun _ => True) rfl (by kernel_rfl) (by kernel_rfl) (by kernel_rfl) (wantG rfl rfl rfl hc70) rfl rfl trivial (fun w _ => (x_move (v := (Value.int .i64 l60)) rfl e13)) ?_
                obtain ⟨q71, z71, r71, h⟩ := h
                generalize hp71 : z71.add ((l60 : Int).toNat * 1) = p71 at h
                refine wpD_take (v := (Value.pointer (some p71))) 16 (fun _ => True) rfl (by kernel_rfl) (by kernel_rfl) (by kernel_rfl) (wantG rfl rfl rfl hc70) rfl rfl trivial (fun w _ => ((x_indexAddr (s := p0) rfl rfl rfl ES_22 q71 r71).trans (by rw [hp71]))) ?_
                obtain ⟨x72, q72, h⟩ := h
                refine wpD_take (v := (Value.string x72)) 17 (fun w => w.cell? p71 = some (Value.string x72)) rfl (by kernel_rfl) (by kernel_rfl) (by kernel_rfl) (wantG rfl rfl rfl hc70) rfl rfl q72 (fun w q72 => (x_load1 rfl rfl SH_9 q72)) ?_
                refine wpD_take (v := (Sl.v l6.1)) 19 (fun _ => True) rfl (by kernel_rfl) (by kernel_rfl) (by kernel_rfl) (wantG rfl rfl rfl hc70) rfl rfl trivial (fun w _ => (x_move (v := (Sl.v l6.1)) rfl e5)) ?_
                refine wpD_take (v := (Value.int .i64 l60)) 20 (fun _ => True) rfl (by kernel_rfl) (by kernel_rfl) (by kernel_rfl) (wantG rfl rfl rfl hc70) rfl rfl trivial (fun w _ => (x_move (v := (Value.int .i64 l60)) rfl e13)) ?_
                obtain ⟨q73, z73, r73, h⟩ := h
                generalize hp73 : z73.add ((l60 : Int).toNat * 1) = p73 at h
                refine wpD_take (v := (Value.pointer (some p73))) 21 (fun _ => True) rfl (by kernel_rfl) (by kernel_rfl) (by kernel_rfl) (wantG rfl rfl rfl hc70) rfl rfl trivial (fun w _ => ((x_indexAddr (s := l6.1) rfl rfl rfl ES_42 q73 r73).trans (by rw [hp73]))) ?_
                obtain ⟨x74, q74, h⟩ := h
                refine wpD_take (v := (Value.int .i64 x74)) 22 (fun w => w.cell? p73 = some (Value.int .i64 x74)) rfl (by kernel_rfl) (by kernel_rfl) (by kernel_rfl) (wantG rfl rfl rfl hc70) rfl rfl q74 (fun w q74 => (x_load1 rfl rfl SH_3 q74)) ?_
                refine wpD_all (rs := [18]) (by kernel_rfl) (by simp) (allD_cons ?_ allD_nil)
                refine stepD_enterL (L' := [(22, fun w => w.cell? p73 = some (Value.int .i64 x74)), (21, fun _ => True), (20, fun _ => True), (19, fun _ => True), (16, fun _ => True), (15, fun _ => True), (14, fun _ => True), (11, fun _ => True), (10, fun w => w.cell? p68 = some (Value.string x69)), (9, fun _ => True), (8, fun _ => True), (7, fun _ => True), (6, fun w => w.cell? p66 = some (Value.string x67)), (5, fun _ => True), (4, fun w => w.cell? p64 = some (Value.int .i64 x65)), (3, fun _ => True), (2, fun _ => True), (1, fun _ => True), (0, fun _ => True)]) rfl (wantG rfl rfl rfl hc70) rfl rfl (x_call (vs := [(Value.pointer r2), (Value.string x72)]) rfl rfl (mapl_cons rfl (mapl_cons rfl mapl_nil)) Try.func14 NN_14 NB_14) (by kernel_rfl) (Calls.mono h ?_)
                rintro _ w23 ⟨r75, rfl, h⟩
                obtain ⟨o22, h⟩ := h
                obtain ⟨o10, h⟩ := h
                obtain ⟨o6, h⟩ := h
                obtain ⟨o4, h⟩ := h
                refine ⟨_, rfl, (held_cons o22 (held_cons trivial (held_cons trivial (held_cons trivial (held_cons trivial (held_cons trivial (held_cons trivial (held_cons trivial (held_cons o10 (held_cons trivial (held_cons trivial (held_cons trivial (held_cons o6 (held_cons trivial (held_cons o4 (held_cons trivial (held_cons trivial (held_cons trivial (held_cons trivial held_nil))))))))))))))))))), ?_⟩
                refine wpD_take (v := (Value.bool (!decide (r75 = x74)))) 23 (fun _ => True) rfl (by kernel_rfl) (by kernel_rfl) (by kernel_rfl) (wantG rfl rfl rfl hc70) rfl rfl trivial (fun w _ => (x_neq rfl rfl rfl)) ?_
                refine wpD_take (v := (Value.bool (!decide (r75 = x74)))) 24 (fun _ => True) rfl (by kernel_rfl) (by kernel_rfl) (by kernel_rfl) rfl rfl rfl trivial (fun w _ => (x_pickF (v := (Value.bool (!decide (r75 = x74)))) rfl rfl hc70 rfl)) ?_
                exact wpD_done (by kernel_rfl) ⟨!decide (r75 = x74), ⟨rfl, e0, e3, e4, e5, e12, e13, trivial⟩, h⟩
            clear h
            rintro l76 ρ w24 ⟨e149, e0, e3, e4, e5, e12, e13, -⟩ h
            replace h := hk l76 w24 h
            clear hk
            refine wpC_cond (b := l76) e149 (fun hc77 => ?_) (fun hc77 => ?_)
            · replace h := h.1 hc77
              refine wpC_seq ?_
              refine wpC_region ?_
              refine wpR_val (v := (Value.bool false)) (w' := w24) rfl rfl rfl (x_assign (v := (Value.bool false)) rfl rfl) ?_
              refine wpR_nil ?_
              refine wpC_ret ?_
              exact ⟨.inl rfl, fun a ha => ⟨_, results_rep1 rfl ha rfl, false, rfl, h⟩⟩
            · replace h := h.2 hc77
              refine wpC_skip ?_
              refine wpC_region ?_
              refine wpR_val (v := (Value.int .i64 l60)) (w' := w24) rfl rfl rfl (x_move (v := (Value.int .i64 l60)) rfl e13) ?_
              refine wpR_val (v := (Value.int .i64 (IntKind.i64.wrap (l60 + 1)))) (w' := w24) rfl rfl rfl (x_add rfl rfl rfl) ?_
              refine wpR_val (v := (Value.int .i64 (IntKind.i64.wrap (l60 + 1)))) (w' := w24) rfl rfl rfl (x_assign (v := (Value.int .i64 (IntKind.i64.wrap (l60 + 1)))) rfl rfl) ?_
              refine wpR_nil ?_
              exact ⟨IntKind.i64.wrap (l60 + 1), ⟨rfl, e0, e3, e4, e5, e12, trivial⟩, h⟩
          · replace h := h.2 hc61
            refine wpC_exit ?_
            refine wpC_seq ?_
            refine wpC_cut (fun ρ => ρ 3 = (Value.bool r1) ∧ True) ⟨e3, trivial⟩ ?_
            rintro ρ ⟨e3, -⟩
            refine wpC_region ?_
            refine wpR_val (v := (Value.bool r1)) (w' := w21) rfl rfl rfl (x_move (v := (Value.bool r1)) rfl e3) ?_
            refine wpR_val (v := (Value.bool r1)) (w' := w21) rfl rfl rfl (x_assign (v := (Value.bool r1)) rfl rfl) ?_
            refine wpR_nil ?_
            refine wpC_ret ?_
            exact ⟨.inl rfl, fun a ha => ⟨_, results_rep1 rfl ha rfl, r1, rfl, h⟩⟩

/-- lingualaw04.NamesOpen -/
def F5 (p0 : Sl) (p1 : Sl) (w0 : World) (K : Bool → World → Prop) : Prop :=
  callC Try.prog 7 #[] (fun (r : Bool) => (Value.bool r)) w0 fun r1 w1 =>
  callC Try.prog 12 #[] (fun (r : (Option Addr)) => (Value.pointer r)) w1 fun r2 w2 =>
  callC Try.prog 8 #[(Sl.v p0), (Value.int .i64 24)] (fun (r : Bool) => (Value.bool r)) w2 fun r3 w3 =>
  jn (fun J4 => cnd (!r3)
    (
    J4 true w3
    )
    (
    callC Try.prog 8 #[(Sl.v p1), (Value.int .i64 12)] (fun (r : Bool) => (Value.bool r)) w3 fun r6 w4 =>
    J4 (!r6) w4
    ))
  fun c7 w5 =>
  cnd (c7)
    (
    K r1 w5
    )
    (
    cnd (r2.isNone)
      (
      K false w5
      )
      (
      lp (fun (next10 : Int → World → Prop) l10 w6 =>
        cnd (decide (l10 < (p0.len : Int)))
          (
          ix p0 l10 1 fun p12 =>
          ld Value.string p12 w6 fun x13 =>
          callC Try.prog 14 #[(Value.pointer r2), (Value.string x13)] (fun (r : Int) => (Value.int .i64 r)) w6 fun _r14 w7 =>
          next10 (IntKind.i64.wrap (l10 + 1)) w7
          )
          (
          callC Try.prog 21 #[(Value.pointer r2)] (fun (r : Sl) => (Sl.v r)) w6 fun r15 w8 =>
          callC Try.prog 9 #[(Sl.v r15)] (fun (r : (Option Addr) × Int) => (Value.tuple #[(Value.pointer r.1), (Value.int .i64 r.2)])) w8 fun r16 w9 =>
          cnd ((!decide (r16.2 = 0)) || r16.1.isNone)
            (
            K false w9
            )
            (
            lp (fun (next20 : Int → World → Prop) l20 w10 =>
              cnd (decide (l20 < (p0.len : Int)))
                (
                jn (fun (J23 : Bool → World → Prop) => tk w10 fun w11 =>
                  ix p0 l20 1 fun p24 =>
                  ld Value.string p24 w11 fun x25 =>
                  ix p0 l20 1 fun p26 =>
                  ld Value.string p26 w11 fun x27 =>
                  callC Try.prog 14 #[(Value.pointer r16.1), (Value.string x25)] (fun (r : Int) => (Value.int .i64 r)) w11 fun r28 w12 =>
                  (w12.cell? p26 = some (Value.string x27)) ∧
                  callC Try.prog 14 #[(Value.pointer r2), (Value.string x27)] (fun (r : Int) => (Value.int .i64 r)) w12 fun r29 w13 =>
                  J23 (!decide (r28 = r29)) w13
                )
                fun l30 w14 =>
                cnd (l30)
                  (
                  K false w14
                  )
                  (
                  next20 (IntKind.i64.wrap (l20 + 1)) w14
                  )
                )
                (
                lp (fun (next32 : Int → World → Prop) l32 w15 =>
                  cnd (decide (l32 < (p1.len : Int)))
                    (
                    jn (fun (J35 : Bool → World → Prop) => tk w15 fun w16 =>
                      ix p1 l32 1 fun p36 =>
                      ld Value.string p36 w16 fun x37 =>
                      ix p1 l32 1 fun p38 =>
                      ld Value.string p38 w16 fun x39 =>
                      callC Try.prog 14 #[(Value.pointer r16.1), (Value.string x37)] (fun (r : Int) => (Value.int .i64 r)) w16 fun r40 w17 =>
                      (w17.cell? p38 = some (Value.string x39)) ∧
                      callC Try.prog 14 #[(Value.pointer r2), (Value.string x39)] (fun (r : Int) => (Value.int .i64 r)) w17 fun r41 w18 =>
                      J35 (!decide (r40 = r41)) w18
                    )
                    fun l42 w19 =>
                    cnd (l42)
                      (
                      K false w19
                      )
                      (
                      next32 (IntKind.i64.wrap (l32 + 1)) w19
                      )
                    )
                    (
                    callC Try.prog 21 #[(Value.pointer r16.1)] (fun (r : Sl) => (Sl.v r)) w15 fun r44 w20 =>
                    callC Try.prog 21 #[(Value.pointer r2)] (fun (r : Sl) => (Sl.v r)) w20 fun r45 w21 =>
                    callC Try.prog 20 #[(Sl.v r44), (Sl.v r45)] (fun (r : Bool) => (Value.bool r)) w21 fun r46 w22 =>
                    cnd (!r46)
                      (
                      K false w22
                      )
                      (
                      cnd (decide ((p0.len : Int) = 0))
                        (
                        K r1 w22
                        )
                        (
                        jn (fun (J50 : ((Option Addr) × Int) → World → Prop) => tk w22 fun w23 =>
                          ix p0 0 1 fun p51 =>
                          ld Value.string p51 w23 fun x52 =>
                          (
                            callC Try.prog 21 #[(Value.pointer r2)] (fun (r : Sl) => (Sl.v r)) w23 fun r53 w24 =>
                            (w24.cell? p51 = some (Value.string x52)) ∧
                            nw 9 #[(Value.string x52)] w24 fun b54 w25 =>
                            rn Try.prog (Builtin.append_ #[22, 22] 22 #[Sl.v r53, Sl.v (⟨some ⟨b54, 0, none⟩, 1, 1⟩ : Sl)]) Sl.v w25 fun r55 w26 =>
                            callC Try.prog 9 #[(Sl.v r55)] (fun (r : (Option Addr) × Int) => (Value.tuple #[(Value.pointer r.1), (Value.int .i64 r.2)])) w26 fun r56 w27 =>
                            J50 (r56.1, r56.2) w27
                          )
                          ∧
                          (
                            nw 9 #[(Value.string x52)] w23 fun b57 w28 =>
                            callC Try.prog 21 #[(Value.pointer r2)] (fun (r : Sl) => (Sl.v r)) w28 fun r58 w29 =>
                            rn Try.prog (Builtin.append_ #[22, 22] 22 #[Sl.v r58, Sl.v (⟨some ⟨b57, 0, none⟩, 1, 1⟩ : Sl)]) Sl.v w29 fun r59 w30 =>
                            callC Try.prog 9 #[(Sl.v r59)] (fun (r : (Option Addr) × Int) => (Value.tuple #[(Value.pointer r.1), (Value.int .i64 r.2)])) w30 fun r60 w31 =>
                            J50 (r60.1, r60.2) w31
                          )
                        )
                        fun l61 w32 =>
                        K ((r1 && l61.1.isNone) && (decide (l61.2 = 5))) w32
                        )
                      )
                    )
                ) 0 w10
                )
            ) 0 w9
            )
          )
      ) 0 w5
      )
    )
set_option maxRecDepth 100000 in
theorem D5 (p0 : Sl) (p1 : Sl) (w0 : World) (K : Bool → World → Prop) (h : F5 p0 p1 w0 K) : callC Try.prog 5 #[(Sl.v p0), (Sl.v p1)] (fun (r : Bool) => (Value.bool r)) w0 K := by
  unfold F5 at h
  refine calls_of_wpC Try.func5 rfl 119 rfl (by simp) ?_
  intro ρ hρ
  have e0 : ρ 0 = (Sl.v p0) := hρ 0
  have e1 : ρ 1 = (Sl.v p1) := hρ 1
  clear hρ
  refine wpC_seq ?_
  refine wpC_region ?_
  refine wpR_val (v := (Value.bool false)) (w' := w0) rfl rfl rfl (x_assign (v := (Value.bool false)) rfl rfl) ?_
  refine wpR_nil ?_
  refine wpC_seq ?_
  refine wpC_cut (fun ρ => ρ 0 = (Sl.v p0) ∧ ρ 1 = (Sl.v p1) ∧ True) ⟨e0, e1, trivial⟩ ?_
  rintro ρ ⟨e0, e1, -⟩
  refine wpC_region ?_
  refine wpR_enter rfl rfl rfl (x_call (vs := []) rfl rfl mapl_nil Try.func7 NN_7 NB_7) (Calls.mono h ?_)
  rintro _ w1 ⟨r1, rfl, h⟩
  refine ⟨_, rfl, ?_⟩
  refine wpR_val (v := (Value.bool r1)) (w' := w1) rfl rfl rfl (x_assign (v := (Value.bool r1)) rfl rfl) ?_
  refine wpR_nil ?_
  refine wpC_seq ?_
  refine wpC_cut (fun ρ => ρ 0 = (Sl.v p0) ∧ ρ 1 = (Sl.v p1) ∧ ρ 5 = (Value.bool r1) ∧ True) ⟨e0, e1, rfl, trivial⟩ ?_
  rintro ρ ⟨e0, e1, e5, -⟩
  refine wpC_region ?_
  refine wpR_enter rfl rfl rfl (x_call (vs := []) rfl rfl mapl_nil Try.func12 NN_12 NB_12) (Calls.mono h ?_)
  rintro _ w2 ⟨r2, rfl, h⟩
  refine ⟨_, rfl, ?_⟩
  refine wpR_val (v := (Value.pointer r2)) (w' := w2) rfl rfl rfl (x_assign (v := (Value.pointer r2)) rfl rfl) ?_
  refine wpR_nil ?_
  refine wpC_seq ?_
  refine wpC_seq ?_
  refine wpC_cut (fun ρ => ρ 0 = (Sl.v p0) ∧ ρ 1 = (Sl.v p1) ∧ ρ 5 = (Value.bool r1) ∧ ρ 6 = (Value.pointer r2) ∧ True) ⟨e0, e1, e5, rfl, trivial⟩ ?_
  rintro ρ ⟨e0, e1, e5, e6, -⟩
  refine wpC_region ?_
  refine wpR_val (v := (Sl.v p0)) (w' := w2) rfl rfl rfl (x_move (v := (Sl.v p0)) rfl e0) ?_
  refine wpR_enter rfl rfl rfl (x_call (vs := [(Sl.v p0), (Value.int .i64 24)]) rfl rfl (mapl_cons rfl (mapl_cons rfl mapl_nil)) Try.func8 NN_8 NB_8) (Calls.mono h ?_)
  rintro _ w3 ⟨r3, rfl, h⟩
  refine ⟨_, rfl, ?_⟩
  refine wpR_val (v := (Value.bool (!r3))) (w' := w3) rfl rfl rfl (x_not rfl rfl) ?_
  refine wpR_val (v := (Value.bool (!r3))) (w' := w3) rfl rfl rfl (x_move (v := (Value.bool (!r3))) rfl rfl) ?_
  obtain ⟨J4, h, hk⟩ := h
  refine wpR_joinJ 4 (fun x ρ => ρ 23 = Value.bool x ∧ ρ 0 = (Sl.v p0) ∧ ρ 1 = (Sl.v p1) ∧ ρ 5 = (Value.bool r1) ∧ ρ 6 = (Value.pointer r2) ∧ True) (J4) ?_ ?_
  · clear hk
    rcases Bool.eq_false_or_eq_true (!r3) with hc5 | hc5
    · replace h := h.1 hc5
      refine wpR_pass (wantN rfl rfl rfl hc5) rfl rfl ?_
      refine wpR_pass (wantN rfl rfl rfl hc5) rfl rfl ?_
      refine wpR_pass (wantN rfl rfl rfl hc5) rfl rfl ?_
      refine wpR_val (v := (Value.bool true)) (w' := w3) rfl rfl rfl (x_pickT (v := (Value.bool true)) rfl rfl hc5 rfl) ?_
      refine wpR_nil ?_
      exact ⟨true, ⟨rfl, e0, e1, e5, e6, trivial⟩, h⟩
    · replace h := h.2 hc5
      refine wpR_val (v := (Sl.v p1)) (w' := w3) (wantG rfl rfl rfl hc5) rfl rfl (x_move (v := (Sl.v p1)) rfl e1) ?_
      refine wpR_enter (wantG rfl rfl rfl hc5) rfl rfl (x_call (vs := [(Sl.v p1), (Value.int .i64 12)]) rfl rfl (mapl_cons rfl (mapl_cons rfl mapl_nil)) Try.func8 NN_8 NB_8) (Calls.mono h ?_)
      rintro _ w4 ⟨r6, rfl, h⟩
      refine ⟨_, rfl, ?_⟩
      refine wpR_val (v := (Value.bool (!r6))) (w' := w4) (wantG rfl rfl rfl hc5) rfl rfl (x_not rfl rfl) ?_
      refine wpR_val (v := (Value.bool (!r6))) (w' := w4) rfl rfl rfl (x_pickF (v := (Value.bool (!r6))) rfl rfl hc5 rfl) ?_
      refine wpR_nil ?_
      exact ⟨!r6, ⟨rfl, e0, e1, e5, e6, trivial⟩, h⟩
  clear h
  rintro c7 ρ w5 ⟨e23, e0, e1, e5, e6, -⟩ h
  replace h := hk c7 w5 h
  clear hk
  refine wpR_nil ?_
  refine wpC_cond (b := c7) e23 (fun hc8 => ?_) (fun hc8 => ?_)
  · replace h := h.1 hc8
    refine wpC_seq ?_
    refine wpC_region ?_
    refine wpR_val (v := (Value.bool r1)) (w' := w5) rfl rfl rfl (x_move (v := (Value.bool r1)) rfl e5) ?_
    refine wpR_val (v := (Value.bool r1)) (w' := w5) rfl rfl rfl (x_assign (v := (Value.bool r1)) rfl rfl) ?_
    refine wpR_nil ?_
    refine wpC_ret ?_
    exact ⟨.inl rfl, fun a ha => ⟨_, results_rep1 rfl ha rfl, r1, rfl, h⟩⟩
  · replace h := h.2 hc8
    refine wpC_skip ?_
    refine wpC_seq ?_
    refine wpC_seq ?_
    refine wpC_region ?_
    refine wpR_val (v := (Value.pointer r2)) (w' := w5) rfl rfl rfl (x_move (v := (Value.pointer r2)) rfl e6) ?_
    refine wpR_val (v := (Value.bool r2.isNone)) (w' := w5) rfl rfl rfl (x_eqlNil rfl rfl rfl isPtrT_25) ?_
    refine wpR_nil ?_
    refine wpC_cond (b := r2.isNone) rfl (fun hc9 => ?_) (fun hc9 => ?_)
    · replace h := h.1 hc9
      refine wpC_seq ?_
      refine wpC_cut (fun ρ => True) trivial ?_
      rintro ρ -
      refine wpC_region ?_
      refine wpR_val (v := (Value.bool false)) (w' := w5) rfl rfl rfl (x_assign (v := (Value.bool false)) rfl rfl) ?_
      refine wpR_nil ?_
      refine wpC_ret ?_
      exact ⟨.inl rfl, fun a ha => ⟨_, results_rep1 rfl ha rfl, false, rfl, h⟩⟩
    · replace h := h.2 hc9
      refine wpC_skip ?_
      refine wpC_seq ?_
      refine wpC_seq ?_
      refine wpC_cut (fun ρ => ρ 0 = (Sl.v p0) ∧ ρ 1 = (Sl.v p1) ∧ ρ 5 = (Value.bool r1) ∧ ρ 6 = (Value.pointer r2) ∧ True) ⟨e0, e1, e5, e6, trivial⟩ ?_
      rintro ρ ⟨e0, e1, e5, e6, -⟩
      refine wpC_region ?_
      refine wpR_val (v := (Value.int .i64 0)) (w' := w5) rfl rfl rfl (x_assign (v := (Value.int .i64 0)) rfl rfl) ?_
      refine wpR_nil ?_
      refine wpC_block ?_
      obtain ⟨I10, μ10, hI10, hr10⟩ := h
      refine wpC_loop (fun (x : Int) ρ => ρ 7 = (Value.int .i64 x) ∧ ρ 0 = (Sl.v p0) ∧ ρ 1 = (Sl.v p1) ∧ ρ 5 = (Value.bool r1) ∧ ρ 6 = (Value.pointer r2) ∧ True) I10 μ10 0 ⟨rfl, e0, e1, e5, e6, trivial⟩ hI10 ?_
      rintro l10 ρ w6 ⟨e7, e0, e1, e5, e6, -⟩ h
      replace h := hr10 l10 w6 h
      clear hr10 hI10
      refine wpC_seq ?_
      refine wpC_seq ?_
      refine wpC_region ?_
      refine wpR_val (v := (Value.int .i64 l10)) (w' := w6) rfl rfl rfl (x_move (v := (Value.int .i64 l10)) rfl e7) ?_
      refine wpR_val (v := (Sl.v p0)) (w' := w6) rfl rfl rfl (x_move (v := (Sl.v p0)) rfl e0) ?_
      refine wpR_val (v := (Value.int .i64 (p0.len : Int))) (w' := w6) rfl rfl rfl (x_lenS (s := p0) rfl rfl isSliceT_22) ?_
      refine wpR_val (v := (Value.bool (decide (l10 < (p0.len : Int))))) (w' := w6) rfl rfl rfl (x_lss rfl rfl rfl) ?_
      refine wpR_nil ?_
      refine wpC_cond (b := decide (l10 < (p0.len : Int))) rfl (fun hc11 => ?_) (fun hc11 => ?_)
      · replace h := h.1 hc11
        refine wpC_skip ?_
        refine wpC_seq ?_
        refine wpC_block ?_
        refine wpC_cut (fun ρ => ρ 0 = (Sl.v p0) ∧ ρ 1 = (Sl.v p1) ∧ ρ 5 = (Value.bool r1) ∧ ρ 6 = (Value.pointer r2) ∧ ρ 7 = (Value.int .i64 l10) ∧ True) ⟨e0, e1, e5, e6, e7, trivial⟩ ?_
        rintro ρ ⟨e0, e1, e5, e6, e7, -⟩
        refine wpC_region ?_
        refine wpR_val (v := (Value.pointer r2)) (w' := w6) rfl rfl rfl (x_move (v := (Value.pointer r2)) rfl e6) ?_
        refine wpR_val (v := (Sl.v p0)) (w' := w6) rfl rfl rfl (x_move (v := (Sl.v p0)) rfl e0) ?_
        refine wpR_val (v := (Value.int .i64 l10)) (w' := w6) rfl rfl rfl (x_move (v := (Value.int .i64 l10)) rfl e7) ?_
        obtain ⟨q12, z12, r12, h⟩ := h
        generalize hp12 : z12.add ((l10 : Int).toNat * 1) = p12 at h
        refine wpR_val (v := (Value.pointer (some p12))) (w' := w6) rfl rfl rfl ((x_indexAddr (s := p0) rfl rfl rfl ES_22 q12 r12).trans (by rw [hp12])) ?_
        obtain ⟨x13, q13, h⟩ := h
        refine wpR_val (v := (Value.string x13)) (w' := w6) rfl rfl rfl (x_load1 rfl rfl SH_9 q13) ?_
        refine wpR_enter rfl rfl rfl (x_call (vs := [(Value.pointer r2), (Value.string x13)]) rfl rfl (mapl_cons rfl (mapl_cons rfl mapl_nil)) Try.func14 NN_14 NB_14) (Calls.mono h ?_)
        rintro _ w7 ⟨r14, rfl, h⟩
        refine ⟨_, rfl, ?_⟩
        refine wpR_nil ?_
        refine wpC_cut (fun ρ => ρ 0 = (Sl.v p0) ∧ ρ 1 = (Sl.v p1) ∧ ρ 5 = (Value.bool r1) ∧ ρ 6 = (Value.pointer r2) ∧ ρ 7 = (Value.int .i64 l10) ∧ True) ⟨e0, e1, e5, e6, e7, trivial⟩ ?_
        rintro ρ ⟨e0, e1, e5, e6, e7, -⟩
        refine wpC_region ?_
        refine wpR_val (v := (Value.int .i64 l10)) (w' := w7) rfl rfl rfl (x_move (v := (Value.int .i64 l10)) rfl e7) ?_
        refine wpR_val (v := (Value.int .i64 (IntKind.i64.wrap (l10 + 1)))) (w' := w7) rfl rfl rfl (x_add rfl rfl rfl) ?_
        refine wpR_val (v := (Value.int .i64 (IntKind.i64.wrap (l10 + 1)))) (w' := w7) rfl rfl rfl (x_assign (v := (Value.int .i64 (IntKind.i64.wrap (l10 + 1)))) rfl rfl) ?_
        refine wpR_nil ?_
        exact ⟨IntKind.i64.wrap (l10 + 1), ⟨rfl, e0, e1, e5, e6, trivial⟩, h⟩
      · replace h := h.2 hc11
        refine wpC_exit ?_
        refine wpC_seq ?_
        refine wpC_cut (fun ρ => ρ 0 = (Sl.v p0) ∧ ρ 1 = (Sl.v p1) ∧ ρ 5 = (Value.bool r1) ∧ ρ 6 = (Value.pointer r2) ∧ True) ⟨e0, e1, e5, e6, trivial⟩ ?_
        rintro ρ ⟨e0, e1, e5, e6, -⟩
        refine wpC_region ?_
        refine wpR_val (v := (Value.pointer r2)) (w' := w6) rfl rfl rfl (x_move (v := (Value.pointer r2)) rfl e6) ?_
        refine wpR_enter rfl rfl rfl (x_call (vs := [(Value.pointer r2)]) rfl rfl (mapl_cons rfl mapl_nil) Try.func21 NN_21 NB_21) (Calls.mono h ?_)
        rintro _ w8 ⟨r15, rfl, h⟩
        refine ⟨_, rfl, ?_⟩
        refine wpR_enter rfl rfl rfl (x_call (vs := [(Sl.v r15)]) rfl rfl (mapl_cons rfl mapl_nil) Try.func9 NN_9 NB_9) (Calls.mono h ?_)
        rintro _ w9 ⟨r16, rfl, h⟩
        refine ⟨_, rfl, ?_⟩
        refine wpR_val (v := (Value.tuple #[(Value.pointer r16.1), (Value.int .i64 r16.2)])) (w' := w9) rfl rfl rfl (x_move (v := (Value.tuple #[(Value.pointer r16.1), (Value.int .i64 r16.2)])) rfl rfl) ?_
        refine wpR_val (v := (Value.pointer r16.1)) (w' := w9) rfl rfl rfl (x_extract rfl rfl rfl) ?_
        refine wpR_val (v := (Value.int .i64 r16.2)) (w' := w9) rfl rfl rfl (x_extract rfl rfl rfl) ?_
        refine wpR_val (v := (Value.pointer r16.1)) (w' := w9) rfl rfl rfl (x_assign (v := (Value.pointer r16.1)) rfl rfl) ?_
        refine wpR_val (v := (Value.int .i64 r16.2)) (w' := w9) rfl rfl rfl (x_assign (v := (Value.int .i64 r16.2)) rfl rfl) ?_
        refine wpR_nil ?_
        refine wpC_seq ?_
        refine wpC_seq ?_
        refine wpC_cut (fun ρ => ρ 0 = (Sl.v p0) ∧ ρ 1 = (Sl.v p1) ∧ ρ 5 = (Value.bool r1) ∧ ρ 6 = (Value.pointer r2) ∧ ρ 8 = (Value.pointer r16.1) ∧ ρ 9 = (Value.int .i64 r16.2) ∧ True) ⟨e0, e1, e5, e6, rfl, rfl, trivial⟩ ?_
        rintro ρ ⟨e0, e1, e5, e6, e8, e9, -⟩
        refine wpC_region ?_
        refine wpR_val (v := (Value.int .i64 r16.2)) (w' := w9) rfl rfl rfl (x_move (v := (Value.int .i64 r16.2)) rfl e9) ?_
        refine wpR_val (v := (Value.bool (!decide (r16.2 = 0)))) (w' := w9) rfl rfl rfl (x_neq rfl rfl rfl) ?_
        refine wpR_val (v := (Value.bool (!decide (r16.2 = 0)))) (w' := w9) rfl rfl rfl (x_move (v := (Value.bool (!decide (r16.2 = 0)))) rfl rfl) ?_
        refine wpR_joinJ 3 (fun (_ : Unit) ρ => ρ 50 = Value.bool ((!decide (r16.2 = 0)) || r16.1.isNone) ∧ ρ 0 = (Sl.v p0) ∧ ρ 1 = (Sl.v p1) ∧ ρ 5 = (Value.bool r1) ∧ ρ 6 = (Value.pointer r2) ∧ ρ 8 = (Value.pointer r16.1) ∧ True) (fun _ w => w9 = w) ?_ ?_
        · clear h
          rcases Bool.eq_false_or_eq_true (!decide (r16.2 = 0)) with hc18 | hc18
          · skip
            refine wpR_pass (wantN rfl rfl rfl hc18) rfl rfl ?_
            refine wpR_pass (wantN rfl rfl rfl hc18) rfl rfl ?_
            refine wpR_val (v := (Value.bool true)) (w' := w9) rfl rfl rfl (x_pickT (v := (Value.bool true)) rfl rfl hc18 rfl) ?_
            refine wpR_nil ?_
            exact ⟨(), ⟨(by rw [hc18]; rfl), e0, e1, e5, e6, e8, trivial⟩, rfl⟩
          · skip
            refine wpR_val (v := (Value.pointer r16.1)) (w' := w9) (wantG rfl rfl rfl hc18) rfl rfl (x_move (v := (Value.pointer r16.1)) rfl e8) ?_
            refine wpR_val (v := (Value.bool r16.1.isNone)) (w' := w9) (wantG rfl rfl rfl hc18) rfl rfl (x_eqlNil rfl rfl rfl isPtrT_25) ?_
            refine wpR_val (v := (Value.bool r16.1.isNone)) (w' := w9) rfl rfl rfl (x_pickF (v := (Value.bool r16.1.isNone)) rfl rfl hc18 rfl) ?_
            refine wpR_nil ?_
            exact ⟨(), ⟨(by rw [hc18]; rfl), e0, e1, e5, e6, e8, trivial⟩, rfl⟩
        rintro _ ρ wj ⟨e50, e0, e1, e5, e6, e8, -⟩ rfl
        refine wpR_nil ?_
        refine wpC_cond (b := (!decide (r16.2 = 0)) || r16.1.isNone) e50 (fun hc19 => ?_) (fun hc19 => ?_)
        · replace h := h.1 hc19
          refine wpC_seq ?_
          refine wpC_region ?_
          refine wpR_val (v := (Value.bool false)) (w' := w9) rfl rfl rfl (x_assign (v := (Value.bool false)) rfl rfl) ?_
          refine wpR_nil ?_
          refine wpC_ret ?_
          exact ⟨.inl rfl, fun a ha => ⟨_, results_rep1 rfl ha rfl, false, rfl, h⟩⟩
        · replace h := h.2 hc19
          refine wpC_skip ?_
          refine wpC_seq ?_
          refine wpC_seq ?_
          refine wpC_region ?_
          refine wpR_val (v := (Value.int .i64 0)) (w' := w9) rfl rfl rfl (x_assign (v := (Value.int .i64 0)) rfl rfl) ?_
          refine wpR_nil ?_
          refine wpC_block ?_
          obtain ⟨I20, μ20, hI20, hr20⟩ := h
          refine wpC_loop (fun (x : Int) ρ => ρ 10 = (Value.int .i64 x) ∧ ρ 0 = (Sl.v p0) ∧ ρ 1 = (Sl.v p1) ∧ ρ 5 = (Value.bool r1) ∧ ρ 6 = (Value.pointer r2) ∧ ρ 8 = (Value.pointer r16.1) ∧ True) I20 μ20 0 ⟨rfl, e0, e1, e5, e6, e8, trivial⟩ hI20 ?_
          rintro l20 ρ w10 ⟨e10, e0, e1, e5, e6, e8, -⟩ h
          replace h := hr20 l20 w10 h
          clear hr20 hI20
          refine wpC_seq ?_
          refine wpC_seq ?_
          refine wpC_region ?_
          refine wpR_val (v := (Value.int .i64 l20)) (w' := w10) rfl rfl rfl (x_move (v := (Value.int .i64 l20)) rfl e10) ?_
          refine wpR_val (v := (Sl.v p0)) (w' := w10) rfl rfl rfl (x_move (v := (Sl.v p0)) rfl e0) ?_
          refine wpR_val (v := (Value.int .i64 (p0.len : Int))) (w' := w10) rfl rfl rfl (x_lenS (s := p0) rfl rfl isSliceT_22) ?_
          refine wpR_val (v := (Value.bool (decide (l20 < (p0.len : Int))))) (w' := w10) rfl rfl rfl (x_lss rfl rfl rfl) ?_
          refine wpR_nil ?_
          refine wpC_cond (b := decide (l20 < (p0.len : Int))) rfl (fun hc21 => ?_) (fun hc21 => ?_)
          · replace h := h.1 hc21
            refine wpC_skip ?_
            refine wpC_seq ?_
            refine wpC_block ?_
            refine wpC_seq ?_
            refine wpC_cut (fun ρ => ρ 0 = (Sl.v p0) ∧ ρ 1 = (Sl.v p1) ∧ ρ 5 = (Value.bool r1) ∧ ρ 6 = (Value.pointer r2) ∧ ρ 8 = (Value.pointer r16.1) ∧ ρ 10 = (Value.int .i64 l20) ∧ True) ⟨e0, e1, e5, e6, e8, e10, trivial⟩ ?_
            rintro ρ ⟨e0, e1, e5, e6, e8, e10, -⟩
            obtain ⟨J23, h, hk⟩ := h
            refine wpC_drawJ (by kernel_rfl) (fun (x : Bool) ρ => ρ 69 = (Value.bool x) ∧ ρ 0 = (Sl.v p0) ∧ ρ 1 = (Sl.v p1) ∧ ρ 5 = (Value.bool r1) ∧ ρ 6 = (Value.pointer r2) ∧ ρ 8 = (Value.pointer r16.1) ∧ ρ 10 = (Value.int .i64 l20) ∧ True) J23 ?_ ?_
            · clear hk
              unfold tk at h
              generalize w10.drew = w11 at h ⊢
              refine wpD_take (v := (Value.pointer r16.1)) 0 (fun _ => True) rfl (by kernel_rfl) (by kernel_rfl) (by kernel_rfl) rfl rfl rfl trivial (fun w _ => (x_move (v := (Value.pointer r16.1)) rfl e8)) ?_
              refine wpD_take (v := (Sl.v p0)) 1 (fun _ => True) rfl (by kernel_rfl) (by kernel_rfl) (by kernel_rfl) rfl rfl rfl trivial (fun w _ => (x_move (v := (Sl.v p0)) rfl e0)) ?_
              refine wpD_take (v := (Value.int .i64 l20)) 2 (fun _ => True) rfl (by kernel_rfl) (by kernel_rfl) (by kernel_rfl) rfl rfl rfl trivial (fun w _ => (x_move (v := (Value.int .i64 l20)) rfl e10)) ?_
              obtain ⟨q24, z24, r24, h⟩ := h
              generalize hp24 : z24.add ((l20 : Int).toNat * 1) = p24 at h
              refine wpD_take (v := (Value.pointer (some p24))) 3 (fun _ => True) rfl (by kernel_rfl) (by kernel_rfl) (by kernel_rfl) rfl rfl rfl trivial (fun w _ => ((x_indexAddr (s := p0) rfl rfl rfl ES_22 q24 r24).trans (by rw [hp24]))) ?_
              obtain ⟨x25, q25, h⟩ := h
              refine wpD_take (v := (Value.string x25)) 4 (fun w => w.cell? p24 = some (Value.string x25)) rfl (by kernel_rfl) (by kernel_rfl) (by kernel_rfl) rfl rfl rfl q25 (fun w q25 => (x_load1 rfl rfl SH_9 q25)) ?_
              refine wpD_take (v := (Value.pointer r2)) 6 (fun _ => True) rfl (by kernel_rfl) (by kernel_rfl) (by kernel_rfl) rfl rfl rfl trivial (fun w _ => (x_move (v := (Value.pointer r2)) rfl e6)) ?_
              refine wpD_take (v := (Sl.v p0)) 7 (fun _ => True) rfl (by kernel_rfl) (by kernel_rfl) (by kernel_rfl) rfl rfl rfl trivial (fun w _ => (x_move (v := (Sl.v p0)) rfl e0)) ?_
              refine wpD_take (v := (Value.int .i64 l20)) 8 (fun _ => True) rfl (by kernel_rfl) (by kernel_rfl) (by kernel_rfl) rfl rfl rfl trivial (fun w _ => (x_move (v := (Value.int .i64 l20)) rfl e10)) ?_
              obtain ⟨q26, z26, r26, h⟩ := h
              generalize hp26 : z26.add ((l20 : Int).toNat * 1) = p26 at h
              refine wpD_take (v := (Value.pointer (some p26))) 9 (fun _ => True) rfl (by kernel_rfl) (by kernel_rfl) (by kernel_rfl) rfl rfl rfl trivial (fun w _ => ((x_indexAddr (s := p0) rfl rfl rfl ES_22 q26 r26).trans (by rw [hp26]))) ?_
              obtain ⟨x27, q27, h⟩ := h
              refine wpD_take (v := (Value.string x27)) 10 (fun w => w.cell? p26 = some (Value.string x27)) rfl (by kernel_rfl) (by kernel_rfl) (by kernel_rfl) rfl rfl rfl q27 (fun w q27 => (x_load1 rfl rfl SH_9 q27)) ?_
              refine wpD_all (rs := [5]) (by kernel_rfl) (by simp) (allD_cons ?_ allD_nil)
              refine stepD_enterL (L' := [(10, fun w => w.cell? p26 = some (Value.string x27)), (9, fun _ => True), (8, fun _ => True), (7, fun _ => True), (6, fun _ => True), (3, fun _ => True), (2, fun _ => True), (1, fun _ => True)]) rfl rfl rfl rfl (x_call (vs := [(Value.pointer r16.1), (Value.string x25)]) rfl rfl (mapl_cons rfl (mapl_cons rfl mapl_nil)) Try.func14 NN_14 NB_14) (by kernel_rfl) (Calls.mono h ?_)
              rintro _ w12 ⟨r28, rfl, h⟩
              obtain ⟨o10, h⟩ := h
              refine ⟨_, rfl, (held_cons o10 (held_cons trivial (held_cons trivial (held_cons trivial (held_cons trivial (held_cons trivial (held_cons trivial (held_cons trivial held_nil)))))))), ?_⟩
              refine wpD_all (rs := [11]) (by kernel_rfl) (by simp) (allD_cons ?_ allD_nil)
              refine stepD_enterL (L' := [(9, fun _ => True), (8, fun _ => True), (7, fun _ => True), (3, fun _ => True), (2, fun _ => True), (1, fun _ => True)]) rfl rfl rfl rfl (x_call (vs := [(Value.pointer r2), (Value.string x27)]) rfl rfl (mapl_cons rfl (mapl_cons rfl mapl_nil)) Try.func14 NN_14 NB_14) (by kernel_rfl) (Calls.mono h ?_)
              rintro _ w13 ⟨r29, rfl, h⟩
              refine ⟨_, rfl, (held_cons trivial (held_cons trivial (held_cons trivial (held_cons trivial (held_cons trivial (held_cons trivial held_nil)))))), ?_⟩
              refine wpD_take (v := (Value.bool (!decide (r28 = r29)))) 12 (fun _ => True) rfl (by kernel_rfl) (by kernel_rfl) (by kernel_rfl) rfl rfl rfl trivial (fun w _ => (x_neq rfl rfl rfl)) ?_
              exact wpD_done (by kernel_rfl) ⟨!decide (r28 = r29), ⟨rfl, e0, e1, e5, e6, e8, e10, trivial⟩, h⟩
            clear h
            rintro l30 ρ w14 ⟨e69, e0, e1, e5, e6, e8, e10, -⟩ h
            replace h := hk l30 w14 h
            clear hk
            refine wpC_cond (b := l30) e69 (fun hc31 => ?_) (fun hc31 => ?_)
            · replace h := h.1 hc31
              refine wpC_seq ?_
              refine wpC_region ?_
              refine wpR_val (v := (Value.bool false)) (w' := w14) rfl rfl rfl (x_assign (v := (Value.bool false)) rfl rfl) ?_
              refine wpR_nil ?_
              refine wpC_ret ?_
              exact ⟨.inl rfl, fun a ha => ⟨_, results_rep1 rfl ha rfl, false, rfl, h⟩⟩
            · replace h := h.2 hc31
              refine wpC_skip ?_
              refine wpC_region ?_
              refine wpR_val (v := (Value.int .i64 l20)) (w' := w14) rfl rfl rfl (x_move (v := (Value.int .i64 l20)) rfl e10) ?_
              refine wpR_val (v := (Value.int .i64 (IntKind.i64.wrap (l20 + 1)))) (w' := w14) rfl rfl rfl (x_add rfl rfl rfl) ?_
              refine wpR_val (v := (Value.int .i64 (IntKind.i64.wrap (l20 + 1)))) (w' := w14) rfl rfl rfl (x_assign (v := (Value.int .i64 (IntKind.i64.wrap (l20 + 1)))) rfl rfl) ?_
              refine wpR_nil ?_
              exact ⟨IntKind.i64.wrap (l20 + 1), ⟨rfl, e0, e1, e5, e6, e8, trivial⟩, h⟩
          · replace h := h.2 hc21
            refine wpC_exit ?_
            refine wpC_seq ?_
            refine wpC_seq ?_
            refine wpC_cut (fun ρ => ρ 0 = (Sl.v p0) ∧ ρ 1 = (Sl.v p1) ∧ ρ 5 = (Value.bool r1) ∧ ρ 6 = (Value.pointer r2) ∧ ρ 8 = (Value.pointer r16.1) ∧ True) ⟨e0, e1, e5, e6, e8, trivial⟩ ?_
            rintro ρ ⟨e0, e1, e5, e6, e8, -⟩
            refine wpC_region ?_
            refine wpR_val (v := (Value.int .i64 0)) (w' := w10) rfl rfl rfl (x_assign (v := (Value.int .i64 0)) rfl rfl) ?_
            refine wpR_nil ?_
            refine wpC_block ?_
            obtain ⟨I32, μ32, hI32, hr32⟩ := h
            refine wpC_loop (fun (x : Int) ρ => ρ 11 = (Value.int .i64 x) ∧ ρ 0 = (Sl.v p0) ∧ ρ 1 = (Sl.v p1) ∧ ρ 5 = (Value.bool r1) ∧ ρ 6 = (Value.pointer r2) ∧ ρ 8 = (Value.pointer r16.1) ∧ True) I32 μ32 0 ⟨rfl, e0, e1, e5, e6, e8, trivial⟩ hI32 ?_
            rintro l32 ρ w15 ⟨e11, e0, e1, e5, e6, e8, -⟩ h
            replace h := hr32 l32 w15 h
            clear hr32 hI32
            refine wpC_seq ?_
            refine wpC_seq ?_
            refine wpC_region ?_
            refine wpR_val (v := (Value.int .i64 l32)) (w' := w15) rfl rfl rfl (x_move (v := (Value.int .i64 l32)) rfl e11) ?_
            refine wpR_val (v := (Sl.v p1)) (w' := w15) rfl rfl rfl (x_move (v := (Sl.v p1)) rfl e1) ?_
            refine wpR_val (v := (Value.int .i64 (p1.len : Int))) (w' := w15) rfl rfl rfl (x_lenS (s := p1) rfl rfl isSliceT_22) ?_
            refine wpR_val (v := (Value.bool (decide (l32 < (p1.len : Int))))) (w' := w15) rfl rfl rfl (x_lss rfl rfl rfl) ?_
            refine wpR_nil ?_
            refine wpC_cond (b := decide (l32 < (p1.len : Int))) rfl (fun hc33 => ?_) (fun hc33 => ?_)
            · replace h := h.1 hc33
              refine wpC_skip ?_
              refine wpC_seq ?_
              refine wpC_block ?_
              refine wpC_seq ?_
              refine wpC_cut (fun ρ => ρ 0 = (Sl.v p0) ∧ ρ 1 = (Sl.v p1) ∧ ρ 5 = (Value.bool r1) ∧ ρ 6 = (Value.pointer r2) ∧ ρ 8 = (Value.pointer r16.1) ∧ ρ 11 = (Value.int .i64 l32) ∧ True) ⟨e0, e1, e5, e6, e8, e11, trivial⟩ ?_
              rintro ρ ⟨e0, e1, e5, e6, e8, e11, -⟩
              obtain ⟨J35, h, hk⟩ := h
              refine wpC_drawJ (by kernel_rfl) (fun (x : Bool) ρ => ρ 88 = (Value.bool x) ∧ ρ 0 = (Sl.v p0) ∧ ρ 1 = (Sl.v p1) ∧ ρ 5 = (Value.bool r1) ∧ ρ 6 = (Value.pointer r2) ∧ ρ 8 = (Value.pointer r16.1) ∧ ρ 11 = (Value.int .i64 l32) ∧ True) J35 ?_ ?_
              · clear hk
                unfold tk at h
                generalize w15.drew = w16 at h ⊢
                refine wpD_take (v := (Value.pointer r16.1)) 0 (fun _ => True) rfl (by kernel_rfl) (by kernel_rfl) (by kernel_rfl) rfl rfl rfl trivial (fun w _ => (x_move (v := (Value.pointer r16.1)) rfl e8)) ?_
                refine wpD_take (v := (Sl.v p1)) 1 (fun _ => True) rfl (by kernel_rfl) (by kernel_rfl) (by kernel_rfl) rfl rfl rfl trivial (fun w _ => (x_move (v := (Sl.v p1)) rfl e1)) ?_
                refine wpD_take (v := (Value.int .i64 l32)) 2 (fun _ => True) rfl (by kernel_rfl) (by kernel_rfl) (by kernel_rfl) rfl rfl rfl trivial (fun w _ => (x_move (v := (Value.int .i64 l32)) rfl e11)) ?_
                obtain ⟨q36, z36, r36, h⟩ := h
                generalize hp36 : z36.add ((l32 : Int).toNat * 1) = p36 at h
                refine wpD_take (v := (Value.pointer (some p36))) 3 (fun _ => True) rfl (by kernel_rfl) (by kernel_rfl) (by kernel_rfl) rfl rfl rfl trivial (fun w _ => ((x_indexAddr (s := p1) rfl rfl rfl ES_22 q36 r36).trans (by rw [hp36]))) ?_
                obtain ⟨x37, q37, h⟩ := h
                refine wpD_take (v := (Value.string x37)) 4 (fun w => w.cell? p36 = some (Value.string x37)) rfl (by kernel_rfl) (by kernel_rfl) (by kernel_rfl) rfl rfl rfl q37 (fun w q37 => (x_load1 rfl rfl SH_9 q37)) ?_
                refine wpD_take (v := (Value.pointer r2)) 6 (fun _ => True) rfl (by kernel_rfl) (by kernel_rfl) (by kernel_rfl) rfl rfl rfl trivial (fun w _ => (x_move (v := (Value.pointer r2)) rfl e6)) ?_
                refine wpD_take (v := (Sl.v p1)) 7 (fun _ => True) rfl (by kernel_rfl) (by kernel_rfl) (by kernel_rfl) rfl rfl rfl trivial (fun w _ => (x_move (v := (Sl.v p1)) rfl e1)) ?_
                refine wpD_take (v := (Value.int .i64 l32)) 8 (fun _ => True) rfl (by kernel_rfl) (by kernel_rfl) (by kernel_rfl) rfl rfl rfl trivial (fun w _ => (x_move (v := (Value.int .i64 l32)) rfl e11)) ?_
                obtain ⟨q38, z38, r38, h⟩ := h
                generalize hp38 : z38.add ((l32 : Int).toNat * 1) = p38 at h
                refine wpD_take (v := (Value.pointer (some p38))) 9 (fun _ => True) rfl (by kernel_rfl) (by kernel_rfl) (by kernel_rfl) rfl rfl rfl trivial (fun w _ => ((x_indexAddr (s := p1) rfl rfl rfl ES_22 q38 r38).trans (by rw [hp38]))) ?_
                obtain ⟨x39, q39, h⟩ := h
                refine wpD_take (v := (Value.string x39)) 10 (fun w => w.cell? p38 = some (Value.string x39)) rfl (by kernel_rfl) (by kernel_rfl) (by kernel_rfl) rfl rfl rfl q39 (fun w q39 => (x_load1 rfl rfl SH_9 q39)) ?_
                refine wpD_all (rs := [5]) (by kernel_rfl) (by simp) (allD_cons ?_ allD_nil)
                refine stepD_enterL (L' := [(10, fun w => w.cell? p38 = some (Value.string x39)), (9, fun _ => True), (8, fun _ => True), (7, fun _ => True), (6, fun _ => True), (3, fun _ => True), (2, fun _ => True), (1, fun _ => True)]) rfl rfl rfl rfl (x_call (vs := [(Value.pointer r16.1), (Value.string x37)]) rfl rfl (mapl_cons rfl (mapl_cons rfl mapl_nil)) Try.func14 NN_14 NB_14) (by kernel_rfl) (Calls.mono h ?_)
                rintro _ w17 ⟨r40, rfl, h⟩
                obtain ⟨o10, h⟩ := h
                refine ⟨_, rfl, (held_cons o10 (held_cons trivial (held_cons trivial (held_cons trivial (held_cons trivial (held_cons trivial (held_cons trivial (held_cons trivial held_nil)))))))), ?_⟩
                refine wpD_all (rs := [11]) (by kernel_rfl) (by simp) (allD_cons ?_ allD_nil)
                refine stepD_enterL (L' := [(9, fun _ => True), (8, fun _ => True), (7, fun _ => True), (3, fun _ => True), (2, fun _ => True), (1, fun _ => True)]) rfl rfl rfl rfl (x_call (vs := [(Value.pointer r2), (Value.string x39)]) rfl rfl (mapl_cons rfl (mapl_cons rfl mapl_nil)) Try.func14 NN_14 NB_14) (by kernel_rfl) (Calls.mono h ?_)
                rintro _ w18 ⟨r41, rfl, h⟩
                refine ⟨_, rfl, (held_cons trivial (held_cons trivial (held_cons trivial (held_cons trivial (held_cons trivial (held_cons trivial held_nil)))))), ?_⟩
                refine wpD_take (v := (Value.bool (!decide (r40 = r41)))) 12 (fun _ => True) rfl (by kernel_rfl) (by kernel_rfl) (by kernel_rfl) rfl rfl rfl trivial (fun w _ => (x_neq rfl rfl rfl)) ?_
                exact wpD_done (by kernel_rfl) ⟨!decide (r40 = r41), ⟨rfl, e0, e1, e5, e6, e8, e11, trivial⟩, h⟩
              clear h
              rintro l42 ρ w19 ⟨e88, e0, e1, e5, e6, e8, e11, -⟩ h
              replace h := hk l42 w19 h
              clear hk
              refine wpC_cond (b := l42) e88 (fun hc43 => ?_) (fun hc43 => ?_)
              · replace h := h.1 hc43
                refine wpC_seq ?_
                refine wpC_region ?_
                refine wpR_val (v := (Value.bool false)) (w' := w19) rfl rfl rfl (x_assign (v := (Value.bool false)) rfl rfl) ?_
                refine wpR_nil ?_
                refine wpC_ret ?_
                exact ⟨.inl rfl, fun a ha => ⟨_, results_rep1 rfl ha rfl, false, rfl, h⟩⟩
              · replace h := h.2 hc43
                refine wpC_skip ?_
                refine wpC_region ?_
                refine wpR_val (v := (Value.int .i64 l32)) (w' := w19) rfl rfl rfl (x_move (v := (Value.int .i64 l32)) rfl e11) ?_
                refine wpR_val (v := (Value.int .i64 (IntKind.i64.wrap (l32 + 1)))) (w' := w19) rfl rfl rfl (x_add rfl rfl rfl) ?_
                refine wpR_val (v := (Value.int .i64 (IntKind.i64.wrap (l32 + 1)))) (w' := w19) rfl rfl rfl (x_assign (v := (Value.int .i64 (IntKind.i64.wrap (l32 + 1)))) rfl rfl) ?_
                refine wpR_nil ?_
                exact ⟨IntKind.i64.wrap (l32 + 1), ⟨rfl, e0, e1, e5, e6, e8, trivial⟩, h⟩
            · replace h := h.2 hc33
              refine wpC_exit ?_
              refine wpC_seq ?_
              refine wpC_seq ?_
              refine wpC_cut (fun ρ => ρ 0 = (Sl.v p0) ∧ ρ 5 = (Value.bool r1) ∧ ρ 6 = (Value.pointer r2) ∧ ρ 8 = (Value.pointer r16.1) ∧ True) ⟨e0, e5, e6, e8, trivial⟩ ?_
              rintro ρ ⟨e0, e5, e6, e8, -⟩
              refine wpC_region ?_
              refine wpR_val (v := (Value.pointer r16.1)) (w' := w15) rfl rfl rfl (x_move (v := (Value.pointer r16.1)) rfl e8) ?_
              refine wpR_enter rfl rfl rfl (x_call (vs := [(Value.pointer r16.1)]) rfl rfl (mapl_cons rfl mapl_nil) Try.func21 NN_21 NB_21) (Calls.mono h ?_)
              rintro _ w20 ⟨r44, rfl, h⟩
              refine ⟨_, rfl, ?_⟩
              refine wpR_val (v := (Value.pointer r2)) (w' := w20) rfl rfl rfl (x_move (v := (Value.pointer r2)) rfl e6) ?_
              refine wpR_enter rfl rfl rfl (x_call (vs := [(Value.pointer r2)]) rfl rfl (mapl_cons rfl mapl_nil) Try.func21 NN_21 NB_21) (Calls.mono h ?_)
              rintro _ w21 ⟨r45, rfl, h⟩
              refine ⟨_, rfl, ?_⟩
              refine wpR_enter rfl rfl rfl (x_call (vs := [(Sl.v r44), (Sl.v r45)]) rfl rfl (mapl_cons rfl (mapl_cons rfl mapl_nil)) Try.func20 NN_20 NB_20) (Calls.mono h ?_)
              rintro _ w22 ⟨r46, rfl, h⟩
              refine ⟨_, rfl, ?_⟩
              refine wpR_val (v := (Value.bool (!r46))) (w' := w22) rfl rfl rfl (x_not rfl rfl) ?_
              refine wpR_nil ?_
              refine wpC_cond (b := !r46) rfl (fun hc47 => ?_) (fun hc47 => ?_)
              · replace h := h.1 hc47
                refine wpC_seq ?_
                refine wpC_cut (fun ρ => True) trivial ?_
                rintro ρ -
                refine wpC_region ?_
                refine wpR_val (v := (Value.bool false)) (w' := w22) rfl rfl rfl (x_assign (v := (Value.bool false)) rfl rfl) ?_
                refine wpR_nil ?_
                refine wpC_ret ?_
                exact ⟨.inl rfl, fun a ha => ⟨_, results_rep1 rfl ha rfl, false, rfl, h⟩⟩
              · replace h := h.2 hc47
                refine wpC_skip ?_
                refine wpC_seq ?_
                refine wpC_seq ?_
                refine wpC_cut (fun ρ => ρ 0 = (Sl.v p0) ∧ ρ 5 = (Value.bool r1) ∧ ρ 6 = (Value.pointer r2) ∧ True) ⟨e0, e5, e6, trivial⟩ ?_
                rintro ρ ⟨e0, e5, e6, -⟩
                refine wpC_region ?_
                refine wpR_val (v := (Sl.v p0)) (w' := w22) rfl rfl rfl (x_move (v := (Sl.v p0)) rfl e0) ?_
                refine wpR_val (v := (Value.int .i64 (p0.len : Int))) (w' := w22) rfl rfl rfl (x_lenS (s := p0) rfl rfl isSliceT_22) ?_
                refine wpR_val (v := (Value.bool (decide ((p0.len : Int) = 0)))) (w' := w22) rfl rfl rfl (x_eql rfl rfl rfl) ?_
                refine wpR_nil ?_
                refine wpC_cond (b := decide ((p0.len : Int) = 0)) rfl (fun hc48 => ?_) (fun hc48 => ?_)
                · replace h := h.1 hc48
                  refine wpC_seq ?_
                  refine wpC_cut (fun ρ => ρ 5 = (Value.bool r1) ∧ True) ⟨e5, trivial⟩ ?_
                  rintro ρ ⟨e5, -⟩
                  refine wpC_region ?_
                  refine wpR_val (v := (Value.bool r1)) (w' := w22) rfl rfl rfl (x_move (v := (Value.bool r1)) rfl e5) ?_
                  refine wpR_val (v := (Value.bool r1)) (w' := w22) rfl rfl rfl (x_assign (v := (Value.bool r1)) rfl rfl) ?_
                  refine wpR_nil ?_
                  refine wpC_ret ?_
                  exact ⟨.inl rfl, fun a ha => ⟨_, results_rep1 rfl ha rfl, r1, rfl, h⟩⟩
                · replace h := h.2 hc48
                  refine wpC_skip ?_
                  refine wpC_seq ?_
                  refine wpC_cut (fun ρ => ρ 0 = (Sl.v p0) ∧ ρ 5 = (Value.bool r1) ∧ ρ 6 = (Value.pointer r2) ∧ True) ⟨e0, e5, e6, trivial⟩ ?_
                  rintro ρ ⟨e0, e5, e6, -⟩
                  obtain ⟨J50, h, hk⟩ := h
                  refine wpC_drawJ (by kernel_rfl) (fun (x : (Option Addr) × Int) ρ => ρ 12 = (Value.pointer x.1) ∧ ρ 13 = (Value.int .i64 x.2) ∧ ρ 5 = (Value.bool r1) ∧ True) J50 ?_ ?_
                  · clear hk
                    unfold tk at h
                    generalize w22.drew = w23 at h ⊢
                    refine wpD_take (v := (Value.pointer r2)) 0 (fun _ => True) rfl (by kernel_rfl) (by kernel_rfl) (by kernel_rfl) rfl rfl rfl trivial (fun w _ => (x_move (v := (Value.pointer r2)) rfl e6)) ?_
                    refine wpD_take (v := (Sl.v p0)) 2 (fun _ => True) rfl (by kernel_rfl) (by kernel_rfl) (by kernel_rfl) rfl rfl rfl trivial (fun w _ => (x_move (v := (Sl.v p0)) rfl e0)) ?_
                    obtain ⟨q51, z51, r51, h⟩ := h
                    generalize hp51 : z51.add ((0 : Int).toNat * 1) = p51 at h
                    refine wpD_take (v := (Value.pointer (some p51))) 3 (fun _ => True) rfl (by kernel_rfl) (by kernel_rfl) (by kernel_rfl) rfl rfl rfl trivial (fun w _ => ((x_indexAddr (s := p0) rfl rfl rfl ES_22 q51 r51).trans (by rw [hp51]))) ?_
                    obtain ⟨x52, q52, h⟩ := h
                    refine wpD_take (v := (Value.string x52)) 4 (fun w => w.cell? p51 = some (Value.string x52)) rfl (by kernel_rfl) (by kernel_rfl) (by kernel_rfl) rfl rfl rfl q52 (fun w q52 => (x_load1 rfl rfl SH_9 q52)) ?_
                    refine wpD_all (rs := [1, 5]) (by kernel_rfl) (by simp) (allD_cons ?_ (allD_cons ?_ allD_nil))
                    · replace h := h.1
                      refine stepD_enterL (L' := [(4, fun w => w.cell? p51 = some (Value.string x52)), (3, fun _ => True), (2, fun _ => True)]) rfl rfl rfl rfl (x_call (vs := [(Value.pointer r2)]) rfl rfl (mapl_cons rfl mapl_nil) Try.func21 NN_21 NB_21) (by kernel_rfl) (Calls.mono h ?_)
                      rintro _ w24 ⟨r53, rfl, h⟩
                      obtain ⟨o4, h⟩ := h
                      refine ⟨_, rfl, (held_cons o4 (held_cons trivial (held_cons trivial held_nil))), ?_⟩
                      refine wpD_all (rs := [5]) (by kernel_rfl) (by simp) (allD_cons ?_ allD_nil)
                      obtain ⟨b54, hb54⟩ : ∃ u, u = w24.heap.size := ⟨_, rfl⟩
                      obtain ⟨w25, hw54⟩ : ∃ u, u = w24.alloc (.cells #[(Value.string x52)] 9) := ⟨_, rfl⟩
                      replace h := h b54 w25 hb54 hw54
                      refine stepD_valL (L' := [(3, fun _ => True), (2, fun _ => True)]) (v := (Sl.v (⟨some ⟨b54, 0, none⟩, 1, 1⟩ : Sl))) (w' := w25) rfl rfl rfl rfl ((x_buildSlice (qs := [(0, (Value.string x52))]) rfl (by rfl) (BS_22_1_0 x52)).trans (by rw [← hb54, ← hw54])) (by kernel_rfl) (held_cons trivial (held_cons trivial held_nil)) ?_
                      refine wpD_all (rs := [6]) (by kernel_rfl) (by simp) (allD_cons ?_ allD_nil)
                      obtain ⟨r55, w26, q55, h⟩ := h
                      refine stepD_valL (L' := [(3, fun _ => True), (2, fun _ => True)]) (v := (Sl.v r55)) (w' := w26) rfl rfl rfl rfl (x_append (s := r53) (u := (⟨some ⟨b54, 0, none⟩, 1, 1⟩ : Sl)) rfl rfl rfl rfl q55) (by kernel_rfl) (held_cons trivial (held_cons trivial held_nil)) ?_
                      refine wpD_all (rs := [7]) (by kernel_rfl) (by simp) (allD_cons ?_ allD_nil)
                      refine stepD_enterL (L' := [(3, fun _ => True), (2, fun _ => True)]) rfl rfl rfl rfl (x_call (vs := [(Sl.v r55)]) rfl rfl (mapl_cons rfl mapl_nil) Try.func9 NN_9 NB_9) (by kernel_rfl) (Calls.mono h ?_)
                      rintro _ w27 ⟨r56, rfl, h⟩
                      refine ⟨_, rfl, (held_cons trivial (held_cons trivial held_nil)), ?_⟩
                      refine wpD_take (v := (Value.tuple #[(Value.pointer r56.1), (Value.int .i64 r56.2)])) 8 (fun _ => True) rfl (by kernel_rfl) (by kernel_rfl) (by kernel_rfl) rfl rfl rfl trivial (fun w _ => (x_move (v := (Value.tuple #[(Value.pointer r56.1), (Value.int .i64 r56.2)])) rfl rfl)) ?_
                      refine wpD_take (v := (Value.pointer r56.1)) 9 (fun _ => True) rfl (by kernel_rfl) (by kernel_rfl) (by kernel_rfl) rfl rfl rfl trivial (fun w _ => (x_extract rfl rfl rfl)) ?_
                      refine wpD_take (v := (Value.int .i64 r56.2)) 10 (fun _ => True) rfl (by kernel_rfl) (by kernel_rfl) (by kernel_rfl) rfl rfl rfl trivial (fun w _ => (x_extract rfl rfl rfl)) ?_
                      refine wpD_take (v := (Value.pointer r56.1)) 11 (fun _ => True) rfl (by kernel_rfl) (by kernel_rfl) (by kernel_rfl) rfl rfl rfl trivial (fun w _ => (x_assign (v := (Value.pointer r56.1)) rfl rfl)) ?_
                      refine wpD_take (v := (Value.int .i64 r56.2)) 12 (fun _ => True) rfl (by kernel_rfl) (by kernel_rfl) (by kernel_rfl) rfl rfl rfl trivial (fun w _ => (x_assign (v := (Value.int .i64 r56.2)) rfl rfl)) ?_
                      exact wpD_done (by kernel_rfl) ⟨(r56.1, r56.2), ⟨rfl, rfl, e5, trivial⟩, h⟩
                    · replace h := h.2
                      obtain ⟨b57, hb57⟩ : ∃ u, u = w23.heap.size := ⟨_, rfl⟩
                      obtain ⟨w28, hw57⟩ : ∃ u, u = w23.alloc (.cells #[(Value.string x52)] 9) := ⟨_, rfl⟩
                      replace h := h b57 w28 hb57 hw57
                      refine stepD_valL (L' := [(3, fun _ => True), (2, fun _ => True), (0, fun _ => True)]) (v := (Sl.v (⟨some ⟨b57, 0, none⟩, 1, 1⟩ : Sl))) (w' := w28) rfl rfl rfl rfl ((x_buildSlice (qs := [(0, (Value.string x52))]) rfl (by rfl) (BS_22_1_0 x52)).trans (by rw [← hb57, ← hw57])) (by kernel_rfl) (held_cons trivial (held_cons trivial (held_cons trivial held_nil))) ?_
                      refine wpD_all (rs := [1]) (by kernel_rfl) (by simp) (allD_cons ?_ allD_nil)
                      refine stepD_enterL (L' := [(3, fun _ => True), (2, fun _ => True)]) rfl rfl rfl rfl (x_call (vs := [(Value.pointer r2)]) rfl rfl (mapl_cons rfl mapl_nil) Try.func21 NN_21 NB_21) (by kernel_rfl) (Calls.mono h ?_)
                      rintro _ w29 ⟨r58, rfl, h⟩
                      refine ⟨_, rfl, (held_cons trivial (held_cons trivial held_nil)), ?_⟩
                      refine wpD_all (rs := [6]) (by kernel_rfl) (by simp) (allD_cons ?_ allD_nil)
                      obtain ⟨r59, w30, q59, h⟩ := h
                      refine stepD_valL (L' := [(3, fun _ => True), (2, fun _ => True)]) (v := (Sl.v r59)) (w' := w30) rfl rfl rfl rfl (x_append (s := r58) (u := (⟨some ⟨b57, 0, none⟩, 1, 1⟩ : Sl)) rfl rfl rfl rfl q59) (by kernel_rfl) (held_cons trivial (held_cons trivial held_nil)) ?_
                      refine wpD_all (rs := [7]) (by kernel_rfl) (by simp) (allD_cons ?_ allD_nil)
                      refine stepD_enterL (L' := [(3, fun _ => True), (2, fun _ => True)]) rfl rfl rfl rfl (x_call (vs := [(Sl.v r59)]) rfl rfl (mapl_cons rfl mapl_nil) Try.func9 NN_9 NB_9) (by kernel_rfl) (Calls.mono h ?_)
                      rintro _ w31 ⟨r60, rfl, h⟩
                      refine ⟨_, rfl, (held_cons trivial (held_cons trivial held_nil)), ?_⟩
                      refine wpD_take (v := (Value.tuple #[(Value.pointer r60.1), (Value.int .i64 r60.2)])) 8 (fun _ => True) rfl (by kernel_rfl) (by kernel_rfl) (by kernel_rfl) rfl rfl rfl trivial (fun w _ => (x_move (v := (Value.tuple #[(Value.pointer r60.1), (Value.int .i64 r60.2)])) rfl rfl)) ?_
                      refine wpD_take (v := (Value.pointer r60.1)) 9 (fun _ => True) rfl (by kernel_rfl) (by kernel_rfl) (by kernel_rfl) rfl rfl rfl trivial (fun w _ => (x_extract rfl rfl rfl)) ?_
                      refine wpD_take (v := (Value.int .i64 r60.2)) 10 (fun _ => True) rfl (by kernel_rfl) (by kernel_rfl) (by kernel_rfl) rfl rfl rfl trivial (fun w _ => (x_extract rfl rfl rfl)) ?_
                      refine wpD_take (v := (Value.pointer r60.1)) 11 (fun _ => True) rfl (by kernel_rfl) (by kernel_rfl) (by kernel_rfl) rfl rfl rfl trivial (fun w _ => (x_assign (v := (Value.pointer r60.1)) rfl rfl)) ?_
                      refine wpD_take (v := (Value.int .i64 r60.2)) 12 (fun _ => True) rfl (by kernel_rfl) (by kernel_rfl) (by kernel_rfl) rfl rfl rfl trivial (fun w _ => (x_assign (v := (Value.int .i64 r60.2)) rfl rfl)) ?_
                      exact wpD_done (by kernel_rfl) ⟨(r60.1, r60.2), ⟨rfl, rfl, e5, trivial⟩, h⟩
                  clear h
                  rintro l61 ρ w32 ⟨e12, e13, e5, -⟩ h
                  replace h := hk l61 w32 h
                  clear hk
                  refine wpC_seq ?_
                  refine wpC_region ?_
                  refine wpR_val (v := (Value.bool r1)) (w' := w32) rfl rfl rfl (x_move (v := (Value.bool r1)) rfl e5) ?_
                  refine wpR_val (v := (Value.bool r1)) (w' := w32) rfl rfl rfl (x_move (v := (Value.bool r1)) rfl rfl) ?_
                  refine wpR_joinJ 3 (fun (_ : Unit) ρ => ρ 114 = Value.bool (r1 && l61.1.isNone) ∧ ρ 13 = (Value.int .i64 l61.2) ∧ True) (fun _ w => w32 = w) ?_ ?_
                  · clear h
                    rcases Bool.eq_false_or_eq_true (r1) with hc63 | hc63
                    · skip
                      refine wpR_val (v := (Value.pointer l61.1)) (w' := w32) (wantG rfl rfl rfl hc63) rfl rfl (x_move (v := (Value.pointer l61.1)) rfl e12) ?_
                      refine wpR_val (v := (Value.bool l61.1.isNone)) (w' := w32) (wantG rfl rfl rfl hc63) rfl rfl (x_eqlNil rfl rfl rfl isPtrT_25) ?_
                      refine wpR_val (v := (Value.bool l61.1.isNone)) (w' := w32) rfl rfl rfl (x_pickT (v := (Value.bool l61.1.isNone)) rfl rfl hc63 rfl) ?_
                      refine wpR_nil ?_
                      exact ⟨(), ⟨(by rw [hc63]; rfl), e13, trivial⟩, rfl⟩
                    · skip
                      refine wpR_pass (wantN rfl rfl rfl hc63) rfl rfl ?_
                      refine wpR_pass (wantN rfl rfl rfl hc63) rfl rfl ?_
                      refine wpR_val (v := (Value.bool false)) (w' := w32) rfl rfl rfl (x_pickF (v := (Value.bool false)) rfl rfl hc63 rfl) ?_
                      refine wpR_nil ?_
                      exact ⟨(), ⟨(by rw [hc63]; rfl), e13, trivial⟩, rfl⟩
                  rintro _ ρ wj ⟨e114, e13, -⟩ rfl
                  refine wpR_val (v := (Value.bool (r1 && l61.1.isNone))) (w' := w32) rfl rfl rfl (x_move (v := (Value.bool (r1 && l61.1.isNone))) rfl e114) ?_
                  refine wpR_joinJ 3 (fun (_ : Unit) ρ => ρ 118 = Value.bool ((r1 && l61.1.isNone) && (decide (l61.2 = 5))) ∧ True) (fun _ w => w32 = w) ?_ ?_
                  · clear h
                    rcases Bool.eq_false_or_eq_true (r1 && l61.1.isNone) with hc65 | hc65
                    · skip
                      refine wpR_val (v := (Value.int .i64 l61.2)) (w' := w32) (wantG rfl rfl rfl hc65) rfl rfl (x_move (v := (Value.int .i64 l61.2)) rfl e13) ?_
                      refine wpR_val (v := (Value.bool (decide (l61.2 = 5)))) (w' := w32) (wantG rfl rfl rfl hc65) rfl rfl (x_eql rfl rfl rfl) ?_
                      refine wpR_val (v := (Value.bool (decide (l61.2 = 5)))) (w' := w32) rfl rfl rfl (x_pickT (v := (Value.bool (decide (l61.2 = 5)))) rfl rfl hc65 rfl) ?_
                      refine wpR_nil ?_
                      exact ⟨(), ⟨(by rw [hc65]; rfl), trivial⟩, rfl⟩
                    · skip
                      refine wpR_pass (wantN rfl rfl rfl hc65) rfl rfl ?_
                      refine wpR_pass (wantN rfl rfl rfl hc65) rfl rfl ?_
                      refine wpR_val (v := (Value.bool false)) (w' := w32) rfl rfl rfl (x_pickF (v := (Value.bool false)) rfl rfl hc65 rfl) ?_
                      refine wpR_nil ?_
                      exact ⟨(), ⟨(by rw [hc65]; rfl), trivial⟩, rfl⟩
                  rintro _ ρ wj ⟨e118, -⟩ rfl
                  refine wpR_val (v := (Value.bool ((r1 && l61.1.isNone) && (decide (l61.2 = 5))))) (w' := w32) rfl rfl rfl (x_assign (v := (Value.bool ((r1 && l61.1.isNone) && (decide (l61.2 = 5))))) rfl e118) ?_
                  refine wpR_nil ?_
                  refine wpC_ret ?_
                  exact ⟨.inl rfl, fun a ha => ⟨_, results_rep1 rfl ha rfl, (r1 && l61.1.isNone) && (decide (l61.2 = 5)), rfl, h⟩⟩


end Go.Proofs.Ytiohncdkpkonmaa
