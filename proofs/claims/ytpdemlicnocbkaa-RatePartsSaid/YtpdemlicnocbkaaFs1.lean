import Derived.Test.YtpdemlicnocbkaaRows
import Derived.Test.YtpdemlicnocbkaaDecOps
namespace Go.Proofs.Ytpdemlicnocbkaa
open Go.Dec
set_option maxHeartbeats 400000

theorem BD_24_0 (y0 : Int) : ∀ w, (Instr.build 24 #[(0, (Value.int .i64 y0))]).run Try.prog w = .ok (Value.agg #[(Value.int .i64 y0), (Value.int .i64 0)]) w := fun w => by kernel_rfl
theorem BD_24_0_1 (y0 : Int) (y1 : Int) : ∀ w, (Instr.build 24 #[(0, (Value.int .i64 y0)), (1, (Value.int .i64 y1))]).run Try.prog w = .ok (Value.agg #[(Value.int .i64 y0), (Value.int .i64 y1)]) w := fun w => by kernel_rfl
theorem BD_24_1 (y1 : Int) : ∀ w, (Instr.build 24 #[(1, (Value.int .i64 y1))]).run Try.prog w = .ok (Value.agg #[(Value.int .i64 0), (Value.int .i64 y1)]) w := fun w => by kernel_rfl
theorem BS_42_4_0_1_2_3 (y0 : Int) (y1 : Int) (y2 : Int) (y3 : Int) : ∀ w, (Instr.buildSlice 42 4 #[(0, (Value.int .i64 y0)), (1, (Value.int .i64 y1)), (2, (Value.int .i64 y2)), (3, (Value.int .i64 y3))]).run Try.prog w = .ok (.slice (some ⟨w.heap.size, 0, none⟩) 4 4) (w.alloc (.cells #[(Value.int .i64 y0), (Value.int .i64 y1), (Value.int .i64 y2), (Value.int .i64 y3)] 3)) := fun w => by kernel_rfl
theorem EQ1_24 : Try.prog.underlying 24 = some (.struct (Try.prog.fieldsOf 24)) := by kernel_rfl
theorem EQ2_24 : Try.prog.stoodInHeld 24 = false := by kernel_rfl
theorem EQ3_24 : Try.prog.eqGuardType Try.prog.depth 24 = false := by kernel_rfl
theorem EQ_24 (y0 : Int) (y1 : Int) (z0 : Int) (z1 : Int) : fieldsEq Try.prog #[(Value.int .i64 y0), (Value.int .i64 y1)] #[(Value.int .i64 z0), (Value.int .i64 z1)] (Try.prog.fieldsOf 24).toList = some (decide (y0 = z0) && (decide (y1 = z1) && true)) := by kernel_rfl
theorem ES_36 : elemSize Try.prog 36 = some 2 := by kernel_rfl
theorem ES_42 : elemSize Try.prog 42 = some 1 := by kernel_rfl
theorem FA_24_0 : fieldOff Try.prog 24 0 = some 0 := by kernel_rfl
theorem FA_24_1 : fieldOff Try.prog 24 1 = some 1 := by kernel_rfl
theorem FA_39_0 : fieldOff Try.prog 39 0 = some 0 := by kernel_rfl
theorem FA_39_1 : fieldOff Try.prog 39 1 = some 1 := by kernel_rfl
theorem IK_3 : intKindT Try.prog 3 = some .i64 := by kernel_rfl
theorem IK_37 : intKindT Try.prog 37 = some .u16 := by kernel_rfl
theorem NB_10 : Try.f10.body.isNone = false := by kernel_rfl
theorem NN_10 : (Try.f10.name == "runtime.NumGoroutine") = false := by kernel_rfl
theorem NB_11 : Try.f11.body.isNone = false := by kernel_rfl
theorem NN_11 : (Try.f11.name == "runtime.NumGoroutine") = false := by kernel_rfl
theorem NB_12 : Try.f12.body.isNone = false := by kernel_rfl
theorem NN_12 : (Try.f12.name == "runtime.NumGoroutine") = false := by kernel_rfl
theorem NB_13 : Try.f13.body.isNone = false := by kernel_rfl
theorem NN_13 : (Try.f13.name == "runtime.NumGoroutine") = false := by kernel_rfl
theorem NB_14 : Try.f14.body.isNone = false := by kernel_rfl
theorem NN_14 : (Try.f14.name == "runtime.NumGoroutine") = false := by kernel_rfl
theorem NB_15 : Try.f15.body.isNone = false := by kernel_rfl
theorem NN_15 : (Try.f15.name == "runtime.NumGoroutine") = false := by kernel_rfl
theorem NB_16 : Try.f16.body.isNone = false := by kernel_rfl
theorem NN_16 : (Try.f16.name == "runtime.NumGoroutine") = false := by kernel_rfl
theorem NB_17 : Try.f17.body.isNone = false := by kernel_rfl
theorem NN_17 : (Try.f17.name == "runtime.NumGoroutine") = false := by kernel_rfl
theorem NB_7 : Try.f7.body.isNone = false := by kernel_rfl
theorem NN_7 : (Try.f7.name == "runtime.NumGoroutine") = false := by kernel_rfl
theorem NB_8 : Try.f8.body.isNone = false := by kernel_rfl
theorem NN_8 : (Try.f8.name == "runtime.NumGoroutine") = false := by kernel_rfl
theorem NB_9 : Try.f9.body.isNone = false := by kernel_rfl
theorem NN_9 : (Try.f9.name == "runtime.NumGoroutine") = false := by kernel_rfl
theorem SH_24 : shapeT Try.prog 24 = some 3 := by kernel_rfl
theorem SH_3 : shapeT Try.prog 3 = some 0 := by kernel_rfl
theorem SH_37 : shapeT Try.prog 37 = some 0 := by kernel_rfl
theorem SZ_24 : sizeT Try.prog 24 = some 2 := by kernel_rfl
theorem ZV_24 : (Try.prog.info? 24).bind (·.zero) = some (Value.agg #[(Value.int .i64 0), (Value.int .i64 0)]) := by kernel_rfl
theorem isBoolT_4 : isBoolT Try.prog 4 = true := by kernel_rfl
theorem isSliceT_36 : isSliceT Try.prog 36 = true := by kernel_rfl
theorem isSliceT_42 : isSliceT Try.prog 42 = true := by kernel_rfl

/-- rate.number -/
def F17 (p0 : Int) (w0 : World) (K : Bool → World → Prop) : Prop :=
  K ((decide (0 ≤ p0)) && (decide (p0 ≤ 1099511627776))) w0
set_option maxRecDepth 100000 in
theorem D17 (p0 : Int) (w0 : World) (K : Bool → World → Prop) (h : F17 p0 w0 K) : callC Try.prog 17 #[(Value.int .i64 p0)] (fun (r : Bool) => (Value.bool r)) w0 K := by
  unfold F17 at h
  refine calls_of_wpC Try.func17 rfl 9 rfl (by simp) ?_
  intro ρ hρ
  have e0 : ρ 0 = (Value.int .i64 p0) := hρ 0
  clear hρ
  refine wpC_seq ?_
  refine wpC_region ?_
  refine wpR_val (v := (Value.bool false)) (w' := w0) rfl rfl rfl (x_assign (v := (Value.bool false)) rfl rfl) ?_
  refine wpR_nil ?_
  refine wpC_seq ?_
  refine wpC_cut (fun ρ => ρ 0 = (Value.int .i64 p0) ∧ True) ⟨e0, trivial⟩ ?_
  rintro ρ ⟨e0, -⟩
  refine wpC_region ?_
  refine wpR_val (v := (Value.int .i64 p0)) (w' := w0) rfl rfl rfl (x_move (v := (Value.int .i64 p0)) rfl e0) ?_
  refine wpR_val (v := (Value.bool (decide (0 ≤ p0)))) (w' := w0) rfl rfl rfl (x_geq rfl rfl rfl) ?_
  refine wpR_val (v := (Value.bool (decide (0 ≤ p0)))) (w' := w0) rfl rfl rfl (x_move (v := (Value.bool (decide (0 ≤ p0)))) rfl rfl) ?_
  refine wpR_joinJ 3 (fun (_ : Unit) ρ => ρ 8 = Value.bool ((decide (0 ≤ p0)) && (decide (p0 ≤ 1099511627776))) ∧ True) (fun _ w => w0 = w) ?_ ?_
  · clear h
    rcases Bool.eq_false_or_eq_true (decide (0 ≤ p0)) with hc2 | hc2
    · skip
      refine wpR_val (v := (Value.int .i64 p0)) (w' := w0) (wantG rfl rfl rfl hc2) rfl rfl (x_move (v := (Value.int .i64 p0)) rfl e0) ?_
      refine wpR_val (v := (Value.bool (decide (p0 ≤ 1099511627776)))) (w' := w0) (wantG rfl rfl rfl hc2) rfl rfl (x_leq rfl rfl rfl) ?_
      refine wpR_val (v := (Value.bool (decide (p0 ≤ 1099511627776)))) (w' := w0) rfl rfl rfl (x_pickT (v := (Value.bool (decide (p0 ≤ 1099511627776)))) rfl rfl hc2 rfl) ?_
      refine wpR_nil ?_
      exact ⟨(), ⟨(by rw [hc2]; rfl), trivial⟩, rfl⟩
    · skip
      refine wpR_pass (wantN rfl rfl rfl hc2) rfl rfl ?_
      refine wpR_pass (wantN rfl rfl rfl hc2) rfl rfl ?_
      refine wpR_val (v := (Value.bool false)) (w' := w0) rfl rfl rfl (x_pickF (v := (Value.bool false)) rfl rfl hc2 rfl) ?_
      refine wpR_nil ?_
      exact ⟨(), ⟨(by rw [hc2]; rfl), trivial⟩, rfl⟩
  rintro _ ρ wj ⟨e8, -⟩ rfl
  refine wpR_val (v := (Value.bool ((decide (0 ≤ p0)) && (decide (p0 ≤ 1099511627776))))) (w' := w0) rfl rfl rfl (x_assign (v := (Value.bool ((decide (0 ≤ p0)) && (decide (p0 ≤ 1099511627776))))) rfl e8) ?_
  refine wpR_nil ?_
  refine wpC_ret ?_
  exact ⟨.inl rfl, fun a ha => ⟨_, results_rep1 rfl ha rfl, (decide (0 ≤ p0)) && (decide (p0 ≤ 1099511627776)), rfl, h⟩⟩

/-- rate.step -/
def F16 (p0 : Int) (w0 : World) (K : Bool → World → Prop) : Prop :=
  K ((decide (0 ≤ p0)) && (decide (p0 ≤ 1073741824))) w0
set_option maxRecDepth 100000 in
theorem D16 (p0 : Int) (w0 : World) (K : Bool → World → Prop) (h : F16 p0 w0 K) : callC Try.prog 16 #[(Value.int .i64 p0)] (fun (r : Bool) => (Value.bool r)) w0 K := by
  unfold F16 at h
  refine calls_of_wpC Try.func16 rfl 9 rfl (by simp) ?_
  intro ρ hρ
  have e0 : ρ 0 = (Value.int .i64 p0) := hρ 0
  clear hρ
  refine wpC_seq ?_
  refine wpC_region ?_
  refine wpR_val (v := (Value.bool false)) (w' := w0) rfl rfl rfl (x_assign (v := (Value.bool false)) rfl rfl) ?_
  refine wpR_nil ?_
  refine wpC_seq ?_
  refine wpC_cut (fun ρ => ρ 0 = (Value.int .i64 p0) ∧ True) ⟨e0, trivial⟩ ?_
  rintro ρ ⟨e0, -⟩
  refine wpC_region ?_
  refine wpR_val (v := (Value.int .i64 p0)) (w' := w0) rfl rfl rfl (x_move (v := (Value.int .i64 p0)) rfl e0) ?_
  refine wpR_val (v := (Value.bool (decide (0 ≤ p0)))) (w' := w0) rfl rfl rfl (x_geq rfl rfl rfl) ?_
  refine wpR_val (v := (Value.bool (decide (0 ≤ p0)))) (w' := w0) rfl rfl rfl (x_move (v := (Value.bool (decide (0 ≤ p0)))) rfl rfl) ?_
  refine wpR_joinJ 3 (fun (_ : Unit) ρ => ρ 8 = Value.bool ((decide (0 ≤ p0)) && (decide (p0 ≤ 1073741824))) ∧ True) (fun _ w => w0 = w) ?_ ?_
  · clear h
    rcases Bool.eq_false_or_eq_true (decide (0 ≤ p0)) with hc2 | hc2
    · skip
      refine wpR_val (v := (Value.int .i64 p0)) (w' := w0) (wantG rfl rfl rfl hc2) rfl rfl (x_move (v := (Value.int .i64 p0)) rfl e0) ?_
      refine wpR_val (v := (Value.bool (decide (p0 ≤ 1073741824)))) (w' := w0) (wantG rfl rfl rfl hc2) rfl rfl (x_leq rfl rfl rfl) ?_
      refine wpR_val (v := (Value.bool (decide (p0 ≤ 1073741824)))) (w' := w0) rfl rfl rfl (x_pickT (v := (Value.bool (decide (p0 ≤ 1073741824)))) rfl rfl hc2 rfl) ?_
      refine wpR_nil ?_
      exact ⟨(), ⟨(by rw [hc2]; rfl), trivial⟩, rfl⟩
    · skip
      refine wpR_pass (wantN rfl rfl rfl hc2) rfl rfl ?_
      refine wpR_pass (wantN rfl rfl rfl hc2) rfl rfl ?_
      refine wpR_val (v := (Value.bool false)) (w' := w0) rfl rfl rfl (x_pickF (v := (Value.bool false)) rfl rfl hc2 rfl) ?_
      refine wpR_nil ?_
      exact ⟨(), ⟨(by rw [hc2]; rfl), trivial⟩, rfl⟩
  rintro _ ρ wj ⟨e8, -⟩ rfl
  refine wpR_val (v := (Value.bool ((decide (0 ≤ p0)) && (decide (p0 ≤ 1073741824))))) (w' := w0) rfl rfl rfl (x_assign (v := (Value.bool ((decide (0 ≤ p0)) && (decide (p0 ≤ 1073741824))))) rfl e8) ?_
  refine wpR_nil ?_
  refine wpC_ret ?_
  exact ⟨.inl rfl, fun a ha => ⟨_, results_rep1 rfl ha rfl, (decide (0 ≤ p0)) && (decide (p0 ≤ 1073741824)), rfl, h⟩⟩

/-- rate.Right -/
def F14 (p0_0 : Int) (p0_1 : Int) (p1 : Int) (p2 : Int) (w0 : World) (K : Bool → World → Prop) : Prop :=
  nw 24 #[(Value.int .i64 p0_0), (Value.int .i64 p0_1)] w0 fun b1 w1 =>
  callC Try.prog 17 #[(Value.int .i64 p1)] (fun (r : Bool) => (Value.bool r)) w1 fun r2 w2 =>
  jn (fun J3 => cnd (r2)
    (
    callC Try.prog 17 #[(Value.int .i64 p2)] (fun (r : Bool) => (Value.bool r)) w2 fun r5 w3 =>
    J3 r5 w3
    )
    (
    J3 false w2
    ))
  fun c6 w4 =>
  jp (fun J7 => cnd (c6)
    (
    ld (Value.int .i64) ((Addr.mk b1 0 none).add 0) w4 fun x9 =>
    J7 (decide (0 ≤ x9))
    )
    (
    J7 false
    ))
  fun c10 =>
  jp (fun J11 => cnd (c10)
    (
    ld (Value.int .i64) ((Addr.mk b1 0 none).add 0) w4 fun x13 =>
    J11 (decide (x13 ≤ p2))
    )
    (
    J11 false
    ))
  fun c14 =>
  jn (fun J15 => cnd (c14)
    (
    ld (Value.int .i64) ((Addr.mk b1 0 none).add 1) w4 fun x17 =>
    callC Try.prog 16 #[(Value.int .i64 x17)] (fun (r : Bool) => (Value.bool r)) w4 fun r18 w5 =>
    J15 r18 w5
    )
    (
    J15 false w4
    ))
  fun c19 w6 =>
  K c19 w6
set_option maxRecDepth 100000 in
theorem D14 (p0_0 : Int) (p0_1 : Int) (p1 : Int) (p2 : Int) (w0 : World) (K : Bool → World → Prop) (h : F14 p0_0 p0_1 p1 p2 w0 K) : callC Try.prog 14 #[(Value.agg #[(Value.int .i64 p0_0), (Value.int .i64 p0_1)]), (Value.int .i64 p1), (Value.int .i64 p2)] (fun (r : Bool) => (Value.bool r)) w0 K := by
  unfold F14 at h
  refine calls_of_wpC Try.func14 rfl 29 rfl (by simp) ?_
  intro ρ hρ
  have e0 : ρ 0 = (Value.agg #[(Value.int .i64 p0_0), (Value.int .i64 p0_1)]) := hρ 0
  have e1 : ρ 1 = (Value.int .i64 p1) := hρ 1
  have e2 : ρ 2 = (Value.int .i64 p2) := hρ 2
  clear hρ
  refine wpC_seq ?_
  refine wpC_region ?_
  obtain ⟨b1, hb1⟩ : ∃ u, u = w0.heap.size := ⟨_, rfl⟩
  obtain ⟨w1, hw1⟩ : ∃ u, u = w0.alloc (.cells #[(Value.int .i64 p0_0), (Value.int .i64 p0_1)] 24) := ⟨_, rfl⟩
  replace h := h b1 w1 hb1 hw1
  refine wpR_val (v := (Value.pointer (some (Addr.mk b1 0 none)))) (w' := w1) rfl rfl rfl ((x_box (v := (Value.agg #[(Value.int .i64 p0_0), (Value.int .i64 p0_1)])) rfl e0).trans (by rw [hb1, hw1]; rfl)) ?_
  refine wpR_val (v := (Value.bool false)) (w' := w1) rfl rfl rfl (x_assign (v := (Value.bool false)) rfl rfl) ?_
  refine wpR_nil ?_
  refine wpC_seq ?_
  refine wpC_cut (fun ρ => ρ 1 = (Value.int .i64 p1) ∧ ρ 2 = (Value.int .i64 p2) ∧ ρ 3 = (Value.pointer (some (Addr.mk b1 0 none))) ∧ True) ⟨e1, e2, rfl, trivial⟩ ?_
  rintro ρ ⟨e1, e2, e3, -⟩
  refine wpC_region ?_
  refine wpR_val (v := (Value.int .i64 p1)) (w' := w1) rfl rfl rfl (x_move (v := (Value.int .i64 p1)) rfl e1) ?_
  refine wpR_enter rfl rfl rfl (x_call (vs := [(Value.int .i64 p1)]) rfl rfl (by rfl) Try.func17 NN_17 NB_17) (Calls.mono h ?_)
  rintro _ w2 ⟨r2, rfl, h⟩
  refine ⟨_, rfl, ?_⟩
  refine wpR_val (v := (Value.bool r2)) (w' := w2) rfl rfl rfl (x_move (v := (Value.bool r2)) rfl rfl) ?_
  obtain ⟨J3, h, hk⟩ := h
  refine wpR_joinJ 3 (fun x ρ => ρ 12 = Value.bool x ∧ ρ 2 = (Value.int .i64 p2) ∧ ρ 3 = (Value.pointer (some (Addr.mk b1 0 none))) ∧ True) (J3) ?_ ?_
  · clear hk
    rcases Bool.eq_false_or_eq_true (r2) with hc4 | hc4
    · replace h := h.1 hc4
      refine wpR_val (v := (Value.int .i64 p2)) (w' := w2) (wantG rfl rfl rfl hc4) rfl rfl (x_move (v := (Value.int .i64 p2)) rfl e2) ?_
      refine wpR_enter (wantG rfl rfl rfl hc4) rfl rfl (x_call (vs := [(Value.int .i64 p2)]) rfl rfl (by rfl) Try.func17 NN_17 NB_17) (Calls.mono h ?_)
      rintro _ w3 ⟨r5, rfl, h⟩
      refine ⟨_, rfl, ?_⟩
      refine wpR_val (v := (Value.bool r5)) (w' := w3) rfl rfl rfl (x_pickT (v := (Value.bool r5)) rfl rfl hc4 rfl) ?_
      refine wpR_nil ?_
      exact ⟨r5, ⟨rfl, e2, e3, trivial⟩, h⟩
    · replace h := h.2 hc4
      refine wpR_pass (wantN rfl rfl rfl hc4) rfl rfl ?_
      refine wpR_pass (wantN rfl rfl rfl hc4) rfl rfl ?_
      refine wpR_val (v := (Value.bool false)) (w' := w2) rfl rfl rfl (x_pickF (v := (Value.bool false)) rfl rfl hc4 rfl) ?_
      refine wpR_nil ?_
      exact ⟨false, ⟨rfl, e2, e3, trivial⟩, h⟩
  clear h
  rintro c6 ρ w4 ⟨e12, e2, e3, -⟩ h
  replace h := hk c6 w4 h
  clear hk
  refine wpR_val (v := (Value.bool c6)) (w' := w4) rfl rfl rfl (x_move (v := (Value.bool c6)) rfl e12) ?_
  obtain ⟨J7, h, hk⟩ := h
  refine wpR_joinJ 4 (fun x ρ => ρ 17 = Value.bool x ∧ ρ 2 = (Value.int .i64 p2) ∧ ρ 3 = (Value.pointer (some (Addr.mk b1 0 none))) ∧ True) (fun x w => J7 x ∧ w4 = w) ?_ ?_
  · clear hk
    rcases Bool.eq_false_or_eq_true (c6) with hc8 | hc8
    · replace h := h.1 hc8
      refine wpR_val (v := (Value.pointer (some ((Addr.mk b1 0 none).add 0)))) (w' := w4) (wantG rfl rfl rfl hc8) rfl rfl (x_fieldAddr rfl e3 FA_24_0) ?_
      obtain ⟨x9, q9, h⟩ := h
      refine wpR_val (v := (Value.int .i64 x9)) (w' := w4) (wantG rfl rfl rfl hc8) rfl rfl (x_load1 rfl rfl SH_3 q9) ?_
      refine wpR_val (v := (Value.bool (decide (0 ≤ x9)))) (w' := w4) (wantG rfl rfl rfl hc8) rfl rfl (x_geq rfl rfl rfl) ?_
      refine wpR_val (v := (Value.bool (decide (0 ≤ x9)))) (w' := w4) rfl rfl rfl (x_pickT (v := (Value.bool (decide (0 ≤ x9)))) rfl rfl hc8 rfl) ?_
      refine wpR_nil ?_
      exact ⟨decide (0 ≤ x9), ⟨rfl, e2, e3, trivial⟩, h, rfl⟩
    · replace h := h.2 hc8
      refine wpR_pass (wantN rfl rfl rfl hc8) rfl rfl ?_
      refine wpR_pass (wantN rfl rfl rfl hc8) rfl rfl ?_
      refine wpR_pass (wantN rfl rfl rfl hc8) rfl rfl ?_
      refine wpR_val (v := (Value.bool false)) (w' := w4) rfl rfl rfl (x_pickF (v := (Value.bool false)) rfl rfl hc8 rfl) ?_
      refine wpR_nil ?_
      exact ⟨false, ⟨rfl, e2, e3, trivial⟩, h, rfl⟩
  clear h
  rintro c10 ρ wj ⟨e17, e2, e3, -⟩ ⟨h, rfl⟩
  replace h := hk c10 h
  clear hk
  refine wpR_val (v := (Value.bool c10)) (w' := w4) rfl rfl rfl (x_move (v := (Value.bool c10)) rfl e17) ?_
  obtain ⟨J11, h, hk⟩ := h
  refine wpR_joinJ 5 (fun x ρ => ρ 23 = Value.bool x ∧ ρ 3 = (Value.pointer (some (Addr.mk b1 0 none))) ∧ True) (fun x w => J11 x ∧ w4 = w) ?_ ?_
  · clear hk
    rcases Bool.eq_false_or_eq_true (c10) with hc12 | hc12
    · replace h := h.1 hc12
      refine wpR_val (v := (Value.pointer (some ((Addr.mk b1 0 none).add 0)))) (w' := w4) (wantG rfl rfl rfl hc12) rfl rfl (x_fieldAddr rfl e3 FA_24_0) ?_
      obtain ⟨x13, q13, h⟩ := h
      refine wpR_val (v := (Value.int .i64 x13)) (w' := w4) (wantG rfl rfl rfl hc12) rfl rfl (x_load1 rfl rfl SH_3 q13) ?_
      refine wpR_val (v := (Value.int .i64 p2)) (w' := w4) (wantG rfl rfl rfl hc12) rfl rfl (x_move (v := (Value.int .i64 p2)) rfl e2) ?_
      refine wpR_val (v := (Value.bool (decide (x13 ≤ p2)))) (w' := w4) (wantG rfl rfl rfl hc12) rfl rfl (x_leq rfl rfl rfl) ?_
      refine wpR_val (v := (Value.bool (decide (x13 ≤ p2)))) (w' := w4) rfl rfl rfl (x_pickT (v := (Value.bool (decide (x13 ≤ p2)))) rfl rfl hc12 rfl) ?_
      refine wpR_nil ?_
      exact ⟨decide (x13 ≤ p2), ⟨rfl, e3, trivial⟩, h, rfl⟩
    · replace h := h.2 hc12
      refine wpR_pass (wantN rfl rfl rfl hc12) rfl rfl ?_
      refine wpR_pass (wantN rfl rfl rfl hc12) rfl rfl ?_
      refine wpR_pass (wantN rfl rfl rfl hc12) rfl rfl ?_
      refine wpR_pass (wantN rfl rfl rfl hc12) rfl rfl ?_
      refine wpR_val (v := (Value.bool false)) (w' := w4) rfl rfl rfl (x_pickF (v := (Value.bool false)) rfl rfl hc12 rfl) ?_
      refine wpR_nil ?_
      exact ⟨false, ⟨rfl, e3, trivial⟩, h, rfl⟩
  clear h
  rintro c14 ρ wj ⟨e23, e3, -⟩ ⟨h, rfl⟩
  replace h := hk c14 h
  clear hk
  refine wpR_val (v := (Value.bool c14)) (w' := w4) rfl rfl rfl (x_move (v := (Value.bool c14)) rfl e23) ?_
  obtain ⟨J15, h, hk⟩ := h
  refine wpR_joinJ 4 (fun x ρ => ρ 28 = Value.bool x ∧ True) (J15) ?_ ?_
  · clear hk
    rcases Bool.eq_false_or_eq_true (c14) with hc16 | hc16
    · replace h := h.1 hc16
      refine wpR_val (v := (Value.pointer (some ((Addr.mk b1 0 none).add 1)))) (w' := w4) (wantG rfl rfl rfl hc16) rfl rfl (x_fieldAddr rfl e3 FA_24_1) ?_
      obtain ⟨x17, q17, h⟩ := h
      refine wpR_val (v := (Value.int .i64 x17)) (w' := w4) (wantG rfl rfl rfl hc16) rfl rfl (x_load1 rfl rfl SH_3 q17) ?_
      refine wpR_enter (wantG rfl rfl rfl hc16) rfl rfl (x_call (vs := [(Value.int .i64 x17)]) rfl rfl (by rfl) Try.func16 NN_16 NB_16) (Calls.mono h ?_)
      rintro _ w5 ⟨r18, rfl, h⟩
      refine ⟨_, rfl, ?_⟩
      refine wpR_val (v := (Value.bool r18)) (w' := w5) rfl rfl rfl (x_pickT (v := (Value.bool r18)) rfl rfl hc16 rfl) ?_
      refine wpR_nil ?_
      exact ⟨r18, ⟨rfl, trivial⟩, h⟩
    · replace h := h.2 hc16
      refine wpR_pass (wantN rfl rfl rfl hc16) rfl rfl ?_
      refine wpR_pass (wantN rfl rfl rfl hc16) rfl rfl ?_
      refine wpR_pass (wantN rfl rfl rfl hc16) rfl rfl ?_
      refine wpR_val (v := (Value.bool false)) (w' := w4) rfl rfl rfl (x_pickF (v := (Value.bool false)) rfl rfl hc16 rfl) ?_
      refine wpR_nil ?_
      exact ⟨false, ⟨rfl, trivial⟩, h⟩
  clear h
  rintro c19 ρ w6 ⟨e28, -⟩ h
  replace h := hk c19 w6 h
  clear hk
  refine wpR_val (v := (Value.bool c19)) (w' := w6) rfl rfl rfl (x_assign (v := (Value.bool c19)) rfl e28) ?_
  refine wpR_nil ?_
  refine wpC_ret ?_
  exact ⟨.inl rfl, fun a ha => ⟨_, results_rep1 rfl ha rfl, c19, rfl, h⟩⟩

/-- rate.Free -/
def F10 (p0_0 : Int) (p0_1 : Int) (p1 : Int) (p2 : Int) (p3 : Int) (w0 : World) (K : (Int × Int) → World → Prop) : Prop :=
  nw 24 #[(Value.int .i64 p0_0), (Value.int .i64 p0_1)] w0 fun b1 w1 =>
  ld (Value.int .i64) ((Addr.mk b1 0 none).add 0) w1 fun x2 =>
  ld (Value.int .i64) ((Addr.mk b1 0 none).add 1) w1 fun x3 =>
  callC Try.prog 14 #[(Value.agg #[(Value.int .i64 x2), (Value.int .i64 x3)]), (Value.int .i64 p1), (Value.int .i64 p2)] (fun (r : Bool) => (Value.bool r)) w1 fun r4 w2 =>
  cnd (!r4)
    (
    K (0, 1) w2
    )
    (
    callC Try.prog 16 #[(Value.int .i64 p3)] (fun (r : Bool) => (Value.bool r)) w2 fun r6 w3 =>
    cnd (!r6)
      (
      K (0, 3) w3
      )
      (
      ld (Value.int .i64) ((Addr.mk b1 0 none).add 1) w3 fun x8 =>
      cnd (decide (p3 < x8))
        (
        K (0, 16) w3
        )
        (
        jn (fun (J11 : Bool → World → Prop) => tk w3 fun w4 =>
          cnd (decide (0 < p1))
            (
            ld (Value.int .i64) ((Addr.mk b1 0 none).add 1) w4 fun x13 =>
            ld (Value.int .i64) ((Addr.mk b1 0 none).add 0) w4 fun x14 =>
            p1 ≠ 0 ∧
            J11 (decide ((IntKind.i64.wrap ((IntKind.i64.wrap (p2 - x14)).tdiv p1)) < (IntKind.i64.wrap (p3 - x13)))) w4
            )
            (
            J11 false w4
            )
        )
        fun l16 w5 =>
        cnd (l16)
          (
          K (p2, 0) w5
          )
          (
          ld (Value.int .i64) ((Addr.mk b1 0 none).add 0) w5 fun x18 =>
          ld (Value.int .i64) ((Addr.mk b1 0 none).add 1) w5 fun x19 =>
          K (IntKind.i64.wrap (x18 + (IntKind.i64.wrap ((IntKind.i64.wrap (p3 - x19)) * p1))), 0) w5
          )
        )
      )
    )
set_option maxRecDepth 100000 in
theorem D10 (p0_0 : Int) (p0_1 : Int) (p1 : Int) (p2 : Int) (p3 : Int) (w0 : World) (K : (Int × Int) → World → Prop) (h : F10 p0_0 p0_1 p1 p2 p3 w0 K) : callC Try.prog 10 #[(Value.agg #[(Value.int .i64 p0_0), (Value.int .i64 p0_1)]), (Value.int .i64 p1), (Value.int .i64 p2), (Value.int .i64 p3)] (fun (r : Int × Int) => (Value.tuple #[(Value.int .i64 r.1), (Value.int .i64 r.2)])) w0 K := by
  unfold F10 at h
  refine calls_of_wpC Try.func10 rfl 51 rfl (by simp) ?_
  intro ρ hρ
  have e0 : ρ 0 = (Value.agg #[(Value.int .i64 p0_0), (Value.int .i64 p0_1)]) := hρ 0
  have e1 : ρ 1 = (Value.int .i64 p1) := hρ 1
  have e2 : ρ 2 = (Value.int .i64 p2) := hρ 2
  have e3 : ρ 3 = (Value.int .i64 p3) := hρ 3
  clear hρ
  refine wpC_seq ?_
  refine wpC_region ?_
  obtain ⟨b1, hb1⟩ : ∃ u, u = w0.heap.size := ⟨_, rfl⟩
  obtain ⟨w1, hw1⟩ : ∃ u, u = w0.alloc (.cells #[(Value.int .i64 p0_0), (Value.int .i64 p0_1)] 24) := ⟨_, rfl⟩
  replace h := h b1 w1 hb1 hw1
  refine wpR_val (v := (Value.pointer (some (Addr.mk b1 0 none)))) (w' := w1) rfl rfl rfl ((x_box (v := (Value.agg #[(Value.int .i64 p0_0), (Value.int .i64 p0_1)])) rfl e0).trans (by rw [hb1, hw1]; rfl)) ?_
  refine wpR_val (v := (Value.int .i64 0)) (w' := w1) rfl rfl rfl (x_assign (v := (Value.int .i64 0)) rfl rfl) ?_
  refine wpR_val (v := (Value.int .i64 0)) (w' := w1) rfl rfl rfl (x_assign (v := (Value.int .i64 0)) rfl rfl) ?_
  refine wpR_nil ?_
  refine wpC_seq ?_
  refine wpC_block ?_
  refine wpC_seq ?_
  refine wpC_cut (fun ρ => ρ 1 = (Value.int .i64 p1) ∧ ρ 2 = (Value.int .i64 p2) ∧ ρ 3 = (Value.int .i64 p3) ∧ ρ 4 = (Value.pointer (some (Addr.mk b1 0 none))) ∧ True) ⟨e1, e2, e3, rfl, trivial⟩ ?_
  rintro ρ ⟨e1, e2, e3, e4, -⟩
  refine wpC_region ?_
  obtain ⟨x2, q2, h⟩ := h
  obtain ⟨x3, q3, h⟩ := h
  refine wpR_val (v := (Value.agg #[(Value.int .i64 x2), (Value.int .i64 x3)])) (w' := w1) rfl rfl rfl (x_loadN [(Value.int .i64 x2), (Value.int .i64 x3)] rfl e4 SH_24 (CellsAt.out (CellsAt.cons q2 (CellsAt.cons q3 CellsAt.nil)))) ?_
  refine wpR_val (v := (Value.int .i64 p1)) (w' := w1) rfl rfl rfl (x_move (v := (Value.int .i64 p1)) rfl e1) ?_
  refine wpR_val (v := (Value.int .i64 p2)) (w' := w1) rfl rfl rfl (x_move (v := (Value.int .i64 p2)) rfl e2) ?_
  refine wpR_enter rfl rfl rfl (x_call (vs := [(Value.agg #[(Value.int .i64 x2), (Value.int .i64 x3)]), (Value.int .i64 p1), (Value.int .i64 p2)]) rfl rfl (by rfl) Try.func14 NN_14 NB_14) (Calls.mono h ?_)
  rintro _ w2 ⟨r4, rfl, h⟩
  refine ⟨_, rfl, ?_⟩
  refine wpR_val (v := (Value.bool (!r4))) (w' := w2) rfl rfl rfl (x_not rfl rfl) ?_
  refine wpR_val (v := (Value.bool (!r4))) (w' := w2) rfl rfl rfl (x_assign (v := (Value.bool (!r4))) rfl rfl) ?_
  refine wpR_nil ?_
  refine wpC_cond (b := !r4) rfl (fun hc5 => ?_) (fun hc5 => ?_)
  · replace h := h.1 hc5
    refine wpC_seq ?_
    refine wpC_cut (fun ρ => True) trivial ?_
    rintro ρ -
    refine wpC_region ?_
    refine wpR_val (v := (Value.int .i64 0)) (w' := w2) rfl rfl rfl (x_assign (v := (Value.int .i64 0)) rfl rfl) ?_
    refine wpR_val (v := (Value.int .i64 1)) (w' := w2) rfl rfl rfl (x_assign (v := (Value.int .i64 1)) rfl rfl) ?_
    refine wpR_nil ?_
    refine wpC_ret ?_
    exact ⟨.inl rfl, fun a ha => ⟨_, results_rep2 rfl ha rfl rfl, (0, 1), rfl, h⟩⟩
  · replace h := h.2 hc5
    refine wpC_seq ?_
    refine wpC_cut (fun ρ => ρ 1 = (Value.int .i64 p1) ∧ ρ 2 = (Value.int .i64 p2) ∧ ρ 3 = (Value.int .i64 p3) ∧ ρ 4 = (Value.pointer (some (Addr.mk b1 0 none))) ∧ True) ⟨e1, e2, e3, e4, trivial⟩ ?_
    rintro ρ ⟨e1, e2, e3, e4, -⟩
    refine wpC_region ?_
    refine wpR_val (v := (Value.int .i64 p3)) (w' := w2) rfl rfl rfl (x_move (v := (Value.int .i64 p3)) rfl e3) ?_
    refine wpR_enter rfl rfl rfl (x_call (vs := [(Value.int .i64 p3)]) rfl rfl (by rfl) Try.func16 NN_16 NB_16) (Calls.mono h ?_)
    rintro _ w3 ⟨r6, rfl, h⟩
    refine ⟨_, rfl, ?_⟩
    refine wpR_val (v := (Value.bool (!r6))) (w' := w3) rfl rfl rfl (x_not rfl rfl) ?_
    refine wpR_val (v := (Value.bool (!r6))) (w' := w3) rfl rfl rfl (x_assign (v := (Value.bool (!r6))) rfl rfl) ?_
    refine wpR_nil ?_
    refine wpC_cond (b := !r6) rfl (fun hc7 => ?_) (fun hc7 => ?_)
    · replace h := h.1 hc7
      refine wpC_seq ?_
      refine wpC_cut (fun ρ => True) trivial ?_
      rintro ρ -
      refine wpC_region ?_
      refine wpR_val (v := (Value.int .i64 0)) (w' := w3) rfl rfl rfl (x_assign (v := (Value.int .i64 0)) rfl rfl) ?_
      refine wpR_val (v := (Value.int .i64 3)) (w' := w3) rfl rfl rfl (x_assign (v := (Value.int .i64 3)) rfl rfl) ?_
      refine wpR_nil ?_
      refine wpC_ret ?_
      exact ⟨.inl rfl, fun a ha => ⟨_, results_rep2 rfl ha rfl rfl, (0, 3), rfl, h⟩⟩
    · replace h := h.2 hc7
      refine wpC_seq ?_
      refine wpC_cut (fun ρ => ρ 1 = (Value.int .i64 p1) ∧ ρ 2 = (Value.int .i64 p2) ∧ ρ 3 = (Value.int .i64 p3) ∧ ρ 4 = (Value.pointer (some (Addr.mk b1 0 none))) ∧ True) ⟨e1, e2, e3, e4, trivial⟩ ?_
      rintro ρ ⟨e1, e2, e3, e4, -⟩
      refine wpC_region ?_
      refine wpR_val (v := (Value.int .i64 p3)) (w' := w3) rfl rfl rfl (x_move (v := (Value.int .i64 p3)) rfl e3) ?_
      refine wpR_val (v := (Value.pointer (some ((Addr.mk b1 0 none).add 1)))) (w' := w3) rfl rfl rfl (x_fieldAddr rfl e4 FA_24_1) ?_
      obtain ⟨x8, q8, h⟩ := h
      refine wpR_val (v := (Value.int .i64 x8)) (w' := w3) rfl rfl rfl (x_load1 rfl rfl SH_3 q8) ?_
      refine wpR_val (v := (Value.bool (decide (p3 < x8)))) (w' := w3) rfl rfl rfl (x_lss rfl rfl rfl) ?_
      refine wpR_val (v := (Value.bool (decide (p3 < x8)))) (w' := w3) rfl rfl rfl (x_assign (v := (Value.bool (decide (p3 < x8)))) rfl rfl) ?_
      refine wpR_nil ?_
      refine wpC_cond (b := decide (p3 < x8)) rfl (fun hc9 => ?_) (fun hc9 => ?_)
      · replace h := h.1 hc9
        refine wpC_seq ?_
        refine wpC_cut (fun ρ => True) trivial ?_
        rintro ρ -
        refine wpC_region ?_
        refine wpR_val (v := (Value.int .i64 0)) (w' := w3) rfl rfl rfl (x_assign (v := (Value.int .i64 0)) rfl rfl) ?_
        refine wpR_val (v := (Value.int .i64 16)) (w' := w3) rfl rfl rfl (x_assign (v := (Value.int .i64 16)) rfl rfl) ?_
        refine wpR_nil ?_
        refine wpC_ret ?_
        exact ⟨.inl rfl, fun a ha => ⟨_, results_rep2 rfl ha rfl rfl, (0, 16), rfl, h⟩⟩
      · replace h := h.2 hc9
        refine wpC_seq ?_
        refine wpC_cut (fun ρ => ρ 1 = (Value.int .i64 p1) ∧ ρ 2 = (Value.int .i64 p2) ∧ ρ 3 = (Value.int .i64 p3) ∧ ρ 4 = (Value.pointer (some (Addr.mk b1 0 none))) ∧ True) ⟨e1, e2, e3, e4, trivial⟩ ?_
        rintro ρ ⟨e1, e2, e3, e4, -⟩
        obtain ⟨J11, h, hk⟩ := h
        refine wpC_drawJ (by kernel_rfl) (fun (x : Bool) ρ => ρ 25 = (Value.bool x) ∧ ρ 1 = (Value.int .i64 p1) ∧ ρ 2 = (Value.int .i64 p2) ∧ ρ 3 = (Value.int .i64 p3) ∧ ρ 4 = (Value.pointer (some (Addr.mk b1 0 none))) ∧ True) J11 ?_ ?_
        · clear hk
          unfold tk at h
          generalize w3.drew = w4 at h ⊢
          refine wpD_take (v := (Value.int .i64 p1)) 0 (fun _ => True) rfl (by kernel_rfl) (by kernel_rfl) (by kernel_rfl) rfl rfl rfl trivial (fun w _ => (x_move (v := (Value.int .i64 p1)) rfl e1)) ?_
          refine wpD_take (v := (Value.bool (decide (0 < p1)))) 1 (fun _ => True) rfl (by kernel_rfl) (by kernel_rfl) (by kernel_rfl) rfl rfl rfl trivial (fun w _ => (x_gtr rfl rfl rfl)) ?_
          refine wpD_take (v := (Value.bool (decide (0 < p1)))) 2 (fun _ => True) rfl (by kernel_rfl) (by kernel_rfl) (by kernel_rfl) rfl rfl rfl trivial (fun w _ => (x_move (v := (Value.bool (decide (0 < p1)))) rfl rfl)) ?_
          rcases Bool.eq_false_or_eq_true (decide (0 < p1)) with hc12 | hc12
          · replace h := h.1 hc12
            refine wpD_take (v := (Value.int .i64 p3)) 3 (fun _ => True) rfl (by kernel_rfl) (by kernel_rfl) (by kernel_rfl) (wantG rfl rfl rfl hc12) rfl rfl trivial (fun w _ => (x_move (v := (Value.int .i64 p3)) rfl e3)) ?_
            refine wpD_take (v := (Value.pointer (some ((Addr.mk b1 0 none).add 1)))) 4 (fun _ => True) rfl (by kernel_rfl) (by kernel_rfl) (by kernel_rfl) (wantG rfl rfl rfl hc12) rfl rfl trivial (fun w _ => (x_fieldAddr rfl e4 FA_24_1)) ?_
            obtain ⟨x13, q13, h⟩ := h
            refine wpD_take (v := (Value.int .i64 x13)) 5 (fun w => w.cell? ((Addr.mk b1 0 none).add 1) = some (Value.int .i64 x13)) rfl (by kernel_rfl) (by kernel_rfl) (by kernel_rfl) (wantG rfl rfl rfl hc12) rfl rfl q13 (fun w q13 => (x_load1 rfl rfl SH_3 q13)) ?_
            refine wpD_take (v := (Value.int .i64 (IntKind.i64.wrap (p3 - x13)))) 6 (fun _ => True) rfl (by kernel_rfl) (by kernel_rfl) (by kernel_rfl) (wantG rfl rfl rfl hc12) rfl rfl trivial (fun w _ => (x_sub rfl rfl rfl)) ?_
            refine wpD_take (v := (Value.int .i64 p2)) 7 (fun _ => True) rfl (by kernel_rfl) (by kernel_rfl) (by kernel_rfl) (wantG rfl rfl rfl hc12) rfl rfl trivial (fun w _ => (x_move (v := (Value.int .i64 p2)) rfl e2)) ?_
            refine wpD_take (v := (Value.pointer (some ((Addr.mk b1 0 none).add 0)))) 8 (fun _ => True) rfl (by kernel_rfl) (by kernel_rfl) (by kernel_rfl) (wantG rfl rfl rfl hc12) rfl rfl trivial (fun w _ => (x_fieldAddr rfl e4 FA_24_0)) ?_
            obtain ⟨x14, q14, h⟩ := h
            refine wpD_take (v := (Value.int .i64 x14)) 9 (fun w => w.cell? ((Addr.mk b1 0 none).add 0) = some (Value.int .i64 x14)) rfl (by kernel_rfl) (by kernel_rfl) (by kernel_rfl) (wantG rfl rfl rfl hc12) rfl rfl q14 (fun w q14 => (x_load1 rfl rfl SH_3 q14)) ?_
            refine wpD_take (v := (Value.int .i64 (IntKind.i64.wrap (p2 - x14)))) 10 (fun _ => True) rfl (by kernel_rfl) (by kernel_rfl) (by kernel_rfl) (wantG rfl rfl rfl hc12) rfl rfl trivial (fun w _ => (x_sub rfl rfl rfl)) ?_
            refine wpD_take (v := (Value.int .i64 p1)) 11 (fun _ => True) rfl (by kernel_rfl) (by kernel_rfl) (by kernel_rfl) (wantG rfl rfl rfl hc12) rfl rfl trivial (fun w _ => (x_move (v := (Value.int .i64 p1)) rfl e1)) ?_
            obtain ⟨q15, h⟩ := h
            refine wpD_take (v := (Value.int .i64 (IntKind.i64.wrap ((IntKind.i64.wrap (p2 - x14)).tdiv p1)))) 12 (fun _ => True) rfl (by kernel_rfl) (by kernel_rfl) (by kernel_rfl) (wantG rfl rfl rfl hc12) rfl rfl trivial (fun w _ => (x_quo rfl rfl rfl q15)) ?_
            refine wpD_take (v := (Value.bool (decide ((IntKind.i64.wrap ((IntKind.i64.wrap (p2 - x14)).tdiv p1)) < (IntKind.i64.wrap (p3 - x13)))))) 13 (fun _ => True) rfl (by kernel_rfl) (by kernel_rfl) (by kernel_rfl) (wantG rfl rfl rfl hc12) rfl rfl trivial (fun w _ => (x_gtr rfl rfl rfl)) ?_
            refine wpD_take (v := (Value.bool (decide ((IntKind.i64.wrap ((IntKind.i64.wrap (p2 - x14)).tdiv p1)) < (IntKind.i64.wrap (p3 - x13)))))) 14 (fun _ => True) rfl (by kernel_rfl) (by kernel_rfl) (by kernel_rfl) rfl rfl rfl trivial (fun w _ => (x_pickT (v := (Value.bool (decide ((IntKind.i64.wrap ((IntKind.i64.wrap (p2 - x14)).tdiv p1)) < (IntKind.i64.wrap (p3 - x13)))))) rfl rfl hc12 rfl)) ?_
            refine wpD_take (v := (Value.bool (decide ((IntKind.i64.wrap ((IntKind.i64.wrap (p2 - x14)).tdiv p1)) < (IntKind.i64.wrap (p3 - x13)))))) 15 (fun _ => True) rfl (by kernel_rfl) (by kernel_rfl) (by kernel_rfl) rfl rfl rfl trivial (fun w _ => (x_assign (v := (Value.bool (decide ((IntKind.i64.wrap ((IntKind.i64.wrap (p2 - x14)).tdiv p1)) < (IntKind.i64.wrap (p3 - x13)))))) rfl rfl)) ?_
            exact wpD_done (by kernel_rfl) ⟨decide ((IntKind.i64.wrap ((IntKind.i64.wrap (p2 - x14)).tdiv p1)) < (IntKind.i64.wrap (p3 - x13))), ⟨rfl, e1, e2, e3, e4, trivial⟩, h⟩
          · replace h := h.2 hc12
            refine wpD_pass 3 rfl (by kernel_rfl) (by kernel_rfl) (by kernel_rfl) (wantN rfl rfl rfl hc12) rfl rfl ?_
            refine wpD_pass 4 rfl (by kernel_rfl) (by kernel_rfl) (by kernel_rfl) (wantN rfl rfl rfl hc12) rfl rfl ?_
            refine wpD_pass 5 rfl (by kernel_rfl) (by kernel_rfl) (by kernel_rfl) (wantN rfl rfl rfl hc12) rfl rfl ?_
            refine wpD_pass 6 rfl (by kernel_rfl) (by kernel_rfl) (by kernel_rfl) (wantN rfl rfl rfl hc12) rfl rfl ?_
            refine wpD_pass 7 rfl (by kernel_rfl) (by kernel_rfl) (by kernel_rfl) (wantN rfl rfl rfl hc12) rfl rfl ?_
            refine wpD_pass 8 rfl (by kernel_rfl) (by kernel_rfl) (by kernel_rfl) (wantN rfl rfl rfl hc12) rfl rfl ?_
            refine wpD_pass 9 rfl (by kernel_rfl) (by kernel_rfl) (by kernel_rfl) (wantN rfl rfl rfl hc12) rfl rfl ?_
            refine wpD_pass 10 rfl (by kernel_rfl) (by kernel_rfl) (by kernel_rfl) (wantN rfl rfl rfl hc12) rfl rfl ?_
            refine wpD_pass 11 rfl (by kernel_rfl) (by kernel_rfl) (by kernel_rfl) (wantN rfl rfl rfl hc12) rfl rfl ?_
            refine wpD_pass 12 rfl (by kernel_rfl) (by kernel_rfl) (by kernel_rfl) (wantN rfl rfl rfl hc12) rfl rfl ?_
            refine wpD_pass 13 rfl (by kernel_rfl) (by kernel_rfl) (by kernel_rfl) (wantN rfl rfl rfl hc12) rfl rfl ?_
            refine wpD_take (v := (Value.bool false)) 14 (fun _ => True) rfl (by kernel_rfl) (by kernel_rfl) (by kernel_rfl) rfl rfl rfl trivial (fun w _ => (x_pickF (v := (Value.bool false)) rfl rfl hc12 rfl)) ?_
            refine wpD_take (v := (Value.bool false)) 15 (fun _ => True) rfl (by kernel_rfl) (by kernel_rfl) (by kernel_rfl) rfl rfl rfl trivial (fun w _ => (x_assign (v := (Value.bool false)) rfl rfl)) ?_
            exact wpD_done (by kernel_rfl) ⟨false, ⟨rfl, e1, e2, e3, e4, trivial⟩, h⟩
        clear h
        rintro l16 ρ w5 ⟨e25, e1, e2, e3, e4, -⟩ h
        replace h := hk l16 w5 h
        clear hk
        refine wpC_cond (b := l16) e25 (fun hc17 => ?_) (fun hc17 => ?_)
        · replace h := h.1 hc17
          refine wpC_seq ?_
          refine wpC_region ?_
          refine wpR_val (v := (Value.int .i64 p2)) (w' := w5) rfl rfl rfl (x_move (v := (Value.int .i64 p2)) rfl e2) ?_
          refine wpR_val (v := (Value.int .i64 p2)) (w' := w5) rfl rfl rfl (x_assign (v := (Value.int .i64 p2)) rfl rfl) ?_
          refine wpR_val (v := (Value.int .i64 0)) (w' := w5) rfl rfl rfl (x_assign (v := (Value.int .i64 0)) rfl rfl) ?_
          refine wpR_nil ?_
          refine wpC_ret ?_
          exact ⟨.inl rfl, fun a ha => ⟨_, results_rep2 rfl ha rfl rfl, (p2, 0), rfl, h⟩⟩
        · replace h := h.2 hc17
          refine wpC_skip ?_
          refine wpC_seq ?_
          refine wpC_region ?_
          refine wpR_val (v := (Value.pointer (some ((Addr.mk b1 0 none).add 0)))) (w' := w5) rfl rfl rfl (x_fieldAddr rfl e4 FA_24_0) ?_
          obtain ⟨x18, q18, h⟩ := h
          refine wpR_val (v := (Value.int .i64 x18)) (w' := w5) rfl rfl rfl (x_load1 rfl rfl SH_3 q18) ?_
          refine wpR_val (v := (Value.int .i64 p3)) (w' := w5) rfl rfl rfl (x_move (v := (Value.int .i64 p3)) rfl e3) ?_
          refine wpR_val (v := (Value.pointer (some ((Addr.mk b1 0 none).add 1)))) (w' := w5) rfl rfl rfl (x_fieldAddr rfl e4 FA_24_1) ?_
          obtain ⟨x19, q19, h⟩ := h
          refine wpR_val (v := (Value.int .i64 x19)) (w' := w5) rfl rfl rfl (x_load1 rfl rfl SH_3 q19) ?_
          refine wpR_val (v := (Value.int .i64 (IntKind.i64.wrap (p3 - x19)))) (w' := w5) rfl rfl rfl (x_sub rfl rfl rfl) ?_
          refine wpR_val (v := (Value.int .i64 p1)) (w' := w5) rfl rfl rfl (x_move (v := (Value.int .i64 p1)) rfl e1) ?_
          refine wpR_val (v := (Value.int .i64 (IntKind.i64.wrap ((IntKind.i64.wrap (p3 - x19)) * p1)))) (w' := w5) rfl rfl rfl (x_mul rfl rfl rfl) ?_
          refine wpR_val (v := (Value.int .i64 (IntKind.i64.wrap (x18 + (IntKind.i64.wrap ((IntKind.i64.wrap (p3 - x19)) * p1)))))) (w' := w5) rfl rfl rfl (x_add rfl rfl rfl) ?_
          refine wpR_val (v := (Value.int .i64 (IntKind.i64.wrap (x18 + (IntKind.i64.wrap ((IntKind.i64.wrap (p3 - x19)) * p1)))))) (w' := w5) rfl rfl rfl (x_assign (v := (Value.int .i64 (IntKind.i64.wrap (x18 + (IntKind.i64.wrap ((IntKind.i64.wrap (p3 - x19)) * p1)))))) rfl rfl) ?_
          refine wpR_val (v := (Value.int .i64 0)) (w' := w5) rfl rfl rfl (x_assign (v := (Value.int .i64 0)) rfl rfl) ?_
          refine wpR_nil ?_
          refine wpC_ret ?_
          exact ⟨.inl rfl, fun a ha => ⟨_, results_rep2 rfl ha rfl rfl, (IntKind.i64.wrap (x18 + (IntKind.i64.wrap ((IntKind.i64.wrap (p3 - x19)) * p1))), 0), rfl, h⟩⟩

/-- rate.Take -/
def F8 (p0_0 : Int) (p0_1 : Int) (p1 : Int) (p2 : Int) (p3 : Int) (p4 : Int) (w0 : World) (K : (Int × Int × Int) → World → Prop) : Prop :=
  nw 24 #[(Value.int .i64 p0_0), (Value.int .i64 p0_1)] w0 fun b1 w1 =>
  nw 24 #[(Value.int .i64 0), (Value.int .i64 0)] w1 fun b2 w2 =>
  cnd (decide (p4 < 0))
    (
    ld (Value.int .i64) ((Addr.mk b1 0 none).add 0) w2 fun x4 =>
    ld (Value.int .i64) ((Addr.mk b1 0 none).add 1) w2 fun x5 =>
    st (Addr.mk b2 0 none) [(Value.int .i64 x4), (Value.int .i64 x5)] w2 fun w3 =>
    ld (Value.int .i64) ((Addr.mk b2 0 none).add 0) w3 fun x7 =>
    ld (Value.int .i64) ((Addr.mk b2 0 none).add 1) w3 fun x8 =>
    K (x7, x8, 1) w3
    )
    (
    ld (Value.int .i64) ((Addr.mk b1 0 none).add 0) w2 fun x9 =>
    ld (Value.int .i64) ((Addr.mk b1 0 none).add 1) w2 fun x10 =>
    callC Try.prog 10 #[(Value.agg #[(Value.int .i64 x9), (Value.int .i64 x10)]), (Value.int .i64 p1), (Value.int .i64 p2), (Value.int .i64 p3)] (fun (r : Int × Int) => (Value.tuple #[(Value.int .i64 r.1), (Value.int .i64 r.2)])) w2 fun r11 w4 =>
    cnd (!decide (r11.2 = 0))
      (
      ld (Value.int .i64) ((Addr.mk b1 0 none).add 0) w4 fun x13 =>
      ld (Value.int .i64) ((Addr.mk b1 0 none).add 1) w4 fun x14 =>
      st (Addr.mk b2 0 none) [(Value.int .i64 x13), (Value.int .i64 x14)] w4 fun w5 =>
      ld (Value.int .i64) ((Addr.mk b2 0 none).add 0) w5 fun x16 =>
      ld (Value.int .i64) ((Addr.mk b2 0 none).add 1) w5 fun x17 =>
      K (x16, x17, r11.2) w5
      )
      (
      cnd (decide (r11.1 < p4))
        (
        ld (Value.int .i64) ((Addr.mk b1 0 none).add 0) w4 fun x19 =>
        ld (Value.int .i64) ((Addr.mk b1 0 none).add 1) w4 fun x20 =>
        st (Addr.mk b2 0 none) [(Value.int .i64 x19), (Value.int .i64 x20)] w4 fun w6 =>
        ld (Value.int .i64) ((Addr.mk b2 0 none).add 0) w6 fun x22 =>
        ld (Value.int .i64) ((Addr.mk b2 0 none).add 1) w6 fun x23 =>
        K (x22, x23, 6) w6
        )
        (
        st (Addr.mk b2 0 none) [(Value.int .i64 (IntKind.i64.wrap (r11.1 - p4))), (Value.int .i64 p3)] w4 fun w7 =>
        ld (Value.int .i64) ((Addr.mk b2 0 none).add 0) w7 fun x25 =>
        ld (Value.int .i64) ((Addr.mk b2 0 none).add 1) w7 fun x26 =>
        K (x25, x26, 0) w7
        )
      )
    )
set_option maxRecDepth 100000 in
theorem D8 (p0_0 : Int) (p0_1 : Int) (p1 : Int) (p2 : Int) (p3 : Int) (p4 : Int) (w0 : World) (K : (Int × Int × Int) → World → Prop) (h : F8 p0_0 p0_1 p1 p2 p3 p4 w0 K) : callC Try.prog 8 #[(Value.agg #[(Value.int .i64 p0_0), (Value.int .i64 p0_1)]), (Value.int .i64 p1), (Value.int .i64 p2), (Value.int .i64 p3), (Value.int .i64 p4)] (fun (r : Int × Int × Int) => (Value.tuple #[(Value.agg #[(Value.int .i64 r.1), (Value.int .i64 r.2.1)]), (Value.int .i64 r.2.2)])) w0 K := by
  unfold F8 at h
  refine calls_of_wpC Try.func8 rfl 38 rfl (by simp) ?_
  intro ρ hρ
  have e0 : ρ 0 = (Value.agg #[(Value.int .i64 p0_0), (Value.int .i64 p0_1)]) := hρ 0
  have e1 : ρ 1 = (Value.int .i64 p1) := hρ 1
  have e2 : ρ 2 = (Value.int .i64 p2) := hρ 2
  have e3 : ρ 3 = (Value.int .i64 p3) := hρ 3
  have e4 : ρ 4 = (Value.int .i64 p4) := hρ 4
  clear hρ
  refine wpC_seq ?_
  refine wpC_region ?_
  obtain ⟨b1, hb1⟩ : ∃ u, u = w0.heap.size := ⟨_, rfl⟩
  obtain ⟨w1, hw1⟩ : ∃ u, u = w0.alloc (.cells #[(Value.int .i64 p0_0), (Value.int .i64 p0_1)] 24) := ⟨_, rfl⟩
  replace h := h b1 w1 hb1 hw1
  refine wpR_val (v := (Value.pointer (some (Addr.mk b1 0 none)))) (w' := w1) rfl rfl rfl ((x_box (v := (Value.agg #[(Value.int .i64 p0_0), (Value.int .i64 p0_1)])) rfl e0).trans (by rw [hb1, hw1]; rfl)) ?_
  obtain ⟨b2, hb2⟩ : ∃ u, u = w1.heap.size := ⟨_, rfl⟩
  obtain ⟨w2, hw2⟩ : ∃ u, u = w1.alloc (.cells #[(Value.int .i64 0), (Value.int .i64 0)] 24) := ⟨_, rfl⟩
  replace h := h b2 w2 hb2 hw2
  refine wpR_val (v := (Value.pointer (some (Addr.mk b2 0 none)))) (w' := w2) rfl rfl rfl ((x_alloc rfl ZV_24).trans (by rw [hb2, hw2]; rfl)) ?_
  refine wpR_val (v := (Value.int .i64 0)) (w' := w2) rfl rfl rfl (x_assign (v := (Value.int .i64 0)) rfl rfl) ?_
  refine wpR_nil ?_
  refine wpC_seq ?_
  refine wpC_seq ?_
  refine wpC_cut (fun ρ => ρ 1 = (Value.int .i64 p1) ∧ ρ 2 = (Value.int .i64 p2) ∧ ρ 3 = (Value.int .i64 p3) ∧ ρ 4 = (Value.int .i64 p4) ∧ ρ 5 = (Value.pointer (some (Addr.mk b1 0 none))) ∧ ρ 10 = (Value.pointer (some (Addr.mk b2 0 none))) ∧ True) ⟨e1, e2, e3, e4, rfl, rfl, trivial⟩ ?_
  rintro ρ ⟨e1, e2, e3, e4, e5, e10, -⟩
  refine wpC_region ?_
  refine wpR_val (v := (Value.int .i64 p4)) (w' := w2) rfl rfl rfl (x_move (v := (Value.int .i64 p4)) rfl e4) ?_
  refine wpR_val (v := (Value.bool (decide (p4 < 0)))) (w' := w2) rfl rfl rfl (x_lss rfl rfl rfl) ?_
  refine wpR_nil ?_
  refine wpC_cond (b := decide (p4 < 0)) rfl (fun hc3 => ?_) (fun hc3 => ?_)
  · replace h := h.1 hc3
    refine wpC_seq ?_
    refine wpC_cut (fun ρ => ρ 5 = (Value.pointer (some (Addr.mk b1 0 none))) ∧ ρ 10 = (Value.pointer (some (Addr.mk b2 0 none))) ∧ True) ⟨e5, e10, trivial⟩ ?_
    rintro ρ ⟨e5, e10, -⟩
    refine wpC_region ?_
    obtain ⟨x4, q4, h⟩ := h
    obtain ⟨x5, q5, h⟩ := h
    refine wpR_val (v := (Value.agg #[(Value.int .i64 x4), (Value.int .i64 x5)])) (w' := w2) rfl rfl rfl (x_loadN [(Value.int .i64 x4), (Value.int .i64 x5)] rfl e5 SH_24 (CellsAt.out (CellsAt.cons q4 (CellsAt.cons q5 CellsAt.nil)))) ?_
    obtain ⟨q6, h⟩ := h
    obtain ⟨w3, hw6⟩ : ∃ u, u = setAll w2 (Addr.mk b2 0 none) [(Value.int .i64 x4), (Value.int .i64 x5)] 0 := ⟨_, rfl⟩
    replace h := h w3 hw6
    refine wpR_skp (w' := w3) rfl rfl ((x_store (v := (Value.agg #[(Value.int .i64 x4), (Value.int .i64 x5)])) rfl e10 rfl SZ_24 (ones (by rfl)) q6).trans (by rw [hw6]; rfl)) ?_
    refine wpR_val (v := (Value.int .i64 1)) (w' := w3) rfl rfl rfl (x_assign (v := (Value.int .i64 1)) rfl rfl) ?_
    refine wpR_nil ?_
    refine wpC_ret ?_
    obtain ⟨x7, q7, h⟩ := h
    obtain ⟨x8, q8, h⟩ := h
    exact ⟨.inl rfl, fun a ha => ⟨_, results_repCT [(Value.int .i64 x7), (Value.int .i64 x8)] rfl ha e10 rfl SH_24 (CellsAt.out (CellsAt.cons q7 (CellsAt.cons q8 CellsAt.nil))), (x7, x8, 1), rfl, h⟩⟩
  · replace h := h.2 hc3
    refine wpC_skip ?_
    refine wpC_seq ?_
    refine wpC_cut (fun ρ => ρ 1 = (Value.int .i64 p1) ∧ ρ 2 = (Value.int .i64 p2) ∧ ρ 3 = (Value.int .i64 p3) ∧ ρ 4 = (Value.int .i64 p4) ∧ ρ 5 = (Value.pointer (some (Addr.mk b1 0 none))) ∧ ρ 10 = (Value.pointer (some (Addr.mk b2 0 none))) ∧ True) ⟨e1, e2, e3, e4, e5, e10, trivial⟩ ?_
    rintro ρ ⟨e1, e2, e3, e4, e5, e10, -⟩
    refine wpC_region ?_
    obtain ⟨x9, q9, h⟩ := h
    obtain ⟨x10, q10, h⟩ := h
    refine wpR_val (v := (Value.agg #[(Value.int .i64 x9), (Value.int .i64 x10)])) (w' := w2) rfl rfl rfl (x_loadN [(Value.int .i64 x9), (Value.int .i64 x10)] rfl e5 SH_24 (CellsAt.out (CellsAt.cons q9 (CellsAt.cons q10 CellsAt.nil)))) ?_
    refine wpR_val (v := (Value.int .i64 p1)) (w' := w2) rfl rfl rfl (x_move (v := (Value.int .i64 p1)) rfl e1) ?_
    refine wpR_val (v := (Value.int .i64 p2)) (w' := w2) rfl rfl rfl (x_move (v := (Value.int .i64 p2)) rfl e2) ?_
    refine wpR_val (v := (Value.int .i64 p3)) (w' := w2) rfl rfl rfl (x_move (v := (Value.int .i64 p3)) rfl e3) ?_
    refine wpR_enter rfl rfl rfl (x_call (vs := [(Value.agg #[(Value.int .i64 x9), (Value.int .i64 x10)]), (Value.int .i64 p1), (Value.int .i64 p2), (Value.int .i64 p3)]) rfl rfl (by rfl) Try.func10 NN_10 NB_10) (Calls.mono h ?_)
    rintro _ w4 ⟨r11, rfl, h⟩
    refine ⟨_, rfl, ?_⟩
    refine wpR_val (v := (Value.tuple #[(Value.int .i64 r11.1), (Value.int .i64 r11.2)])) (w' := w4) rfl rfl rfl (x_move (v := (Value.tuple #[(Value.int .i64 r11.1), (Value.int .i64 r11.2)])) rfl rfl) ?_
    refine wpR_val (v := (Value.int .i64 r11.1)) (w' := w4) rfl rfl rfl (x_extract rfl rfl rfl) ?_
    refine wpR_val (v := (Value.int .i64 r11.2)) (w' := w4) rfl rfl rfl (x_extract rfl rfl rfl) ?_
    refine wpR_val (v := (Value.int .i64 r11.1)) (w' := w4) rfl rfl rfl (x_assign (v := (Value.int .i64 r11.1)) rfl rfl) ?_
    refine wpR_val (v := (Value.int .i64 r11.2)) (w' := w4) rfl rfl rfl (x_assign (v := (Value.int .i64 r11.2)) rfl rfl) ?_
    refine wpR_nil ?_
    refine wpC_seq ?_
    refine wpC_seq ?_
    refine wpC_cut (fun ρ => ρ 3 = (Value.int .i64 p3) ∧ ρ 4 = (Value.int .i64 p4) ∧ ρ 5 = (Value.pointer (some (Addr.mk b1 0 none))) ∧ ρ 10 = (Value.pointer (some (Addr.mk b2 0 none))) ∧ ρ 12 = (Value.int .i64 r11.1) ∧ ρ 13 = (Value.int .i64 r11.2) ∧ True) ⟨e3, e4, e5, e10, rfl, rfl, trivial⟩ ?_
    rintro ρ ⟨e3, e4, e5, e10, e12, e13, -⟩
    refine wpC_region ?_
    refine wpR_val (v := (Value.int .i64 r11.2)) (w' := w4) rfl rfl rfl (x_move (v := (Value.int .i64 r11.2)) rfl e13) ?_
    refine wpR_val (v := (Value.bool (!decide (r11.2 = 0)))) (w' := w4) rfl rfl rfl (x_neq rfl rfl rfl) ?_
    refine wpR_nil ?_
    refine wpC_cond (b := !decide (r11.2 = 0)) rfl (fun hc12 => ?_) (fun hc12 => ?_)
    · replace h := h.1 hc12
      refine wpC_seq ?_
      refine wpC_cut (fun ρ => ρ 5 = (Value.pointer (some (Addr.mk b1 0 none))) ∧ ρ 10 = (Value.pointer (some (Addr.mk b2 0 none))) ∧ ρ 13 = (Value.int .i64 r11.2) ∧ True) ⟨e5, e10, e13, trivial⟩ ?_
      rintro ρ ⟨e5, e10, e13, -⟩
      refine wpC_region ?_
      obtain ⟨x13, q13, h⟩ := h
      obtain ⟨x14, q14, h⟩ := h
      refine wpR_val (v := (Value.agg #[(Value.int .i64 x13), (Value.int .i64 x14)])) (w' := w4) rfl rfl rfl (x_loadN [(Value.int .i64 x13), (Value.int .i64 x14)] rfl e5 SH_24 (CellsAt.out (CellsAt.cons q13 (CellsAt.cons q14 CellsAt.nil)))) ?_
      refine wpR_val (v := (Value.int .i64 r11.2)) (w' := w4) rfl rfl rfl (x_move (v := (Value.int .i64 r11.2)) rfl e13) ?_
      obtain ⟨q15, h⟩ := h
      obtain ⟨w5, hw15⟩ : ∃ u, u = setAll w4 (Addr.mk b2 0 none) [(Value.int .i64 x13), (Value.int .i64 x14)] 0 := ⟨_, rfl⟩
      replace h := h w5 hw15
      refine wpR_skp (w' := w5) rfl rfl ((x_store (v := (Value.agg #[(Value.int .i64 x13), (Value.int .i64 x14)])) rfl e10 rfl SZ_24 (ones (by rfl)) q15).trans (by rw [hw15]; rfl)) ?_
      refine wpR_val (v := (Value.int .i64 r11.2)) (w' := w5) rfl rfl rfl (x_assign (v := (Value.int .i64 r11.2)) rfl rfl) ?_
      refine wpR_nil ?_
      refine wpC_ret ?_
      obtain ⟨x16, q16, h⟩ := h
      obtain ⟨x17, q17, h⟩ := h
      exact ⟨.inl rfl, fun a ha => ⟨_, results_repCT [(Value.int .i64 x16), (Value.int .i64 x17)] rfl ha e10 rfl SH_24 (CellsAt.out (CellsAt.cons q16 (CellsAt.cons q17 CellsAt.nil))), (x16, x17, r11.2), rfl, h⟩⟩
    · replace h := h.2 hc12
      refine wpC_skip ?_
      refine wpC_seq ?_
      refine wpC_seq ?_
      refine wpC_cut (fun ρ => ρ 3 = (Value.int .i64 p3) ∧ ρ 4 = (Value.int .i64 p4) ∧ ρ 5 = (Value.pointer (some (Addr.mk b1 0 none))) ∧ ρ 10 = (Value.pointer (some (Addr.mk b2 0 none))) ∧ ρ 12 = (Value.int .i64 r11.1) ∧ True) ⟨e3, e4, e5, e10, e12, trivial⟩ ?_
      rintro ρ ⟨e3, e4, e5, e10, e12, -⟩
      refine wpC_region ?_
      refine wpR_val (v := (Value.int .i64 p4)) (w' := w4) rfl rfl rfl (x_move (v := (Value.int .i64 p4)) rfl e4) ?_
      refine wpR_val (v := (Value.int .i64 r11.1)) (w' := w4) rfl rfl rfl (x_move (v := (Value.int .i64 r11.1)) rfl e12) ?_
      refine wpR_val (v := (Value.bool (decide (r11.1 < p4)))) (w' := w4) rfl rfl rfl (x_gtr rfl rfl rfl) ?_
      refine wpR_nil ?_
      refine wpC_cond (b := decide (r11.1 < p4)) rfl (fun hc18 => ?_) (fun hc18 => ?_)
      · replace h := h.1 hc18
        refine wpC_seq ?_
        refine wpC_cut (fun ρ => ρ 5 = (Value.pointer (some (Addr.mk b1 0 none))) ∧ ρ 10 = (Value.pointer (some (Addr.mk b2 0 none))) ∧ True) ⟨e5, e10, trivial⟩ ?_
        rintro ρ ⟨e5, e10, -⟩
        refine wpC_region ?_
        obtain ⟨x19, q19, h⟩ := h
        obtain ⟨x20, q20, h⟩ := h
        refine wpR_val (v := (Value.agg #[(Value.int .i64 x19), (Value.int .i64 x20)])) (w' := w4) rfl rfl rfl (x_loadN [(Value.int .i64 x19), (Value.int .i64 x20)] rfl e5 SH_24 (CellsAt.out (CellsAt.cons q19 (CellsAt.cons q20 CellsAt.nil)))) ?_
        obtain ⟨q21, h⟩ := h
        obtain ⟨w6, hw21⟩ : ∃ u, u = setAll w4 (Addr.mk b2 0 none) [(Value.int .i64 x19), (Value.int .i64 x20)] 0 := ⟨_, rfl⟩
        replace h := h w6 hw21
        refine wpR_skp (w' := w6) rfl rfl ((x_store (v := (Value.agg #[(Value.int .i64 x19), (Value.int .i64 x20)])) rfl e10 rfl SZ_24 (ones (by rfl)) q21).trans (by rw [hw21]; rfl)) ?_
        refine wpR_val (v := (Value.int .i64 6)) (w' := w6) rfl rfl rfl (x_assign (v := (Value.int .i64 6)) rfl rfl) ?_
        refine wpR_nil ?_
        refine wpC_ret ?_
        obtain ⟨x22, q22, h⟩ := h
        obtain ⟨x23, q23, h⟩ := h
        exact ⟨.inl rfl, fun a ha => ⟨_, results_repCT [(Value.int .i64 x22), (Value.int .i64 x23)] rfl ha e10 rfl SH_24 (CellsAt.out (CellsAt.cons q22 (CellsAt.cons q23 CellsAt.nil))), (x22, x23, 6), rfl, h⟩⟩
      · replace h := h.2 hc18
        refine wpC_skip ?_
        refine wpC_seq ?_
        refine wpC_cut (fun ρ => ρ 3 = (Value.int .i64 p3) ∧ ρ 4 = (Value.int .i64 p4) ∧ ρ 10 = (Value.pointer (some (Addr.mk b2 0 none))) ∧ ρ 12 = (Value.int .i64 r11.1) ∧ True) ⟨e3, e4, e10, e12, trivial⟩ ?_
        rintro ρ ⟨e3, e4, e10, e12, -⟩
        refine wpC_region ?_
        refine wpR_val (v := (Value.int .i64 r11.1)) (w' := w4) rfl rfl rfl (x_move (v := (Value.int .i64 r11.1)) rfl e12) ?_
        refine wpR_val (v := (Value.int .i64 p4)) (w' := w4) rfl rfl rfl (x_move (v := (Value.int .i64 p4)) rfl e4) ?_
        refine wpR_val (v := (Value.int .i64 (IntKind.i64.wrap (r11.1 - p4)))) (w' := w4) rfl rfl rfl (x_sub rfl rfl rfl) ?_
        refine wpR_val (v := (Value.int .i64 p3)) (w' := w4) rfl rfl rfl (x_move (v := (Value.int .i64 p3)) rfl e3) ?_
        refine wpR_val (v := (Value.agg #[(Value.int .i64 (IntKind.i64.wrap (r11.1 - p4))), (Value.int .i64 p3)])) (w' := w4) rfl rfl rfl (x_build (qs := [(0, (Value.int .i64 (IntKind.i64.wrap (r11.1 - p4)))), (1, (Value.int .i64 p3))]) rfl (by rfl) (BD_24_0_1 (IntKind.i64.wrap (r11.1 - p4)) p3 _)) ?_
        obtain ⟨q24, h⟩ := h
        obtain ⟨w7, hw24⟩ : ∃ u, u = setAll w4 (Addr.mk b2 0 none) [(Value.int .i64 (IntKind.i64.wrap (r11.1 - p4))), (Value.int .i64 p3)] 0 := ⟨_, rfl⟩
        replace h := h w7 hw24
        refine wpR_skp (w' := w7) rfl rfl ((x_store (v := (Value.agg #[(Value.int .i64 (IntKind.i64.wrap (r11.1 - p4))), (Value.int .i64 p3)])) rfl e10 rfl SZ_24 (ones (by rfl)) q24).trans (by rw [hw24]; rfl)) ?_
        refine wpR_val (v := (Value.int .i64 0)) (w' := w7) rfl rfl rfl (x_assign (v := (Value.int .i64 0)) rfl rfl) ?_
        refine wpR_nil ?_
        refine wpC_ret ?_
        obtain ⟨x25, q25, h⟩ := h
        obtain ⟨x26, q26, h⟩ := h
        exact ⟨.inl rfl, fun a ha => ⟨_, results_repCT [(Value.int .i64 x25), (Value.int .i64 x26)] rfl ha e10 rfl SH_24 (CellsAt.out (CellsAt.cons q25 (CellsAt.cons q26 CellsAt.nil))), (x25, x26, 0), rfl, h⟩⟩

/-- rate.Next -/
def F12 (p0_0 : Int) (p0_1 : Int) (p1 : Int) (p2 : Int) (p3 : Int) (w0 : World) (K : (Int × Int) → World → Prop) : Prop :=
  nw 24 #[(Value.int .i64 p0_0), (Value.int .i64 p0_1)] w0 fun b1 w1 =>
  jn (fun J2 => cnd (decide (p3 < 0))
    (
    J2 true w1
    )
    (
    ld (Value.int .i64) ((Addr.mk b1 0 none).add 0) w1 fun x4 =>
    ld (Value.int .i64) ((Addr.mk b1 0 none).add 1) w1 fun x5 =>
    callC Try.prog 14 #[(Value.agg #[(Value.int .i64 x4), (Value.int .i64 x5)]), (Value.int .i64 p1), (Value.int .i64 p2)] (fun (r : Bool) => (Value.bool r)) w1 fun r6 w2 =>
    J2 (!r6) w2
    ))
  fun c7 w3 =>
  cnd (c7)
    (
    K (0, 1) w3
    )
    (
    ld (Value.int .i64) ((Addr.mk b1 0 none).add 0) w3 fun x9 =>
    cnd (decide (p3 ≤ x9))
      (
      ld (Value.int .i64) ((Addr.mk b1 0 none).add 1) w3 fun x11 =>
      K (x11, 0) w3
      )
      (
      cnd ((decide (p2 < p3)) || (decide (p1 = 0)))
        (
        K (0, 6) w3
        )
        (
        ld (Value.int .i64) ((Addr.mk b1 0 none).add 0) w3 fun x15 =>
        jn (fun (J17 : Int → World → Prop) => tk w3 fun w4 =>
          ld (Value.int .i64) ((Addr.mk b1 0 none).add 1) w4 fun x18 =>
          p1 ≠ 0 ∧
          J17 (IntKind.i64.wrap (x18 + (IntKind.i64.wrap ((IntKind.i64.wrap (p3 - x15)).tdiv p1)))) w4
        )
        fun l20 w5 =>
        jn (fun (J21 : Int → World → Prop) =>
          p1 ≠ 0 ∧
          cnd (decide (0 < ((IntKind.i64.wrap (p3 - x15)).tmod p1)))
            (
            J21 (IntKind.i64.wrap (l20 + 1)) w5
            )
            (
            J21 l20 w5
            )
        )
        fun l22 w6 =>
        cnd (decide (1073741824 < l22))
          (
          K (0, 6) w6
          )
          (
          K (l22, 0) w6
          )
        )
      )
    )
set_option maxRecDepth 100000 in
theorem D12 (p0_0 : Int) (p0_1 : Int) (p1 : Int) (p2 : Int) (p3 : Int) (w0 : World) (K : (Int × Int) → World → Prop) (h : F12 p0_0 p0_1 p1 p2 p3 w0 K) : callC Try.prog 12 #[(Value.agg #[(Value.int .i64 p0_0), (Value.int .i64 p0_1)]), (Value.int .i64 p1), (Value.int .i64 p2), (Value.int .i64 p3)] (fun (r : Int × Int) => (Value.tuple #[(Value.int .i64 r.1), (Value.int .i64 r.2)])) w0 K := by
  unfold F12 at h
  refine calls_of_wpC Try.func12 rfl 53 rfl (by simp) ?_
  intro ρ hρ
  have e0 : ρ 0 = (Value.agg #[(Value.int .i64 p0_0), (Value.int .i64 p0_1)]) := hρ 0
  have e1 : ρ 1 = (Value.int .i64 p1) := hρ 1
  have e2 : ρ 2 = (Value.int .i64 p2) := hρ 2
  have e3 : ρ 3 = (Value.int .i64 p3) := hρ 3
  clear hρ
  refine wpC_seq ?_
  refine wpC_region ?_
  obtain ⟨b1, hb1⟩ : ∃ u, u = w0.heap.size := ⟨_, rfl⟩
  obtain ⟨w1, hw1⟩ : ∃ u, u = w0.alloc (.cells #[(Value.int .i64 p0_0), (Value.int .i64 p0_1)] 24) := ⟨_, rfl⟩
  replace h := h b1 w1 hb1 hw1
  refine wpR_val (v := (Value.pointer (some (Addr.mk b1 0 none)))) (w' := w1) rfl rfl rfl ((x_box (v := (Value.agg #[(Value.int .i64 p0_0), (Value.int .i64 p0_1)])) rfl e0).trans (by rw [hb1, hw1]; rfl)) ?_
  refine wpR_val (v := (Value.int .i64 0)) (w' := w1) rfl rfl rfl (x_assign (v := (Value.int .i64 0)) rfl rfl) ?_
  refine wpR_val (v := (Value.int .i64 0)) (w' := w1) rfl rfl rfl (x_assign (v := (Value.int .i64 0)) rfl rfl) ?_
  refine wpR_nil ?_
  refine wpC_seq ?_
  refine wpC_seq ?_
  refine wpC_cut (fun ρ => ρ 1 = (Value.int .i64 p1) ∧ ρ 2 = (Value.int .i64 p2) ∧ ρ 3 = (Value.int .i64 p3) ∧ ρ 4 = (Value.pointer (some (Addr.mk b1 0 none))) ∧ True) ⟨e1, e2, e3, rfl, trivial⟩ ?_
  rintro ρ ⟨e1, e2, e3, e4, -⟩
  refine wpC_region ?_
  refine wpR_val (v := (Value.int .i64 p3)) (w' := w1) rfl rfl rfl (x_move (v := (Value.int .i64 p3)) rfl e3) ?_
  refine wpR_val (v := (Value.bool (decide (p3 < 0)))) (w' := w1) rfl rfl rfl (x_lss rfl rfl rfl) ?_
  refine wpR_val (v := (Value.bool (decide (p3 < 0)))) (w' := w1) rfl rfl rfl (x_move (v := (Value.bool (decide (p3 < 0)))) rfl rfl) ?_
  obtain ⟨J2, h, hk⟩ := h
  refine wpR_joinJ 6 (fun x ρ => ρ 20 = Value.bool x ∧ ρ 1 = (Value.int .i64 p1) ∧ ρ 2 = (Value.int .i64 p2) ∧ ρ 3 = (Value.int .i64 p3) ∧ ρ 4 = (Value.pointer (some (Addr.mk b1 0 none))) ∧ True) (J2) ?_ ?_
  · clear hk
    rcases Bool.eq_false_or_eq_true (decide (p3 < 0)) with hc3 | hc3
    · replace h := h.1 hc3
      refine wpR_pass (wantN rfl rfl rfl hc3) rfl rfl ?_
      refine wpR_pass (wantN rfl rfl rfl hc3) rfl rfl ?_
      refine wpR_pass (wantN rfl rfl rfl hc3) rfl rfl ?_
      refine wpR_pass (wantN rfl rfl rfl hc3) rfl rfl ?_
      refine wpR_pass (wantN rfl rfl rfl hc3) rfl rfl ?_
      refine wpR_val (v := (Value.bool true)) (w' := w1) rfl rfl rfl (x_pickT (v := (Value.bool true)) rfl rfl hc3 rfl) ?_
      refine wpR_nil ?_
      exact ⟨true, ⟨rfl, e1, e2, e3, e4, trivial⟩, h⟩
    · replace h := h.2 hc3
      obtain ⟨x4, q4, h⟩ := h
      obtain ⟨x5, q5, h⟩ := h
      refine wpR_val (v := (Value.agg #[(Value.int .i64 x4), (Value.int .i64 x5)])) (w' := w1) (wantG rfl rfl rfl hc3) rfl rfl (x_loadN [(Value.int .i64 x4), (Value.int .i64 x5)] rfl e4 SH_24 (CellsAt.out (CellsAt.cons q4 (CellsAt.cons q5 CellsAt.nil)))) ?_
      refine wpR_val (v := (Value.int .i64 p1)) (w' := w1) (wantG rfl rfl rfl hc3) rfl rfl (x_move (v := (Value.int .i64 p1)) rfl e1) ?_
      refine wpR_val (v := (Value.int .i64 p2)) (w' := w1) (wantG rfl rfl rfl hc3) rfl rfl (x_move (v := (Value.int .i64 p2)) rfl e2) ?_
      refine wpR_enter (wantG rfl rfl rfl hc3) rfl rfl (x_call (vs := [(Value.agg #[(Value.int .i64 x4), (Value.int .i64 x5)]), (Value.int .i64 p1), (Value.int .i64 p2)]) rfl rfl (by rfl) Try.func14 NN_14 NB_14) (Calls.mono h ?_)
      rintro _ w2 ⟨r6, rfl, h⟩
      refine ⟨_, rfl, ?_⟩
      refine wpR_val (v := (Value.bool (!r6))) (w' := w2) (wantG rfl rfl rfl hc3) rfl rfl (x_not rfl rfl) ?_
      refine wpR_val (v := (Value.bool (!r6))) (w' := w2) rfl rfl rfl (x_pickF (v := (Value.bool (!r6))) rfl rfl hc3 rfl) ?_
      refine wpR_nil ?_
      exact ⟨!r6, ⟨rfl, e1, e2, e3, e4, trivial⟩, h⟩
  clear h
  rintro c7 ρ w3 ⟨e20, e1, e2, e3, e4, -⟩ h
  replace h := hk c7 w3 h
  clear hk
  refine wpR_nil ?_
  refine wpC_cond (b := c7) e20 (fun hc8 => ?_) (fun hc8 => ?_)
  · replace h := h.1 hc8
    refine wpC_seq ?_
    refine wpC_region ?_
    refine wpR_val (v := (Value.int .i64 0)) (w' := w3) rfl rfl rfl (x_assign (v := (Value.int .i64 0)) rfl rfl) ?_
    refine wpR_val (v := (Value.int .i64 1)) (w' := w3) rfl rfl rfl (x_assign (v := (Value.int .i64 1)) rfl rfl) ?_
    refine wpR_nil ?_
    refine wpC_ret ?_
    exact ⟨.inl rfl, fun a ha => ⟨_, results_rep2 rfl ha rfl rfl, (0, 1), rfl, h⟩⟩
  · replace h := h.2 hc8
    refine wpC_skip ?_
    refine wpC_seq ?_
    refine wpC_seq ?_
    refine wpC_region ?_
    refine wpR_val (v := (Value.int .i64 p3)) (w' := w3) rfl rfl rfl (x_move (v := (Value.int .i64 p3)) rfl e3) ?_
    refine wpR_val (v := (Value.pointer (some ((Addr.mk b1 0 none).add 0)))) (w' := w3) rfl rfl rfl (x_fieldAddr rfl e4 FA_24_0) ?_
    obtain ⟨x9, q9, h⟩ := h
    refine wpR_val (v := (Value.int .i64 x9)) (w' := w3) rfl rfl rfl (x_load1 rfl rfl SH_3 q9) ?_
    refine wpR_val (v := (Value.bool (decide (p3 ≤ x9)))) (w' := w3) rfl rfl rfl (x_leq rfl rfl rfl) ?_
    refine wpR_nil ?_
    refine wpC_cond (b := decide (p3 ≤ x9)) rfl (fun hc10 => ?_) (fun hc10 => ?_)
    · replace h := h.1 hc10
      refine wpC_seq ?_
      refine wpC_cut (fun ρ => ρ 4 = (Value.pointer (some (Addr.mk b1 0 none))) ∧ True) ⟨e4, trivial⟩ ?_
      rintro ρ ⟨e4, -⟩
      refine wpC_region ?_
      refine wpR_val (v := (Value.pointer (some ((Addr.mk b1 0 none).add 1)))) (w' := w3) rfl rfl rfl (x_fieldAddr rfl e4 FA_24_1) ?_
      obtain ⟨x11, q11, h⟩ := h
      refine wpR_val (v := (Value.int .i64 x11)) (w' := w3) rfl rfl rfl (x_load1 rfl rfl SH_3 q11) ?_
      refine wpR_val (v := (Value.int .i64 x11)) (w' := w3) rfl rfl rfl (x_assign (v := (Value.int .i64 x11)) rfl rfl) ?_
      refine wpR_val (v := (Value.int .i64 0)) (w' := w3) rfl rfl rfl (x_assign (v := (Value.int .i64 0)) rfl rfl) ?_
      refine wpR_nil ?_
      refine wpC_ret ?_
      exact ⟨.inl rfl, fun a ha => ⟨_, results_rep2 rfl ha rfl rfl, (x11, 0), rfl, h⟩⟩
    · replace h := h.2 hc10
      refine wpC_skip ?_
      refine wpC_seq ?_
      refine wpC_seq ?_
      refine wpC_cut (fun ρ => ρ 1 = (Value.int .i64 p1) ∧ ρ 2 = (Value.int .i64 p2) ∧ ρ 3 = (Value.int .i64 p3) ∧ ρ 4 = (Value.pointer (some (Addr.mk b1 0 none))) ∧ True) ⟨e1, e2, e3, e4, trivial⟩ ?_
      rintro ρ ⟨e1, e2, e3, e4, -⟩
      refine wpC_region ?_
      refine wpR_val (v := (Value.int .i64 p3)) (w' := w3) rfl rfl rfl (x_move (v := (Value.int .i64 p3)) rfl e3) ?_
      refine wpR_val (v := (Value.int .i64 p2)) (w' := w3) rfl rfl rfl (x_move (v := (Value.int .i64 p2)) rfl e2) ?_
      refine wpR_val (v := (Value.bool (decide (p2 < p3)))) (w' := w3) rfl rfl rfl (x_gtr rfl rfl rfl) ?_
      refine wpR_val (v := (Value.bool (decide (p2 < p3)))) (w' := w3) rfl rfl rfl (x_move (v := (Value.bool (decide (p2 < p3)))) rfl rfl) ?_
      refine wpR_joinJ 3 (fun (_ : Unit) ρ => ρ 33 = Value.bool ((decide (p2 < p3)) || (decide (p1 = 0))) ∧ ρ 1 = (Value.int .i64 p1) ∧ ρ 3 = (Value.int .i64 p3) ∧ ρ 4 = (Value.pointer (some (Addr.mk b1 0 none))) ∧ True) (fun _ w => w3 = w) ?_ ?_
      · clear h
        rcases Bool.eq_false_or_eq_true (decide (p2 < p3)) with hc13 | hc13
        · skip
          refine wpR_pass (wantN rfl rfl rfl hc13) rfl rfl ?_
          refine wpR_pass (wantN rfl rfl rfl hc13) rfl rfl ?_
          refine wpR_val (v := (Value.bool true)) (w' := w3) rfl rfl rfl (x_pickT (v := (Value.bool true)) rfl rfl hc13 rfl) ?_
          refine wpR_nil ?_
          exact ⟨(), ⟨(by rw [hc13]; rfl), e1, e3, e4, trivial⟩, rfl⟩
        · skip
          refine wpR_val (v := (Value.int .i64 p1)) (w' := w3) (wantG rfl rfl rfl hc13) rfl rfl (x_move (v := (Value.int .i64 p1)) rfl e1) ?_
          refine wpR_val (v := (Value.bool (decide (p1 = 0)))) (w' := w3) (wantG rfl rfl rfl hc13) rfl rfl (x_eql rfl rfl rfl) ?_
          refine wpR_val (v := (Value.bool (decide (p1 = 0)))) (w' := w3) rfl rfl rfl (x_pickF (v := (Value.bool (decide (p1 = 0)))) rfl rfl hc13 rfl) ?_
          refine wpR_nil ?_
          exact ⟨(), ⟨(by rw [hc13]; rfl), e1, e3, e4, trivial⟩, rfl⟩
      rintro _ ρ wj ⟨e33, e1, e3, e4, -⟩ rfl
      refine wpR_nil ?_
      refine wpC_cond (b := (decide (p2 < p3)) || (decide (p1 = 0))) e33 (fun hc14 => ?_) (fun hc14 => ?_)
      · replace h := h.1 hc14
        refine wpC_seq ?_
        refine wpC_region ?_
        refine wpR_val (v := (Value.int .i64 0)) (w' := w3) rfl rfl rfl (x_assign (v := (Value.int .i64 0)) rfl rfl) ?_
        refine wpR_val (v := (Value.int .i64 6)) (w' := w3) rfl rfl rfl (x_assign (v := (Value.int .i64 6)) rfl rfl) ?_
        refine wpR_nil ?_
        refine wpC_ret ?_
        exact ⟨.inl rfl, fun a ha => ⟨_, results_rep2 rfl ha rfl rfl, (0, 6), rfl, h⟩⟩
      · replace h := h.2 hc14
        refine wpC_skip ?_
        refine wpC_seq ?_
        refine wpC_region ?_
        refine wpR_val (v := (Value.int .i64 p3)) (w' := w3) rfl rfl rfl (x_move (v := (Value.int .i64 p3)) rfl e3) ?_
        refine wpR_val (v := (Value.pointer (some ((Addr.mk b1 0 none).add 0)))) (w' := w3) rfl rfl rfl (x_fieldAddr rfl e4 FA_24_0) ?_
        obtain ⟨x15, q15, h⟩ := h
        refine wpR_val (v := (Value.int .i64 x15)) (w' := w3) rfl rfl rfl (x_load1 rfl rfl SH_3 q15) ?_
        refine wpR_val (v := (Value.int .i64 (IntKind.i64.wrap (p3 - x15)))) (w' := w3) rfl rfl rfl (x_sub rfl rfl rfl) ?_
        refine wpR_val (v := (Value.int .i64 (IntKind.i64.wrap (p3 - x15)))) (w' := w3) rfl rfl rfl (x_assign (v := (Value.int .i64 (IntKind.i64.wrap (p3 - x15)))) rfl rfl) ?_
        refine wpR_nil ?_
        refine wpC_seq ?_
        refine wpC_cut (fun ρ => ρ 1 = (Value.int .i64 p1) ∧ ρ 4 = (Value.pointer (some (Addr.mk b1 0 none))) ∧ ρ 10 = (Value.int .i64 (IntKind.i64.wrap (p3 - x15))) ∧ True) ⟨e1, e4, rfl, trivial⟩ ?_
        rintro ρ ⟨e1, e4, e10, -⟩
        obtain ⟨J17, h, hk⟩ := h
        refine wpC_drawJ (by kernel_rfl) (fun (x : Int) ρ => ρ 11 = (Value.int .i64 x) ∧ ρ 1 = (Value.int .i64 p1) ∧ ρ 10 = (Value.int .i64 (IntKind.i64.wrap (p3 - x15))) ∧ True) J17 ?_ ?_
        · clear hk
          unfold tk at h
          generalize w3.drew = w4 at h ⊢
          refine wpD_take (v := (Value.pointer (some ((Addr.mk b1 0 none).add 1)))) 0 (fun _ => True) rfl (by kernel_rfl) (by kernel_rfl) (by kernel_rfl) rfl rfl rfl trivial (fun w _ => (x_fieldAddr rfl e4 FA_24_1)) ?_
          obtain ⟨x18, q18, h⟩ := h
          refine wpD_take (v := (Value.int .i64 x18)) 1 (fun w => w.cell? ((Addr.mk b1 0 none).add 1) = some (Value.int .i64 x18)) rfl (by kernel_rfl) (by kernel_rfl) (by kernel_rfl) rfl rfl rfl q18 (fun w q18 => (x_load1 rfl rfl SH_3 q18)) ?_
          refine wpD_take (v := (Value.int .i64 (IntKind.i64.wrap (p3 - x15)))) 2 (fun _ => True) rfl (by kernel_rfl) (by kernel_rfl) (by kernel_rfl) rfl rfl rfl trivial (fun w _ => (x_move (v := (Value.int .i64 (IntKind.i64.wrap (p3 - x15)))) rfl e10)) ?_
          refine wpD_take (v := (Value.int .i64 p1)) 3 (fun _ => True) rfl (by kernel_rfl) (by kernel_rfl) (by kernel_rfl) rfl rfl rfl trivial (fun w _ => (x_move (v := (Value.int .i64 p1)) rfl e1)) ?_
          obtain ⟨q19, h⟩ := h
          refine wpD_take (v := (Value.int .i64 (IntKind.i64.wrap ((IntKind.i64.wrap (p3 - x15)).tdiv p1)))) 4 (fun _ => True) rfl (by kernel_rfl) (by kernel_rfl) (by kernel_rfl) rfl rfl rfl trivial (fun w _ => (x_quo rfl rfl rfl q19)) ?_
          refine wpD_take (v := (Value.int .i64 (IntKind.i64.wrap (x18 + (IntKind.i64.wrap ((IntKind.i64.wrap (p3 - x15)).tdiv p1)))))) 5 (fun _ => True) rfl (by kernel_rfl) (by kernel_rfl) (by kernel_rfl) rfl rfl rfl trivial (fun w _ => (x_add rfl rfl rfl)) ?_
          refine wpD_take (v := (Value.int .i64 (IntKind.i64.wrap (x18 + (IntKind.i64.wrap ((IntKind.i64.wrap (p3 - x15)).tdiv p1)))))) 6 (fun _ => True) rfl (by kernel_rfl) (by kernel_rfl) (by kernel_rfl) rfl rfl rfl trivial (fun w _ => (x_assign (v := (Value.int .i64 (IntKind.i64.wrap (x18 + (IntKind.i64.wrap ((IntKind.i64.wrap (p3 - x15)).tdiv p1)))))) rfl rfl)) ?_
          exact wpD_done (by kernel_rfl) ⟨IntKind.i64.wrap (x18 + (IntKind.i64.wrap ((IntKind.i64.wrap (p3 - x15)).tdiv p1))), ⟨rfl, e1, e10, trivial⟩, h⟩
        clear h
        rintro l20 ρ w5 ⟨e11, e1, e10, -⟩ h
        replace h := hk l20 w5 h
        clear hk
        obtain ⟨J21, h, hk⟩ := h
        refine wpC_seqJ (fun (x : Int) ρ => ρ 11 = (Value.int .i64 x) ∧ True) J21 ?_ ?_
        · clear hk
          refine wpC_seq ?_
          refine wpC_region ?_
          refine wpR_val (v := (Value.int .i64 (IntKind.i64.wrap (p3 - x15)))) (w' := w5) rfl rfl rfl (x_move (v := (Value.int .i64 (IntKind.i64.wrap (p3 - x15)))) rfl e10) ?_
          refine wpR_val (v := (Value.int .i64 p1)) (w' := w5) rfl rfl rfl (x_move (v := (Value.int .i64 p1)) rfl e1) ?_
          obtain ⟨q23, h⟩ := h
          refine wpR_val (v := (Value.int .i64 ((IntKind.i64.wrap (p3 - x15)).tmod p1))) (w' := w5) rfl rfl rfl (x_rem rfl rfl rfl q23) ?_
          refine wpR_val (v := (Value.bool (decide (0 < ((IntKind.i64.wrap (p3 - x15)).tmod p1))))) (w' := w5) rfl rfl rfl (x_gtr rfl rfl rfl) ?_
          refine wpR_nil ?_
          refine wpC_cond (b := decide (0 < ((IntKind.i64.wrap (p3 - x15)).tmod p1))) rfl (fun hc24 => ?_) (fun hc24 => ?_)
          · replace h := h.1 hc24
            refine wpC_cut (fun ρ => ρ 11 = (Value.int .i64 l20) ∧ True) ⟨e11, trivial⟩ ?_
            rintro ρ ⟨e11, -⟩
            refine wpC_region ?_
            refine wpR_val (v := (Value.int .i64 l20)) (w' := w5) rfl rfl rfl (x_move (v := (Value.int .i64 l20)) rfl e11) ?_
            refine wpR_val (v := (Value.int .i64 (IntKind.i64.wrap (l20 + 1)))) (w' := w5) rfl rfl rfl (x_add rfl rfl rfl) ?_
            refine wpR_val (v := (Value.int .i64 (IntKind.i64.wrap (l20 + 1)))) (w' := w5) rfl rfl rfl (x_assign (v := (Value.int .i64 (IntKind.i64.wrap (l20 + 1)))) rfl rfl) ?_
            refine wpR_nil ?_
            exact ⟨IntKind.i64.wrap (l20 + 1), ⟨rfl, trivial⟩, h⟩
          · replace h := h.2 hc24
            refine wpC_skip ?_
            exact ⟨l20, ⟨e11, trivial⟩, h⟩
        clear h
        rintro l22 ρ w6 ⟨e11, -⟩ h
        replace h := hk l22 w6 h
        clear hk
        refine wpC_seq ?_
        refine wpC_seq ?_
        refine wpC_region ?_
        refine wpR_val (v := (Value.int .i64 l22)) (w' := w6) rfl rfl rfl (x_move (v := (Value.int .i64 l22)) rfl e11) ?_
        refine wpR_val (v := (Value.bool (decide (1073741824 < l22)))) (w' := w6) rfl rfl rfl (x_gtr rfl rfl rfl) ?_
        refine wpR_nil ?_
        refine wpC_cond (b := decide (1073741824 < l22)) rfl (fun hc25 => ?_) (fun hc25 => ?_)
        · replace h := h.1 hc25
          refine wpC_seq ?_
          refine wpC_cut (fun ρ => True) trivial ?_
          rintro ρ -
          refine wpC_region ?_
          refine wpR_val (v := (Value.int .i64 0)) (w' := w6) rfl rfl rfl (x_assign (v := (Value.int .i64 0)) rfl rfl) ?_
          refine wpR_val (v := (Value.int .i64 6)) (w' := w6) rfl rfl rfl (x_assign (v := (Value.int .i64 6)) rfl rfl) ?_
          refine wpR_nil ?_
          refine wpC_ret ?_
          exact ⟨.inl rfl, fun a ha => ⟨_, results_rep2 rfl ha rfl rfl, (0, 6), rfl, h⟩⟩
        · replace h := h.2 hc25
          refine wpC_skip ?_
          refine wpC_seq ?_
          refine wpC_cut (fun ρ => ρ 11 = (Value.int .i64 l22) ∧ True) ⟨e11, trivial⟩ ?_
          rintro ρ ⟨e11, -⟩
          refine wpC_region ?_
          refine wpR_val (v := (Value.int .i64 l22)) (w' := w6) rfl rfl rfl (x_move (v := (Value.int .i64 l22)) rfl e11) ?_
          refine wpR_val (v := (Value.int .i64 l22)) (w' := w6) rfl rfl rfl (x_assign (v := (Value.int .i64 l22)) rfl rfl) ?_
          refine wpR_val (v := (Value.int .i64 0)) (w' := w6) rfl rfl rfl (x_assign (v := (Value.int .i64 0)) rfl rfl) ?_
          refine wpR_nil ?_
          refine wpC_ret ?_
          exact ⟨.inl rfl, fun a ha => ⟨_, results_rep2 rfl ha rfl rfl, (l22, 0), rfl, h⟩⟩

/-- linguaref09.Right -/
def F15 (p0 : Int) (p1 : Int) (p2 : Int) (p3 : Int) (w0 : World) (K : Bool → World → Prop) : Prop :=
  K ((((((((decide (0 ≤ p2)) && (decide (p2 ≤ 1099511627776))) && (decide (0 ≤ p3))) && (decide (p3 ≤ 1099511627776))) && (decide (0 ≤ p0))) && (decide (p0 ≤ p3))) && (decide (0 ≤ p1))) && (decide (p1 ≤ 1073741824))) w0
set_option maxRecDepth 100000 in
theorem D15 (p0 : Int) (p1 : Int) (p2 : Int) (p3 : Int) (w0 : World) (K : Bool → World → Prop) (h : F15 p0 p1 p2 p3 w0 K) : callC Try.prog 15 #[(Value.int .i64 p0), (Value.int .i64 p1), (Value.int .i64 p2), (Value.int .i64 p3)] (fun (r : Bool) => (Value.bool r)) w0 K := by
  unfold F15 at h
  refine calls_of_wpC Try.func15 rfl 40 rfl (by simp) ?_
  intro ρ hρ
  have e0 : ρ 0 = (Value.int .i64 p0) := hρ 0
  have e1 : ρ 1 = (Value.int .i64 p1) := hρ 1
  have e2 : ρ 2 = (Value.int .i64 p2) := hρ 2
  have e3 : ρ 3 = (Value.int .i64 p3) := hρ 3
  clear hρ
  refine wpC_seq ?_
  refine wpC_region ?_
  refine wpR_val (v := (Value.bool false)) (w' := w0) rfl rfl rfl (x_assign (v := (Value.bool false)) rfl rfl) ?_
  refine wpR_nil ?_
  refine wpC_seq ?_
  refine wpC_cut (fun ρ => ρ 0 = (Value.int .i64 p0) ∧ ρ 1 = (Value.int .i64 p1) ∧ ρ 2 = (Value.int .i64 p2) ∧ ρ 3 = (Value.int .i64 p3) ∧ True) ⟨e0, e1, e2, e3, trivial⟩ ?_
  rintro ρ ⟨e0, e1, e2, e3, -⟩
  refine wpC_region ?_
  refine wpR_val (v := (Value.int .i64 p2)) (w' := w0) rfl rfl rfl (x_move (v := (Value.int .i64 p2)) rfl e2) ?_
  refine wpR_val (v := (Value.bool (decide (0 ≤ p2)))) (w' := w0) rfl rfl rfl (x_geq rfl rfl rfl) ?_
  refine wpR_val (v := (Value.bool (decide (0 ≤ p2)))) (w' := w0) rfl rfl rfl (x_move (v := (Value.bool (decide (0 ≤ p2)))) rfl rfl) ?_
  refine wpR_joinJ 3 (fun (_ : Unit) ρ => ρ 14 = Value.bool ((decide (0 ≤ p2)) && (decide (p2 ≤ 1099511627776))) ∧ ρ 0 = (Value.int .i64 p0) ∧ ρ 1 = (Value.int .i64 p1) ∧ ρ 3 = (Value.int .i64 p3) ∧ True) (fun _ w => w0 = w) ?_ ?_
  · clear h
    rcases Bool.eq_false_or_eq_true (decide (0 ≤ p2)) with hc2 | hc2
    · skip
      refine wpR_val (v := (Value.int .i64 p2)) (w' := w0) (wantG rfl rfl rfl hc2) rfl rfl (x_move (v := (Value.int .i64 p2)) rfl e2) ?_
      refine wpR_val (v := (Value.bool (decide (p2 ≤ 1099511627776)))) (w' := w0) (wantG rfl rfl rfl hc2) rfl rfl (x_leq rfl rfl rfl) ?_
      refine wpR_val (v := (Value.bool (decide (p2 ≤ 1099511627776)))) (w' := w0) rfl rfl rfl (x_pickT (v := (Value.bool (decide (p2 ≤ 1099511627776)))) rfl rfl hc2 rfl) ?_
      refine wpR_nil ?_
      exact ⟨(), ⟨(by rw [hc2]; rfl), e0, e1, e3, trivial⟩, rfl⟩
    · skip
      refine wpR_pass (wantN rfl rfl rfl hc2) rfl rfl ?_
      refine wpR_pass (wantN rfl rfl rfl hc2) rfl rfl ?_
      refine wpR_val (v := (Value.bool false)) (w' := w0) rfl rfl rfl (x_pickF (v := (Value.bool false)) rfl rfl hc2 rfl) ?_
      refine wpR_nil ?_
      exact ⟨(), ⟨(by rw [hc2]; rfl), e0, e1, e3, trivial⟩, rfl⟩
  rintro _ ρ wj ⟨e14, e0, e1, e3, -⟩ rfl
  refine wpR_val (v := (Value.bool ((decide (0 ≤ p2)) && (decide (p2 ≤ 1099511627776))))) (w' := w0) rfl rfl rfl (x_move (v := (Value.bool ((decide (0 ≤ p2)) && (decide (p2 ≤ 1099511627776))))) rfl e14) ?_
  refine wpR_joinJ 3 (fun (_ : Unit) ρ => ρ 18 = Value.bool (((decide (0 ≤ p2)) && (decide (p2 ≤ 1099511627776))) && (decide (0 ≤ p3))) ∧ ρ 0 = (Value.int .i64 p0) ∧ ρ 1 = (Value.int .i64 p1) ∧ ρ 3 = (Value.int .i64 p3) ∧ True) (fun _ w => w0 = w) ?_ ?_
  · clear h
    rcases Bool.eq_false_or_eq_true ((decide (0 ≤ p2)) && (decide (p2 ≤ 1099511627776))) with hc4 | hc4
    · skip
      refine wpR_val (v := (Value.int .i64 p3)) (w' := w0) (wantG rfl rfl rfl hc4) rfl rfl (x_move (v := (Value.int .i64 p3)) rfl e3) ?_
      refine wpR_val (v := (Value.bool (decide (0 ≤ p3)))) (w' := w0) (wantG rfl rfl rfl hc4) rfl rfl (x_geq rfl rfl rfl) ?_
      refine wpR_val (v := (Value.bool (decide (0 ≤ p3)))) (w' := w0) rfl rfl rfl (x_pickT (v := (Value.bool (decide (0 ≤ p3)))) rfl rfl hc4 rfl) ?_
      refine wpR_nil ?_
      exact ⟨(), ⟨(by rw [hc4]; rfl), e0, e1, e3, trivial⟩, rfl⟩
    · skip
      refine wpR_pass (wantN rfl rfl rfl hc4) rfl rfl ?_
      refine wpR_pass (wantN rfl rfl rfl hc4) rfl rfl ?_
      refine wpR_val (v := (Value.bool false)) (w' := w0) rfl rfl rfl (x_pickF (v := (Value.bool false)) rfl rfl hc4 rfl) ?_
      refine wpR_nil ?_
      exact ⟨(), ⟨(by rw [hc4]; rfl), e0, e1, e3, trivial⟩, rfl⟩
  rintro _ ρ wj ⟨e18, e0, e1, e3, -⟩ rfl
  refine wpR_val (v := (Value.bool (((decide (0 ≤ p2)) && (decide (p2 ≤ 1099511627776))) && (decide (0 ≤ p3))))) (w' := w0) rfl rfl rfl (x_move (v := (Value.bool (((decide (0 ≤ p2)) && (decide (p2 ≤ 1099511627776))) && (decide (0 ≤ p3))))) rfl e18) ?_
  refine wpR_joinJ 3 (fun (_ : Unit) ρ => ρ 22 = Value.bool ((((decide (0 ≤ p2)) && (decide (p2 ≤ 1099511627776))) && (decide (0 ≤ p3))) && (decide (p3 ≤ 1099511627776))) ∧ ρ 0 = (Value.int .i64 p0) ∧ ρ 1 = (Value.int .i64 p1) ∧ ρ 3 = (Value.int .i64 p3) ∧ True) (fun _ w => w0 = w) ?_ ?_
  · clear h
    rcases Bool.eq_false_or_eq_true (((decide (0 ≤ p2)) && (decide (p2 ≤ 1099511627776))) && (decide (0 ≤ p3))) with hc6 | hc6
    · skip
      refine wpR_val (v := (Value.int .i64 p3)) (w' := w0) (wantG rfl rfl rfl hc6) rfl rfl (x_move (v := (Value.int .i64 p3)) rfl e3) ?_
      refine wpR_val (v := (Value.bool (decide (p3 ≤ 1099511627776)))) (w' := w0) (wantG rfl rfl rfl hc6) rfl rfl (x_leq rfl rfl rfl) ?_
      refine wpR_val (v := (Value.bool (decide (p3 ≤ 1099511627776)))) (w' := w0) rfl rfl rfl (x_pickT (v := (Value.bool (decide (p3 ≤ 1099511627776)))) rfl rfl hc6 rfl) ?_
      refine wpR_nil ?_
      exact ⟨(), ⟨(by rw [hc6]; rfl), e0, e1, e3, trivial⟩, rfl⟩
    · skip
      refine wpR_pass (wantN rfl rfl rfl hc6) rfl rfl ?_
      refine wpR_pass (wantN rfl rfl rfl hc6) rfl rfl ?_
      refine wpR_val (v := (Value.bool false)) (w' := w0) rfl rfl rfl (x_pickF (v := (Value.bool false)) rfl rfl hc6 rfl) ?_
      refine wpR_nil ?_
      exact ⟨(), ⟨(by rw [hc6]; rfl), e0, e1, e3, trivial⟩, rfl⟩
  rintro _ ρ wj ⟨e22, e0, e1, e3, -⟩ rfl
  refine wpR_val (v := (Value.bool ((((decide (0 ≤ p2)) && (decide (p2 ≤ 1099511627776))) && (decide (0 ≤ p3))) && (decide (p3 ≤ 1099511627776))))) (w' := w0) rfl rfl rfl (x_move (v := (Value.bool ((((decide (0 ≤ p2)) && (decide (p2 ≤ 1099511627776))) && (decide (0 ≤ p3))) && (decide (p3 ≤ 1099511627776))))) rfl e22) ?_
  refine wpR_joinJ 3 (fun (_ : Unit) ρ => ρ 26 = Value.bool (((((decide (0 ≤ p2)) && (decide (p2 ≤ 1099511627776))) && (decide (0 ≤ p3))) && (decide (p3 ≤ 1099511627776))) && (decide (0 ≤ p0))) ∧ ρ 0 = (Value.int .i64 p0) ∧ ρ 1 = (Value.int .i64 p1) ∧ ρ 3 = (Value.int .i64 p3) ∧ True) (fun _ w => w0 = w) ?_ ?_
  · clear h
    rcases Bool.eq_false_or_eq_true ((((decide (0 ≤ p2)) && (decide (p2 ≤ 1099511627776))) && (decide (0 ≤ p3))) && (decide (p3 ≤ 1099511627776))) with hc8 | hc8
    · skip
      refine wpR_val (v := (Value.int .i64 p0)) (w' := w0) (wantG rfl rfl rfl hc8) rfl rfl (x_move (v := (Value.int .i64 p0)) rfl e0) ?_
      refine wpR_val (v := (Value.bool (decide (0 ≤ p0)))) (w' := w0) (wantG rfl rfl rfl hc8) rfl rfl (x_geq rfl rfl rfl) ?_
      refine wpR_val (v := (Value.bool (decide (0 ≤ p0)))) (w' := w0) rfl rfl rfl (x_pickT (v := (Value.bool (decide (0 ≤ p0)))) rfl rfl hc8 rfl) ?_
      refine wpR_nil ?_
      exact ⟨(), ⟨(by rw [hc8]; rfl), e0, e1, e3, trivial⟩, rfl⟩
    · skip
      refine wpR_pass (wantN rfl rfl rfl hc8) rfl rfl ?_
      refine wpR_pass (wantN rfl rfl rfl hc8) rfl rfl ?_
      refine wpR_val (v := (Value.bool false)) (w' := w0) rfl rfl rfl (x_pickF (v := (Value.bool false)) rfl rfl hc8 rfl) ?_
      refine wpR_nil ?_
      exact ⟨(), ⟨(by rw [hc8]; rfl), e0, e1, e3, trivial⟩, rfl⟩
  rintro _ ρ wj ⟨e26, e0, e1, e3, -⟩ rfl
  refine wpR_val (v := (Value.bool (((((decide (0 ≤ p2)) && (decide (p2 ≤ 1099511627776))) && (decide (0 ≤ p3))) && (decide (p3 ≤ 1099511627776))) && (decide (0 ≤ p0))))) (w' := w0) rfl rfl rfl (x_move (v := (Value.bool (((((decide (0 ≤ p2)) && (decide (p2 ≤ 1099511627776))) && (decide (0 ≤ p3))) && (decide (p3 ≤ 1099511627776))) && (decide (0 ≤ p0))))) rfl e26) ?_
  refine wpR_joinJ 4 (fun (_ : Unit) ρ => ρ 31 = Value.bool ((((((decide (0 ≤ p2)) && (decide (p2 ≤ 1099511627776))) && (decide (0 ≤ p3))) && (decide (p3 ≤ 1099511627776))) && (decide (0 ≤ p0))) && (decide (p0 ≤ p3))) ∧ ρ 1 = (Value.int .i64 p1) ∧ True) (fun _ w => w0 = w) ?_ ?_
  · clear h
    rcases Bool.eq_false_or_eq_true (((((decide (0 ≤ p2)) && (decide (p2 ≤ 1099511627776))) && (decide (0 ≤ p3))) && (decide (p3 ≤ 1099511627776))) && (decide (0 ≤ p0))) with hc10 | hc10
    · skip
      refine wpR_val (v := (Value.int .i64 p0)) (w' := w0) (wantG rfl rfl rfl hc10) rfl rfl (x_move (v := (Value.int .i64 p0)) rfl e0) ?_
      refine wpR_val (v := (Value.int .i64 p3)) (w' := w0) (wantG rfl rfl rfl hc10) rfl rfl (x_move (v := (Value.int .i64 p3)) rfl e3) ?_
      refine wpR_val (v := (Value.bool (decide (p0 ≤ p3)))) (w' := w0) (wantG rfl rfl rfl hc10) rfl rfl (x_leq rfl rfl rfl) ?_
      refine wpR_val (v := (Value.bool (decide (p0 ≤ p3)))) (w' := w0) rfl rfl rfl (x_pickT (v := (Value.bool (decide (p0 ≤ p3)))) rfl rfl hc10 rfl) ?_
      refine wpR_nil ?_
      exact ⟨(), ⟨(by rw [hc10]; rfl), e1, trivial⟩, rfl⟩
    · skip
      refine wpR_pass (wantN rfl rfl rfl hc10) rfl rfl ?_
      refine wpR_pass (wantN rfl rfl rfl hc10) rfl rfl ?_
      refine wpR_pass (wantN rfl rfl rfl hc10) rfl rfl ?_
      refine wpR_val (v := (Value.bool false)) (w' := w0) rfl rfl rfl (x_pickF (v := (Value.bool false)) rfl rfl hc10 rfl) ?_
      refine wpR_nil ?_
      exact ⟨(), ⟨(by rw [hc10]; rfl), e1, trivial⟩, rfl⟩
  rintro _ ρ wj ⟨e31, e1, -⟩ rfl
  refine wpR_val (v := (Value.bool ((((((decide (0 ≤ p2)) && (decide (p2 ≤ 1099511627776))) && (decide (0 ≤ p3))) && (decide (p3 ≤ 1099511627776))) && (decide (0 ≤ p0))) && (decide (p0 ≤ p3))))) (w' := w0) rfl rfl rfl (x_move (v := (Value.bool ((((((decide (0 ≤ p2)) && (decide (p2 ≤ 1099511627776))) && (decide (0 ≤ p3))) && (decide (p3 ≤ 1099511627776))) && (decide (0 ≤ p0))) && (decide (p0 ≤ p3))))) rfl e31) ?_
  refine wpR_joinJ 3 (fun (_ : Unit) ρ => ρ 35 = Value.bool (((((((decide (0 ≤ p2)) && (decide (p2 ≤ 1099511627776))) && (decide (0 ≤ p3))) && (decide (p3 ≤ 1099511627776))) && (decide (0 ≤ p0))) && (decide (p0 ≤ p3))) && (decide (0 ≤ p1))) ∧ ρ 1 = (Value.int .i64 p1) ∧ True) (fun _ w => w0 = w) ?_ ?_
  · clear h
    rcases Bool.eq_false_or_eq_true ((((((decide (0 ≤ p2)) && (decide (p2 ≤ 1099511627776))) && (decide (0 ≤ p3))) && (decide (p3 ≤ 1099511627776))) && (decide (0 ≤ p0))) && (decide (p0 ≤ p3))) with hc12 | hc12
    · skip
      refine wpR_val (v := (Value.int .i64 p1)) (w' := w0) (wantG rfl rfl rfl hc12) rfl rfl (x_move (v := (Value.int .i64 p1)) rfl e1) ?_
      refine wpR_val (v := (Value.bool (decide (0 ≤ p1)))) (w' := w0) (wantG rfl rfl rfl hc12) rfl rfl (x_geq rfl rfl rfl) ?_
      refine wpR_val (v := (Value.bool (decide (0 ≤ p1)))) (w' := w0) rfl rfl rfl (x_pickT (v := (Value.bool (decide (0 ≤ p1)))) rfl rfl hc12 rfl) ?_
      refine wpR_nil ?_
      exact ⟨(), ⟨(by rw [hc12]; rfl), e1, trivial⟩, rfl⟩
    · skip
      refine wpR_pass (wantN rfl rfl rfl hc12) rfl rfl ?_
      refine wpR_pass (wantN rfl rfl rfl hc12) rfl rfl ?_
      refine wpR_val (v := (Value.bool false)) (w' := w0) rfl rfl rfl (x_pickF (v := (Value.bool false)) rfl rfl hc12 rfl) ?_
      refine wpR_nil ?_
      exact ⟨(), ⟨(by rw [hc12]; rfl), e1, trivial⟩, rfl⟩
  rintro _ ρ wj ⟨e35, e1, -⟩ rfl
  refine wpR_val (v := (Value.bool (((((((decide (0 ≤ p2)) && (decide (p2 ≤ 1099511627776))) && (decide (0 ≤ p3))) && (decide (p3 ≤ 1099511627776))) && (decide (0 ≤ p0))) && (decide (p0 ≤ p3))) && (decide (0 ≤ p1))))) (w' := w0) rfl rfl rfl (x_move (v := (Value.bool (((((((decide (0 ≤ p2)) && (decide (p2 ≤ 1099511627776))) && (decide (0 ≤ p3))) && (decide (p3 ≤ 1099511627776))) && (decide (0 ≤ p0))) && (decide (p0 ≤ p3))) && (decide (0 ≤ p1))))) rfl e35) ?_
  refine wpR_joinJ 3 (fun (_ : Unit) ρ => ρ 39 = Value.bool ((((((((decide (0 ≤ p2)) && (decide (p2 ≤ 1099511627776))) && (decide (0 ≤ p3))) && (decide (p3 ≤ 1099511627776))) && (decide (0 ≤ p0))) && (decide (p0 ≤ p3))) && (decide (0 ≤ p1))) && (decide (p1 ≤ 1073741824))) ∧ True) (fun _ w => w0 = w) ?_ ?_
  · clear h
    rcases Bool.eq_false_or_eq_true (((((((decide (0 ≤ p2)) && (decide (p2 ≤ 1099511627776))) && (decide (0 ≤ p3))) && (decide (p3 ≤ 1099511627776))) && (decide (0 ≤ p0))) && (decide (p0 ≤ p3))) && (decide (0 ≤ p1))) with hc14 | hc14
    · skip
      refine wpR_val (v := (Value.int .i64 p1)) (w' := w0) (wantG rfl rfl rfl hc14) rfl rfl (x_move (v := (Value.int .i64 p1)) rfl e1) ?_
      refine wpR_val (v := (Value.bool (decide (p1 ≤ 1073741824)))) (w' := w0) (wantG rfl rfl rfl hc14) rfl rfl (x_leq rfl rfl rfl) ?_
      refine wpR_val (v := (Value.bool (decide (p1 ≤ 1073741824)))) (w' := w0) rfl rfl rfl (x_pickT (v := (Value.bool (decide (p1 ≤ 1073741824)))) rfl rfl hc14 rfl) ?_
      refine wpR_nil ?_
      exact ⟨(), ⟨(by rw [hc14]; rfl), trivial⟩, rfl⟩
    · skip
      refine wpR_pass (wantN rfl rfl rfl hc14) rfl rfl ?_
      refine wpR_pass (wantN rfl rfl rfl hc14) rfl rfl ?_
      refine wpR_val (v := (Value.bool false)) (w' := w0) rfl rfl rfl (x_pickF (v := (Value.bool false)) rfl rfl hc14 rfl) ?_
      refine wpR_nil ?_
      exact ⟨(), ⟨(by rw [hc14]; rfl), trivial⟩, rfl⟩
  rintro _ ρ wj ⟨e39, -⟩ rfl
  refine wpR_val (v := (Value.bool ((((((((decide (0 ≤ p2)) && (decide (p2 ≤ 1099511627776))) && (decide (0 ≤ p3))) && (decide (p3 ≤ 1099511627776))) && (decide (0 ≤ p0))) && (decide (p0 ≤ p3))) && (decide (0 ≤ p1))) && (decide (p1 ≤ 1073741824))))) (w' := w0) rfl rfl rfl (x_assign (v := (Value.bool ((((((((decide (0 ≤ p2)) && (decide (p2 ≤ 1099511627776))) && (decide (0 ≤ p3))) && (decide (p3 ≤ 1099511627776))) && (decide (0 ≤ p0))) && (decide (p0 ≤ p3))) && (decide (0 ≤ p1))) && (decide (p1 ≤ 1073741824))))) rfl e39) ?_
  refine wpR_nil ?_
  refine wpC_ret ?_
  exact ⟨.inl rfl, fun a ha => ⟨_, results_rep1 rfl ha rfl, (((((((decide (0 ≤ p2)) && (decide (p2 ≤ 1099511627776))) && (decide (0 ≤ p3))) && (decide (p3 ≤ 1099511627776))) && (decide (0 ≤ p0))) && (decide (p0 ≤ p3))) && (decide (0 ≤ p1))) && (decide (p1 ≤ 1073741824)), rfl, h⟩⟩

/-- linguaref09.Free -/
def F11 (p0 : Int) (p1 : Int) (p2 : Int) (p3 : Int) (p4 : Int) (w0 : World) (K : (Int × Int) → World → Prop) : Prop :=
  callC Try.prog 15 #[(Value.int .i64 p0), (Value.int .i64 p1), (Value.int .i64 p2), (Value.int .i64 p3)] (fun (r : Bool) => (Value.bool r)) w0 fun r1 w1 =>
  cnd (!r1)
    (
    K (0, 1) w1
    )
    (
    cnd ((decide (p4 < 0)) || (decide (1073741824 < p4)))
      (
      K (0, 3) w1
      )
      (
      cnd (decide (p4 < p1))
        (
        K (0, 16) w1
        )
        (
        lp (fun (next7 : (Int × Int × Int) → World → Prop) l7 w2 =>
          cnd (decide (0 < l7.2.1))
            (
            jn (fun (J9 : Int → World → Prop) =>
              cnd (decide ((l7.2.1.tmod 2) = 1))
                (
                J9 (min (IntKind.i64.wrap (l7.1 + l7.2.2)) p3) w2
                )
                (
                J9 l7.1 w2
                )
            )
            fun l10 w3 =>
            next7 (l10, IntKind.i64.wrap (l7.2.1.tdiv 2), min (IntKind.i64.wrap (2 * l7.2.2)) 1099511627777) w3
            )
            (
            K (l7.1, 0) w2
            )
        ) (p0, IntKind.i64.wrap (p4 - p1), p2) w1
        )
      )
    )
set_option maxRecDepth 100000 in
theorem D11 (p0 : Int) (p1 : Int) (p2 : Int) (p3 : Int) (p4 : Int) (w0 : World) (K : (Int × Int) → World → Prop) (h : F11 p0 p1 p2 p3 p4 w0 K) : callC Try.prog 11 #[(Value.int .i64 p0), (Value.int .i64 p1), (Value.int .i64 p2), (Value.int .i64 p3), (Value.int .i64 p4)] (fun (r : Int × Int) => (Value.tuple #[(Value.int .i64 r.1), (Value.int .i64 r.2)])) w0 K := by
  unfold F11 at h
  refine calls_of_wpC Try.func11 rfl 49 rfl (by simp) ?_
  intro ρ hρ
  have e0 : ρ 0 = (Value.int .i64 p0) := hρ 0
  have e1 : ρ 1 = (Value.int .i64 p1) := hρ 1
  have e2 : ρ 2 = (Value.int .i64 p2) := hρ 2
  have e3 : ρ 3 = (Value.int .i64 p3) := hρ 3
  have e4 : ρ 4 = (Value.int .i64 p4) := hρ 4
  clear hρ
  refine wpC_seq ?_
  refine wpC_region ?_
  refine wpR_val (v := (Value.int .i64 0)) (w' := w0) rfl rfl rfl (x_assign (v := (Value.int .i64 0)) rfl rfl) ?_
  refine wpR_val (v := (Value.int .i64 0)) (w' := w0) rfl rfl rfl (x_assign (v := (Value.int .i64 0)) rfl rfl) ?_
  refine wpR_nil ?_
  refine wpC_seq ?_
  refine wpC_seq ?_
  refine wpC_cut (fun ρ => ρ 0 = (Value.int .i64 p0) ∧ ρ 1 = (Value.int .i64 p1) ∧ ρ 2 = (Value.int .i64 p2) ∧ ρ 3 = (Value.int .i64 p3) ∧ ρ 4 = (Value.int .i64 p4) ∧ True) ⟨e0, e1, e2, e3, e4, trivial⟩ ?_
  rintro ρ ⟨e0, e1, e2, e3, e4, -⟩
  refine wpC_region ?_
  refine wpR_val (v := (Value.int .i64 p0)) (w' := w0) rfl rfl rfl (x_move (v := (Value.int .i64 p0)) rfl e0) ?_
  refine wpR_val (v := (Value.int .i64 p1)) (w' := w0) rfl rfl rfl (x_move (v := (Value.int .i64 p1)) rfl e1) ?_
  refine wpR_val (v := (Value.int .i64 p2)) (w' := w0) rfl rfl rfl (x_move (v := (Value.int .i64 p2)) rfl e2) ?_
  refine wpR_val (v := (Value.int .i64 p3)) (w' := w0) rfl rfl rfl (x_move (v := (Value.int .i64 p3)) rfl e3) ?_
  refine wpR_enter rfl rfl rfl (x_call (vs := [(Value.int .i64 p0), (Value.int .i64 p1), (Value.int .i64 p2), (Value.int .i64 p3)]) rfl rfl (by rfl) Try.func15 NN_15 NB_15) (Calls.mono h ?_)
  rintro _ w1 ⟨r1, rfl, h⟩
  refine ⟨_, rfl, ?_⟩
  refine wpR_val (v := (Value.bool (!r1))) (w' := w1) rfl rfl rfl (x_not rfl rfl) ?_
  refine wpR_nil ?_
  refine wpC_cond (b := !r1) rfl (fun hc2 => ?_) (fun hc2 => ?_)
  · replace h := h.1 hc2
    refine wpC_seq ?_
    refine wpC_cut (fun ρ => True) trivial ?_
    rintro ρ -
    refine wpC_region ?_
    refine wpR_val (v := (Value.int .i64 0)) (w' := w1) rfl rfl rfl (x_assign (v := (Value.int .i64 0)) rfl rfl) ?_
    refine wpR_val (v := (Value.int .i64 1)) (w' := w1) rfl rfl rfl (x_assign (v := (Value.int .i64 1)) rfl rfl) ?_
    refine wpR_nil ?_
    refine wpC_ret ?_
    exact ⟨.inl rfl, fun a ha => ⟨_, results_rep2 rfl ha rfl rfl, (0, 1), rfl, h⟩⟩
  · replace h := h.2 hc2
    refine wpC_skip ?_
    refine wpC_seq ?_
    refine wpC_seq ?_
    refine wpC_cut (fun ρ => ρ 0 = (Value.int .i64 p0) ∧ ρ 1 = (Value.int .i64 p1) ∧ ρ 2 = (Value.int .i64 p2) ∧ ρ 3 = (Value.int .i64 p3) ∧ ρ 4 = (Value.int .i64 p4) ∧ True) ⟨e0, e1, e2, e3, e4, trivial⟩ ?_
    rintro ρ ⟨e0, e1, e2, e3, e4, -⟩
    refine wpC_region ?_
    refine wpR_val (v := (Value.int .i64 p4)) (w' := w1) rfl rfl rfl (x_move (v := (Value.int .i64 p4)) rfl e4) ?_
    refine wpR_val (v := (Value.bool (decide (p4 < 0)))) (w' := w1) rfl rfl rfl (x_lss rfl rfl rfl) ?_
    refine wpR_val (v := (Value.bool (decide (p4 < 0)))) (w' := w1) rfl rfl rfl (x_move (v := (Value.bool (decide (p4 < 0)))) rfl rfl) ?_
    refine wpR_joinJ 3 (fun (_ : Unit) ρ => ρ 25 = Value.bool ((decide (p4 < 0)) || (decide (1073741824 < p4))) ∧ ρ 0 = (Value.int .i64 p0) ∧ ρ 1 = (Value.int .i64 p1) ∧ ρ 2 = (Value.int .i64 p2) ∧ ρ 3 = (Value.int .i64 p3) ∧ ρ 4 = (Value.int .i64 p4) ∧ True) (fun _ w => w1 = w) ?_ ?_
    · clear h
      rcases Bool.eq_false_or_eq_true (decide (p4 < 0)) with hc4 | hc4
      · skip
        refine wpR_pass (wantN rfl rfl rfl hc4) rfl rfl ?_
        refine wpR_pass (wantN rfl rfl rfl hc4) rfl rfl ?_
        refine wpR_val (v := (Value.bool true)) (w' := w1) rfl rfl rfl (x_pickT (v := (Value.bool true)) rfl rfl hc4 rfl) ?_
        refine wpR_nil ?_
        exact ⟨(), ⟨(by rw [hc4]; rfl), e0, e1, e2, e3, e4, trivial⟩, rfl⟩
      · skip
        refine wpR_val (v := (Value.int .i64 p4)) (w' := w1) (wantG rfl rfl rfl hc4) rfl rfl (x_move (v := (Value.int .i64 p4)) rfl e4) ?_
        refine wpR_val (v := (Value.bool (decide (1073741824 < p4)))) (w' := w1) (wantG rfl rfl rfl hc4) rfl rfl (x_gtr rfl rfl rfl) ?_
        refine wpR_val (v := (Value.bool (decide (1073741824 < p4)))) (w' := w1) rfl rfl rfl (x_pickF (v := (Value.bool (decide (1073741824 < p4)))) rfl rfl hc4 rfl) ?_
        refine wpR_nil ?_
        exact ⟨(), ⟨(by rw [hc4]; rfl), e0, e1, e2, e3, e4, trivial⟩, rfl⟩
    rintro _ ρ wj ⟨e25, e0, e1, e2, e3, e4, -⟩ rfl
    refine wpR_nil ?_
    refine wpC_cond (b := (decide (p4 < 0)) || (decide (1073741824 < p4))) e25 (fun hc5 => ?_) (fun hc5 => ?_)
    · replace h := h.1 hc5
      refine wpC_seq ?_
      refine wpC_region ?_
      refine wpR_val (v := (Value.int .i64 0)) (w' := w1) rfl rfl rfl (x_assign (v := (Value.int .i64 0)) rfl rfl) ?_
      refine wpR_val (v := (Value.int .i64 3)) (w' := w1) rfl rfl rfl (x_assign (v := (Value.int .i64 3)) rfl rfl) ?_
      refine wpR_nil ?_
      refine wpC_ret ?_
      exact ⟨.inl rfl, fun a ha => ⟨_, results_rep2 rfl ha rfl rfl, (0, 3), rfl, h⟩⟩
    · replace h := h.2 hc5
      refine wpC_skip ?_
      refine wpC_seq ?_
      refine wpC_seq ?_
      refine wpC_region ?_
      refine wpR_val (v := (Value.int .i64 p4)) (w' := w1) rfl rfl rfl (x_move (v := (Value.int .i64 p4)) rfl e4) ?_
      refine wpR_val (v := (Value.int .i64 p1)) (w' := w1) rfl rfl rfl (x_move (v := (Value.int .i64 p1)) rfl e1) ?_
      refine wpR_val (v := (Value.bool (decide (p4 < p1)))) (w' := w1) rfl rfl rfl (x_lss rfl rfl rfl) ?_
      refine wpR_nil ?_
      refine wpC_cond (b := decide (p4 < p1)) rfl (fun hc6 => ?_) (fun hc6 => ?_)
      · replace h := h.1 hc6
        refine wpC_seq ?_
        refine wpC_cut (fun ρ => True) trivial ?_
        rintro ρ -
        refine wpC_region ?_
        refine wpR_val (v := (Value.int .i64 0)) (w' := w1) rfl rfl rfl (x_assign (v := (Value.int .i64 0)) rfl rfl) ?_
        refine wpR_val (v := (Value.int .i64 16)) (w' := w1) rfl rfl rfl (x_assign (v := (Value.int .i64 16)) rfl rfl) ?_
        refine wpR_nil ?_
        refine wpC_ret ?_
        exact ⟨.inl rfl, fun a ha => ⟨_, results_rep2 rfl ha rfl rfl, (0, 16), rfl, h⟩⟩
      · replace h := h.2 hc6
        refine wpC_skip ?_
        refine wpC_seq ?_
        refine wpC_cut (fun ρ => ρ 0 = (Value.int .i64 p0) ∧ ρ 1 = (Value.int .i64 p1) ∧ ρ 2 = (Value.int .i64 p2) ∧ ρ 3 = (Value.int .i64 p3) ∧ ρ 4 = (Value.int .i64 p4) ∧ True) ⟨e0, e1, e2, e3, e4, trivial⟩ ?_
        rintro ρ ⟨e0, e1, e2, e3, e4, -⟩
        refine wpC_region ?_
        refine wpR_val (v := (Value.int .i64 p4)) (w' := w1) rfl rfl rfl (x_move (v := (Value.int .i64 p4)) rfl e4) ?_
        refine wpR_val (v := (Value.int .i64 p1)) (w' := w1) rfl rfl rfl (x_move (v := (Value.int .i64 p1)) rfl e1) ?_
        refine wpR_val (v := (Value.int .i64 (IntKind.i64.wrap (p4 - p1)))) (w' := w1) rfl rfl rfl (x_sub rfl rfl rfl) ?_
        refine wpR_val (v := (Value.int .i64 (IntKind.i64.wrap (p4 - p1)))) (w' := w1) rfl rfl rfl (x_assign (v := (Value.int .i64 (IntKind.i64.wrap (p4 - p1)))) rfl rfl) ?_
        refine wpR_nil ?_
        refine wpC_seq ?_
        refine wpC_cut (fun ρ => ρ 0 = (Value.int .i64 p0) ∧ ρ 2 = (Value.int .i64 p2) ∧ ρ 3 = (Value.int .i64 p3) ∧ ρ 12 = (Value.int .i64 (IntKind.i64.wrap (p4 - p1))) ∧ True) ⟨e0, e2, e3, rfl, trivial⟩ ?_
        rintro ρ ⟨e0, e2, e3, e12, -⟩
        refine wpC_region ?_
        refine wpR_val (v := (Value.int .i64 p2)) (w' := w1) rfl rfl rfl (x_move (v := (Value.int .i64 p2)) rfl e2) ?_
        refine wpR_val (v := (Value.int .i64 p2)) (w' := w1) rfl rfl rfl (x_assign (v := (Value.int .i64 p2)) rfl rfl) ?_
        refine wpR_nil ?_
        refine wpC_seq ?_
        refine wpC_block ?_
        obtain ⟨I7, μ7, hI7, hr7⟩ := h
        refine wpC_loop (fun (x : Int × Int × Int) ρ => ρ 0 = (Value.int .i64 x.1) ∧ ρ 12 = (Value.int .i64 x.2.1) ∧ ρ 13 = (Value.int .i64 x.2.2) ∧ ρ 3 = (Value.int .i64 p3) ∧ True) I7 μ7 (p0, IntKind.i64.wrap (p4 - p1), p2) ⟨e0, e12, rfl, e3, trivial⟩ hI7 ?_
        rintro l7 ρ w2 ⟨e0, e12, e13, e3, -⟩ h
        replace h := hr7 l7 w2 h
        clear hr7 hI7
        refine wpC_seq ?_
        refine wpC_seq ?_
        refine wpC_region ?_
        refine wpR_val (v := (Value.int .i64 l7.2.1)) (w' := w2) rfl rfl rfl (x_move (v := (Value.int .i64 l7.2.1)) rfl e12) ?_
        refine wpR_val (v := (Value.bool (decide (0 < l7.2.1)))) (w' := w2) rfl rfl rfl (x_gtr rfl rfl rfl) ?_
        refine wpR_nil ?_
        refine wpC_cond (b := decide (0 < l7.2.1)) rfl (fun hc8 => ?_) (fun hc8 => ?_)
        · replace h := h.1 hc8
          refine wpC_skip ?_
          refine wpC_block ?_
          obtain ⟨J9, h, hk⟩ := h
          refine wpC_seqJ (fun (x : Int) ρ => ρ 0 = (Value.int .i64 x) ∧ ρ 3 = (Value.int .i64 p3) ∧ ρ 12 = (Value.int .i64 l7.2.1) ∧ ρ 13 = (Value.int .i64 l7.2.2) ∧ True) J9 ?_ ?_
          · clear hk
            refine wpC_seq ?_
            refine wpC_cut (fun ρ => ρ 0 = (Value.int .i64 l7.1) ∧ ρ 3 = (Value.int .i64 p3) ∧ ρ 12 = (Value.int .i64 l7.2.1) ∧ ρ 13 = (Value.int .i64 l7.2.2) ∧ True) ⟨e0, e3, e12, e13, trivial⟩ ?_
            rintro ρ ⟨e0, e3, e12, e13, -⟩
            refine wpC_region ?_
            refine wpR_val (v := (Value.int .i64 l7.2.1)) (w' := w2) rfl rfl rfl (x_move (v := (Value.int .i64 l7.2.1)) rfl e12) ?_
            refine wpR_val (v := (Value.int .i64 (l7.2.1.tmod 2))) (w' := w2) rfl rfl rfl (x_rem rfl rfl rfl (by decide)) ?_
            refine wpR_val (v := (Value.bool (decide ((l7.2.1.tmod 2) = 1)))) (w' := w2) rfl rfl rfl (x_eql rfl rfl rfl) ?_
            refine wpR_nil ?_
            refine wpC_cond (b := decide ((l7.2.1.tmod 2) = 1)) rfl (fun hc11 => ?_) (fun hc11 => ?_)
            · replace h := h.1 hc11
              refine wpC_cut (fun ρ => ρ 0 = (Value.int .i64 l7.1) ∧ ρ 3 = (Value.int .i64 p3) ∧ ρ 12 = (Value.int .i64 l7.2.1) ∧ ρ 13 = (Value.int .i64 l7.2.2) ∧ True) ⟨e0, e3, e12, e13, trivial⟩ ?_
              rintro ρ ⟨e0, e3, e12, e13, -⟩
              refine wpC_region ?_
              refine wpR_val (v := (Value.int .i64 l7.1)) (w' := w2) rfl rfl rfl (x_move (v := (Value.int .i64 l7.1)) rfl e0) ?_
              refine wpR_val (v := (Value.int .i64 l7.2.2)) (w' := w2) rfl rfl rfl (x_move (v := (Value.int .i64 l7.2.2)) rfl e13) ?_
              refine wpR_val (v := (Value.int .i64 (IntKind.i64.wrap (l7.1 + l7.2.2)))) (w' := w2) rfl rfl rfl (x_add rfl rfl rfl) ?_
              refine wpR_val (v := (Value.int .i64 p3)) (w' := w2) rfl rfl rfl (x_move (v := (Value.int .i64 p3)) rfl e3) ?_
              refine wpR_val (v := (Value.int .i64 (min (IntKind.i64.wrap (l7.1 + l7.2.2)) p3))) (w' := w2) rfl rfl rfl (x_min rfl rfl rfl) ?_
              refine wpR_val (v := (Value.int .i64 (min (IntKind.i64.wrap (l7.1 + l7.2.2)) p3))) (w' := w2) rfl rfl rfl (x_assign (v := (Value.int .i64 (min (IntKind.i64.wrap (l7.1 + l7.2.2)) p3))) rfl rfl) ?_
              refine wpR_nil ?_
              exact ⟨min (IntKind.i64.wrap (l7.1 + l7.2.2)) p3, ⟨rfl, e3, e12, e13, trivial⟩, h⟩
            · replace h := h.2 hc11
              refine wpC_skip ?_
              exact ⟨l7.1, ⟨e0, e3, e12, e13, trivial⟩, h⟩
          clear h
          rintro l10 ρ w3 ⟨e0, e3, e12, e13, -⟩ h
          replace h := hk l10 w3 h
          clear hk
          refine wpC_seq ?_
          refine wpC_region ?_
          refine wpR_val (v := (Value.int .i64 l7.2.2)) (w' := w3) rfl rfl rfl (x_move (v := (Value.int .i64 l7.2.2)) rfl e13) ?_
          refine wpR_val (v := (Value.int .i64 (IntKind.i64.wrap (2 * l7.2.2)))) (w' := w3) rfl rfl rfl (x_mul rfl rfl rfl) ?_
          refine wpR_val (v := (Value.int .i64 (min (IntKind.i64.wrap (2 * l7.2.2)) 1099511627777))) (w' := w3) rfl rfl rfl (x_min rfl rfl rfl) ?_
          refine wpR_val (v := (Value.int .i64 (min (IntKind.i64.wrap (2 * l7.2.2)) 1099511627777))) (w' := w3) rfl rfl rfl (x_assign (v := (Value.int .i64 (min (IntKind.i64.wrap (2 * l7.2.2)) 1099511627777))) rfl rfl) ?_
          refine wpR_nil ?_
          refine wpC_cut (fun ρ => ρ 0 = (Value.int .i64 l10) ∧ ρ 3 = (Value.int .i64 p3) ∧ ρ 12 = (Value.int .i64 l7.2.1) ∧ ρ 13 = (Value.int .i64 (min (IntKind.i64.wrap (2 * l7.2.2)) 1099511627777)) ∧ True) ⟨e0, e3, e12, rfl, trivial⟩ ?_
          rintro ρ ⟨e0, e3, e12, e13, -⟩
          refine wpC_region ?_
          refine wpR_val (v := (Value.int .i64 l7.2.1)) (w' := w3) rfl rfl rfl (x_move (v := (Value.int .i64 l7.2.1)) rfl e12) ?_
          refine wpR_val (v := (Value.int .i64 (IntKind.i64.wrap (l7.2.1.tdiv 2)))) (w' := w3) rfl rfl rfl (x_quo rfl rfl rfl (by decide)) ?_
          refine wpR_val (v := (Value.int .i64 (IntKind.i64.wrap (l7.2.1.tdiv 2)))) (w' := w3) rfl rfl rfl (x_assign (v := (Value.int .i64 (IntKind.i64.wrap (l7.2.1.tdiv 2)))) rfl rfl) ?_
          refine wpR_nil ?_
          exact ⟨(l10, IntKind.i64.wrap (l7.2.1.tdiv 2), min (IntKind.i64.wrap (2 * l7.2.2)) 1099511627777), ⟨e0, rfl, e13, e3, trivial⟩, h⟩
        · replace h := h.2 hc8
          refine wpC_exit ?_
          refine wpC_seq ?_
          refine wpC_cut (fun ρ => ρ 0 = (Value.int .i64 l7.1) ∧ True) ⟨e0, trivial⟩ ?_
          rintro ρ ⟨e0, -⟩
          refine wpC_region ?_
          refine wpR_val (v := (Value.int .i64 l7.1)) (w' := w2) rfl rfl rfl (x_move (v := (Value.int .i64 l7.1)) rfl e0) ?_
          refine wpR_val (v := (Value.int .i64 l7.1)) (w' := w2) rfl rfl rfl (x_assign (v := (Value.int .i64 l7.1)) rfl rfl) ?_
          refine wpR_val (v := (Value.int .i64 0)) (w' := w2) rfl rfl rfl (x_assign (v := (Value.int .i64 0)) rfl rfl) ?_
          refine wpR_nil ?_
          refine wpC_ret ?_
          exact ⟨.inl rfl, fun a ha => ⟨_, results_rep2 rfl ha rfl rfl, (l7.1, 0), rfl, h⟩⟩

/-- linguaref09.Take -/
def F9 (p0 : Int) (p1 : Int) (p2 : Int) (p3 : Int) (p4 : Int) (p5 : Int) (w0 : World) (K : (Int × Int × Int) → World → Prop) : Prop :=
  cnd (decide (p5 < 0))
    (
    K (p0, p1, 1) w0
    )
    (
    callC Try.prog 11 #[(Value.int .i64 p0), (Value.int .i64 p1), (Value.int .i64 p2), (Value.int .i64 p3), (Value.int .i64 p4)] (fun (r : Int × Int) => (Value.tuple #[(Value.int .i64 r.1), (Value.int .i64 r.2)])) w0 fun r2 w1 =>
    cnd (!decide (r2.2 = 0))
      (
      K (p0, p1, r2.2) w1
      )
      (
      cnd (decide (r2.1 < p5))
        (
        K (p0, p1, 6) w1
        )
        (
        K (IntKind.i64.wrap (r2.1 - p5), p4, 0) w1
        )
      )
    )
set_option maxRecDepth 100000 in
theorem D9 (p0 : Int) (p1 : Int) (p2 : Int) (p3 : Int) (p4 : Int) (p5 : Int) (w0 : World) (K : (Int × Int × Int) → World → Prop) (h : F9 p0 p1 p2 p3 p4 p5 w0 K) : callC Try.prog 9 #[(Value.int .i64 p0), (Value.int .i64 p1), (Value.int .i64 p2), (Value.int .i64 p3), (Value.int .i64 p4), (Value.int .i64 p5)] (fun (r : Int × Int × Int) => (Value.tuple #[(Value.int .i64 r.1), (Value.int .i64 r.2.1), (Value.int .i64 r.2.2)])) w0 K := by
  unfold F9 at h
  refine calls_of_wpC Try.func9 rfl 44 rfl (by simp) ?_
  intro ρ hρ
  have e0 : ρ 0 = (Value.int .i64 p0) := hρ 0
  have e1 : ρ 1 = (Value.int .i64 p1) := hρ 1
  have e2 : ρ 2 = (Value.int .i64 p2) := hρ 2
  have e3 : ρ 3 = (Value.int .i64 p3) := hρ 3
  have e4 : ρ 4 = (Value.int .i64 p4) := hρ 4
  have e5 : ρ 5 = (Value.int .i64 p5) := hρ 5
  clear hρ
  refine wpC_seq ?_
  refine wpC_region ?_
  refine wpR_val (v := (Value.int .i64 0)) (w' := w0) rfl rfl rfl (x_assign (v := (Value.int .i64 0)) rfl rfl) ?_
  refine wpR_val (v := (Value.int .i64 0)) (w' := w0) rfl rfl rfl (x_assign (v := (Value.int .i64 0)) rfl rfl) ?_
  refine wpR_val (v := (Value.int .i64 0)) (w' := w0) rfl rfl rfl (x_assign (v := (Value.int .i64 0)) rfl rfl) ?_
  refine wpR_nil ?_
  refine wpC_seq ?_
  refine wpC_seq ?_
  refine wpC_cut (fun ρ => ρ 0 = (Value.int .i64 p0) ∧ ρ 1 = (Value.int .i64 p1) ∧ ρ 2 = (Value.int .i64 p2) ∧ ρ 3 = (Value.int .i64 p3) ∧ ρ 4 = (Value.int .i64 p4) ∧ ρ 5 = (Value.int .i64 p5) ∧ True) ⟨e0, e1, e2, e3, e4, e5, trivial⟩ ?_
  rintro ρ ⟨e0, e1, e2, e3, e4, e5, -⟩
  refine wpC_region ?_
  refine wpR_val (v := (Value.int .i64 p5)) (w' := w0) rfl rfl rfl (x_move (v := (Value.int .i64 p5)) rfl e5) ?_
  refine wpR_val (v := (Value.bool (decide (p5 < 0)))) (w' := w0) rfl rfl rfl (x_lss rfl rfl rfl) ?_
  refine wpR_nil ?_
  refine wpC_cond (b := decide (p5 < 0)) rfl (fun hc1 => ?_) (fun hc1 => ?_)
  · replace h := h.1 hc1
    refine wpC_seq ?_
    refine wpC_cut (fun ρ => ρ 0 = (Value.int .i64 p0) ∧ ρ 1 = (Value.int .i64 p1) ∧ True) ⟨e0, e1, trivial⟩ ?_
    rintro ρ ⟨e0, e1, -⟩
    refine wpC_region ?_
    refine wpR_val (v := (Value.int .i64 p0)) (w' := w0) rfl rfl rfl (x_move (v := (Value.int .i64 p0)) rfl e0) ?_
    refine wpR_val (v := (Value.int .i64 p1)) (w' := w0) rfl rfl rfl (x_move (v := (Value.int .i64 p1)) rfl e1) ?_
    refine wpR_val (v := (Value.int .i64 p0)) (w' := w0) rfl rfl rfl (x_assign (v := (Value.int .i64 p0)) rfl rfl) ?_
    refine wpR_val (v := (Value.int .i64 p1)) (w' := w0) rfl rfl rfl (x_assign (v := (Value.int .i64 p1)) rfl rfl) ?_
    refine wpR_val (v := (Value.int .i64 1)) (w' := w0) rfl rfl rfl (x_assign (v := (Value.int .i64 1)) rfl rfl) ?_
    refine wpR_nil ?_
    refine wpC_ret ?_
    exact ⟨.inl rfl, fun a ha => ⟨_, results_rep3 rfl ha rfl rfl rfl, (p0, p1, 1), rfl, h⟩⟩
  · replace h := h.2 hc1
    refine wpC_skip ?_
    refine wpC_seq ?_
    refine wpC_cut (fun ρ => ρ 0 = (Value.int .i64 p0) ∧ ρ 1 = (Value.int .i64 p1) ∧ ρ 2 = (Value.int .i64 p2) ∧ ρ 3 = (Value.int .i64 p3) ∧ ρ 4 = (Value.int .i64 p4) ∧ ρ 5 = (Value.int .i64 p5) ∧ True) ⟨e0, e1, e2, e3, e4, e5, trivial⟩ ?_
    rintro ρ ⟨e0, e1, e2, e3, e4, e5, -⟩
    refine wpC_region ?_
    refine wpR_val (v := (Value.int .i64 p0)) (w' := w0) rfl rfl rfl (x_move (v := (Value.int .i64 p0)) rfl e0) ?_
    refine wpR_val (v := (Value.int .i64 p1)) (w' := w0) rfl rfl rfl (x_move (v := (Value.int .i64 p1)) rfl e1) ?_
    refine wpR_val (v := (Value.int .i64 p2)) (w' := w0) rfl rfl rfl (x_move (v := (Value.int .i64 p2)) rfl e2) ?_
    refine wpR_val (v := (Value.int .i64 p3)) (w' := w0) rfl rfl rfl (x_move (v := (Value.int .i64 p3)) rfl e3) ?_
    refine wpR_val (v := (Value.int .i64 p4)) (w' := w0) rfl rfl rfl (x_move (v := (Value.int .i64 p4)) rfl e4) ?_
    refine wpR_enter rfl rfl rfl (x_call (vs := [(Value.int .i64 p0), (Value.int .i64 p1), (Value.int .i64 p2), (Value.int .i64 p3), (Value.int .i64 p4)]) rfl rfl (by rfl) Try.func11 NN_11 NB_11) (Calls.mono h ?_)
    rintro _ w1 ⟨r2, rfl, h⟩
    refine ⟨_, rfl, ?_⟩
    refine wpR_val (v := (Value.tuple #[(Value.int .i64 r2.1), (Value.int .i64 r2.2)])) (w' := w1) rfl rfl rfl (x_move (v := (Value.tuple #[(Value.int .i64 r2.1), (Value.int .i64 r2.2)])) rfl rfl) ?_
    refine wpR_val (v := (Value.int .i64 r2.1)) (w' := w1) rfl rfl rfl (x_extract rfl rfl rfl) ?_
    refine wpR_val (v := (Value.int .i64 r2.2)) (w' := w1) rfl rfl rfl (x_extract rfl rfl rfl) ?_
    refine wpR_val (v := (Value.int .i64 r2.1)) (w' := w1) rfl rfl rfl (x_assign (v := (Value.int .i64 r2.1)) rfl rfl) ?_
    refine wpR_val (v := (Value.int .i64 r2.2)) (w' := w1) rfl rfl rfl (x_assign (v := (Value.int .i64 r2.2)) rfl rfl) ?_
    refine wpR_nil ?_
    refine wpC_seq ?_
    refine wpC_seq ?_
    refine wpC_cut (fun ρ => ρ 0 = (Value.int .i64 p0) ∧ ρ 1 = (Value.int .i64 p1) ∧ ρ 4 = (Value.int .i64 p4) ∧ ρ 5 = (Value.int .i64 p5) ∧ ρ 15 = (Value.int .i64 r2.1) ∧ ρ 16 = (Value.int .i64 r2.2) ∧ True) ⟨e0, e1, e4, e5, rfl, rfl, trivial⟩ ?_
    rintro ρ ⟨e0, e1, e4, e5, e15, e16, -⟩
    refine wpC_region ?_
    refine wpR_val (v := (Value.int .i64 r2.2)) (w' := w1) rfl rfl rfl (x_move (v := (Value.int .i64 r2.2)) rfl e16) ?_
    refine wpR_val (v := (Value.bool (!decide (r2.2 = 0)))) (w' := w1) rfl rfl rfl (x_neq rfl rfl rfl) ?_
    refine wpR_nil ?_
    refine wpC_cond (b := !decide (r2.2 = 0)) rfl (fun hc3 => ?_) (fun hc3 => ?_)
    · replace h := h.1 hc3
      refine wpC_seq ?_
      refine wpC_cut (fun ρ => ρ 0 = (Value.int .i64 p0) ∧ ρ 1 = (Value.int .i64 p1) ∧ ρ 16 = (Value.int .i64 r2.2) ∧ True) ⟨e0, e1, e16, trivial⟩ ?_
      rintro ρ ⟨e0, e1, e16, -⟩
      refine wpC_region ?_
      refine wpR_val (v := (Value.int .i64 p0)) (w' := w1) rfl rfl rfl (x_move (v := (Value.int .i64 p0)) rfl e0) ?_
      refine wpR_val (v := (Value.int .i64 p1)) (w' := w1) rfl rfl rfl (x_move (v := (Value.int .i64 p1)) rfl e1) ?_
      refine wpR_val (v := (Value.int .i64 r2.2)) (w' := w1) rfl rfl rfl (x_move (v := (Value.int .i64 r2.2)) rfl e16) ?_
      refine wpR_val (v := (Value.int .i64 p0)) (w' := w1) rfl rfl rfl (x_assign (v := (Value.int .i64 p0)) rfl rfl) ?_
      refine wpR_val (v := (Value.int .i64 p1)) (w' := w1) rfl rfl rfl (x_assign (v := (Value.int .i64 p1)) rfl rfl) ?_
      refine wpR_val (v := (Value.int .i64 r2.2)) (w' := w1) rfl rfl rfl (x_assign (v := (Value.int .i64 r2.2)) rfl rfl) ?_
      refine wpR_nil ?_
      refine wpC_ret ?_
      exact ⟨.inl rfl, fun a ha => ⟨_, results_rep3 rfl ha rfl rfl rfl, (p0, p1, r2.2), rfl, h⟩⟩
    · replace h := h.2 hc3
      refine wpC_skip ?_
      refine wpC_seq ?_
      refine wpC_seq ?_
      refine wpC_cut (fun ρ => ρ 0 = (Value.int .i64 p0) ∧ ρ 1 = (Value.int .i64 p1) ∧ ρ 4 = (Value.int .i64 p4) ∧ ρ 5 = (Value.int .i64 p5) ∧ ρ 15 = (Value.int .i64 r2.1) ∧ True) ⟨e0, e1, e4, e5, e15, trivial⟩ ?_
      rintro ρ ⟨e0, e1, e4, e5, e15, -⟩
      refine wpC_region ?_
      refine wpR_val (v := (Value.int .i64 p5)) (w' := w1) rfl rfl rfl (x_move (v := (Value.int .i64 p5)) rfl e5) ?_
      refine wpR_val (v := (Value.int .i64 r2.1)) (w' := w1) rfl rfl rfl (x_move (v := (Value.int .i64 r2.1)) rfl e15) ?_
      refine wpR_val (v := (Value.bool (decide (r2.1 < p5)))) (w' := w1) rfl rfl rfl (x_gtr rfl rfl rfl) ?_
      refine wpR_nil ?_
      refine wpC_cond (b := decide (r2.1 < p5)) rfl (fun hc4 => ?_) (fun hc4 => ?_)
      · replace h := h.1 hc4
        refine wpC_seq ?_
        refine wpC_cut (fun ρ => ρ 0 = (Value.int .i64 p0) ∧ ρ 1 = (Value.int .i64 p1) ∧ True) ⟨e0, e1, trivial⟩ ?_
        rintro ρ ⟨e0, e1, -⟩
        refine wpC_region ?_
        refine wpR_val (v := (Value.int .i64 p0)) (w' := w1) rfl rfl rfl (x_move (v := (Value.int .i64 p0)) rfl e0) ?_
        refine wpR_val (v := (Value.int .i64 p1)) (w' := w1) rfl rfl rfl (x_move (v := (Value.int .i64 p1)) rfl e1) ?_
        refine wpR_val (v := (Value.int .i64 p0)) (w' := w1) rfl rfl rfl (x_assign (v := (Value.int .i64 p0)) rfl rfl) ?_
        refine wpR_val (v := (Value.int .i64 p1)) (w' := w1) rfl rfl rfl (x_assign (v := (Value.int .i64 p1)) rfl rfl) ?_
        refine wpR_val (v := (Value.int .i64 6)) (w' := w1) rfl rfl rfl (x_assign (v := (Value.int .i64 6)) rfl rfl) ?_
        refine wpR_nil ?_
        refine wpC_ret ?_
        exact ⟨.inl rfl, fun a ha => ⟨_, results_rep3 rfl ha rfl rfl rfl, (p0, p1, 6), rfl, h⟩⟩
      · replace h := h.2 hc4
        refine wpC_skip ?_
        refine wpC_seq ?_
        refine wpC_cut (fun ρ => ρ 4 = (Value.int .i64 p4) ∧ ρ 5 = (Value.int .i64 p5) ∧ ρ 15 = (Value.int .i64 r2.1) ∧ True) ⟨e4, e5, e15, trivial⟩ ?_
        rintro ρ ⟨e4, e5, e15, -⟩
        refine wpC_region ?_
        refine wpR_val (v := (Value.int .i64 r2.1)) (w' := w1) rfl rfl rfl (x_move (v := (Value.int .i64 r2.1)) rfl e15) ?_
        refine wpR_val (v := (Value.int .i64 p5)) (w' := w1) rfl rfl rfl (x_move (v := (Value.int .i64 p5)) rfl e5) ?_
        refine wpR_val (v := (Value.int .i64 (IntKind.i64.wrap (r2.1 - p5)))) (w' := w1) rfl rfl rfl (x_sub rfl rfl rfl) ?_
        refine wpR_val (v := (Value.int .i64 p4)) (w' := w1) rfl rfl rfl (x_move (v := (Value.int .i64 p4)) rfl e4) ?_
        refine wpR_val (v := (Value.int .i64 (IntKind.i64.wrap (r2.1 - p5)))) (w' := w1) rfl rfl rfl (x_assign (v := (Value.int .i64 (IntKind.i64.wrap (r2.1 - p5)))) rfl rfl) ?_
        refine wpR_val (v := (Value.int .i64 p4)) (w' := w1) rfl rfl rfl (x_assign (v := (Value.int .i64 p4)) rfl rfl) ?_
        refine wpR_val (v := (Value.int .i64 0)) (w' := w1) rfl rfl rfl (x_assign (v := (Value.int .i64 0)) rfl rfl) ?_
        refine wpR_nil ?_
        refine wpC_ret ?_
        exact ⟨.inl rfl, fun a ha => ⟨_, results_rep3 rfl ha rfl rfl rfl, (IntKind.i64.wrap (r2.1 - p5), p4, 0), rfl, h⟩⟩

/-- linguaref09.Next -/
def F13 (p0 : Int) (p1 : Int) (p2 : Int) (p3 : Int) (p4 : Int) (w0 : World) (K : (Int × Int) → World → Prop) : Prop :=
  jn (fun J1 => cnd (decide (p4 < 0))
    (
    J1 true w0
    )
    (
    callC Try.prog 15 #[(Value.int .i64 p0), (Value.int .i64 p1), (Value.int .i64 p2), (Value.int .i64 p3)] (fun (r : Bool) => (Value.bool r)) w0 fun r3 w1 =>
    J1 (!r3) w1
    ))
  fun c4 w2 =>
  cnd (c4)
    (
    K (0, 1) w2
    )
    (
    callC Try.prog 11 #[(Value.int .i64 p0), (Value.int .i64 p1), (Value.int .i64 p2), (Value.int .i64 p3), (Value.int .i64 1073741824)] (fun (r : Int × Int) => (Value.tuple #[(Value.int .i64 r.1), (Value.int .i64 r.2)])) w2 fun r6 w3 =>
    cnd (decide (r6.1 < p4))
      (
      K (0, 6) w3
      )
      (
      lp (fun (next8 : (Int × Int) → World → Prop) l8 w4 =>
        cnd (decide (l8.1 < l8.2))
          (
          callC Try.prog 11 #[(Value.int .i64 p0), (Value.int .i64 p1), (Value.int .i64 p2), (Value.int .i64 p3), (Value.int .i64 (IntKind.i64.wrap ((IntKind.i64.wrap (l8.1 + l8.2)).tdiv 2)))] (fun (r : Int × Int) => (Value.tuple #[(Value.int .i64 r.1), (Value.int .i64 r.2)])) w4 fun r10 w5 =>
          cnd (decide (p4 ≤ r10.1))
            (
            next8 (l8.1, IntKind.i64.wrap ((IntKind.i64.wrap (l8.1 + l8.2)).tdiv 2)) w5
            )
            (
            next8 (IntKind.i64.wrap ((IntKind.i64.wrap ((IntKind.i64.wrap (l8.1 + l8.2)).tdiv 2)) + 1), l8.2) w5
            )
          )
          (
          K (l8.1, 0) w4
          )
      ) (p1, 1073741824) w3
      )
    )
set_option maxRecDepth 100000 in
theorem D13 (p0 : Int) (p1 : Int) (p2 : Int) (p3 : Int) (p4 : Int) (w0 : World) (K : (Int × Int) → World → Prop) (h : F13 p0 p1 p2 p3 p4 w0 K) : callC Try.prog 13 #[(Value.int .i64 p0), (Value.int .i64 p1), (Value.int .i64 p2), (Value.int .i64 p3), (Value.int .i64 p4)] (fun (r : Int × Int) => (Value.tuple #[(Value.int .i64 r.1), (Value.int .i64 r.2)])) w0 K := by
  unfold F13 at h
  refine calls_of_wpC Try.func13 rfl 64 rfl (by simp) ?_
  intro ρ hρ
  have e0 : ρ 0 = (Value.int .i64 p0) := hρ 0
  have e1 : ρ 1 = (Value.int .i64 p1) := hρ 1
  have e2 : ρ 2 = (Value.int .i64 p2) := hρ 2
  have e3 : ρ 3 = (Value.int .i64 p3) := hρ 3
  have e4 : ρ 4 = (Value.int .i64 p4) := hρ 4
  clear hρ
  refine wpC_seq ?_
  refine wpC_region ?_
  refine wpR_val (v := (Value.int .i64 0)) (w' := w0) rfl rfl rfl (x_assign (v := (Value.int .i64 0)) rfl rfl) ?_
  refine wpR_val (v := (Value.int .i64 0)) (w' := w0) rfl rfl rfl (x_assign (v := (Value.int .i64 0)) rfl rfl) ?_
  refine wpR_nil ?_
  refine wpC_seq ?_
  refine wpC_seq ?_
  refine wpC_cut (fun ρ => ρ 0 = (Value.int .i64 p0) ∧ ρ 1 = (Value.int .i64 p1) ∧ ρ 2 = (Value.int .i64 p2) ∧ ρ 3 = (Value.int .i64 p3) ∧ ρ 4 = (Value.int .i64 p4) ∧ True) ⟨e0, e1, e2, e3, e4, trivial⟩ ?_
  rintro ρ ⟨e0, e1, e2, e3, e4, -⟩
  refine wpC_region ?_
  refine wpR_val (v := (Value.int .i64 p4)) (w' := w0) rfl rfl rfl (x_move (v := (Value.int .i64 p4)) rfl e4) ?_
  refine wpR_val (v := (Value.bool (decide (p4 < 0)))) (w' := w0) rfl rfl rfl (x_lss rfl rfl rfl) ?_
  refine wpR_val (v := (Value.bool (decide (p4 < 0)))) (w' := w0) rfl rfl rfl (x_move (v := (Value.bool (decide (p4 < 0)))) rfl rfl) ?_
  obtain ⟨J1, h, hk⟩ := h
  refine wpR_joinJ 7 (fun x ρ => ρ 28 = Value.bool x ∧ ρ 0 = (Value.int .i64 p0) ∧ ρ 1 = (Value.int .i64 p1) ∧ ρ 2 = (Value.int .i64 p2) ∧ ρ 3 = (Value.int .i64 p3) ∧ ρ 4 = (Value.int .i64 p4) ∧ True) (J1) ?_ ?_
  · clear hk
    rcases Bool.eq_false_or_eq_true (decide (p4 < 0)) with hc2 | hc2
    · replace h := h.1 hc2
      refine wpR_pass (wantN rfl rfl rfl hc2) rfl rfl ?_
      refine wpR_pass (wantN rfl rfl rfl hc2) rfl rfl ?_
      refine wpR_pass (wantN rfl rfl rfl hc2) rfl rfl ?_
      refine wpR_pass (wantN rfl rfl rfl hc2) rfl rfl ?_
      refine wpR_pass (wantN rfl rfl rfl hc2) rfl rfl ?_
      refine wpR_pass (wantN rfl rfl rfl hc2) rfl rfl ?_
      refine wpR_val (v := (Value.bool true)) (w' := w0) rfl rfl rfl (x_pickT (v := (Value.bool true)) rfl rfl hc2 rfl) ?_
      refine wpR_nil ?_
      exact ⟨true, ⟨rfl, e0, e1, e2, e3, e4, trivial⟩, h⟩
    · replace h := h.2 hc2
      refine wpR_val (v := (Value.int .i64 p0)) (w' := w0) (wantG rfl rfl rfl hc2) rfl rfl (x_move (v := (Value.int .i64 p0)) rfl e0) ?_
      refine wpR_val (v := (Value.int .i64 p1)) (w' := w0) (wantG rfl rfl rfl hc2) rfl rfl (x_move (v := (Value.int .i64 p1)) rfl e1) ?_
      refine wpR_val (v := (Value.int .i64 p2)) (w' := w0) (wantG rfl rfl rfl hc2) rfl rfl (x_move (v := (Value.int .i64 p2)) rfl e2) ?_
      refine wpR_val (v := (Value.int .i64 p3)) (w' := w0) (wantG rfl rfl rfl hc2) rfl rfl (x_move (v := (Value.int .i64 p3)) rfl e3) ?_
      refine wpR_enter (wantG rfl rfl rfl hc2) rfl rfl (x_call (vs := [(Value.int .i64 p0), (Value.int .i64 p1), (Value.int .i64 p2), (Value.int .i64 p3)]) rfl rfl (by rfl) Try.func15 NN_15 NB_15) (Calls.mono h ?_)
      rintro _ w1 ⟨r3, rfl, h⟩
      refine ⟨_, rfl, ?_⟩
      refine wpR_val (v := (Value.bool (!r3))) (w' := w1) (wantG rfl rfl rfl hc2) rfl rfl (x_not rfl rfl) ?_
      refine wpR_val (v := (Value.bool (!r3))) (w' := w1) rfl rfl rfl (x_pickF (v := (Value.bool (!r3))) rfl rfl hc2 rfl) ?_
      refine wpR_nil ?_
      exact ⟨!r3, ⟨rfl, e0, e1, e2, e3, e4, trivial⟩, h⟩
  clear h
  rintro c4 ρ w2 ⟨e28, e0, e1, e2, e3, e4, -⟩ h
  replace h := hk c4 w2 h
  clear hk
  refine wpR_nil ?_
  refine wpC_cond (b := c4) e28 (fun hc5 => ?_) (fun hc5 => ?_)
  · replace h := h.1 hc5
    refine wpC_seq ?_
    refine wpC_region ?_
    refine wpR_val (v := (Value.int .i64 0)) (w' := w2) rfl rfl rfl (x_assign (v := (Value.int .i64 0)) rfl rfl) ?_
    refine wpR_val (v := (Value.int .i64 1)) (w' := w2) rfl rfl rfl (x_assign (v := (Value.int .i64 1)) rfl rfl) ?_
    refine wpR_nil ?_
    refine wpC_ret ?_
    exact ⟨.inl rfl, fun a ha => ⟨_, results_rep2 rfl ha rfl rfl, (0, 1), rfl, h⟩⟩
  · replace h := h.2 hc5
    refine wpC_skip ?_
    refine wpC_seq ?_
    refine wpC_region ?_
    refine wpR_val (v := (Value.int .i64 p0)) (w' := w2) rfl rfl rfl (x_move (v := (Value.int .i64 p0)) rfl e0) ?_
    refine wpR_val (v := (Value.int .i64 p1)) (w' := w2) rfl rfl rfl (x_move (v := (Value.int .i64 p1)) rfl e1) ?_
    refine wpR_val (v := (Value.int .i64 p2)) (w' := w2) rfl rfl rfl (x_move (v := (Value.int .i64 p2)) rfl e2) ?_
    refine wpR_val (v := (Value.int .i64 p3)) (w' := w2) rfl rfl rfl (x_move (v := (Value.int .i64 p3)) rfl e3) ?_
    refine wpR_enter rfl rfl rfl (x_call (vs := [(Value.int .i64 p0), (Value.int .i64 p1), (Value.int .i64 p2), (Value.int .i64 p3), (Value.int .i64 1073741824)]) rfl rfl (by rfl) Try.func11 NN_11 NB_11) (Calls.mono h ?_)
    rintro _ w3 ⟨r6, rfl, h⟩
    refine ⟨_, rfl, ?_⟩
    refine wpR_val (v := (Value.tuple #[(Value.int .i64 r6.1), (Value.int .i64 r6.2)])) (w' := w3) rfl rfl rfl (x_move (v := (Value.tuple #[(Value.int .i64 r6.1), (Value.int .i64 r6.2)])) rfl rfl) ?_
    refine wpR_val (v := (Value.int .i64 r6.1)) (w' := w3) rfl rfl rfl (x_extract rfl rfl rfl) ?_
    refine wpR_val (v := (Value.int .i64 r6.2)) (w' := w3) rfl rfl rfl (x_extract rfl rfl rfl) ?_
    refine wpR_val (v := (Value.int .i64 r6.1)) (w' := w3) rfl rfl rfl (x_assign (v := (Value.int .i64 r6.1)) rfl rfl) ?_
    refine wpR_val (v := (Value.int .i64 r6.2)) (w' := w3) rfl rfl rfl (x_assign (v := (Value.int .i64 r6.2)) rfl rfl) ?_
    refine wpR_nil ?_
    refine wpC_seq ?_
    refine wpC_seq ?_
    refine wpC_cut (fun ρ => ρ 0 = (Value.int .i64 p0) ∧ ρ 1 = (Value.int .i64 p1) ∧ ρ 2 = (Value.int .i64 p2) ∧ ρ 3 = (Value.int .i64 p3) ∧ ρ 4 = (Value.int .i64 p4) ∧ ρ 12 = (Value.int .i64 r6.1) ∧ True) ⟨e0, e1, e2, e3, e4, rfl, trivial⟩ ?_
    rintro ρ ⟨e0, e1, e2, e3, e4, e12, -⟩
    refine wpC_region ?_
    refine wpR_val (v := (Value.int .i64 p4)) (w' := w3) rfl rfl rfl (x_move (v := (Value.int .i64 p4)) rfl e4) ?_
    refine wpR_val (v := (Value.int .i64 r6.1)) (w' := w3) rfl rfl rfl (x_move (v := (Value.int .i64 r6.1)) rfl e12) ?_
    refine wpR_val (v := (Value.bool (decide (r6.1 < p4)))) (w' := w3) rfl rfl rfl (x_gtr rfl rfl rfl) ?_
    refine wpR_nil ?_
    refine wpC_cond (b := decide (r6.1 < p4)) rfl (fun hc7 => ?_) (fun hc7 => ?_)
    · replace h := h.1 hc7
      refine wpC_seq ?_
      refine wpC_cut (fun ρ => True) trivial ?_
      rintro ρ -
      refine wpC_region ?_
      refine wpR_val (v := (Value.int .i64 0)) (w' := w3) rfl rfl rfl (x_assign (v := (Value.int .i64 0)) rfl rfl) ?_
      refine wpR_val (v := (Value.int .i64 6)) (w' := w3) rfl rfl rfl (x_assign (v := (Value.int .i64 6)) rfl rfl) ?_
      refine wpR_nil ?_
      refine wpC_ret ?_
      exact ⟨.inl rfl, fun a ha => ⟨_, results_rep2 rfl ha rfl rfl, (0, 6), rfl, h⟩⟩
    · replace h := h.2 hc7
      refine wpC_skip ?_
      refine wpC_seq ?_
      refine wpC_cut (fun ρ => ρ 0 = (Value.int .i64 p0) ∧ ρ 1 = (Value.int .i64 p1) ∧ ρ 2 = (Value.int .i64 p2) ∧ ρ 3 = (Value.int .i64 p3) ∧ ρ 4 = (Value.int .i64 p4) ∧ True) ⟨e0, e1, e2, e3, e4, trivial⟩ ?_
      rintro ρ ⟨e0, e1, e2, e3, e4, -⟩
      refine wpC_region ?_
      refine wpR_val (v := (Value.int .i64 p1)) (w' := w3) rfl rfl rfl (x_move (v := (Value.int .i64 p1)) rfl e1) ?_
      refine wpR_val (v := (Value.int .i64 p1)) (w' := w3) rfl rfl rfl (x_assign (v := (Value.int .i64 p1)) rfl rfl) ?_
      refine wpR_nil ?_
      refine wpC_seq ?_
      refine wpC_cut (fun ρ => ρ 0 = (Value.int .i64 p0) ∧ ρ 1 = (Value.int .i64 p1) ∧ ρ 2 = (Value.int .i64 p2) ∧ ρ 3 = (Value.int .i64 p3) ∧ ρ 4 = (Value.int .i64 p4) ∧ ρ 14 = (Value.int .i64 p1) ∧ True) ⟨e0, e1, e2, e3, e4, rfl, trivial⟩ ?_
      rintro ρ ⟨e0, e1, e2, e3, e4, e14, -⟩
      refine wpC_region ?_
      refine wpR_val (v := (Value.int .i64 1073741824)) (w' := w3) rfl rfl rfl (x_assign (v := (Value.int .i64 1073741824)) rfl rfl) ?_
      refine wpR_nil ?_
      refine wpC_seq ?_
      refine wpC_block ?_
      obtain ⟨I8, μ8, hI8, hr8⟩ := h
      refine wpC_loop (fun (x : Int × Int) ρ => ρ 14 = (Value.int .i64 x.1) ∧ ρ 15 = (Value.int .i64 x.2) ∧ ρ 0 = (Value.int .i64 p0) ∧ ρ 1 = (Value.int .i64 p1) ∧ ρ 2 = (Value.int .i64 p2) ∧ ρ 3 = (Value.int .i64 p3) ∧ ρ 4 = (Value.int .i64 p4) ∧ True) I8 μ8 (p1, 1073741824) ⟨e14, rfl, e0, e1, e2, e3, e4, trivial⟩ hI8 ?_
      rintro l8 ρ w4 ⟨e14, e15, e0, e1, e2, e3, e4, -⟩ h
      replace h := hr8 l8 w4 h
      clear hr8 hI8
      refine wpC_seq ?_
      refine wpC_seq ?_
      refine wpC_region ?_
      refine wpR_val (v := (Value.int .i64 l8.1)) (w' := w4) rfl rfl rfl (x_move (v := (Value.int .i64 l8.1)) rfl e14) ?_
      refine wpR_val (v := (Value.int .i64 l8.2)) (w' := w4) rfl rfl rfl (x_move (v := (Value.int .i64 l8.2)) rfl e15) ?_
      refine wpR_val (v := (Value.bool (decide (l8.1 < l8.2)))) (w' := w4) rfl rfl rfl (x_lss rfl rfl rfl) ?_
      refine wpR_nil ?_
      refine wpC_cond (b := decide (l8.1 < l8.2)) rfl (fun hc9 => ?_) (fun hc9 => ?_)
      · replace h := h.1 hc9
        refine wpC_skip ?_
        refine wpC_block ?_
        refine wpC_seq ?_
        refine wpC_cut (fun ρ => ρ 0 = (Value.int .i64 p0) ∧ ρ 1 = (Value.int .i64 p1) ∧ ρ 2 = (Value.int .i64 p2) ∧ ρ 3 = (Value.int .i64 p3) ∧ ρ 4 = (Value.int .i64 p4) ∧ ρ 14 = (Value.int .i64 l8.1) ∧ ρ 15 = (Value.int .i64 l8.2) ∧ True) ⟨e0, e1, e2, e3, e4, e14, e15, trivial⟩ ?_
        rintro ρ ⟨e0, e1, e2, e3, e4, e14, e15, -⟩
        refine wpC_region ?_
        refine wpR_val (v := (Value.int .i64 l8.1)) (w' := w4) rfl rfl rfl (x_move (v := (Value.int .i64 l8.1)) rfl e14) ?_
        refine wpR_val (v := (Value.int .i64 l8.2)) (w' := w4) rfl rfl rfl (x_move (v := (Value.int .i64 l8.2)) rfl e15) ?_
        refine wpR_val (v := (Value.int .i64 (IntKind.i64.wrap (l8.1 + l8.2)))) (w' := w4) rfl rfl rfl (x_add rfl rfl rfl) ?_
        refine wpR_val (v := (Value.int .i64 (IntKind.i64.wrap ((IntKind.i64.wrap (l8.1 + l8.2)).tdiv 2)))) (w' := w4) rfl rfl rfl (x_quo rfl rfl rfl (by decide)) ?_
        refine wpR_val (v := (Value.int .i64 (IntKind.i64.wrap ((IntKind.i64.wrap (l8.1 + l8.2)).tdiv 2)))) (w' := w4) rfl rfl rfl (x_assign (v := (Value.int .i64 (IntKind.i64.wrap ((IntKind.i64.wrap (l8.1 + l8.2)).tdiv 2)))) rfl rfl) ?_
        refine wpR_nil ?_
        refine wpC_seq ?_
        refine wpC_cut (fun ρ => ρ 0 = (Value.int .i64 p0) ∧ ρ 1 = (Value.int .i64 p1) ∧ ρ 2 = (Value.int .i64 p2) ∧ ρ 3 = (Value.int .i64 p3) ∧ ρ 4 = (Value.int .i64 p4) ∧ ρ 14 = (Value.int .i64 l8.1) ∧ ρ 15 = (Value.int .i64 l8.2) ∧ ρ 16 = (Value.int .i64 (IntKind.i64.wrap ((IntKind.i64.wrap (l8.1 + l8.2)).tdiv 2))) ∧ True) ⟨e0, e1, e2, e3, e4, e14, e15, rfl, trivial⟩ ?_
        rintro ρ ⟨e0, e1, e2, e3, e4, e14, e15, e16, -⟩
        refine wpC_region ?_
        refine wpR_val (v := (Value.int .i64 p0)) (w' := w4) rfl rfl rfl (x_move (v := (Value.int .i64 p0)) rfl e0) ?_
        refine wpR_val (v := (Value.int .i64 p1)) (w' := w4) rfl rfl rfl (x_move (v := (Value.int .i64 p1)) rfl e1) ?_
        refine wpR_val (v := (Value.int .i64 p2)) (w' := w4) rfl rfl rfl (x_move (v := (Value.int .i64 p2)) rfl e2) ?_
        refine wpR_val (v := (Value.int .i64 p3)) (w' := w4) rfl rfl rfl (x_move (v := (Value.int .i64 p3)) rfl e3) ?_
        refine wpR_val (v := (Value.int .i64 (IntKind.i64.wrap ((IntKind.i64.wrap (l8.1 + l8.2)).tdiv 2)))) (w' := w4) rfl rfl rfl (x_move (v := (Value.int .i64 (IntKind.i64.wrap ((IntKind.i64.wrap (l8.1 + l8.2)).tdiv 2)))) rfl e16) ?_
        refine wpR_enter rfl rfl rfl (x_call (vs := [(Value.int .i64 p0), (Value.int .i64 p1), (Value.int .i64 p2), (Value.int .i64 p3), (Value.int .i64 (IntKind.i64.wrap ((IntKind.i64.wrap (l8.1 + l8.2)).tdiv 2)))]) rfl rfl (by rfl) Try.func11 NN_11 NB_11) (Calls.mono h ?_)
        rintro _ w5 ⟨r10, rfl, h⟩
        refine ⟨_, rfl, ?_⟩
        refine wpR_val (v := (Value.tuple #[(Value.int .i64 r10.1), (Value.int .i64 r10.2)])) (w' := w5) rfl rfl rfl (x_move (v := (Value.tuple #[(Value.int .i64 r10.1), (Value.int .i64 r10.2)])) rfl rfl) ?_
        refine wpR_val (v := (Value.int .i64 r10.1)) (w' := w5) rfl rfl rfl (x_extract rfl rfl rfl) ?_
        refine wpR_val (v := (Value.int .i64 r10.2)) (w' := w5) rfl rfl rfl (x_extract rfl rfl rfl) ?_
        refine wpR_val (v := (Value.int .i64 r10.1)) (w' := w5) rfl rfl rfl (x_assign (v := (Value.int .i64 r10.1)) rfl rfl) ?_
        refine wpR_val (v := (Value.int .i64 r10.2)) (w' := w5) rfl rfl rfl (x_assign (v := (Value.int .i64 r10.2)) rfl rfl) ?_
        refine wpR_nil ?_
        refine wpC_seq ?_
        refine wpC_cut (fun ρ => ρ 0 = (Value.int .i64 p0) ∧ ρ 1 = (Value.int .i64 p1) ∧ ρ 2 = (Value.int .i64 p2) ∧ ρ 3 = (Value.int .i64 p3) ∧ ρ 4 = (Value.int .i64 p4) ∧ ρ 14 = (Value.int .i64 l8.1) ∧ ρ 15 = (Value.int .i64 l8.2) ∧ ρ 16 = (Value.int .i64 (IntKind.i64.wrap ((IntKind.i64.wrap (l8.1 + l8.2)).tdiv 2))) ∧ ρ 17 = (Value.int .i64 r10.1) ∧ True) ⟨e0, e1, e2, e3, e4, e14, e15, e16, rfl, trivial⟩ ?_
        rintro ρ ⟨e0, e1, e2, e3, e4, e14, e15, e16, e17, -⟩
        refine wpC_region ?_
        refine wpR_val (v := (Value.int .i64 r10.1)) (w' := w5) rfl rfl rfl (x_move (v := (Value.int .i64 r10.1)) rfl e17) ?_
        refine wpR_val (v := (Value.int .i64 p4)) (w' := w5) rfl rfl rfl (x_move (v := (Value.int .i64 p4)) rfl e4) ?_
        refine wpR_val (v := (Value.bool (decide (p4 ≤ r10.1)))) (w' := w5) rfl rfl rfl (x_geq rfl rfl rfl) ?_
        refine wpR_nil ?_
        refine wpC_cond (b := decide (p4 ≤ r10.1)) rfl (fun hc11 => ?_) (fun hc11 => ?_)
        · replace h := h.1 hc11
          refine wpC_cut (fun ρ => ρ 0 = (Value.int .i64 p0) ∧ ρ 1 = (Value.int .i64 p1) ∧ ρ 2 = (Value.int .i64 p2) ∧ ρ 3 = (Value.int .i64 p3) ∧ ρ 4 = (Value.int .i64 p4) ∧ ρ 14 = (Value.int .i64 l8.1) ∧ ρ 16 = (Value.int .i64 (IntKind.i64.wrap ((IntKind.i64.wrap (l8.1 + l8.2)).tdiv 2))) ∧ True) ⟨e0, e1, e2, e3, e4, e14, e16, trivial⟩ ?_
          rintro ρ ⟨e0, e1, e2, e3, e4, e14, e16, -⟩
          refine wpC_region ?_
          refine wpR_val (v := (Value.int .i64 (IntKind.i64.wrap ((IntKind.i64.wrap (l8.1 + l8.2)).tdiv 2)))) (w' := w5) rfl rfl rfl (x_move (v := (Value.int .i64 (IntKind.i64.wrap ((IntKind.i64.wrap (l8.1 + l8.2)).tdiv 2)))) rfl e16) ?_
          refine wpR_val (v := (Value.int .i64 (IntKind.i64.wrap ((IntKind.i64.wrap (l8.1 + l8.2)).tdiv 2)))) (w' := w5) rfl rfl rfl (x_assign (v := (Value.int .i64 (IntKind.i64.wrap ((IntKind.i64.wrap (l8.1 + l8.2)).tdiv 2)))) rfl rfl) ?_
          refine wpR_nil ?_
          exact ⟨(l8.1, IntKind.i64.wrap ((IntKind.i64.wrap (l8.1 + l8.2)).tdiv 2)), ⟨e14, rfl, e0, e1, e2, e3, e4, trivial⟩, h⟩
        · replace h := h.2 hc11
          refine wpC_cut (fun ρ => ρ 0 = (Value.int .i64 p0) ∧ ρ 1 = (Value.int .i64 p1) ∧ ρ 2 = (Value.int .i64 p2) ∧ ρ 3 = (Value.int .i64 p3) ∧ ρ 4 = (Value.int .i64 p4) ∧ ρ 15 = (Value.int .i64 l8.2) ∧ ρ 16 = (Value.int .i64 (IntKind.i64.wrap ((IntKind.i64.wrap (l8.1 + l8.2)).tdiv 2))) ∧ True) ⟨e0, e1, e2, e3, e4, e15, e16, trivial⟩ ?_
          rintro ρ ⟨e0, e1, e2, e3, e4, e15, e16, -⟩
          refine wpC_region ?_
          refine wpR_val (v := (Value.int .i64 (IntKind.i64.wrap ((IntKind.i64.wrap (l8.1 + l8.2)).tdiv 2)))) (w' := w5) rfl rfl rfl (x_move (v := (Value.int .i64 (IntKind.i64.wrap ((IntKind.i64.wrap (l8.1 + l8.2)).tdiv 2)))) rfl e16) ?_
          refine wpR_val (v := (Value.int .i64 (IntKind.i64.wrap ((IntKind.i64.wrap ((IntKind.i64.wrap (l8.1 + l8.2)).tdiv 2)) + 1)))) (w' := w5) rfl rfl rfl (x_add rfl rfl rfl) ?_
          refine wpR_val (v := (Value.int .i64 (IntKind.i64.wrap ((IntKind.i64.wrap ((IntKind.i64.wrap (l8.1 + l8.2)).tdiv 2)) + 1)))) (w' := w5) rfl rfl rfl (x_assign (v := (Value.int .i64 (IntKind.i64.wrap ((IntKind.i64.wrap ((IntKind.i64.wrap (l8.1 + l8.2)).tdiv 2)) + 1)))) rfl rfl) ?_
          refine wpR_nil ?_
          exact ⟨(IntKind.i64.wrap ((IntKind.i64.wrap ((IntKind.i64.wrap (l8.1 + l8.2)).tdiv 2)) + 1), l8.2), ⟨rfl, e15, e0, e1, e2, e3, e4, trivial⟩, h⟩
      · replace h := h.2 hc9
        refine wpC_exit ?_
        refine wpC_seq ?_
        refine wpC_cut (fun ρ => ρ 14 = (Value.int .i64 l8.1) ∧ True) ⟨e14, trivial⟩ ?_
        rintro ρ ⟨e14, -⟩
        refine wpC_region ?_
        refine wpR_val (v := (Value.int .i64 l8.1)) (w' := w4) rfl rfl rfl (x_move (v := (Value.int .i64 l8.1)) rfl e14) ?_
        refine wpR_val (v := (Value.int .i64 l8.1)) (w' := w4) rfl rfl rfl (x_assign (v := (Value.int .i64 l8.1)) rfl rfl) ?_
        refine wpR_val (v := (Value.int .i64 0)) (w' := w4) rfl rfl rfl (x_assign (v := (Value.int .i64 0)) rfl rfl) ?_
        refine wpR_nil ?_
        refine wpC_ret ?_
        exact ⟨.inl rfl, fun a ha => ⟨_, results_rep2 rfl ha rfl rfl, (l8.1, 0), rfl, h⟩⟩

/-- lingualaw09.small -/
def F7  (w0 : World) (K : Bool → World → Prop) : Prop :=
  callC Try.prog 8 #[(Value.agg #[(Value.int .i64 10), (Value.int .i64 0)]), (Value.int .i64 3), (Value.int .i64 10), (Value.int .i64 0), (Value.int .i64 4)] (fun (r : Int × Int × Int) => (Value.tuple #[(Value.agg #[(Value.int .i64 r.1), (Value.int .i64 r.2.1)]), (Value.int .i64 r.2.2)])) w0 fun r1 w1 =>
  nw 24 #[(Value.int .i64 0), (Value.int .i64 0)] w1 fun b2 w2 =>
  st (Addr.mk b2 0 none) [(Value.int .i64 r1.1), (Value.int .i64 r1.2.1)] w2 fun w3 =>
  ld (Value.int .i64) ((Addr.mk b2 0 none).add 0) w3 fun x4 =>
  ld (Value.int .i64) ((Addr.mk b2 0 none).add 1) w3 fun x5 =>
  callC Try.prog 8 #[(Value.agg #[(Value.int .i64 x4), (Value.int .i64 x5)]), (Value.int .i64 3), (Value.int .i64 10), (Value.int .i64 0), (Value.int .i64 9)] (fun (r : Int × Int × Int) => (Value.tuple #[(Value.agg #[(Value.int .i64 r.1), (Value.int .i64 r.2.1)]), (Value.int .i64 r.2.2)])) w3 fun r6 w4 =>
  nw 24 #[(Value.int .i64 0), (Value.int .i64 0)] w4 fun b7 w5 =>
  st (Addr.mk b7 0 none) [(Value.int .i64 r6.1), (Value.int .i64 r6.2.1)] w5 fun w6 =>
  ld (Value.int .i64) ((Addr.mk b2 0 none).add 0) w6 fun x9 =>
  ld (Value.int .i64) ((Addr.mk b2 0 none).add 1) w6 fun x10 =>
  callC Try.prog 8 #[(Value.agg #[(Value.int .i64 x9), (Value.int .i64 x10)]), (Value.int .i64 3), (Value.int .i64 10), (Value.int .i64 1), (Value.int .i64 9)] (fun (r : Int × Int × Int) => (Value.tuple #[(Value.agg #[(Value.int .i64 r.1), (Value.int .i64 r.2.1)]), (Value.int .i64 r.2.2)])) w6 fun r11 w7 =>
  nw 24 #[(Value.int .i64 0), (Value.int .i64 0)] w7 fun b12 w8 =>
  st (Addr.mk b12 0 none) [(Value.int .i64 r11.1), (Value.int .i64 r11.2.1)] w8 fun w9 =>
  jp (fun J18 => cnd (((!decide (r1.2.2 = 0)) || (!decide (r6.2.2 = 6))) || (!decide (r11.2.2 = 0)))
    (
    J18 true
    )
    (
    ld (Value.int .i64) ((Addr.mk b2 0 none).add 0) w9 fun x20 =>
    ld (Value.int .i64) ((Addr.mk b2 0 none).add 1) w9 fun x21 =>
    J18 (!(decide (x20 = 6) && (decide (x21 = 0) && true)))
    ))
  fun c22 =>
  jp (fun J23 => cnd (c22)
    (
    J23 true
    )
    (
    ld (Value.int .i64) ((Addr.mk b12 0 none).add 0) w9 fun x25 =>
    ld (Value.int .i64) ((Addr.mk b12 0 none).add 1) w9 fun x26 =>
    J23 (!(decide (x25 = 0) && (decide (x26 = 1) && true)))
    ))
  fun c27 =>
  cnd (c27)
    (
    K false w9
    )
    (
    nw 3 #[(Value.int .i64 2), (Value.int .i64 4), (Value.int .i64 5), (Value.int .i64 1073741824)] w9 fun b29 w10 =>
    nw 3 #[(Value.int .i64 3), (Value.int .i64 9), (Value.int .i64 10), (Value.int .i64 10)] w10 fun b30 w11 =>
    lp (fun (next31 : Int → World → Prop) l31 w12 =>
      cnd (decide (l31 < ((⟨some ⟨b29, 0, none⟩, 4, 4⟩ : Sl).len : Int)))
        (
        jn (fun (J34 : (Int × Int) → World → Prop) => tk w12 fun w13 =>
          ld (Value.int .i64) ((Addr.mk b12 0 none).add 0) w13 fun x35 =>
          ld (Value.int .i64) ((Addr.mk b12 0 none).add 1) w13 fun x36 =>
          ix (⟨some ⟨b29, 0, none⟩, 4, 4⟩ : Sl) l31 1 fun p37 =>
          ld (Value.int .i64) p37 w13 fun x38 =>
          callC Try.prog 10 #[(Value.agg #[(Value.int .i64 x35), (Value.int .i64 x36)]), (Value.int .i64 3), (Value.int .i64 10), (Value.int .i64 x38)] (fun (r : Int × Int) => (Value.tuple #[(Value.int .i64 r.1), (Value.int .i64 r.2)])) w13 fun r39 w14 =>
          J34 (r39.1, r39.2) w14
        )
        fun l40 w15 =>
        jp (fun J41 => cnd (!decide (l40.2 = 0))
          (
          J41 true
          )
          (
          ix (⟨some ⟨b30, 0, none⟩, 4, 4⟩ : Sl) l31 1 fun p43 =>
          ld (Value.int .i64) p43 w15 fun x44 =>
          J41 (!decide (l40.1 = x44))
          ))
        fun c45 =>
        cnd (c45)
          (
          K false w15
          )
          (
          next31 (IntKind.i64.wrap (l31 + 1)) w15
          )
        )
        (
        nw 3 #[(Value.int .i64 0), (Value.int .i64 3), (Value.int .i64 4), (Value.int .i64 10)] w12 fun b47 w16 =>
        nw 3 #[(Value.int .i64 1), (Value.int .i64 2), (Value.int .i64 3), (Value.int .i64 5)] w16 fun b48 w17 =>
        lp (fun (next49 : Int → World → Prop) l49 w18 =>
          cnd (decide (l49 < ((⟨some ⟨b47, 0, none⟩, 4, 4⟩ : Sl).len : Int)))
            (
            jn (fun (J52 : (Int × Int) → World → Prop) => tk w18 fun w19 =>
              ld (Value.int .i64) ((Addr.mk b12 0 none).add 0) w19 fun x53 =>
              ld (Value.int .i64) ((Addr.mk b12 0 none).add 1) w19 fun x54 =>
              ix (⟨some ⟨b47, 0, none⟩, 4, 4⟩ : Sl) l49 1 fun p55 =>
              ld (Value.int .i64) p55 w19 fun x56 =>
              callC Try.prog 12 #[(Value.agg #[(Value.int .i64 x53), (Value.int .i64 x54)]), (Value.int .i64 3), (Value.int .i64 10), (Value.int .i64 x56)] (fun (r : Int × Int) => (Value.tuple #[(Value.int .i64 r.1), (Value.int .i64 r.2)])) w19 fun r57 w20 =>
              J52 (r57.1, r57.2) w20
            )
            fun l58 w21 =>
            jp (fun J59 => cnd (!decide (l58.2 = 0))
              (
              J59 true
              )
              (
              ix (⟨some ⟨b48, 0, none⟩, 4, 4⟩ : Sl) l49 1 fun p61 =>
              ld (Value.int .i64) p61 w21 fun x62 =>
              J59 (!decide (l58.1 = x62))
              ))
            fun c63 =>
            cnd (c63)
              (
              K false w21
              )
              (
              next49 (IntKind.i64.wrap (l49 + 1)) w21
              )
            )
            (
            ld (Value.int .i64) ((Addr.mk b12 0 none).add 0) w18 fun x65 =>
            ld (Value.int .i64) ((Addr.mk b12 0 none).add 1) w18 fun x66 =>
            callC Try.prog 12 #[(Value.agg #[(Value.int .i64 x65), (Value.int .i64 x66)]), (Value.int .i64 3), (Value.int .i64 10), (Value.int .i64 11)] (fun (r : Int × Int) => (Value.tuple #[(Value.int .i64 r.1), (Value.int .i64 r.2)])) w18 fun r67 w22 =>
            jn (fun J68 => cnd (decide (r67.2 = 6))
              (
              ld (Value.int .i64) ((Addr.mk b12 0 none).add 0) w22 fun x70 =>
              ld (Value.int .i64) ((Addr.mk b12 0 none).add 1) w22 fun x71 =>
              callC Try.prog 14 #[(Value.agg #[(Value.int .i64 x70), (Value.int .i64 x71)]), (Value.int .i64 3), (Value.int .i64 10)] (fun (r : Bool) => (Value.bool r)) w22 fun r72 w23 =>
              J68 r72 w23
              )
              (
              J68 false w22
              ))
            fun c73 w24 =>
            jn (fun J74 => cnd (c73)
              (
              ld (Value.int .i64) ((Addr.mk b12 0 none).add 0) w24 fun x76 =>
              ld (Value.int .i64) ((Addr.mk b12 0 none).add 1) w24 fun x77 =>
              callC Try.prog 14 #[(Value.agg #[(Value.int .i64 x76), (Value.int .i64 x77)]), (Value.int .i64 (-1)), (Value.int .i64 10)] (fun (r : Bool) => (Value.bool r)) w24 fun r78 w25 =>
              J74 (!r78) w25
              )
              (
              J74 false w24
              ))
            fun c79 w26 =>
            K c79 w26
            )
        ) 0 w17
        )
    ) 0 w11
    )
set_option maxRecDepth 100000 in
theorem D7  (w0 : World) (K : Bool → World → Prop) (h : F7  w0 K) : callC Try.prog 7 #[] (fun (r : Bool) => (Value.bool r)) w0 K := by
  unfold F7 at h
  refine calls_of_wpC Try.func7 rfl 124 rfl (by simp) ?_
  intro ρ hρ
  clear hρ
  refine wpC_seq ?_
  refine wpC_region ?_
  refine wpR_val (v := (Value.bool false)) (w' := w0) rfl rfl rfl (x_assign (v := (Value.bool false)) rfl rfl) ?_
  refine wpR_nil ?_
  refine wpC_seq ?_
  refine wpC_cut (fun ρ => True) trivial ?_
  rintro ρ -
  refine wpC_region ?_
  refine wpR_val (v := (Value.agg #[(Value.int .i64 10), (Value.int .i64 0)])) (w' := w0) rfl rfl rfl (x_build (qs := [(0, (Value.int .i64 10))]) rfl (by rfl) (BD_24_0 10 _)) ?_
  refine wpR_enter rfl rfl rfl (x_call (vs := [(Value.agg #[(Value.int .i64 10), (Value.int .i64 0)]), (Value.int .i64 3), (Value.int .i64 10), (Value.int .i64 0), (Value.int .i64 4)]) rfl rfl (by rfl) Try.func8 NN_8 NB_8) (Calls.mono h ?_)
  rintro _ w1 ⟨r1, rfl, h⟩
  refine ⟨_, rfl, ?_⟩
  refine wpR_val (v := (Value.tuple #[(Value.agg #[(Value.int .i64 r1.1), (Value.int .i64 r1.2.1)]), (Value.int .i64 r1.2.2)])) (w' := w1) rfl rfl rfl (x_move (v := (Value.tuple #[(Value.agg #[(Value.int .i64 r1.1), (Value.int .i64 r1.2.1)]), (Value.int .i64 r1.2.2)])) rfl rfl) ?_
  refine wpR_val (v := (Value.agg #[(Value.int .i64 r1.1), (Value.int .i64 r1.2.1)])) (w' := w1) rfl rfl rfl (x_extract rfl rfl rfl) ?_
  refine wpR_val (v := (Value.int .i64 r1.2.2)) (w' := w1) rfl rfl rfl (x_extract rfl rfl rfl) ?_
  obtain ⟨b2, hb2⟩ : ∃ u, u = w1.heap.size := ⟨_, rfl⟩
  obtain ⟨w2, hw2⟩ : ∃ u, u = w1.alloc (.cells #[(Value.int .i64 0), (Value.int .i64 0)] 24) := ⟨_, rfl⟩
  replace h := h b2 w2 hb2 hw2
  refine wpR_val (v := (Value.pointer (some (Addr.mk b2 0 none)))) (w' := w2) rfl rfl rfl ((x_alloc rfl ZV_24).trans (by rw [hb2, hw2]; rfl)) ?_
  obtain ⟨q3, h⟩ := h
  obtain ⟨w3, hw3⟩ : ∃ u, u = setAll w2 (Addr.mk b2 0 none) [(Value.int .i64 r1.1), (Value.int .i64 r1.2.1)] 0 := ⟨_, rfl⟩
  replace h := h w3 hw3
  refine wpR_skp (w' := w3) rfl rfl ((x_store (v := (Value.agg #[(Value.int .i64 r1.1), (Value.int .i64 r1.2.1)])) rfl rfl rfl SZ_24 (ones (by rfl)) q3).trans (by rw [hw3]; rfl)) ?_
  refine wpR_val (v := (Value.int .i64 r1.2.2)) (w' := w3) rfl rfl rfl (x_assign (v := (Value.int .i64 r1.2.2)) rfl rfl) ?_
  refine wpR_nil ?_
  refine wpC_seq ?_
  refine wpC_cut (fun ρ => ρ 1 = (Value.pointer (some (Addr.mk b2 0 none))) ∧ ρ 2 = (Value.int .i64 r1.2.2) ∧ True) ⟨rfl, rfl, trivial⟩ ?_
  rintro ρ ⟨e1, e2, -⟩
  refine wpC_region ?_
  obtain ⟨x4, q4, h⟩ := h
  obtain ⟨x5, q5, h⟩ := h
  refine wpR_val (v := (Value.agg #[(Value.int .i64 x4), (Value.int .i64 x5)])) (w' := w3) rfl rfl rfl (x_loadN [(Value.int .i64 x4), (Value.int .i64 x5)] rfl e1 SH_24 (CellsAt.out (CellsAt.cons q4 (CellsAt.cons q5 CellsAt.nil)))) ?_
  refine wpR_enter rfl rfl rfl (x_call (vs := [(Value.agg #[(Value.int .i64 x4), (Value.int .i64 x5)]), (Value.int .i64 3), (Value.int .i64 10), (Value.int .i64 0), (Value.int .i64 9)]) rfl rfl (by rfl) Try.func8 NN_8 NB_8) (Calls.mono h ?_)
  rintro _ w4 ⟨r6, rfl, h⟩
  refine ⟨_, rfl, ?_⟩
  refine wpR_val (v := (Value.tuple #[(Value.agg #[(Value.int .i64 r6.1), (Value.int .i64 r6.2.1)]), (Value.int .i64 r6.2.2)])) (w' := w4) rfl rfl rfl (x_move (v := (Value.tuple #[(Value.agg #[(Value.int .i64 r6.1), (Value.int .i64 r6.2.1)]), (Value.int .i64 r6.2.2)])) rfl rfl) ?_
  refine wpR_val (v := (Value.agg #[(Value.int .i64 r6.1), (Value.int .i64 r6.2.1)])) (w' := w4) rfl rfl rfl (x_extract rfl rfl rfl) ?_
  refine wpR_val (v := (Value.int .i64 r6.2.2)) (w' := w4) rfl rfl rfl (x_extract rfl rfl rfl) ?_
  obtain ⟨b7, hb7⟩ : ∃ u, u = w4.heap.size := ⟨_, rfl⟩
  obtain ⟨w5, hw7⟩ : ∃ u, u = w4.alloc (.cells #[(Value.int .i64 0), (Value.int .i64 0)] 24) := ⟨_, rfl⟩
  replace h := h b7 w5 hb7 hw7
  refine wpR_val (v := (Value.pointer (some (Addr.mk b7 0 none)))) (w' := w5) rfl rfl rfl ((x_alloc rfl ZV_24).trans (by rw [hb7, hw7]; rfl)) ?_
  obtain ⟨q8, h⟩ := h
  obtain ⟨w6, hw8⟩ : ∃ u, u = setAll w5 (Addr.mk b7 0 none) [(Value.int .i64 r6.1), (Value.int .i64 r6.2.1)] 0 := ⟨_, rfl⟩
  replace h := h w6 hw8
  refine wpR_skp (w' := w6) rfl rfl ((x_store (v := (Value.agg #[(Value.int .i64 r6.1), (Value.int .i64 r6.2.1)])) rfl rfl rfl SZ_24 (ones (by rfl)) q8).trans (by rw [hw8]; rfl)) ?_
  refine wpR_val (v := (Value.int .i64 r6.2.2)) (w' := w6) rfl rfl rfl (x_assign (v := (Value.int .i64 r6.2.2)) rfl rfl) ?_
  refine wpR_nil ?_
  refine wpC_seq ?_
  refine wpC_cut (fun ρ => ρ 1 = (Value.pointer (some (Addr.mk b2 0 none))) ∧ ρ 2 = (Value.int .i64 r1.2.2) ∧ ρ 4 = (Value.int .i64 r6.2.2) ∧ True) ⟨e1, e2, rfl, trivial⟩ ?_
  rintro ρ ⟨e1, e2, e4, -⟩
  refine wpC_region ?_
  obtain ⟨x9, q9, h⟩ := h
  obtain ⟨x10, q10, h⟩ := h
  refine wpR_val (v := (Value.agg #[(Value.int .i64 x9), (Value.int .i64 x10)])) (w' := w6) rfl rfl rfl (x_loadN [(Value.int .i64 x9), (Value.int .i64 x10)] rfl e1 SH_24 (CellsAt.out (CellsAt.cons q9 (CellsAt.cons q10 CellsAt.nil)))) ?_
  refine wpR_enter rfl rfl rfl (x_call (vs := [(Value.agg #[(Value.int .i64 x9), (Value.int .i64 x10)]), (Value.int .i64 3), (Value.int .i64 10), (Value.int .i64 1), (Value.int .i64 9)]) rfl rfl (by rfl) Try.func8 NN_8 NB_8) (Calls.mono h ?_)
  rintro _ w7 ⟨r11, rfl, h⟩
  refine ⟨_, rfl, ?_⟩
  refine wpR_val (v := (Value.tuple #[(Value.agg #[(Value.int .i64 r11.1), (Value.int .i64 r11.2.1)]), (Value.int .i64 r11.2.2)])) (w' := w7) rfl rfl rfl (x_move (v := (Value.tuple #[(Value.agg #[(Value.int .i64 r11.1), (Value.int .i64 r11.2.1)]), (Value.int .i64 r11.2.2)])) rfl rfl) ?_
  refine wpR_val (v := (Value.agg #[(Value.int .i64 r11.1), (Value.int .i64 r11.2.1)])) (w' := w7) rfl rfl rfl (x_extract rfl rfl rfl) ?_
  refine wpR_val (v := (Value.int .i64 r11.2.2)) (w' := w7) rfl rfl rfl (x_extract rfl rfl rfl) ?_
  obtain ⟨b12, hb12⟩ : ∃ u, u = w7.heap.size := ⟨_, rfl⟩
  obtain ⟨w8, hw12⟩ : ∃ u, u = w7.alloc (.cells #[(Value.int .i64 0), (Value.int .i64 0)] 24) := ⟨_, rfl⟩
  replace h := h b12 w8 hb12 hw12
  refine wpR_val (v := (Value.pointer (some (Addr.mk b12 0 none)))) (w' := w8) rfl rfl rfl ((x_alloc rfl ZV_24).trans (by rw [hb12, hw12]; rfl)) ?_
  obtain ⟨q13, h⟩ := h
  obtain ⟨w9, hw13⟩ : ∃ u, u = setAll w8 (Addr.mk b12 0 none) [(Value.int .i64 r11.1), (Value.int .i64 r11.2.1)] 0 := ⟨_, rfl⟩
  replace h := h w9 hw13
  refine wpR_skp (w' := w9) rfl rfl ((x_store (v := (Value.agg #[(Value.int .i64 r11.1), (Value.int .i64 r11.2.1)])) rfl rfl rfl SZ_24 (ones (by rfl)) q13).trans (by rw [hw13]; rfl)) ?_
  refine wpR_val (v := (Value.int .i64 r11.2.2)) (w' := w9) rfl rfl rfl (x_assign (v := (Value.int .i64 r11.2.2)) rfl rfl) ?_
  refine wpR_nil ?_
  refine wpC_seq ?_
  refine wpC_seq ?_
  refine wpC_cut (fun ρ => ρ 1 = (Value.pointer (some (Addr.mk b2 0 none))) ∧ ρ 2 = (Value.int .i64 r1.2.2) ∧ ρ 4 = (Value.int .i64 r6.2.2) ∧ ρ 5 = (Value.pointer (some (Addr.mk b12 0 none))) ∧ ρ 6 = (Value.int .i64 r11.2.2) ∧ True) ⟨e1, e2, e4, rfl, rfl, trivial⟩ ?_
  rintro ρ ⟨e1, e2, e4, e5, e6, -⟩
  refine wpC_region ?_
  refine wpR_val (v := (Value.int .i64 r1.2.2)) (w' := w9) rfl rfl rfl (x_move (v := (Value.int .i64 r1.2.2)) rfl e2) ?_
  refine wpR_val (v := (Value.bool (!decide (r1.2.2 = 0)))) (w' := w9) rfl rfl rfl (x_neq rfl rfl rfl) ?_
  refine wpR_val (v := (Value.bool (!decide (r1.2.2 = 0)))) (w' := w9) rfl rfl rfl (x_move (v := (Value.bool (!decide (r1.2.2 = 0)))) rfl rfl) ?_
  refine wpR_joinJ 3 (fun (_ : Unit) ρ => ρ 39 = Value.bool ((!decide (r1.2.2 = 0)) || (!decide (r6.2.2 = 6))) ∧ ρ 1 = (Value.pointer (some (Addr.mk b2 0 none))) ∧ ρ 5 = (Value.pointer (some (Addr.mk b12 0 none))) ∧ ρ 6 = (Value.int .i64 r11.2.2) ∧ True) (fun _ w => w9 = w) ?_ ?_
  · clear h
    rcases Bool.eq_false_or_eq_true (!decide (r1.2.2 = 0)) with hc15 | hc15
    · skip
      refine wpR_pass (wantN rfl rfl rfl hc15) rfl rfl ?_
      refine wpR_pass (wantN rfl rfl rfl hc15) rfl rfl ?_
      refine wpR_val (v := (Value.bool true)) (w' := w9) rfl rfl rfl (x_pickT (v := (Value.bool true)) rfl rfl hc15 rfl) ?_
      refine wpR_nil ?_
      exact ⟨(), ⟨(by rw [hc15]; rfl), e1, e5, e6, trivial⟩, rfl⟩
    · skip
      refine wpR_val (v := (Value.int .i64 r6.2.2)) (w' := w9) (wantG rfl rfl rfl hc15) rfl rfl (x_move (v := (Value.int .i64 r6.2.2)) rfl e4) ?_
      refine wpR_val (v := (Value.bool (!decide (r6.2.2 = 6)))) (w' := w9) (wantG rfl rfl rfl hc15) rfl rfl (x_neq rfl rfl rfl) ?_
      refine wpR_val (v := (Value.bool (!decide (r6.2.2 = 6)))) (w' := w9) rfl rfl rfl (x_pickF (v := (Value.bool (!decide (r6.2.2 = 6)))) rfl rfl hc15 rfl) ?_
      refine wpR_nil ?_
      exact ⟨(), ⟨(by rw [hc15]; rfl), e1, e5, e6, trivial⟩, rfl⟩
  rintro _ ρ wj ⟨e39, e1, e5, e6, -⟩ rfl
  refine wpR_val (v := (Value.bool ((!decide (r1.2.2 = 0)) || (!decide (r6.2.2 = 6))))) (w' := w9) rfl rfl rfl (x_move (v := (Value.bool ((!decide (r1.2.2 = 0)) || (!decide (r6.2.2 = 6))))) rfl e39) ?_
  refine wpR_joinJ 3 (fun (_ : Unit) ρ => ρ 43 = Value.bool (((!decide (r1.2.2 = 0)) || (!decide (r6.2.2 = 6))) || (!decide (r11.2.2 = 0))) ∧ ρ 1 = (Value.pointer (some (Addr.mk b2 0 none))) ∧ ρ 5 = (Value.pointer (some (Addr.mk b12 0 none))) ∧ True) (fun _ w => w9 = w) ?_ ?_
  · clear h
    rcases Bool.eq_false_or_eq_true ((!decide (r1.2.2 = 0)) || (!decide (r6.2.2 = 6))) with hc17 | hc17
    · skip
      refine wpR_pass (wantN rfl rfl rfl hc17) rfl rfl ?_
      refine wpR_pass (wantN rfl rfl rfl hc17) rfl rfl ?_
      refine wpR_val (v := (Value.bool true)) (w' := w9) rfl rfl rfl (x_pickT (v := (Value.bool true)) rfl rfl hc17 rfl) ?_
      refine wpR_nil ?_
      exact ⟨(), ⟨(by rw [hc17]; rfl), e1, e5, trivial⟩, rfl⟩
    · skip
      refine wpR_val (v := (Value.int .i64 r11.2.2)) (w' := w9) (wantG rfl rfl rfl hc17) rfl rfl (x_move (v := (Value.int .i64 r11.2.2)) rfl e6) ?_
      refine wpR_val (v := (Value.bool (!decide (r11.2.2 = 0)))) (w' := w9) (wantG rfl rfl rfl hc17) rfl rfl (x_neq rfl rfl rfl) ?_
      refine wpR_val (v := (Value.bool (!decide (r11.2.2 = 0)))) (w' := w9) rfl rfl rfl (x_pickF (v := (Value.bool (!decide (r11.2.2 = 0)))) rfl rfl hc17 rfl) ?_
      refine wpR_nil ?_
      exact ⟨(), ⟨(by rw [hc17]; rfl), e1, e5, trivial⟩, rfl⟩
  rintro _ ρ wj ⟨e43, e1, e5, -⟩ rfl
  refine wpR_val (v := (Value.bool (((!decide (r1.2.2 = 0)) || (!decide (r6.2.2 = 6))) || (!decide (r11.2.2 = 0))))) (w' := w9) rfl rfl rfl (x_move (v := (Value.bool (((!decide (r1.2.2 = 0)) || (!decide (r6.2.2 = 6))) || (!decide (r11.2.2 = 0))))) rfl e43) ?_
  obtain ⟨J18, h, hk⟩ := h
  refine wpR_joinJ 4 (fun x ρ => ρ 48 = Value.bool x ∧ ρ 5 = (Value.pointer (some (Addr.mk b12 0 none))) ∧ True) (fun x w => J18 x ∧ w9 = w) ?_ ?_
  · clear hk
    rcases Bool.eq_false_or_eq_true (((!decide (r1.2.2 = 0)) || (!decide (r6.2.2 = 6))) || (!decide (r11.2.2 = 0))) with hc19 | hc19
    · replace h := h.1 hc19
      refine wpR_pass (wantN rfl rfl rfl hc19) rfl rfl ?_
      refine wpR_pass (wantN rfl rfl rfl hc19) rfl rfl ?_
      refine wpR_pass (wantN rfl rfl rfl hc19) rfl rfl ?_
      refine wpR_val (v := (Value.bool true)) (w' := w9) rfl rfl rfl (x_pickT (v := (Value.bool true)) rfl rfl hc19 rfl) ?_
      refine wpR_nil ?_
      exact ⟨true, ⟨rfl, e5, trivial⟩, h, rfl⟩
    · replace h := h.2 hc19
      obtain ⟨x20, q20, h⟩ := h
      obtain ⟨x21, q21, h⟩ := h
      refine wpR_val (v := (Value.agg #[(Value.int .i64 x20), (Value.int .i64 x21)])) (w' := w9) (wantG rfl rfl rfl hc19) rfl rfl (x_loadN [(Value.int .i64 x20), (Value.int .i64 x21)] rfl e1 SH_24 (CellsAt.out (CellsAt.cons q20 (CellsAt.cons q21 CellsAt.nil)))) ?_
      refine wpR_val (v := (Value.agg #[(Value.int .i64 6), (Value.int .i64 0)])) (w' := w9) (wantG rfl rfl rfl hc19) rfl rfl (x_build (qs := [(0, (Value.int .i64 6))]) rfl (by rfl) (BD_24_0 6 _)) ?_
      refine wpR_val (v := (Value.bool (!(decide (x20 = 6) && (decide (x21 = 0) && true))))) (w' := w9) (wantG rfl rfl rfl hc19) rfl rfl (x_neqA rfl rfl rfl EQ1_24 EQ2_24 EQ3_24 (EQ_24 x20 x21 6 0)) ?_
      refine wpR_val (v := (Value.bool (!(decide (x20 = 6) && (decide (x21 = 0) && true))))) (w' := w9) rfl rfl rfl (x_pickF (v := (Value.bool (!(decide (x20 = 6) && (decide (x21 = 0) && true))))) rfl rfl hc19 rfl) ?_
      refine wpR_nil ?_
      exact ⟨!(decide (x20 = 6) && (decide (x21 = 0) && true)), ⟨rfl, e5, trivial⟩, h, rfl⟩
  clear h
  rintro c22 ρ wj ⟨e48, e5, -⟩ ⟨h, rfl⟩
  replace h := hk c22 h
  clear hk
  refine wpR_val (v := (Value.bool c22)) (w' := w9) rfl rfl rfl (x_move (v := (Value.bool c22)) rfl e48) ?_
  obtain ⟨J23, h, hk⟩ := h
  refine wpR_joinJ 4 (fun x ρ => ρ 53 = Value.bool x ∧ ρ 5 = (Value.pointer (some (Addr.mk b12 0 none))) ∧ True) (fun x w => J23 x ∧ w9 = w) ?_ ?_
  · clear hk
    rcases Bool.eq_false_or_eq_true (c22) with hc24 | hc24
    · replace h := h.1 hc24
      refine wpR_pass (wantN rfl rfl rfl hc24) rfl rfl ?_
      refine wpR_pass (wantN rfl rfl rfl hc24) rfl rfl ?_
      refine wpR_pass (wantN rfl rfl rfl hc24) rfl rfl ?_
      refine wpR_val (v := (Value.bool true)) (w' := w9) rfl rfl rfl (x_pickT (v := (Value.bool true)) rfl rfl hc24 rfl) ?_
      refine wpR_nil ?_
      exact ⟨true, ⟨rfl, e5, trivial⟩, h, rfl⟩
    · replace h := h.2 hc24
      obtain ⟨x25, q25, h⟩ := h
      obtain ⟨x26, q26, h⟩ := h
      refine wpR_val (v := (Value.agg #[(Value.int .i64 x25), (Value.int .i64 x26)])) (w' := w9) (wantG rfl rfl rfl hc24) rfl rfl (x_loadN [(Value.int .i64 x25), (Value.int .i64 x26)] rfl e5 SH_24 (CellsAt.out (CellsAt.cons q25 (CellsAt.cons q26 CellsAt.nil)))) ?_
      refine wpR_val (v := (Value.agg #[(Value.int .i64 0), (Value.int .i64 1)])) (w' := w9) (wantG rfl rfl rfl hc24) rfl rfl (x_build (qs := [(1, (Value.int .i64 1))]) rfl (by rfl) (BD_24_1 1 _)) ?_
      refine wpR_val (v := (Value.bool (!(decide (x25 = 0) && (decide (x26 = 1) && true))))) (w' := w9) (wantG rfl rfl rfl hc24) rfl rfl (x_neqA rfl rfl rfl EQ1_24 EQ2_24 EQ3_24 (EQ_24 x25 x26 0 1)) ?_
      refine wpR_val (v := (Value.bool (!(decide (x25 = 0) && (decide (x26 = 1) && true))))) (w' := w9) rfl rfl rfl (x_pickF (v := (Value.bool (!(decide (x25 = 0) && (decide (x26 = 1) && true))))) rfl rfl hc24 rfl) ?_
      refine wpR_nil ?_
      exact ⟨!(decide (x25 = 0) && (decide (x26 = 1) && true)), ⟨rfl, e5, trivial⟩, h, rfl⟩
  clear h
  rintro c27 ρ wj ⟨e53, e5, -⟩ ⟨h, rfl⟩
  replace h := hk c27 h
  clear hk
  refine wpR_nil ?_
  refine wpC_cond (b := c27) e53 (fun hc28 => ?_) (fun hc28 => ?_)
  · replace h := h.1 hc28
    refine wpC_seq ?_
    refine wpC_region ?_
    refine wpR_val (v := (Value.bool false)) (w' := w9) rfl rfl rfl (x_assign (v := (Value.bool false)) rfl rfl) ?_
    refine wpR_nil ?_
    refine wpC_ret ?_
    exact ⟨.inl rfl, fun a ha => ⟨_, results_rep1 rfl ha rfl, false, rfl, h⟩⟩
  · replace h := h.2 hc28
    refine wpC_skip ?_
    refine wpC_seq ?_
    refine wpC_region ?_
    obtain ⟨b29, hb29⟩ : ∃ u, u = w9.heap.size := ⟨_, rfl⟩
    obtain ⟨w10, hw29⟩ : ∃ u, u = w9.alloc (.cells #[(Value.int .i64 2), (Value.int .i64 4), (Value.int .i64 5), (Value.int .i64 1073741824)] 3) := ⟨_, rfl⟩
    replace h := h b29 w10 hb29 hw29
    refine wpR_val (v := (Sl.v (⟨some ⟨b29, 0, none⟩, 4, 4⟩ : Sl))) (w' := w10) rfl rfl rfl ((x_buildSlice (qs := [(0, (Value.int .i64 2)), (1, (Value.int .i64 4)), (2, (Value.int .i64 5)), (3, (Value.int .i64 1073741824))]) rfl (by rfl) (BS_42_4_0_1_2_3 2 4 5 1073741824)).trans (by rw [← hb29, ← hw29])) ?_
    refine wpR_val (v := (Sl.v (⟨some ⟨b29, 0, none⟩, 4, 4⟩ : Sl))) (w' := w10) rfl rfl rfl (x_assign (v := (Sl.v (⟨some ⟨b29, 0, none⟩, 4, 4⟩ : Sl))) rfl rfl) ?_
    refine wpR_nil ?_
    refine wpC_seq ?_
    refine wpC_cut (fun ρ => ρ 5 = (Value.pointer (some (Addr.mk b12 0 none))) ∧ ρ 7 = (Sl.v (⟨some ⟨b29, 0, none⟩, 4, 4⟩ : Sl)) ∧ True) ⟨e5, rfl, trivial⟩ ?_
    rintro ρ ⟨e5, e7, -⟩
    refine wpC_region ?_
    obtain ⟨b30, hb30⟩ : ∃ u, u = w10.heap.size := ⟨_, rfl⟩
    obtain ⟨w11, hw30⟩ : ∃ u, u = w10.alloc (.cells #[(Value.int .i64 3), (Value.int .i64 9), (Value.int .i64 10), (Value.int .i64 10)] 3) := ⟨_, rfl⟩
    replace h := h b30 w11 hb30 hw30
    refine wpR_val (v := (Sl.v (⟨some ⟨b30, 0, none⟩, 4, 4⟩ : Sl))) (w' := w11) rfl rfl rfl ((x_buildSlice (qs := [(0, (Value.int .i64 3)), (1, (Value.int .i64 9)), (2, (Value.int .i64 10)), (3, (Value.int .i64 10))]) rfl (by rfl) (BS_42_4_0_1_2_3 3 9 10 10)).trans (by rw [← hb30, ← hw30])) ?_
    refine wpR_val (v := (Sl.v (⟨some ⟨b30, 0, none⟩, 4, 4⟩ : Sl))) (w' := w11) rfl rfl rfl (x_assign (v := (Sl.v (⟨some ⟨b30, 0, none⟩, 4, 4⟩ : Sl))) rfl rfl) ?_
    refine wpR_nil ?_
    refine wpC_seq ?_
    refine wpC_seq ?_
    refine wpC_cut (fun ρ => ρ 5 = (Value.pointer (some (Addr.mk b12 0 none))) ∧ ρ 7 = (Sl.v (⟨some ⟨b29, 0, none⟩, 4, 4⟩ : Sl)) ∧ ρ 8 = (Sl.v (⟨some ⟨b30, 0, none⟩, 4, 4⟩ : Sl)) ∧ True) ⟨e5, e7, rfl, trivial⟩ ?_
    rintro ρ ⟨e5, e7, e8, -⟩
    refine wpC_region ?_
    refine wpR_val (v := (Value.int .i64 0)) (w' := w11) rfl rfl rfl (x_assign (v := (Value.int .i64 0)) rfl rfl) ?_
    refine wpR_nil ?_
    refine wpC_block ?_
    obtain ⟨I31, μ31, hI31, hr31⟩ := h
    refine wpC_loop (fun (x : Int) ρ => ρ 9 = (Value.int .i64 x) ∧ ρ 5 = (Value.pointer (some (Addr.mk b12 0 none))) ∧ ρ 7 = (Sl.v (⟨some ⟨b29, 0, none⟩, 4, 4⟩ : Sl)) ∧ ρ 8 = (Sl.v (⟨some ⟨b30, 0, none⟩, 4, 4⟩ : Sl)) ∧ True) I31 μ31 0 ⟨rfl, e5, e7, e8, trivial⟩ hI31 ?_
    rintro l31 ρ w12 ⟨e9, e5, e7, e8, -⟩ h
    replace h := hr31 l31 w12 h
    clear hr31 hI31
    refine wpC_seq ?_
    refine wpC_seq ?_
    refine wpC_region ?_
    refine wpR_val (v := (Value.int .i64 l31)) (w' := w12) rfl rfl rfl (x_move (v := (Value.int .i64 l31)) rfl e9) ?_
    refine wpR_val (v := (Sl.v (⟨some ⟨b29, 0, none⟩, 4, 4⟩ : Sl))) (w' := w12) rfl rfl rfl (x_move (v := (Sl.v (⟨some ⟨b29, 0, none⟩, 4, 4⟩ : Sl))) rfl e7) ?_
    refine wpR_val (v := (Value.int .i64 ((⟨some ⟨b29, 0, none⟩, 4, 4⟩ : Sl).len : Int))) (w' := w12) rfl rfl rfl (x_lenS (s := (⟨some ⟨b29, 0, none⟩, 4, 4⟩ : Sl)) rfl rfl isSliceT_42) ?_
    refine wpR_val (v := (Value.bool (decide (l31 < ((⟨some ⟨b29, 0, none⟩, 4, 4⟩ : Sl).len : Int))))) (w' := w12) rfl rfl rfl (x_lss rfl rfl rfl) ?_
    refine wpR_nil ?_
    refine wpC_cond (b := decide (l31 < ((⟨some ⟨b29, 0, none⟩, 4, 4⟩ : Sl).len : Int))) rfl (fun hc32 => ?_) (fun hc32 => ?_)
    · replace h := h.1 hc32
      refine wpC_skip ?_
      refine wpC_seq ?_
      refine wpC_block ?_
      refine wpC_seq ?_
      refine wpC_cut (fun ρ => ρ 5 = (Value.pointer (some (Addr.mk b12 0 none))) ∧ ρ 7 = (Sl.v (⟨some ⟨b29, 0, none⟩, 4, 4⟩ : Sl)) ∧ ρ 8 = (Sl.v (⟨some ⟨b30, 0, none⟩, 4, 4⟩ : Sl)) ∧ ρ 9 = (Value.int .i64 l31) ∧ True) ⟨e5, e7, e8, e9, trivial⟩ ?_
      rintro ρ ⟨e5, e7, e8, e9, -⟩
      obtain ⟨J34, h, hk⟩ := h
      refine wpC_drawJ (by kernel_rfl) (fun (x : Int × Int) ρ => ρ 10 = (Value.int .i64 x.1) ∧ ρ 11 = (Value.int .i64 x.2) ∧ ρ 5 = (Value.pointer (some (Addr.mk b12 0 none))) ∧ ρ 7 = (Sl.v (⟨some ⟨b29, 0, none⟩, 4, 4⟩ : Sl)) ∧ ρ 8 = (Sl.v (⟨some ⟨b30, 0, none⟩, 4, 4⟩ : Sl)) ∧ ρ 9 = (Value.int .i64 l31) ∧ True) J34 ?_ ?_
      · clear hk
        unfold tk at h
        generalize w12.drew = w13 at h ⊢
        obtain ⟨x35, q35, h⟩ := h
        obtain ⟨x36, q36, h⟩ := h
        refine wpD_take (v := (Value.agg #[(Value.int .i64 x35), (Value.int .i64 x36)])) 0 (fun w => w.cell? ((Addr.mk b12 0 none).add 0) = some (Value.int .i64 x35) ∧ w.cell? ((Addr.mk b12 0 none).add 1) = some (Value.int .i64 x36)) rfl (by kernel_rfl) (by kernel_rfl) (by kernel_rfl) rfl rfl rfl ⟨q35, q36⟩ (fun w ⟨q35, q36⟩ => (x_loadN [(Value.int .i64 x35), (Value.int .i64 x36)] rfl e5 SH_24 (CellsAt.out (CellsAt.cons q35 (CellsAt.cons q36 CellsAt.nil))))) ?_
        refine wpD_take (v := (Sl.v (⟨some ⟨b29, 0, none⟩, 4, 4⟩ : Sl))) 1 (fun _ => True) rfl (by kernel_rfl) (by kernel_rfl) (by kernel_rfl) rfl rfl rfl trivial (fun w _ => (x_move (v := (Sl.v (⟨some ⟨b29, 0, none⟩, 4, 4⟩ : Sl))) rfl e7)) ?_
        refine wpD_take (v := (Value.int .i64 l31)) 2 (fun _ => True) rfl (by kernel_rfl) (by kernel_rfl) (by kernel_rfl) rfl rfl rfl trivial (fun w _ => (x_move (v := (Value.int .i64 l31)) rfl e9)) ?_
        obtain ⟨q37, z37, r37, h⟩ := h
        generalize hp37 : z37.add ((l31).toNat * 1) = p37 at h
        refine wpD_take (v := (Value.pointer (some p37))) 3 (fun _ => True) rfl (by kernel_rfl) (by kernel_rfl) (by kernel_rfl) rfl rfl rfl trivial (fun w _ => ((x_indexAddr (s := (⟨some ⟨b29, 0, none⟩, 4, 4⟩ : Sl)) rfl rfl rfl ES_42 q37 r37).trans (by rw [hp37]))) ?_
        obtain ⟨x38, q38, h⟩ := h
        refine wpD_take (v := (Value.int .i64 x38)) 4 (fun w => w.cell? p37 = some (Value.int .i64 x38)) rfl (by kernel_rfl) (by kernel_rfl) (by kernel_rfl) rfl rfl rfl q38 (fun w q38 => (x_load1 rfl rfl SH_3 q38)) ?_
        refine wpD_all (rs := [5]) (by kernel_rfl) (by simp) (allD_cons ?_ allD_nil)
        refine stepD_enterL (L' := [(3, fun _ => True), (2, fun _ => True), (1, fun _ => True)]) rfl rfl rfl rfl (x_call (vs := [(Value.agg #[(Value.int .i64 x35), (Value.int .i64 x36)]), (Value.int .i64 3), (Value.int .i64 10), (Value.int .i64 x38)]) rfl rfl (by rfl) Try.func10 NN_10 NB_10) (by kernel_rfl) (Calls.mono h ?_)
        rintro _ w14 ⟨r39, rfl, h⟩
        refine ⟨_, rfl, (held_cons trivial (held_cons trivial (held_cons trivial held_nil))), ?_⟩
        refine wpD_take (v := (Value.tuple #[(Value.int .i64 r39.1), (Value.int .i64 r39.2)])) 6 (fun _ => True) rfl (by kernel_rfl) (by kernel_rfl) (by kernel_rfl) rfl rfl rfl trivial (fun w _ => (x_move (v := (Value.tuple #[(Value.int .i64 r39.1), (Value.int .i64 r39.2)])) rfl rfl)) ?_
        refine wpD_take (v := (Value.int .i64 r39.1)) 7 (fun _ => True) rfl (by kernel_rfl) (by kernel_rfl) (by kernel_rfl) rfl rfl rfl trivial (fun w _ => (x_extract rfl rfl rfl)) ?_
        refine wpD_take (v := (Value.int .i64 r39.2)) 8 (fun _ => True) rfl (by kernel_rfl) (by kernel_rfl) (by kernel_rfl) rfl rfl rfl trivial (fun w _ => (x_extract rfl rfl rfl)) ?_
        refine wpD_take (v := (Value.int .i64 r39.1)) 9 (fun _ => True) rfl (by kernel_rfl) (by kernel_rfl) (by kernel_rfl) rfl rfl rfl trivial (fun w _ => (x_assign (v := (Value.int .i64 r39.1)) rfl rfl)) ?_
        refine wpD_take (v := (Value.int .i64 r39.2)) 10 (fun _ => True) rfl (by kernel_rfl) (by kernel_rfl) (by kernel_rfl) rfl rfl rfl trivial (fun w _ => (x_assign (v := (Value.int .i64 r39.2)) rfl rfl)) ?_
        exact wpD_done (by kernel_rfl) ⟨(r39.1, r39.2), ⟨rfl, rfl, e5, e7, e8, e9, trivial⟩, h⟩
      clear h
      rintro l40 ρ w15 ⟨e10, e11, e5, e7, e8, e9, -⟩ h
      replace h := hk l40 w15 h
      clear hk
      refine wpC_seq ?_
      refine wpC_region ?_
      refine wpR_val (v := (Value.int .i64 l40.2)) (w' := w15) rfl rfl rfl (x_move (v := (Value.int .i64 l40.2)) rfl e11) ?_
      refine wpR_val (v := (Value.bool (!decide (l40.2 = 0)))) (w' := w15) rfl rfl rfl (x_neq rfl rfl rfl) ?_
      refine wpR_val (v := (Value.bool (!decide (l40.2 = 0)))) (w' := w15) rfl rfl rfl (x_move (v := (Value.bool (!decide (l40.2 = 0)))) rfl rfl) ?_
      obtain ⟨J41, h, hk⟩ := h
      refine wpR_joinJ 7 (fun x ρ => ρ 80 = Value.bool x ∧ ρ 5 = (Value.pointer (some (Addr.mk b12 0 none))) ∧ ρ 7 = (Sl.v (⟨some ⟨b29, 0, none⟩, 4, 4⟩ : Sl)) ∧ ρ 8 = (Sl.v (⟨some ⟨b30, 0, none⟩, 4, 4⟩ : Sl)) ∧ ρ 9 = (Value.int .i64 l31) ∧ True) (fun x w => J41 x ∧ w15 = w) ?_ ?_
      · clear hk
        rcases Bool.eq_false_or_eq_true (!decide (l40.2 = 0)) with hc42 | hc42
        · replace h := h.1 hc42
          refine wpR_pass (wantN rfl rfl rfl hc42) rfl rfl ?_
          refine wpR_pass (wantN rfl rfl rfl hc42) rfl rfl ?_
          refine wpR_pass (wantN rfl rfl rfl hc42) rfl rfl ?_
          refine wpR_pass (wantN rfl rfl rfl hc42) rfl rfl ?_
          refine wpR_pass (wantN rfl rfl rfl hc42) rfl rfl ?_
          refine wpR_pass (wantN rfl rfl rfl hc42) rfl rfl ?_
          refine wpR_val (v := (Value.bool true)) (w' := w15) rfl rfl rfl (x_pickT (v := (Value.bool true)) rfl rfl hc42 rfl) ?_
          refine wpR_nil ?_
          exact ⟨true, ⟨rfl, e5, e7, e8, e9, trivial⟩, h, rfl⟩
        · replace h := h.2 hc42
          refine wpR_val (v := (Value.int .i64 l40.1)) (w' := w15) (wantG rfl rfl rfl hc42) rfl rfl (x_move (v := (Value.int .i64 l40.1)) rfl e10) ?_
          refine wpR_val (v := (Sl.v (⟨some ⟨b30, 0, none⟩, 4, 4⟩ : Sl))) (w' := w15) (wantG rfl rfl rfl hc42) rfl rfl (x_move (v := (Sl.v (⟨some ⟨b30, 0, none⟩, 4, 4⟩ : Sl))) rfl e8) ?_
          refine wpR_val (v := (Value.int .i64 l31)) (w' := w15) (wantG rfl rfl rfl hc42) rfl rfl (x_move (v := (Value.int .i64 l31)) rfl e9) ?_
          obtain ⟨q43, z43, r43, h⟩ := h
          generalize hp43 : z43.add ((l31).toNat * 1) = p43 at h
          refine wpR_val (v := (Value.pointer (some p43))) (w' := w15) (wantG rfl rfl rfl hc42) rfl rfl ((x_indexAddr (s := (⟨some ⟨b30, 0, none⟩, 4, 4⟩ : Sl)) rfl rfl rfl ES_42 q43 r43).trans (by rw [hp43])) ?_
          obtain ⟨x44, q44, h⟩ := h
          refine wpR_val (v := (Value.int .i64 x44)) (w' := w15) (wantG rfl rfl rfl hc42) rfl rfl (x_load1 rfl rfl SH_3 q44) ?_
          refine wpR_val (v := (Value.bool (!decide (l40.1 = x44)))) (w' := w15) (wantG rfl rfl rfl hc42) rfl rfl (x_neq rfl rfl rfl) ?_
          refine wpR_val (v := (Value.bool (!decide (l40.1 = x44)))) (w' := w15) rfl rfl rfl (x_pickF (v := (Value.bool (!decide (l40.1 = x44)))) rfl rfl hc42 rfl) ?_
          refine wpR_nil ?_
          exact ⟨!decide (l40.1 = x44), ⟨rfl, e5, e7, e8, e9, trivial⟩, h, rfl⟩
      clear h
      rintro c45 ρ wj ⟨e80, e5, e7, e8, e9, -⟩ ⟨h, rfl⟩
      replace h := hk c45 h
      clear hk
      refine wpR_nil ?_
      refine wpC_cond (b := c45) e80 (fun hc46 => ?_) (fun hc46 => ?_)
      · replace h := h.1 hc46
        refine wpC_seq ?_
        refine wpC_region ?_
        refine wpR_val (v := (Value.bool false)) (w' := w15) rfl rfl rfl (x_assign (v := (Value.bool false)) rfl rfl) ?_
        refine wpR_nil ?_
        refine wpC_ret ?_
        exact ⟨.inl rfl, fun a ha => ⟨_, results_rep1 rfl ha rfl, false, rfl, h⟩⟩
      · replace h := h.2 hc46
        refine wpC_skip ?_
        refine wpC_region ?_
        refine wpR_val (v := (Value.int .i64 l31)) (w' := w15) rfl rfl rfl (x_move (v := (Value.int .i64 l31)) rfl e9) ?_
        refine wpR_val (v := (Value.int .i64 (IntKind.i64.wrap (l31 + 1)))) (w' := w15) rfl rfl rfl (x_add rfl rfl rfl) ?_
        refine wpR_val (v := (Value.int .i64 (IntKind.i64.wrap (l31 + 1)))) (w' := w15) rfl rfl rfl (x_assign (v := (Value.int .i64 (IntKind.i64.wrap (l31 + 1)))) rfl rfl) ?_
        refine wpR_nil ?_
        exact ⟨IntKind.i64.wrap (l31 + 1), ⟨rfl, e5, e7, e8, trivial⟩, h⟩
    · replace h := h.2 hc32
      refine wpC_exit ?_
      refine wpC_seq ?_
      refine wpC_cut (fun ρ => ρ 5 = (Value.pointer (some (Addr.mk b12 0 none))) ∧ True) ⟨e5, trivial⟩ ?_
      rintro ρ ⟨e5, -⟩
      refine wpC_region ?_
      obtain ⟨b47, hb47⟩ : ∃ u, u = w12.heap.size := ⟨_, rfl⟩
      obtain ⟨w16, hw47⟩ : ∃ u, u = w12.alloc (.cells #[(Value.int .i64 0), (Value.int .i64 3), (Value.int .i64 4), (Value.int .i64 10)] 3) := ⟨_, rfl⟩
      replace h := h b47 w16 hb47 hw47
      refine wpR_val (v := (Sl.v (⟨some ⟨b47, 0, none⟩, 4, 4⟩ : Sl))) (w' := w16) rfl rfl rfl ((x_buildSlice (qs := [(0, (Value.int .i64 0)), (1, (Value.int .i64 3)), (2, (Value.int .i64 4)), (3, (Value.int .i64 10))]) rfl (by rfl) (BS_42_4_0_1_2_3 0 3 4 10)).trans (by rw [← hb47, ← hw47])) ?_
      refine wpR_val (v := (Sl.v (⟨some ⟨b47, 0, none⟩, 4, 4⟩ : Sl))) (w' := w16) rfl rfl rfl (x_assign (v := (Sl.v (⟨some ⟨b47, 0, none⟩, 4, 4⟩ : Sl))) rfl rfl) ?_
      refine wpR_nil ?_
      refine wpC_seq ?_
      refine wpC_cut (fun ρ => ρ 5 = (Value.pointer (some (Addr.mk b12 0 none))) ∧ ρ 12 = (Sl.v (⟨some ⟨b47, 0, none⟩, 4, 4⟩ : Sl)) ∧ True) ⟨e5, rfl, trivial⟩ ?_
      rintro ρ ⟨e5, e12, -⟩
      refine wpC_region ?_
      obtain ⟨b48, hb48⟩ : ∃ u, u = w16.heap.size := ⟨_, rfl⟩
      obtain ⟨w17, hw48⟩ : ∃ u, u = w16.alloc (.cells #[(Value.int .i64 1), (Value.int .i64 2), (Value.int .i64 3), (Value.int .i64 5)] 3) := ⟨_, rfl⟩
      replace h := h b48 w17 hb48 hw48
      refine wpR_val (v := (Sl.v (⟨some ⟨b48, 0, none⟩, 4, 4⟩ : Sl))) (w' := w17) rfl rfl rfl ((x_buildSlice (qs := [(0, (Value.int .i64 1)), (1, (Value.int .i64 2)), (2, (Value.int .i64 3)), (3, (Value.int .i64 5))]) rfl (by rfl) (BS_42_4_0_1_2_3 1 2 3 5)).trans (by rw [← hb48, ← hw48])) ?_
      refine wpR_val (v := (Sl.v (⟨some ⟨b48, 0, none⟩, 4, 4⟩ : Sl))) (w' := w17) rfl rfl rfl (x_assign (v := (Sl.v (⟨some ⟨b48, 0, none⟩, 4, 4⟩ : Sl))) rfl rfl) ?_
      refine wpR_nil ?_
      refine wpC_seq ?_
      refine wpC_seq ?_
      refine wpC_cut (fun ρ => ρ 5 = (Value.pointer (some (Addr.mk b12 0 none))) ∧ ρ 12 = (Sl.v (⟨some ⟨b47, 0, none⟩, 4, 4⟩ : Sl)) ∧ ρ 13 = (Sl.v (⟨some ⟨b48, 0, none⟩, 4, 4⟩ : Sl)) ∧ True) ⟨e5, e12, rfl, trivial⟩ ?_
      rintro ρ ⟨e5, e12, e13, -⟩
      refine wpC_region ?_
      refine wpR_val (v := (Value.int .i64 0)) (w' := w17) rfl rfl rfl (x_assign (v := (Value.int .i64 0)) rfl rfl) ?_
      refine wpR_nil ?_
      refine wpC_block ?_
      obtain ⟨I49, μ49, hI49, hr49⟩ := h
      refine wpC_loop (fun (x : Int) ρ => ρ 14 = (Value.int .i64 x) ∧ ρ 5 = (Value.pointer (some (Addr.mk b12 0 none))) ∧ ρ 12 = (Sl.v (⟨some ⟨b47, 0, none⟩, 4, 4⟩ : Sl)) ∧ ρ 13 = (Sl.v (⟨some ⟨b48, 0, none⟩, 4, 4⟩ : Sl)) ∧ True) I49 μ49 0 ⟨rfl, e5, e12, e13, trivial⟩ hI49 ?_
      rintro l49 ρ w18 ⟨e14, e5, e12, e13, -⟩ h
      replace h := hr49 l49 w18 h
      clear hr49 hI49
      refine wpC_seq ?_
      refine wpC_seq ?_
      refine wpC_region ?_
      refine wpR_val (v := (Value.int .i64 l49)) (w' := w18) rfl rfl rfl (x_move (v := (Value.int .i64 l49)) rfl e14) ?_
      refine wpR_val (v := (Sl.v (⟨some ⟨b47, 0, none⟩, 4, 4⟩ : Sl))) (w' := w18) rfl rfl rfl (x_move (v := (Sl.v (⟨some ⟨b47, 0, none⟩, 4, 4⟩ : Sl))) rfl e12) ?_
      refine wpR_val (v := (Value.int .i64 ((⟨some ⟨b47, 0, none⟩, 4, 4⟩ : Sl).len : Int))) (w' := w18) rfl rfl rfl (x_lenS (s := (⟨some ⟨b47, 0, none⟩, 4, 4⟩ : Sl)) rfl rfl isSliceT_42) ?_
      refine wpR_val (v := (Value.bool (decide (l49 < ((⟨some ⟨b47, 0, none⟩, 4, 4⟩ : Sl).len : Int))))) (w' := w18) rfl rfl rfl (x_lss rfl rfl rfl) ?_
      refine wpR_nil ?_
      refine wpC_cond (b := decide (l49 < ((⟨some ⟨b47, 0, none⟩, 4, 4⟩ : Sl).len : Int))) rfl (fun hc50 => ?_) (fun hc50 => ?_)
      · replace h := h.1 hc50
        refine wpC_skip ?_
        refine wpC_seq ?_
        refine wpC_block ?_
        refine wpC_seq ?_
        refine wpC_cut (fun ρ => ρ 5 = (Value.pointer (some (Addr.mk b12 0 none))) ∧ ρ 12 = (Sl.v (⟨some ⟨b47, 0, none⟩, 4, 4⟩ : Sl)) ∧ ρ 13 = (Sl.v (⟨some ⟨b48, 0, none⟩, 4, 4⟩ : Sl)) ∧ ρ 14 = (Value.int .i64 l49) ∧ True) ⟨e5, e12, e13, e14, trivial⟩ ?_
        rintro ρ ⟨e5, e12, e13, e14, -⟩
        obtain ⟨J52, h, hk⟩ := h
        refine wpC_drawJ (by kernel_rfl) (fun (x : Int × Int) ρ => ρ 15 = (Value.int .i64 x.1) ∧ ρ 16 = (Value.int .i64 x.2) ∧ ρ 5 = (Value.pointer (some (Addr.mk b12 0 none))) ∧ ρ 12 = (Sl.v (⟨some ⟨b47, 0, none⟩, 4, 4⟩ : Sl)) ∧ ρ 13 = (Sl.v (⟨some ⟨b48, 0, none⟩, 4, 4⟩ : Sl)) ∧ ρ 14 = (Value.int .i64 l49) ∧ True) J52 ?_ ?_
        · clear hk
          unfold tk at h
          generalize w18.drew = w19 at h ⊢
          obtain ⟨x53, q53, h⟩ := h
          obtain ⟨x54, q54, h⟩ := h
          refine wpD_take (v := (Value.agg #[(Value.int .i64 x53), (Value.int .i64 x54)])) 0 (fun w => w.cell? ((Addr.mk b12 0 none).add 0) = some (Value.int .i64 x53) ∧ w.cell? ((Addr.mk b12 0 none).add 1) = some (Value.int .i64 x54)) rfl (by kernel_rfl) (by kernel_rfl) (by kernel_rfl) rfl rfl rfl ⟨q53, q54⟩ (fun w ⟨q53, q54⟩ => (x_loadN [(Value.int .i64 x53), (Value.int .i64 x54)] rfl e5 SH_24 (CellsAt.out (CellsAt.cons q53 (CellsAt.cons q54 CellsAt.nil))))) ?_
          refine wpD_take (v := (Sl.v (⟨some ⟨b47, 0, none⟩, 4, 4⟩ : Sl))) 1 (fun _ => True) rfl (by kernel_rfl) (by kernel_rfl) (by kernel_rfl) rfl rfl rfl trivial (fun w _ => (x_move (v := (Sl.v (⟨some ⟨b47, 0, none⟩, 4, 4⟩ : Sl))) rfl e12)) ?_
          refine wpD_take (v := (Value.int .i64 l49)) 2 (fun _ => True) rfl (by kernel_rfl) (by kernel_rfl) (by kernel_rfl) rfl rfl rfl trivial (fun w _ => (x_move (v := (Value.int .i64 l49)) rfl e14)) ?_
          obtain ⟨q55, z55, r55, h⟩ := h
          generalize hp55 : z55.add ((l49).toNat * 1) = p55 at h
          refine wpD_take (v := (Value.pointer (some p55))) 3 (fun _ => True) rfl (by kernel_rfl) (by kernel_rfl) (by kernel_rfl) rfl rfl rfl trivial (fun w _ => ((x_indexAddr (s := (⟨some ⟨b47, 0, none⟩, 4, 4⟩ : Sl)) rfl rfl rfl ES_42 q55 r55).trans (by rw [hp55]))) ?_
          obtain ⟨x56, q56, h⟩ := h
          refine wpD_take (v := (Value.int .i64 x56)) 4 (fun w => w.cell? p55 = some (Value.int .i64 x56)) rfl (by kernel_rfl) (by kernel_rfl) (by kernel_rfl) rfl rfl rfl q56 (fun w q56 => (x_load1 rfl rfl SH_3 q56)) ?_
          refine wpD_all (rs := [5]) (by kernel_rfl) (by simp) (allD_cons ?_ allD_nil)
          refine stepD_enterL (L' := [(3, fun _ => True), (2, fun _ => True), (1, fun _ => True)]) rfl rfl rfl rfl (x_call (vs := [(Value.agg #[(Value.int .i64 x53), (Value.int .i64 x54)]), (Value.int .i64 3), (Value.int .i64 10), (Value.int .i64 x56)]) rfl rfl (by rfl) Try.func12 NN_12 NB_12) (by kernel_rfl) (Calls.mono h ?_)
          rintro _ w20 ⟨r57, rfl, h⟩
          refine ⟨_, rfl, (held_cons trivial (held_cons trivial (held_cons trivial held_nil))), ?_⟩
          refine wpD_take (v := (Value.tuple #[(Value.int .i64 r57.1), (Value.int .i64 r57.2)])) 6 (fun _ => True) rfl (by kernel_rfl) (by kernel_rfl) (by kernel_rfl) rfl rfl rfl trivial (fun w _ => (x_move (v := (Value.tuple #[(Value.int .i64 r57.1), (Value.int .i64 r57.2)])) rfl rfl)) ?_
          refine wpD_take (v := (Value.int .i64 r57.1)) 7 (fun _ => True) rfl (by kernel_rfl) (by kernel_rfl) (by kernel_rfl) rfl rfl rfl trivial (fun w _ => (x_extract rfl rfl rfl)) ?_
          refine wpD_take (v := (Value.int .i64 r57.2)) 8 (fun _ => True) rfl (by kernel_rfl) (by kernel_rfl) (by kernel_rfl) rfl rfl rfl trivial (fun w _ => (x_extract rfl rfl rfl)) ?_
          refine wpD_take (v := (Value.int .i64 r57.1)) 9 (fun _ => True) rfl (by kernel_rfl) (by kernel_rfl) (by kernel_rfl) rfl rfl rfl trivial (fun w _ => (x_assign (v := (Value.int .i64 r57.1)) rfl rfl)) ?_
          refine wpD_take (v := (Value.int .i64 r57.2)) 10 (fun _ => True) rfl (by kernel_rfl) (by kernel_rfl) (by kernel_rfl) rfl rfl rfl trivial (fun w _ => (x_assign (v := (Value.int .i64 r57.2)) rfl rfl)) ?_
          exact wpD_done (by kernel_rfl) ⟨(r57.1, r57.2), ⟨rfl, rfl, e5, e12, e13, e14, trivial⟩, h⟩
        clear h
        rintro l58 ρ w21 ⟨e15, e16, e5, e12, e13, e14, -⟩ h
        replace h := hk l58 w21 h
        clear hk
        refine wpC_seq ?_
        refine wpC_region ?_
        refine wpR_val (v := (Value.int .i64 l58.2)) (w' := w21) rfl rfl rfl (x_move (v := (Value.int .i64 l58.2)) rfl e16) ?_
        refine wpR_val (v := (Value.bool (!decide (l58.2 = 0)))) (w' := w21) rfl rfl rfl (x_neq rfl rfl rfl) ?_
        refine wpR_val (v := (Value.bool (!decide (l58.2 = 0)))) (w' := w21) rfl rfl rfl (x_move (v := (Value.bool (!decide (l58.2 = 0)))) rfl rfl) ?_
        obtain ⟨J59, h, hk⟩ := h
        refine wpR_joinJ 7 (fun x ρ => ρ 107 = Value.bool x ∧ ρ 5 = (Value.pointer (some (Addr.mk b12 0 none))) ∧ ρ 12 = (Sl.v (⟨some ⟨b47, 0, none⟩, 4, 4⟩ : Sl)) ∧ ρ 13 = (Sl.v (⟨some ⟨b48, 0, none⟩, 4, 4⟩ : Sl)) ∧ ρ 14 = (Value.int .i64 l49) ∧ True) (fun x w => J59 x ∧ w21 = w) ?_ ?_
        · clear hk
          rcases Bool.eq_false_or_eq_true (!decide (l58.2 = 0)) with hc60 | hc60
          · replace h := h.1 hc60
            refine wpR_pass (wantN rfl rfl rfl hc60) rfl rfl ?_
            refine wpR_pass (wantN rfl rfl rfl hc60) rfl rfl ?_
            refine wpR_pass (wantN rfl rfl rfl hc60) rfl rfl ?_
            refine wpR_pass (wantN rfl rfl rfl hc60) rfl rfl ?_
            refine wpR_pass (wantN rfl rfl rfl hc60) rfl rfl ?_
            refine wpR_pass (wantN rfl rfl rfl hc60) rfl rfl ?_
            refine wpR_val (v := (Value.bool true)) (w' := w21) rfl rfl rfl (x_pickT (v := (Value.bool true)) rfl rfl hc60 rfl) ?_
            refine wpR_nil ?_
            exact ⟨true, ⟨rfl, e5, e12, e13, e14, trivial⟩, h, rfl⟩
          · replace h := h.2 hc60
            refine wpR_val (v := (Value.int .i64 l58.1)) (w' := w21) (wantG rfl rfl rfl hc60) rfl rfl (x_move (v := (Value.int .i64 l58.1)) rfl e15) ?_
            refine wpR_val (v := (Sl.v (⟨some ⟨b48, 0, none⟩, 4, 4⟩ : Sl))) (w' := w21) (wantG rfl rfl rfl hc60) rfl rfl (x_move (v := (Sl.v (⟨some ⟨b48, 0, none⟩, 4, 4⟩ : Sl))) rfl e13) ?_
            refine wpR_val (v := (Value.int .i64 l49)) (w' := w21) (wantG rfl rfl rfl hc60) rfl rfl (x_move (v := (Value.int .i64 l49)) rfl e14) ?_
            obtain ⟨q61, z61, r61, h⟩ := h
            generalize hp61 : z61.add ((l49).toNat * 1) = p61 at h
            refine wpR_val (v := (Value.pointer (some p61))) (w' := w21) (wantG rfl rfl rfl hc60) rfl rfl ((x_indexAddr (s := (⟨some ⟨b48, 0, none⟩, 4, 4⟩ : Sl)) rfl rfl rfl ES_42 q61 r61).trans (by rw [hp61])) ?_
            obtain ⟨x62, q62, h⟩ := h
            refine wpR_val (v := (Value.int .i64 x62)) (w' := w21) (wantG rfl rfl rfl hc60) rfl rfl (x_load1 rfl rfl SH_3 q62) ?_
            refine wpR_val (v := (Value.bool (!decide (l58.1 = x62)))) (w' := w21) (wantG rfl rfl rfl hc60) rfl rfl (x_neq rfl rfl rfl) ?_
            refine wpR_val (v := (Value.bool (!decide (l58.1 = x62)))) (w' := w21) rfl rfl rfl (x_pickF (v := (Value.bool (!decide (l58.1 = x62)))) rfl rfl hc60 rfl) ?_
            refine wpR_nil ?_
            exact ⟨!decide (l58.1 = x62), ⟨rfl, e5, e12, e13, e14, trivial⟩, h, rfl⟩
        clear h
        rintro c63 ρ wj ⟨e107, e5, e12, e13, e14, -⟩ ⟨h, rfl⟩
        replace h := hk c63 h
        clear hk
        refine wpR_nil ?_
        refine wpC_cond (b := c63) e107 (fun hc64 => ?_) (fun hc64 => ?_)
        · replace h := h.1 hc64
          refine wpC_seq ?_
          refine wpC_region ?_
          refine wpR_val (v := (Value.bool false)) (w' := w21) rfl rfl rfl (x_assign (v := (Value.bool false)) rfl rfl) ?_
          refine wpR_nil ?_
          refine wpC_ret ?_
          exact ⟨.inl rfl, fun a ha => ⟨_, results_rep1 rfl ha rfl, false, rfl, h⟩⟩
        · replace h := h.2 hc64
          refine wpC_skip ?_
          refine wpC_region ?_
          refine wpR_val (v := (Value.int .i64 l49)) (w' := w21) rfl rfl rfl (x_move (v := (Value.int .i64 l49)) rfl e14) ?_
          refine wpR_val (v := (Value.int .i64 (IntKind.i64.wrap (l49 + 1)))) (w' := w21) rfl rfl rfl (x_add rfl rfl rfl) ?_
          refine wpR_val (v := (Value.int .i64 (IntKind.i64.wrap (l49 + 1)))) (w' := w21) rfl rfl rfl (x_assign (v := (Value.int .i64 (IntKind.i64.wrap (l49 + 1)))) rfl rfl) ?_
          refine wpR_nil ?_
          exact ⟨IntKind.i64.wrap (l49 + 1), ⟨rfl, e5, e12, e13, trivial⟩, h⟩
      · replace h := h.2 hc50
        refine wpC_exit ?_
        refine wpC_seq ?_
        refine wpC_cut (fun ρ => ρ 5 = (Value.pointer (some (Addr.mk b12 0 none))) ∧ True) ⟨e5, trivial⟩ ?_
        rintro ρ ⟨e5, -⟩
        refine wpC_region ?_
        obtain ⟨x65, q65, h⟩ := h
        obtain ⟨x66, q66, h⟩ := h
        refine wpR_val (v := (Value.agg #[(Value.int .i64 x65), (Value.int .i64 x66)])) (w' := w18) rfl rfl rfl (x_loadN [(Value.int .i64 x65), (Value.int .i64 x66)] rfl e5 SH_24 (CellsAt.out (CellsAt.cons q65 (CellsAt.cons q66 CellsAt.nil)))) ?_
        refine wpR_enter rfl rfl rfl (x_call (vs := [(Value.agg #[(Value.int .i64 x65), (Value.int .i64 x66)]), (Value.int .i64 3), (Value.int .i64 10), (Value.int .i64 11)]) rfl rfl (by rfl) Try.func12 NN_12 NB_12) (Calls.mono h ?_)
        rintro _ w22 ⟨r67, rfl, h⟩
        refine ⟨_, rfl, ?_⟩
        refine wpR_val (v := (Value.tuple #[(Value.int .i64 r67.1), (Value.int .i64 r67.2)])) (w' := w22) rfl rfl rfl (x_move (v := (Value.tuple #[(Value.int .i64 r67.1), (Value.int .i64 r67.2)])) rfl rfl) ?_
        refine wpR_val (v := (Value.int .i64 r67.1)) (w' := w22) rfl rfl rfl (x_extract rfl rfl rfl) ?_
        refine wpR_val (v := (Value.int .i64 r67.2)) (w' := w22) rfl rfl rfl (x_extract rfl rfl rfl) ?_
        refine wpR_val (v := (Value.int .i64 r67.1)) (w' := w22) rfl rfl rfl (x_assign (v := (Value.int .i64 r67.1)) rfl rfl) ?_
        refine wpR_val (v := (Value.int .i64 r67.2)) (w' := w22) rfl rfl rfl (x_assign (v := (Value.int .i64 r67.2)) rfl rfl) ?_
        refine wpR_nil ?_
        refine wpC_seq ?_
        refine wpC_cut (fun ρ => ρ 5 = (Value.pointer (some (Addr.mk b12 0 none))) ∧ ρ 18 = (Value.int .i64 r67.2) ∧ True) ⟨e5, rfl, trivial⟩ ?_
        rintro ρ ⟨e5, e18, -⟩
        refine wpC_region ?_
        refine wpR_val (v := (Value.int .i64 r67.2)) (w' := w22) rfl rfl rfl (x_move (v := (Value.int .i64 r67.2)) rfl e18) ?_
        refine wpR_val (v := (Value.bool (decide (r67.2 = 6)))) (w' := w22) rfl rfl rfl (x_eql rfl rfl rfl) ?_
        refine wpR_val (v := (Value.bool (decide (r67.2 = 6)))) (w' := w22) rfl rfl rfl (x_move (v := (Value.bool (decide (r67.2 = 6)))) rfl rfl) ?_
        obtain ⟨J68, h, hk⟩ := h
        refine wpR_joinJ 3 (fun x ρ => ρ 118 = Value.bool x ∧ ρ 5 = (Value.pointer (some (Addr.mk b12 0 none))) ∧ True) (J68) ?_ ?_
        · clear hk
          rcases Bool.eq_false_or_eq_true (decide (r67.2 = 6)) with hc69 | hc69
          · replace h := h.1 hc69
            obtain ⟨x70, q70, h⟩ := h
            obtain ⟨x71, q71, h⟩ := h
            refine wpR_val (v := (Value.agg #[(Value.int .i64 x70), (Value.int .i64 x71)])) (w' := w22) (wantG rfl rfl rfl hc69) rfl rfl (x_loadN [(Value.int .i64 x70), (Value.int .i64 x71)] rfl e5 SH_24 (CellsAt.out (CellsAt.cons q70 (CellsAt.cons q71 CellsAt.nil)))) ?_
            refine wpR_enter (wantG rfl rfl rfl hc69) rfl rfl (x_call (vs := [(Value.agg #[(Value.int .i64 x70), (Value.int .i64 x71)]), (Value.int .i64 3), (Value.int .i64 10)]) rfl rfl (by rfl) Try.func14 NN_14 NB_14) (Calls.mono h ?_)
            rintro _ w23 ⟨r72, rfl, h⟩
            refine ⟨_, rfl, ?_⟩
            refine wpR_val (v := (Value.bool r72)) (w' := w23) rfl rfl rfl (x_pickT (v := (Value.bool r72)) rfl rfl hc69 rfl) ?_
            refine wpR_nil ?_
            exact ⟨r72, ⟨rfl, e5, trivial⟩, h⟩
          · replace h := h.2 hc69
            refine wpR_pass (wantN rfl rfl rfl hc69) rfl rfl ?_
            refine wpR_pass (wantN rfl rfl rfl hc69) rfl rfl ?_
            refine wpR_val (v := (Value.bool false)) (w' := w22) rfl rfl rfl (x_pickF (v := (Value.bool false)) rfl rfl hc69 rfl) ?_
            refine wpR_nil ?_
            exact ⟨false, ⟨rfl, e5, trivial⟩, h⟩
        clear h
        rintro c73 ρ w24 ⟨e118, e5, -⟩ h
        replace h := hk c73 w24 h
        clear hk
        refine wpR_val (v := (Value.bool c73)) (w' := w24) rfl rfl rfl (x_move (v := (Value.bool c73)) rfl e118) ?_
        obtain ⟨J74, h, hk⟩ := h
        refine wpR_joinJ 4 (fun x ρ => ρ 123 = Value.bool x ∧ True) (J74) ?_ ?_
        · clear hk
          rcases Bool.eq_false_or_eq_true (c73) with hc75 | hc75
          · replace h := h.1 hc75
            obtain ⟨x76, q76, h⟩ := h
            obtain ⟨x77, q77, h⟩ := h
            refine wpR_val (v := (Value.agg #[(Value.int .i64 x76), (Value.int .i64 x77)])) (w' := w24) (wantG rfl rfl rfl hc75) rfl rfl (x_loadN [(Value.int .i64 x76), (Value.int .i64 x77)] rfl e5 SH_24 (CellsAt.out (CellsAt.cons q76 (CellsAt.cons q77 CellsAt.nil)))) ?_
            refine wpR_enter (wantG rfl rfl rfl hc75) rfl rfl (x_call (vs := [(Value.agg #[(Value.int .i64 x76), (Value.int .i64 x77)]), (Value.int .i64 (-1)), (Value.int .i64 10)]) rfl rfl (by rfl) Try.func14 NN_14 NB_14) (Calls.mono h ?_)
            rintro _ w25 ⟨r78, rfl, h⟩
            refine ⟨_, rfl, ?_⟩
            refine wpR_val (v := (Value.bool (!r78))) (w' := w25) (wantG rfl rfl rfl hc75) rfl rfl (x_not rfl rfl) ?_
            refine wpR_val (v := (Value.bool (!r78))) (w' := w25) rfl rfl rfl (x_pickT (v := (Value.bool (!r78))) rfl rfl hc75 rfl) ?_
            refine wpR_nil ?_
            exact ⟨!r78, ⟨rfl, trivial⟩, h⟩
          · replace h := h.2 hc75
            refine wpR_pass (wantN rfl rfl rfl hc75) rfl rfl ?_
            refine wpR_pass (wantN rfl rfl rfl hc75) rfl rfl ?_
            refine wpR_pass (wantN rfl rfl rfl hc75) rfl rfl ?_
            refine wpR_val (v := (Value.bool false)) (w' := w24) rfl rfl rfl (x_pickF (v := (Value.bool false)) rfl rfl hc75 rfl) ?_
            refine wpR_nil ?_
            exact ⟨false, ⟨rfl, trivial⟩, h⟩
        clear h
        rintro c79 ρ w26 ⟨e123, -⟩ h
        replace h := hk c79 w26 h
        clear hk
        refine wpR_val (v := (Value.bool c79)) (w' := w26) rfl rfl rfl (x_assign (v := (Value.bool c79)) rfl e123) ?_
        refine wpR_nil ?_
        refine wpC_ret ?_
        exact ⟨.inl rfl, fun a ha => ⟨_, results_rep1 rfl ha rfl, c79, rfl, h⟩⟩


end Go.Proofs.Ytpdemlicnocbkaa
