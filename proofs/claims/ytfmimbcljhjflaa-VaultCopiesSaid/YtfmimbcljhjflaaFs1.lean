import Derived.Test.YtfmimbcljhjflaaRows
import Derived.Test.YtfmimbcljhjflaaDecOps
namespace Go.Proofs.Ytfmimbcljhjflaa
open Go.Dec
set_option maxHeartbeats 400000

theorem BD_31_ : ∀ w, (Instr.build 31 #[]).run Try.prog w = .ok (Value.agg #[(Value.int .i64 0), (Value.string (ByteArray.mk #[])), (Value.int .i64 0)]) w := fun w => by kernel_rfl
theorem BD_31_0 (y0 : Int) : ∀ w, (Instr.build 31 #[(0, (Value.int .i64 y0))]).run Try.prog w = .ok (Value.agg #[(Value.int .i64 y0), (Value.string (ByteArray.mk #[])), (Value.int .i64 0)]) w := fun w => by kernel_rfl
theorem BD_31_0_2 (y0 : Int) (y2 : Int) : ∀ w, (Instr.build 31 #[(0, (Value.int .i64 y0)), (2, (Value.int .i64 y2))]).run Try.prog w = .ok (Value.agg #[(Value.int .i64 y0), (Value.string (ByteArray.mk #[])), (Value.int .i64 y2)]) w := fun w => by kernel_rfl
theorem BD_31_1_2 (y1 : ByteArray) (y2 : Int) : ∀ w, (Instr.build 31 #[(1, (Value.string y1)), (2, (Value.int .i64 y2))]).run Try.prog w = .ok (Value.agg #[(Value.int .i64 0), (Value.string y1), (Value.int .i64 y2)]) w := fun w => by kernel_rfl
theorem BD_31_2 (y2 : Int) : ∀ w, (Instr.build 31 #[(2, (Value.int .i64 y2))]).run Try.prog w = .ok (Value.agg #[(Value.int .i64 0), (Value.string (ByteArray.mk #[])), (Value.int .i64 y2)]) w := fun w => by kernel_rfl
theorem BD_41_ : ∀ w, (Instr.build 41 #[]).run Try.prog w = .ok (Value.agg #[(Sl.v Sl.nil), (Sl.v Sl.nil), (Sl.v Sl.nil)]) w := fun w => by kernel_rfl
theorem BD_53_ : ∀ w, (Instr.build 53 #[]).run Try.prog w = .ok (Value.agg #[(Sl.v Sl.nil), (Sl.v Sl.nil)]) w := fun w => by kernel_rfl
theorem BD_53_0_1 (y0 : Sl) (y1 : Sl) : ∀ w, (Instr.build 53 #[(0, (Sl.v y0)), (1, (Sl.v y1))]).run Try.prog w = .ok (Value.agg #[(Sl.v y0), (Sl.v y1)]) w := fun w => by kernel_rfl
theorem BD_55_0_1 (y0 : Int) (y1 : ByteArray) : ∀ w, (Instr.build 55 #[(0, (Value.int .i64 y0)), (1, (Value.string y1))]).run Try.prog w = .ok (Value.agg #[(Value.int .i64 y0), (Value.string y1)]) w := fun w => by kernel_rfl
theorem BS_37_0_ : ∀ w, (Instr.buildSlice 37 0 #[]).run Try.prog w = .ok (.slice (some ⟨w.heap.size, 0, none⟩) 0 0) (w.alloc (.cells #[] 4)) := fun w => by kernel_rfl
theorem BS_37_1_0 (y0 : Bool) : ∀ w, (Instr.buildSlice 37 1 #[(0, (Value.bool y0))]).run Try.prog w = .ok (.slice (some ⟨w.heap.size, 0, none⟩) 1 1) (w.alloc (.cells #[(Value.bool y0)] 4)) := fun w => by kernel_rfl
theorem BS_38_1_0 (y0 : Int) : ∀ w, (Instr.buildSlice 38 1 #[(0, (Value.int .i64 y0))]).run Try.prog w = .ok (.slice (some ⟨w.heap.size, 0, none⟩) 1 1) (w.alloc (.cells #[(Value.int .i64 y0)] 3)) := fun w => by kernel_rfl
theorem BS_39_1_0 (y0 : ByteArray) : ∀ w, (Instr.buildSlice 39 1 #[(0, (Value.string y0))]).run Try.prog w = .ok (.slice (some ⟨w.heap.size, 0, none⟩) 1 1) (w.alloc (.cells #[(Value.string y0)] 9)) := fun w => by kernel_rfl
theorem BS_46_1_0 (y0 : Int) (y1 : ByteArray) (y2 : Int) : ∀ w, (Instr.buildSlice 46 1 #[(0, (Value.agg #[(Value.int .i64 y0), (Value.string y1), (Value.int .i64 y2)]))]).run Try.prog w = .ok (.slice (some ⟨w.heap.size, 0, none⟩) 1 1) (w.alloc (.cells #[(Value.int .i64 y0), (Value.string y1), (Value.int .i64 y2)] 31)) := fun w => by kernel_rfl
theorem BS_51_0_ : ∀ w, (Instr.buildSlice 51 0 #[]).run Try.prog w = .ok (.slice (some ⟨w.heap.size, 0, none⟩) 0 0) (w.alloc (.cells #[] 55)) := fun w => by kernel_rfl
theorem BS_51_1_0 (y0 : Int) (y1 : ByteArray) : ∀ w, (Instr.buildSlice 51 1 #[(0, (Value.agg #[(Value.int .i64 y0), (Value.string y1)]))]).run Try.prog w = .ok (.slice (some ⟨w.heap.size, 0, none⟩) 1 1) (w.alloc (.cells #[(Value.int .i64 y0), (Value.string y1)] 55)) := fun w => by kernel_rfl
theorem EQ1_31 : Try.prog.underlying 31 = some (.struct (Try.prog.fieldsOf 31)) := by kernel_rfl
theorem EQ2_31 : Try.prog.stoodInHeld 31 = false := by kernel_rfl
theorem EQ3_31 : Try.prog.eqGuardType Try.prog.depth 31 = false := by kernel_rfl
theorem EQ_31 (y0 : Int) (y1 : ByteArray) (y2 : Int) (z0 : Int) (z1 : ByteArray) (z2 : Int) : fieldsEq Try.prog #[(Value.int .i64 y0), (Value.string y1), (Value.int .i64 y2)] #[(Value.int .i64 z0), (Value.string z1), (Value.int .i64 z2)] (Try.prog.fieldsOf 31).toList = some (decide (y0 = z0) && (beqS y1 z1 && (decide (y2 = z2) && true))) := by kernel_rfl
theorem ES_22 : elemSize Try.prog 22 = some 4 := by kernel_rfl
theorem ES_37 : elemSize Try.prog 37 = some 1 := by kernel_rfl
theorem ES_38 : elemSize Try.prog 38 = some 1 := by kernel_rfl
theorem ES_39 : elemSize Try.prog 39 = some 1 := by kernel_rfl
theorem ES_46 : elemSize Try.prog 46 = some 3 := by kernel_rfl
theorem ES_51 : elemSize Try.prog 51 = some 2 := by kernel_rfl
theorem FA_31_0 : fieldOff Try.prog 31 0 = some 0 := by kernel_rfl
theorem FA_31_2 : fieldOff Try.prog 31 2 = some 2 := by kernel_rfl
theorem FA_34_0 : fieldOff Try.prog 34 0 = some 0 := by kernel_rfl
theorem FA_34_1 : fieldOff Try.prog 34 1 = some 1 := by kernel_rfl
theorem FA_34_2 : fieldOff Try.prog 34 2 = some 2 := by kernel_rfl
theorem FA_34_3 : fieldOff Try.prog 34 3 = some 3 := by kernel_rfl
theorem FA_41_0 : fieldOff Try.prog 41 0 = some 0 := by kernel_rfl
theorem FA_41_1 : fieldOff Try.prog 41 1 = some 1 := by kernel_rfl
theorem FA_41_2 : fieldOff Try.prog 41 2 = some 2 := by kernel_rfl
theorem FA_53_0 : fieldOff Try.prog 53 0 = some 0 := by kernel_rfl
theorem FA_53_1 : fieldOff Try.prog 53 1 = some 1 := by kernel_rfl
theorem FA_55_0 : fieldOff Try.prog 55 0 = some 0 := by kernel_rfl
theorem FA_55_1 : fieldOff Try.prog 55 1 = some 1 := by kernel_rfl
theorem NB_10 : Try.f10.body.isNone = false := by kernel_rfl
theorem NN_10 : (Try.f10.name == "runtime.NumGoroutine") = false := by kernel_rfl
theorem NB_11 : Try.f11.body.isNone = false := by kernel_rfl
theorem NN_11 : (Try.f11.name == "runtime.NumGoroutine") = false := by kernel_rfl
theorem NB_12 : Try.f12.body.isNone = false := by kernel_rfl
theorem NN_12 : (Try.f12.name == "runtime.NumGoroutine") = false := by kernel_rfl
theorem NB_13 : Try.f13.body.isNone = false := by kernel_rfl
theorem NN_13 : (Try.f13.name == "runtime.NumGoroutine") = false := by kernel_rfl
theorem NB_14 : Try.f14.body.isNone = false := by kernel_rfl
theorem NN_14 : (Try.f14.name == "runtime.NumGoroutine") = false := by kernel_rfl
theorem NB_15 : Try.f15.body.isNone = false := by kernel_rfl
theorem NN_15 : (Try.f15.name == "runtime.NumGoroutine") = false := by kernel_rfl
theorem NB_16 : Try.f16.body.isNone = false := by kernel_rfl
theorem NN_16 : (Try.f16.name == "runtime.NumGoroutine") = false := by kernel_rfl
theorem NB_17 : Try.f17.body.isNone = false := by kernel_rfl
theorem NN_17 : (Try.f17.name == "runtime.NumGoroutine") = false := by kernel_rfl
theorem NB_18 : Try.f18.body.isNone = false := by kernel_rfl
theorem NN_18 : (Try.f18.name == "runtime.NumGoroutine") = false := by kernel_rfl
theorem NB_19 : Try.f19.body.isNone = false := by kernel_rfl
theorem NN_19 : (Try.f19.name == "runtime.NumGoroutine") = false := by kernel_rfl
theorem NB_20 : Try.f20.body.isNone = false := by kernel_rfl
theorem NN_20 : (Try.f20.name == "runtime.NumGoroutine") = false := by kernel_rfl
theorem NB_21 : Try.f21.body.isNone = false := by kernel_rfl
theorem NN_21 : (Try.f21.name == "runtime.NumGoroutine") = false := by kernel_rfl
theorem NB_22 : Try.f22.body.isNone = false := by kernel_rfl
theorem NN_22 : (Try.f22.name == "runtime.NumGoroutine") = false := by kernel_rfl
theorem NB_23 : Try.f23.body.isNone = false := by kernel_rfl
theorem NN_23 : (Try.f23.name == "runtime.NumGoroutine") = false := by kernel_rfl
theorem NB_24 : Try.f24.body.isNone = false := by kernel_rfl
theorem NN_24 : (Try.f24.name == "runtime.NumGoroutine") = false := by kernel_rfl
theorem NB_25 : Try.f25.body.isNone = false := by kernel_rfl
theorem NN_25 : (Try.f25.name == "runtime.NumGoroutine") = false := by kernel_rfl
theorem NB_26 : Try.f26.body.isNone = false := by kernel_rfl
theorem NN_26 : (Try.f26.name == "runtime.NumGoroutine") = false := by kernel_rfl
theorem NB_27 : Try.f27.body.isNone = false := by kernel_rfl
theorem NN_27 : (Try.f27.name == "runtime.NumGoroutine") = false := by kernel_rfl
theorem NB_7 : Try.f7.body.isNone = false := by kernel_rfl
theorem NN_7 : (Try.f7.name == "runtime.NumGoroutine") = false := by kernel_rfl
theorem NB_8 : Try.f8.body.isNone = false := by kernel_rfl
theorem NN_8 : (Try.f8.name == "runtime.NumGoroutine") = false := by kernel_rfl
theorem NB_9 : Try.f9.body.isNone = false := by kernel_rfl
theorem NN_9 : (Try.f9.name == "runtime.NumGoroutine") = false := by kernel_rfl
theorem SH_29 : shapeT Try.prog 29 = some 0 := by kernel_rfl
theorem SH_3 : shapeT Try.prog 3 = some 0 := by kernel_rfl
theorem SH_31 : shapeT Try.prog 31 = some 4 := by kernel_rfl
theorem SH_34 : shapeT Try.prog 34 = some 5 := by kernel_rfl
theorem SH_37 : shapeT Try.prog 37 = some 0 := by kernel_rfl
theorem SH_38 : shapeT Try.prog 38 = some 0 := by kernel_rfl
theorem SH_39 : shapeT Try.prog 39 = some 0 := by kernel_rfl
theorem SH_4 : shapeT Try.prog 4 = some 0 := by kernel_rfl
theorem SH_51 : shapeT Try.prog 51 = some 0 := by kernel_rfl
theorem SH_55 : shapeT Try.prog 55 = some 3 := by kernel_rfl
theorem SH_9 : shapeT Try.prog 9 = some 0 := by kernel_rfl
theorem SZ_31 : sizeT Try.prog 31 = some 3 := by kernel_rfl
theorem SZ_34 : sizeT Try.prog 34 = some 4 := by kernel_rfl
theorem SZ_37 : sizeT Try.prog 37 = some 1 := by kernel_rfl
theorem SZ_38 : sizeT Try.prog 38 = some 1 := by kernel_rfl
theorem SZ_39 : sizeT Try.prog 39 = some 1 := by kernel_rfl
theorem SZ_4 : sizeT Try.prog 4 = some 1 := by kernel_rfl
theorem SZ_51 : sizeT Try.prog 51 = some 1 := by kernel_rfl
theorem SZ_55 : sizeT Try.prog 55 = some 2 := by kernel_rfl
theorem SZ_9 : sizeT Try.prog 9 = some 1 := by kernel_rfl
theorem ZV_31 : (Try.prog.info? 31).bind (·.zero) = some (Value.agg #[(Value.int .i64 0), (Value.string (ByteArray.mk #[])), (Value.int .i64 0)]) := by kernel_rfl
theorem ZV_34 : (Try.prog.info? 34).bind (·.zero) = some (Value.agg #[(Value.int .i64 0), (Value.int .i64 0), (Value.int .i64 0), (Value.string (ByteArray.mk #[]))]) := by kernel_rfl
theorem ZV_55 : (Try.prog.info? 55).bind (·.zero) = some (Value.agg #[(Value.int .i64 0), (Value.string (ByteArray.mk #[]))]) := by kernel_rfl
theorem isPtrT_25 : isPtrT Try.prog 25 = true := by kernel_rfl
theorem isSliceT_22 : isSliceT Try.prog 22 = true := by kernel_rfl
theorem isSliceT_37 : isSliceT Try.prog 37 = true := by kernel_rfl
theorem isSliceT_38 : isSliceT Try.prog 38 = true := by kernel_rfl
theorem isSliceT_39 : isSliceT Try.prog 39 = true := by kernel_rfl
theorem isSliceT_51 : isSliceT Try.prog 51 = true := by kernel_rfl
theorem isStrT_9 : isStrT Try.prog 9 = true := by kernel_rfl

/-- (*vault.Vault).has -/
def F26 (p0 : Option Addr) (p1 : Int) (w0 : World) (K : Bool → World → Prop) : Prop :=
  jp (fun J1 => cnd (decide (0 ≤ p1))
    (
    nn p0 fun a3 =>
    ld Sl.v (a3.add 0) w0 fun x4 =>
    J1 (decide (p1 < (x4.len : Int)))
    )
    (
    J1 false
    ))
  fun c5 =>
  K c5 w0
set_option maxRecDepth 100000 in
theorem D26 (p0 : Option Addr) (p1 : Int) (w0 : World) (K : Bool → World → Prop) (h : F26 p0 p1 w0 K) : callC Try.prog 26 #[(Value.pointer p0), (Value.int .i64 p1)] (fun (r : Bool) => (Value.bool r)) w0 K := by
  unfold F26 at h
  refine calls_of_wpC Try.func26 rfl 16 rfl (by simp) ?_
  intro ρ hρ
  have e0 : ρ 0 = (Value.pointer p0) := hρ 0
  have e1 : ρ 1 = (Value.int .i64 p1) := hρ 1
  clear hρ
  refine wpC_seq ?_
  refine wpC_region ?_
  refine wpR_val (v := (Value.bool false)) (w' := w0) rfl rfl rfl (x_assign (v := (Value.bool false)) rfl rfl) ?_
  refine wpR_nil ?_
  refine wpC_seq ?_
  refine wpC_cut (fun ρ => ρ 0 = (Value.pointer p0) ∧ ρ 1 = (Value.int .i64 p1) ∧ True) ⟨e0, e1, trivial⟩ ?_
  rintro ρ ⟨e0, e1, -⟩
  refine wpC_region ?_
  refine wpR_val (v := (Value.int .i64 p1)) (w' := w0) rfl rfl rfl (x_move (v := (Value.int .i64 p1)) rfl e1) ?_
  refine wpR_val (v := (Value.bool (decide (0 ≤ p1)))) (w' := w0) rfl rfl rfl (x_leq rfl rfl rfl) ?_
  refine wpR_val (v := (Value.bool (decide (0 ≤ p1)))) (w' := w0) rfl rfl rfl (x_move (v := (Value.bool (decide (0 ≤ p1)))) rfl rfl) ?_
  obtain ⟨J1, h, hk⟩ := h
  refine wpR_joinJ 8 (fun x ρ => ρ 15 = Value.bool x ∧ True) (fun x w => J1 x ∧ w0 = w) ?_ ?_
  · clear hk
    rcases Bool.eq_false_or_eq_true (decide (0 ≤ p1)) with hc2 | hc2
    · replace h := h.1 hc2
      refine wpR_val (v := (Value.int .i64 p1)) (w' := w0) (wantG rfl rfl rfl hc2) rfl rfl (x_move (v := (Value.int .i64 p1)) rfl e1) ?_
      refine wpR_val (v := (Value.pointer p0)) (w' := w0) (wantG rfl rfl rfl hc2) rfl rfl (x_move (v := (Value.pointer p0)) rfl e0) ?_
      obtain ⟨a3, q3, h⟩ := h
      refine wpR_val (v := (Value.pointer (some a3))) (w' := w0) (wantG rfl rfl rfl hc2) rfl rfl (x_nilCheck rfl rfl q3) ?_
      refine wpR_val (v := (Value.pointer (some (a3.add 0)))) (w' := w0) (wantG rfl rfl rfl hc2) rfl rfl (x_fieldAddr rfl rfl FA_53_0) ?_
      obtain ⟨x4, q4, h⟩ := h
      refine wpR_val (v := (Sl.v x4)) (w' := w0) (wantG rfl rfl rfl hc2) rfl rfl (x_load1 rfl rfl SH_37 q4) ?_
      refine wpR_val (v := (Value.int .i64 (x4.len : Int))) (w' := w0) (wantG rfl rfl rfl hc2) rfl rfl (x_lenS (s := x4) rfl rfl isSliceT_37) ?_
      refine wpR_val (v := (Value.bool (decide (p1 < (x4.len : Int))))) (w' := w0) (wantG rfl rfl rfl hc2) rfl rfl (x_lss rfl rfl rfl) ?_
      refine wpR_val (v := (Value.bool (decide (p1 < (x4.len : Int))))) (w' := w0) rfl rfl rfl (x_pickT (v := (Value.bool (decide (p1 < (x4.len : Int))))) rfl rfl hc2 rfl) ?_
      refine wpR_nil ?_
      exact ⟨decide (p1 < (x4.len : Int)), ⟨rfl, trivial⟩, h, rfl⟩
    · replace h := h.2 hc2
      refine wpR_pass (wantN rfl rfl rfl hc2) rfl rfl ?_
      refine wpR_pass (wantN rfl rfl rfl hc2) rfl rfl ?_
      refine wpR_pass (wantN rfl rfl rfl hc2) rfl rfl ?_
      refine wpR_pass (wantN rfl rfl rfl hc2) rfl rfl ?_
      refine wpR_pass (wantN rfl rfl rfl hc2) rfl rfl ?_
      refine wpR_pass (wantN rfl rfl rfl hc2) rfl rfl ?_
      refine wpR_pass (wantN rfl rfl rfl hc2) rfl rfl ?_
      refine wpR_val (v := (Value.bool false)) (w' := w0) rfl rfl rfl (x_pickF (v := (Value.bool false)) rfl rfl hc2 rfl) ?_
      refine wpR_nil ?_
      exact ⟨false, ⟨rfl, trivial⟩, h, rfl⟩
  clear h
  rintro c5 ρ wj ⟨e15, -⟩ ⟨h, rfl⟩
  replace h := hk c5 h
  clear hk
  refine wpR_val (v := (Value.bool c5)) (w' := w0) rfl rfl rfl (x_assign (v := (Value.bool c5)) rfl e15) ?_
  refine wpR_nil ?_
  refine wpC_ret ?_
  exact ⟨.inl rfl, fun a ha => ⟨_, results_rep1 rfl ha rfl, c5, rfl, h⟩⟩

/-- vault.New -/
def F9  (w0 : World) (K : (Option Addr) → World → Prop) : Prop :=
  nw 53 #[(Sl.v Sl.nil), (Sl.v Sl.nil)] w0 fun b1 w1 =>
  K (some (Addr.mk b1 0 none)) w1
set_option maxRecDepth 100000 in
theorem D9  (w0 : World) (K : (Option Addr) → World → Prop) (h : F9  w0 K) : callC Try.prog 9 #[] (fun (r : (Option Addr)) => (Value.pointer r)) w0 K := by
  unfold F9 at h
  refine calls_of_wpC Try.func9 rfl 3 rfl (by simp) ?_
  intro ρ hρ
  clear hρ
  refine wpC_seq ?_
  refine wpC_region ?_
  refine wpR_val (v := (Value.pointer none)) (w' := w0) rfl rfl rfl (x_assign (v := (Value.pointer none)) rfl rfl) ?_
  refine wpR_nil ?_
  refine wpC_seq ?_
  refine wpC_cut (fun ρ => True) trivial ?_
  rintro ρ -
  refine wpC_region ?_
  refine wpR_val (v := (Value.agg #[(Sl.v Sl.nil), (Sl.v Sl.nil)])) (w' := w0) rfl rfl rfl (x_build (qs := []) rfl (by rfl) (BD_53_  _)) ?_
  obtain ⟨b1, hb1⟩ : ∃ u, u = w0.heap.size := ⟨_, rfl⟩
  obtain ⟨w1, hw1⟩ : ∃ u, u = w0.alloc (.cells #[(Sl.v Sl.nil), (Sl.v Sl.nil)] 53) := ⟨_, rfl⟩
  replace h := h b1 w1 hb1 hw1
  refine wpR_val (v := (Value.pointer (some (Addr.mk b1 0 none)))) (w' := w1) rfl rfl rfl ((x_box (v := (Value.agg #[(Sl.v Sl.nil), (Sl.v Sl.nil)])) rfl rfl).trans (by rw [hb1, hw1]; rfl)) ?_
  refine wpR_val (v := (Value.pointer (some (Addr.mk b1 0 none)))) (w' := w1) rfl rfl rfl (x_assign (v := (Value.pointer (some (Addr.mk b1 0 none)))) rfl rfl) ?_
  refine wpR_nil ?_
  refine wpC_ret ?_
  exact ⟨.inl rfl, fun a ha => ⟨_, results_rep1 rfl ha rfl, some (Addr.mk b1 0 none), rfl, h⟩⟩

/-- (*vault.Vault).Keys -/
def F13 (p0 : Option Addr) (w0 : World) (K : Int → World → Prop) : Prop :=
  nn p0 fun a1 =>
  ld Sl.v (a1.add 0) w0 fun x2 =>
  K (x2.len : Int) w0
set_option maxRecDepth 100000 in
theorem D13 (p0 : Option Addr) (w0 : World) (K : Int → World → Prop) (h : F13 p0 w0 K) : callC Try.prog 13 #[(Value.pointer p0)] (fun (r : Int) => (Value.int .i64 r)) w0 K := by
  unfold F13 at h
  refine calls_of_wpC Try.func13 rfl 8 rfl (by simp) ?_
  intro ρ hρ
  have e0 : ρ 0 = (Value.pointer p0) := hρ 0
  clear hρ
  refine wpC_seq ?_
  refine wpC_region ?_
  refine wpR_val (v := (Value.int .i64 0)) (w' := w0) rfl rfl rfl (x_assign (v := (Value.int .i64 0)) rfl rfl) ?_
  refine wpR_nil ?_
  refine wpC_seq ?_
  refine wpC_cut (fun ρ => ρ 0 = (Value.pointer p0) ∧ True) ⟨e0, trivial⟩ ?_
  rintro ρ ⟨e0, -⟩
  refine wpC_region ?_
  refine wpR_val (v := (Value.pointer p0)) (w' := w0) rfl rfl rfl (x_move (v := (Value.pointer p0)) rfl e0) ?_
  obtain ⟨a1, q1, h⟩ := h
  refine wpR_val (v := (Value.pointer (some a1))) (w' := w0) rfl rfl rfl (x_nilCheck rfl rfl q1) ?_
  refine wpR_val (v := (Value.pointer (some (a1.add 0)))) (w' := w0) rfl rfl rfl (x_fieldAddr rfl rfl FA_53_0) ?_
  obtain ⟨x2, q2, h⟩ := h
  refine wpR_val (v := (Sl.v x2)) (w' := w0) rfl rfl rfl (x_load1 rfl rfl SH_37 q2) ?_
  refine wpR_val (v := (Value.int .i64 (x2.len : Int))) (w' := w0) rfl rfl rfl (x_lenS (s := x2) rfl rfl isSliceT_37) ?_
  refine wpR_val (v := (Value.int .i64 (x2.len : Int))) (w' := w0) rfl rfl rfl (x_assign (v := (Value.int .i64 (x2.len : Int))) rfl rfl) ?_
  refine wpR_nil ?_
  refine wpC_ret ?_
  exact ⟨.inl rfl, fun a ha => ⟨_, results_rep1 rfl ha rfl, (x2.len : Int), rfl, h⟩⟩

/-- (*vault.Vault).Boxes -/
def F14 (p0 : Option Addr) (w0 : World) (K : Int → World → Prop) : Prop :=
  nn p0 fun a1 =>
  ld Sl.v (a1.add 1) w0 fun x2 =>
  K (x2.len : Int) w0
set_option maxRecDepth 100000 in
theorem D14 (p0 : Option Addr) (w0 : World) (K : Int → World → Prop) (h : F14 p0 w0 K) : callC Try.prog 14 #[(Value.pointer p0)] (fun (r : Int) => (Value.int .i64 r)) w0 K := by
  unfold F14 at h
  refine calls_of_wpC Try.func14 rfl 8 rfl (by simp) ?_
  intro ρ hρ
  have e0 : ρ 0 = (Value.pointer p0) := hρ 0
  clear hρ
  refine wpC_seq ?_
  refine wpC_region ?_
  refine wpR_val (v := (Value.int .i64 0)) (w' := w0) rfl rfl rfl (x_assign (v := (Value.int .i64 0)) rfl rfl) ?_
  refine wpR_nil ?_
  refine wpC_seq ?_
  refine wpC_cut (fun ρ => ρ 0 = (Value.pointer p0) ∧ True) ⟨e0, trivial⟩ ?_
  rintro ρ ⟨e0, -⟩
  refine wpC_region ?_
  refine wpR_val (v := (Value.pointer p0)) (w' := w0) rfl rfl rfl (x_move (v := (Value.pointer p0)) rfl e0) ?_
  obtain ⟨a1, q1, h⟩ := h
  refine wpR_val (v := (Value.pointer (some a1))) (w' := w0) rfl rfl rfl (x_nilCheck rfl rfl q1) ?_
  refine wpR_val (v := (Value.pointer (some (a1.add 1)))) (w' := w0) rfl rfl rfl (x_fieldAddr rfl rfl FA_53_1) ?_
  obtain ⟨x2, q2, h⟩ := h
  refine wpR_val (v := (Sl.v x2)) (w' := w0) rfl rfl rfl (x_load1 rfl rfl SH_51 q2) ?_
  refine wpR_val (v := (Value.int .i64 (x2.len : Int))) (w' := w0) rfl rfl rfl (x_lenS (s := x2) rfl rfl isSliceT_51) ?_
  refine wpR_val (v := (Value.int .i64 (x2.len : Int))) (w' := w0) rfl rfl rfl (x_assign (v := (Value.int .i64 (x2.len : Int))) rfl rfl) ?_
  refine wpR_nil ?_
  refine wpC_ret ?_
  exact ⟨.inl rfl, fun a ha => ⟨_, results_rep1 rfl ha rfl, (x2.len : Int), rfl, h⟩⟩

/-- (*vault.Vault).Key -/
def F17 (p0 : Option Addr) (w0 : World) (K : Int → World → Prop) : Prop :=
  nn p0 fun a1 =>
  ld Sl.v (a1.add 0) w0 fun x2 =>
  nw 4 #[(Value.bool true)] w0 fun b3 w1 =>
  rn Try.prog (Builtin.append_ #[37, 37] 37 #[Sl.v x2, Sl.v (⟨some ⟨b3, 0, none⟩, 1, 1⟩ : Sl)]) Sl.v w1 fun r4 w2 =>
  nn p0 fun a5 =>
  st (a5.add 0) [(Sl.v r4)] w2 fun w3 =>
  nn p0 fun a7 =>
  ld Sl.v (a7.add 0) w3 fun x8 =>
  K (IntKind.i64.wrap ((x8.len : Int) - 1)) w3
set_option maxRecDepth 100000 in
theorem D17 (p0 : Option Addr) (w0 : World) (K : Int → World → Prop) (h : F17 p0 w0 K) : callC Try.prog 17 #[(Value.pointer p0)] (fun (r : Int) => (Value.int .i64 r)) w0 K := by
  unfold F17 at h
  refine calls_of_wpC Try.func17 rfl 18 rfl (by simp) ?_
  intro ρ hρ
  have e0 : ρ 0 = (Value.pointer p0) := hρ 0
  clear hρ
  refine wpC_seq ?_
  refine wpC_region ?_
  refine wpR_val (v := (Value.int .i64 0)) (w' := w0) rfl rfl rfl (x_assign (v := (Value.int .i64 0)) rfl rfl) ?_
  refine wpR_nil ?_
  refine wpC_seq ?_
  refine wpC_cut (fun ρ => ρ 0 = (Value.pointer p0) ∧ True) ⟨e0, trivial⟩ ?_
  rintro ρ ⟨e0, -⟩
  refine wpC_region ?_
  refine wpR_val (v := (Value.pointer p0)) (w' := w0) rfl rfl rfl (x_move (v := (Value.pointer p0)) rfl e0) ?_
  refine wpR_val (v := (Value.pointer p0)) (w' := w0) rfl rfl rfl (x_move (v := (Value.pointer p0)) rfl e0) ?_
  obtain ⟨a1, q1, h⟩ := h
  refine wpR_val (v := (Value.pointer (some a1))) (w' := w0) rfl rfl rfl (x_nilCheck rfl rfl q1) ?_
  refine wpR_val (v := (Value.pointer (some (a1.add 0)))) (w' := w0) rfl rfl rfl (x_fieldAddr rfl rfl FA_53_0) ?_
  obtain ⟨x2, q2, h⟩ := h
  refine wpR_val (v := (Sl.v x2)) (w' := w0) rfl rfl rfl (x_load1 rfl rfl SH_37 q2) ?_
  obtain ⟨b3, hb3⟩ : ∃ u, u = w0.heap.size := ⟨_, rfl⟩
  obtain ⟨w1, hw3⟩ : ∃ u, u = w0.alloc (.cells #[(Value.bool true)] 4) := ⟨_, rfl⟩
  replace h := h b3 w1 hb3 hw3
  refine wpR_val (v := (Sl.v (⟨some ⟨b3, 0, none⟩, 1, 1⟩ : Sl))) (w' := w1) rfl rfl rfl ((x_buildSlice (qs := [(0, (Value.bool true))]) rfl (by rfl) (BS_37_1_0 true)).trans (by rw [← hb3, ← hw3])) ?_
  obtain ⟨r4, w2, q4, h⟩ := h
  refine wpR_val (v := (Sl.v r4)) (w' := w2) rfl rfl rfl (x_append (s := x2) (u := (⟨some ⟨b3, 0, none⟩, 1, 1⟩ : Sl)) rfl rfl rfl rfl q4) ?_
  obtain ⟨a5, q5, h⟩ := h
  refine wpR_val (v := (Value.pointer (some a5))) (w' := w2) rfl rfl rfl (x_nilCheck rfl rfl q5) ?_
  refine wpR_val (v := (Value.pointer (some (a5.add 0)))) (w' := w2) rfl rfl rfl (x_fieldAddr rfl rfl FA_53_0) ?_
  obtain ⟨q6, h⟩ := h
  obtain ⟨w3, hw6⟩ : ∃ u, u = setAll w2 (a5.add 0) [(Sl.v r4)] 0 := ⟨_, rfl⟩
  replace h := h w3 hw6
  refine wpR_skp (w' := w3) rfl rfl ((x_store (v := (Sl.v r4)) rfl rfl rfl SZ_37 (ones (by rfl)) q6).trans (by rw [hw6]; rfl)) ?_
  refine wpR_nil ?_
  refine wpC_seq ?_
  refine wpC_cut (fun ρ => ρ 0 = (Value.pointer p0) ∧ True) ⟨e0, trivial⟩ ?_
  rintro ρ ⟨e0, -⟩
  refine wpC_region ?_
  refine wpR_val (v := (Value.pointer p0)) (w' := w3) rfl rfl rfl (x_move (v := (Value.pointer p0)) rfl e0) ?_
  obtain ⟨a7, q7, h⟩ := h
  refine wpR_val (v := (Value.pointer (some a7))) (w' := w3) rfl rfl rfl (x_nilCheck rfl rfl q7) ?_
  refine wpR_val (v := (Value.pointer (some (a7.add 0)))) (w' := w3) rfl rfl rfl (x_fieldAddr rfl rfl FA_53_0) ?_
  obtain ⟨x8, q8, h⟩ := h
  refine wpR_val (v := (Sl.v x8)) (w' := w3) rfl rfl rfl (x_load1 rfl rfl SH_37 q8) ?_
  refine wpR_val (v := (Value.int .i64 (x8.len : Int))) (w' := w3) rfl rfl rfl (x_lenS (s := x8) rfl rfl isSliceT_37) ?_
  refine wpR_val (v := (Value.int .i64 (IntKind.i64.wrap ((x8.len : Int) - 1)))) (w' := w3) rfl rfl rfl (x_sub rfl rfl rfl) ?_
  refine wpR_val (v := (Value.int .i64 (IntKind.i64.wrap ((x8.len : Int) - 1)))) (w' := w3) rfl rfl rfl (x_assign (v := (Value.int .i64 (IntKind.i64.wrap ((x8.len : Int) - 1)))) rfl rfl) ?_
  refine wpR_nil ?_
  refine wpC_ret ?_
  exact ⟨.inl rfl, fun a ha => ⟨_, results_rep1 rfl ha rfl, IntKind.i64.wrap ((x8.len : Int) - 1), rfl, h⟩⟩

/-- (*vault.Vault).Lock -/
def F18 (p0 : Option Addr) (p1 : Int) (p2 : ByteArray) (w0 : World) (K : (Int × Int) → World → Prop) : Prop :=
  callC Try.prog 26 #[(Value.pointer p0), (Value.int .i64 p1)] (fun (r : Bool) => (Value.bool r)) w0 fun r1 w1 =>
  cnd (!r1)
    (
    K (0, 4) w1
    )
    (
    nn p0 fun a3 =>
    ld Sl.v (a3.add 0) w1 fun x4 =>
    ix x4 p1 1 fun p5 =>
    ld Value.bool p5 w1 fun x6 =>
    cnd (!x6)
      (
      K (0, 13) w1
      )
      (
      nn p0 fun a8 =>
      ld Sl.v (a8.add 1) w1 fun x9 =>
      nw 55 #[(Value.int .i64 p1), (Value.string p2)] w1 fun b10 w2 =>
      rn Try.prog (Builtin.append_ #[51, 51] 51 #[Sl.v x9, Sl.v (⟨some ⟨b10, 0, none⟩, 1, 1⟩ : Sl)]) Sl.v w2 fun r11 w3 =>
      nn p0 fun a12 =>
      st (a12.add 1) [(Sl.v r11)] w3 fun w4 =>
      nn p0 fun a14 =>
      ld Sl.v (a14.add 1) w4 fun x15 =>
      K (IntKind.i64.wrap ((x15.len : Int) - 1), 0) w4
      )
    )
set_option maxRecDepth 100000 in
theorem D18 (p0 : Option Addr) (p1 : Int) (p2 : ByteArray) (w0 : World) (K : (Int × Int) → World → Prop) (h : F18 p0 p1 p2 w0 K) : callC Try.prog 18 #[(Value.pointer p0), (Value.int .i64 p1), (Value.string p2)] (fun (r : Int × Int) => (Value.tuple #[(Value.int .i64 r.1), (Value.int .i64 r.2)])) w0 K := by
  unfold F18 at h
  refine calls_of_wpC Try.func18 rfl 40 rfl (by simp) ?_
  intro ρ hρ
  have e0 : ρ 0 = (Value.pointer p0) := hρ 0
  have e1 : ρ 1 = (Value.int .i64 p1) := hρ 1
  have e2 : ρ 2 = (Value.string p2) := hρ 2
  clear hρ
  refine wpC_seq ?_
  refine wpC_region ?_
  refine wpR_val (v := (Value.int .i64 0)) (w' := w0) rfl rfl rfl (x_assign (v := (Value.int .i64 0)) rfl rfl) ?_
  refine wpR_val (v := (Value.int .i64 0)) (w' := w0) rfl rfl rfl (x_assign (v := (Value.int .i64 0)) rfl rfl) ?_
  refine wpR_nil ?_
  refine wpC_seq ?_
  refine wpC_block ?_
  refine wpC_seq ?_
  refine wpC_cut (fun ρ => ρ 0 = (Value.pointer p0) ∧ ρ 1 = (Value.int .i64 p1) ∧ ρ 2 = (Value.string p2) ∧ True) ⟨e0, e1, e2, trivial⟩ ?_
  rintro ρ ⟨e0, e1, e2, -⟩
  refine wpC_region ?_
  refine wpR_val (v := (Value.pointer p0)) (w' := w0) rfl rfl rfl (x_move (v := (Value.pointer p0)) rfl e0) ?_
  refine wpR_val (v := (Value.int .i64 p1)) (w' := w0) rfl rfl rfl (x_move (v := (Value.int .i64 p1)) rfl e1) ?_
  refine wpR_enter rfl rfl rfl (x_call (vs := [(Value.pointer p0), (Value.int .i64 p1)]) rfl rfl (by rfl) Try.func26 NN_26 NB_26) (Calls.mono h ?_)
  rintro _ w1 ⟨r1, rfl, h⟩
  refine ⟨_, rfl, ?_⟩
  refine wpR_val (v := (Value.bool (!r1))) (w' := w1) rfl rfl rfl (x_not rfl rfl) ?_
  refine wpR_val (v := (Value.bool (!r1))) (w' := w1) rfl rfl rfl (x_assign (v := (Value.bool (!r1))) rfl rfl) ?_
  refine wpR_nil ?_
  refine wpC_cond (b := !r1) rfl (fun hc2 => ?_) (fun hc2 => ?_)
  · replace h := h.1 hc2
    refine wpC_seq ?_
    refine wpC_cut (fun ρ => True) trivial ?_
    rintro ρ -
    refine wpC_region ?_
    refine wpR_val (v := (Value.int .i64 0)) (w' := w1) rfl rfl rfl (x_assign (v := (Value.int .i64 0)) rfl rfl) ?_
    refine wpR_val (v := (Value.int .i64 4)) (w' := w1) rfl rfl rfl (x_assign (v := (Value.int .i64 4)) rfl rfl) ?_
    refine wpR_nil ?_
    refine wpC_ret ?_
    exact ⟨.inl rfl, fun a ha => ⟨_, results_rep2 rfl ha rfl rfl, (0, 4), rfl, h⟩⟩
  · replace h := h.2 hc2
    refine wpC_seq ?_
    refine wpC_cut (fun ρ => ρ 0 = (Value.pointer p0) ∧ ρ 1 = (Value.int .i64 p1) ∧ ρ 2 = (Value.string p2) ∧ True) ⟨e0, e1, e2, trivial⟩ ?_
    rintro ρ ⟨e0, e1, e2, -⟩
    refine wpC_region ?_
    refine wpR_val (v := (Value.pointer p0)) (w' := w1) rfl rfl rfl (x_move (v := (Value.pointer p0)) rfl e0) ?_
    obtain ⟨a3, q3, h⟩ := h
    refine wpR_val (v := (Value.pointer (some a3))) (w' := w1) rfl rfl rfl (x_nilCheck rfl rfl q3) ?_
    refine wpR_val (v := (Value.pointer (some (a3.add 0)))) (w' := w1) rfl rfl rfl (x_fieldAddr rfl rfl FA_53_0) ?_
    obtain ⟨x4, q4, h⟩ := h
    refine wpR_val (v := (Sl.v x4)) (w' := w1) rfl rfl rfl (x_load1 rfl rfl SH_37 q4) ?_
    refine wpR_val (v := (Value.int .i64 p1)) (w' := w1) rfl rfl rfl (x_move (v := (Value.int .i64 p1)) rfl e1) ?_
    obtain ⟨q5, z5, r5, h⟩ := h
    generalize hp5 : z5.add ((p1).toNat * 1) = p5 at h
    refine wpR_val (v := (Value.pointer (some p5))) (w' := w1) rfl rfl rfl ((x_indexAddr (s := x4) rfl rfl rfl ES_37 q5 r5).trans (by rw [hp5])) ?_
    obtain ⟨x6, q6, h⟩ := h
    refine wpR_val (v := (Value.bool x6)) (w' := w1) rfl rfl rfl (x_load1 rfl rfl SH_4 q6) ?_
    refine wpR_val (v := (Value.bool (!x6))) (w' := w1) rfl rfl rfl (x_not rfl rfl) ?_
    refine wpR_val (v := (Value.bool (!x6))) (w' := w1) rfl rfl rfl (x_assign (v := (Value.bool (!x6))) rfl rfl) ?_
    refine wpR_nil ?_
    refine wpC_cond (b := !x6) rfl (fun hc7 => ?_) (fun hc7 => ?_)
    · replace h := h.1 hc7
      refine wpC_seq ?_
      refine wpC_cut (fun ρ => True) trivial ?_
      rintro ρ -
      refine wpC_region ?_
      refine wpR_val (v := (Value.int .i64 0)) (w' := w1) rfl rfl rfl (x_assign (v := (Value.int .i64 0)) rfl rfl) ?_
      refine wpR_val (v := (Value.int .i64 13)) (w' := w1) rfl rfl rfl (x_assign (v := (Value.int .i64 13)) rfl rfl) ?_
      refine wpR_nil ?_
      refine wpC_ret ?_
      exact ⟨.inl rfl, fun a ha => ⟨_, results_rep2 rfl ha rfl rfl, (0, 13), rfl, h⟩⟩
    · replace h := h.2 hc7
      refine wpC_skip ?_
      refine wpC_seq ?_
      refine wpC_cut (fun ρ => ρ 0 = (Value.pointer p0) ∧ ρ 1 = (Value.int .i64 p1) ∧ ρ 2 = (Value.string p2) ∧ True) ⟨e0, e1, e2, trivial⟩ ?_
      rintro ρ ⟨e0, e1, e2, -⟩
      refine wpC_region ?_
      refine wpR_val (v := (Value.pointer p0)) (w' := w1) rfl rfl rfl (x_move (v := (Value.pointer p0)) rfl e0) ?_
      refine wpR_val (v := (Value.pointer p0)) (w' := w1) rfl rfl rfl (x_move (v := (Value.pointer p0)) rfl e0) ?_
      obtain ⟨a8, q8, h⟩ := h
      refine wpR_val (v := (Value.pointer (some a8))) (w' := w1) rfl rfl rfl (x_nilCheck rfl rfl q8) ?_
      refine wpR_val (v := (Value.pointer (some (a8.add 1)))) (w' := w1) rfl rfl rfl (x_fieldAddr rfl rfl FA_53_1) ?_
      obtain ⟨x9, q9, h⟩ := h
      refine wpR_val (v := (Sl.v x9)) (w' := w1) rfl rfl rfl (x_load1 rfl rfl SH_51 q9) ?_
      refine wpR_val (v := (Value.int .i64 p1)) (w' := w1) rfl rfl rfl (x_move (v := (Value.int .i64 p1)) rfl e1) ?_
      refine wpR_val (v := (Value.string p2)) (w' := w1) rfl rfl rfl (x_move (v := (Value.string p2)) rfl e2) ?_
      refine wpR_val (v := (Value.agg #[(Value.int .i64 p1), (Value.string p2)])) (w' := w1) rfl rfl rfl (x_build (qs := [(0, (Value.int .i64 p1)), (1, (Value.string p2))]) rfl (by rfl) (BD_55_0_1 p1 p2 _)) ?_
      obtain ⟨b10, hb10⟩ : ∃ u, u = w1.heap.size := ⟨_, rfl⟩
      obtain ⟨w2, hw10⟩ : ∃ u, u = w1.alloc (.cells #[(Value.int .i64 p1), (Value.string p2)] 55) := ⟨_, rfl⟩
      replace h := h b10 w2 hb10 hw10
      refine wpR_val (v := (Sl.v (⟨some ⟨b10, 0, none⟩, 1, 1⟩ : Sl))) (w' := w2) rfl rfl rfl ((x_buildSlice (qs := [(0, (Value.agg #[(Value.int .i64 p1), (Value.string p2)]))]) rfl (by rfl) (BS_51_1_0 p1 p2)).trans (by rw [← hb10, ← hw10])) ?_
      obtain ⟨r11, w3, q11, h⟩ := h
      refine wpR_val (v := (Sl.v r11)) (w' := w3) rfl rfl rfl (x_append (s := x9) (u := (⟨some ⟨b10, 0, none⟩, 1, 1⟩ : Sl)) rfl rfl rfl rfl q11) ?_
      obtain ⟨a12, q12, h⟩ := h
      refine wpR_val (v := (Value.pointer (some a12))) (w' := w3) rfl rfl rfl (x_nilCheck rfl rfl q12) ?_
      refine wpR_val (v := (Value.pointer (some (a12.add 1)))) (w' := w3) rfl rfl rfl (x_fieldAddr rfl rfl FA_53_1) ?_
      obtain ⟨q13, h⟩ := h
      obtain ⟨w4, hw13⟩ : ∃ u, u = setAll w3 (a12.add 1) [(Sl.v r11)] 0 := ⟨_, rfl⟩
      replace h := h w4 hw13
      refine wpR_skp (w' := w4) rfl rfl ((x_store (v := (Sl.v r11)) rfl rfl rfl SZ_51 (ones (by rfl)) q13).trans (by rw [hw13]; rfl)) ?_
      refine wpR_nil ?_
      refine wpC_seq ?_
      refine wpC_cut (fun ρ => ρ 0 = (Value.pointer p0) ∧ True) ⟨e0, trivial⟩ ?_
      rintro ρ ⟨e0, -⟩
      refine wpC_region ?_
      refine wpR_val (v := (Value.pointer p0)) (w' := w4) rfl rfl rfl (x_move (v := (Value.pointer p0)) rfl e0) ?_
      obtain ⟨a14, q14, h⟩ := h
      refine wpR_val (v := (Value.pointer (some a14))) (w' := w4) rfl rfl rfl (x_nilCheck rfl rfl q14) ?_
      refine wpR_val (v := (Value.pointer (some (a14.add 1)))) (w' := w4) rfl rfl rfl (x_fieldAddr rfl rfl FA_53_1) ?_
      obtain ⟨x15, q15, h⟩ := h
      refine wpR_val (v := (Sl.v x15)) (w' := w4) rfl rfl rfl (x_load1 rfl rfl SH_51 q15) ?_
      refine wpR_val (v := (Value.int .i64 (x15.len : Int))) (w' := w4) rfl rfl rfl (x_lenS (s := x15) rfl rfl isSliceT_51) ?_
      refine wpR_val (v := (Value.int .i64 (IntKind.i64.wrap ((x15.len : Int) - 1)))) (w' := w4) rfl rfl rfl (x_sub rfl rfl rfl) ?_
      refine wpR_val (v := (Value.int .i64 (IntKind.i64.wrap ((x15.len : Int) - 1)))) (w' := w4) rfl rfl rfl (x_assign (v := (Value.int .i64 (IntKind.i64.wrap ((x15.len : Int) - 1)))) rfl rfl) ?_
      refine wpR_val (v := (Value.int .i64 0)) (w' := w4) rfl rfl rfl (x_assign (v := (Value.int .i64 0)) rfl rfl) ?_
      refine wpR_nil ?_
      refine wpC_ret ?_
      exact ⟨.inl rfl, fun a ha => ⟨_, results_rep2 rfl ha rfl rfl, (IntKind.i64.wrap ((x15.len : Int) - 1), 0), rfl, h⟩⟩

/-- (*vault.Vault).Open -/
def F15 (p0 : Option Addr) (p1 : Int) (p2 : Int) (w0 : World) (K : (ByteArray × Int) → World → Prop) : Prop :=
  jp (fun J1 => cnd (decide (p2 < 0))
    (
    J1 true
    )
    (
    nn p0 fun a3 =>
    ld Sl.v (a3.add 1) w0 fun x4 =>
    J1 (decide ((x4.len : Int) ≤ p2))
    ))
  fun c5 =>
  cnd (c5)
    (
    K (ByteArray.mk #[], 4) w0
    )
    (
    nn p0 fun a7 =>
    ld Sl.v (a7.add 1) w0 fun x8 =>
    ix x8 p2 2 fun p9 =>
    ld (Value.int .i64) (p9.add 0) w0 fun x10 =>
    ld Value.string (p9.add 1) w0 fun x11 =>
    nw 55 #[(Value.int .i64 0), (Value.string (ByteArray.mk #[]))] w0 fun b12 w1 =>
    st (Addr.mk b12 0 none) [(Value.int .i64 x10), (Value.string x11)] w1 fun w2 =>
    ld (Value.int .i64) ((Addr.mk b12 0 none).add 0) w2 fun x14 =>
    jp (fun J15 => cnd (decide (x14 = p1))
      (
      nn p0 fun a17 =>
      ld Sl.v (a17.add 0) w2 fun x18 =>
      ix x18 p1 1 fun p19 =>
      ld Value.bool p19 w2 fun x20 =>
      J15 x20
      )
      (
      J15 false
      ))
    fun c21 =>
    cnd (c21)
      (
      ld Value.string ((Addr.mk b12 0 none).add 1) w2 fun x23 =>
      K (x23, 0) w2
      )
      (
      K (ByteArray.mk #[], 13) w2
      )
    )
set_option maxRecDepth 100000 in
theorem D15 (p0 : Option Addr) (p1 : Int) (p2 : Int) (w0 : World) (K : (ByteArray × Int) → World → Prop) (h : F15 p0 p1 p2 w0 K) : callC Try.prog 15 #[(Value.pointer p0), (Value.int .i64 p1), (Value.int .i64 p2)] (fun (r : ByteArray × Int) => (Value.tuple #[(Value.string r.1), (Value.int .i64 r.2)])) w0 K := by
  unfold F15 at h
  refine calls_of_wpC Try.func15 rfl 42 rfl (by simp) ?_
  intro ρ hρ
  have e0 : ρ 0 = (Value.pointer p0) := hρ 0
  have e1 : ρ 1 = (Value.int .i64 p1) := hρ 1
  have e2 : ρ 2 = (Value.int .i64 p2) := hρ 2
  clear hρ
  refine wpC_seq ?_
  refine wpC_region ?_
  refine wpR_val (v := (Value.string (ByteArray.mk #[]))) (w' := w0) rfl rfl rfl (x_assign (v := (Value.string (ByteArray.mk #[]))) rfl rfl) ?_
  refine wpR_val (v := (Value.int .i64 0)) (w' := w0) rfl rfl rfl (x_assign (v := (Value.int .i64 0)) rfl rfl) ?_
  refine wpR_nil ?_
  refine wpC_seq ?_
  refine wpC_seq ?_
  refine wpC_cut (fun ρ => ρ 0 = (Value.pointer p0) ∧ ρ 1 = (Value.int .i64 p1) ∧ ρ 2 = (Value.int .i64 p2) ∧ True) ⟨e0, e1, e2, trivial⟩ ?_
  rintro ρ ⟨e0, e1, e2, -⟩
  refine wpC_region ?_
  refine wpR_val (v := (Value.int .i64 p2)) (w' := w0) rfl rfl rfl (x_move (v := (Value.int .i64 p2)) rfl e2) ?_
  refine wpR_val (v := (Value.bool (decide (p2 < 0)))) (w' := w0) rfl rfl rfl (x_lss rfl rfl rfl) ?_
  refine wpR_val (v := (Value.bool (decide (p2 < 0)))) (w' := w0) rfl rfl rfl (x_move (v := (Value.bool (decide (p2 < 0)))) rfl rfl) ?_
  obtain ⟨J1, h, hk⟩ := h
  refine wpR_joinJ 8 (fun x ρ => ρ 19 = Value.bool x ∧ ρ 0 = (Value.pointer p0) ∧ ρ 1 = (Value.int .i64 p1) ∧ ρ 2 = (Value.int .i64 p2) ∧ True) (fun x w => J1 x ∧ w0 = w) ?_ ?_
  · clear hk
    rcases Bool.eq_false_or_eq_true (decide (p2 < 0)) with hc2 | hc2
    · replace h := h.1 hc2
      refine wpR_pass (wantN rfl rfl rfl hc2) rfl rfl ?_
      refine wpR_pass (wantN rfl rfl rfl hc2) rfl rfl ?_
      refine wpR_pass (wantN rfl rfl rfl hc2) rfl rfl ?_
      refine wpR_pass (wantN rfl rfl rfl hc2) rfl rfl ?_
      refine wpR_pass (wantN rfl rfl rfl hc2) rfl rfl ?_
      refine wpR_pass (wantN rfl rfl rfl hc2) rfl rfl ?_
      refine wpR_pass (wantN rfl rfl rfl hc2) rfl rfl ?_
      refine wpR_val (v := (Value.bool true)) (w' := w0) rfl rfl rfl (x_pickT (v := (Value.bool true)) rfl rfl hc2 rfl) ?_
      refine wpR_nil ?_
      exact ⟨true, ⟨rfl, e0, e1, e2, trivial⟩, h, rfl⟩
    · replace h := h.2 hc2
      refine wpR_val (v := (Value.int .i64 p2)) (w' := w0) (wantG rfl rfl rfl hc2) rfl rfl (x_move (v := (Value.int .i64 p2)) rfl e2) ?_
      refine wpR_val (v := (Value.pointer p0)) (w' := w0) (wantG rfl rfl rfl hc2) rfl rfl (x_move (v := (Value.pointer p0)) rfl e0) ?_
      obtain ⟨a3, q3, h⟩ := h
      refine wpR_val (v := (Value.pointer (some a3))) (w' := w0) (wantG rfl rfl rfl hc2) rfl rfl (x_nilCheck rfl rfl q3) ?_
      refine wpR_val (v := (Value.pointer (some (a3.add 1)))) (w' := w0) (wantG rfl rfl rfl hc2) rfl rfl (x_fieldAddr rfl rfl FA_53_1) ?_
      obtain ⟨x4, q4, h⟩ := h
      refine wpR_val (v := (Sl.v x4)) (w' := w0) (wantG rfl rfl rfl hc2) rfl rfl (x_load1 rfl rfl SH_51 q4) ?_
      refine wpR_val (v := (Value.int .i64 (x4.len : Int))) (w' := w0) (wantG rfl rfl rfl hc2) rfl rfl (x_lenS (s := x4) rfl rfl isSliceT_51) ?_
      refine wpR_val (v := (Value.bool (decide ((x4.len : Int) ≤ p2)))) (w' := w0) (wantG rfl rfl rfl hc2) rfl rfl (x_geq rfl rfl rfl) ?_
      refine wpR_val (v := (Value.bool (decide ((x4.len : Int) ≤ p2)))) (w' := w0) rfl rfl rfl (x_pickF (v := (Value.bool (decide ((x4.len : Int) ≤ p2)))) rfl rfl hc2 rfl) ?_
      refine wpR_nil ?_
      exact ⟨decide ((x4.len : Int) ≤ p2), ⟨rfl, e0, e1, e2, trivial⟩, h, rfl⟩
  clear h
  rintro c5 ρ wj ⟨e19, e0, e1, e2, -⟩ ⟨h, rfl⟩
  replace h := hk c5 h
  clear hk
  refine wpR_nil ?_
  refine wpC_cond (b := c5) e19 (fun hc6 => ?_) (fun hc6 => ?_)
  · replace h := h.1 hc6
    refine wpC_seq ?_
    refine wpC_region ?_
    refine wpR_val (v := (Value.string (ByteArray.mk #[]))) (w' := w0) rfl rfl rfl (x_assign (v := (Value.string (ByteArray.mk #[]))) rfl rfl) ?_
    refine wpR_val (v := (Value.int .i64 4)) (w' := w0) rfl rfl rfl (x_assign (v := (Value.int .i64 4)) rfl rfl) ?_
    refine wpR_nil ?_
    refine wpC_ret ?_
    exact ⟨.inl rfl, fun a ha => ⟨_, results_rep2 rfl ha rfl rfl, (ByteArray.mk #[], 4), rfl, h⟩⟩
  · replace h := h.2 hc6
    refine wpC_skip ?_
    refine wpC_seq ?_
    refine wpC_seq ?_
    refine wpC_region ?_
    refine wpR_val (v := (Value.pointer p0)) (w' := w0) rfl rfl rfl (x_move (v := (Value.pointer p0)) rfl e0) ?_
    obtain ⟨a7, q7, h⟩ := h
    refine wpR_val (v := (Value.pointer (some a7))) (w' := w0) rfl rfl rfl (x_nilCheck rfl rfl q7) ?_
    refine wpR_val (v := (Value.pointer (some (a7.add 1)))) (w' := w0) rfl rfl rfl (x_fieldAddr rfl rfl FA_53_1) ?_
    obtain ⟨x8, q8, h⟩ := h
    refine wpR_val (v := (Sl.v x8)) (w' := w0) rfl rfl rfl (x_load1 rfl rfl SH_51 q8) ?_
    refine wpR_val (v := (Value.int .i64 p2)) (w' := w0) rfl rfl rfl (x_move (v := (Value.int .i64 p2)) rfl e2) ?_
    obtain ⟨q9, z9, r9, h⟩ := h
    generalize hp9 : z9.add ((p2).toNat * 2) = p9 at h
    refine wpR_val (v := (Value.pointer (some p9))) (w' := w0) rfl rfl rfl ((x_indexAddr (s := x8) rfl rfl rfl ES_51 q9 r9).trans (by rw [hp9])) ?_
    obtain ⟨x10, q10, h⟩ := h
    obtain ⟨x11, q11, h⟩ := h
    refine wpR_val (v := (Value.agg #[(Value.int .i64 x10), (Value.string x11)])) (w' := w0) rfl rfl rfl (x_loadN [(Value.int .i64 x10), (Value.string x11)] rfl rfl SH_55 (CellsAt.out (CellsAt.cons q10 (CellsAt.cons q11 CellsAt.nil)))) ?_
    obtain ⟨b12, hb12⟩ : ∃ u, u = w0.heap.size := ⟨_, rfl⟩
    obtain ⟨w1, hw12⟩ : ∃ u, u = w0.alloc (.cells #[(Value.int .i64 0), (Value.string (ByteArray.mk #[]))] 55) := ⟨_, rfl⟩
    replace h := h b12 w1 hb12 hw12
    refine wpR_val (v := (Value.pointer (some (Addr.mk b12 0 none)))) (w' := w1) rfl rfl rfl ((x_alloc rfl ZV_55).trans (by rw [hb12, hw12]; rfl)) ?_
    obtain ⟨q13, h⟩ := h
    obtain ⟨w2, hw13⟩ : ∃ u, u = setAll w1 (Addr.mk b12 0 none) [(Value.int .i64 x10), (Value.string x11)] 0 := ⟨_, rfl⟩
    replace h := h w2 hw13
    refine wpR_skp (w' := w2) rfl rfl ((x_store (v := (Value.agg #[(Value.int .i64 x10), (Value.string x11)])) rfl rfl rfl SZ_55 (ones (by rfl)) q13).trans (by rw [hw13]; rfl)) ?_
    refine wpR_nil ?_
    refine wpC_seq ?_
    refine wpC_cut (fun ρ => ρ 0 = (Value.pointer p0) ∧ ρ 1 = (Value.int .i64 p1) ∧ ρ 8 = (Value.pointer (some (Addr.mk b12 0 none))) ∧ True) ⟨e0, e1, rfl, trivial⟩ ?_
    rintro ρ ⟨e0, e1, e8, -⟩
    refine wpC_region ?_
    refine wpR_val (v := (Value.pointer (some ((Addr.mk b12 0 none).add 0)))) (w' := w2) rfl rfl rfl (x_fieldAddr rfl e8 FA_55_0) ?_
    obtain ⟨x14, q14, h⟩ := h
    refine wpR_val (v := (Value.int .i64 x14)) (w' := w2) rfl rfl rfl (x_load1 rfl rfl SH_3 q14) ?_
    refine wpR_val (v := (Value.int .i64 p1)) (w' := w2) rfl rfl rfl (x_move (v := (Value.int .i64 p1)) rfl e1) ?_
    refine wpR_val (v := (Value.bool (decide (x14 = p1)))) (w' := w2) rfl rfl rfl (x_eql rfl rfl rfl) ?_
    refine wpR_val (v := (Value.bool (decide (x14 = p1)))) (w' := w2) rfl rfl rfl (x_move (v := (Value.bool (decide (x14 = p1)))) rfl rfl) ?_
    obtain ⟨J15, h, hk⟩ := h
    refine wpR_joinJ 8 (fun x ρ => ρ 39 = Value.bool x ∧ ρ 8 = (Value.pointer (some (Addr.mk b12 0 none))) ∧ True) (fun x w => J15 x ∧ w2 = w) ?_ ?_
    · clear hk
      rcases Bool.eq_false_or_eq_true (decide (x14 = p1)) with hc16 | hc16
      · replace h := h.1 hc16
        refine wpR_val (v := (Value.pointer p0)) (w' := w2) (wantG rfl rfl rfl hc16) rfl rfl (x_move (v := (Value.pointer p0)) rfl e0) ?_
        obtain ⟨a17, q17, h⟩ := h
        refine wpR_val (v := (Value.pointer (some a17))) (w' := w2) (wantG rfl rfl rfl hc16) rfl rfl (x_nilCheck rfl rfl q17) ?_
        refine wpR_val (v := (Value.pointer (some (a17.add 0)))) (w' := w2) (wantG rfl rfl rfl hc16) rfl rfl (x_fieldAddr rfl rfl FA_53_0) ?_
        obtain ⟨x18, q18, h⟩ := h
        refine wpR_val (v := (Sl.v x18)) (w' := w2) (wantG rfl rfl rfl hc16) rfl rfl (x_load1 rfl rfl SH_37 q18) ?_
        refine wpR_val (v := (Value.int .i64 p1)) (w' := w2) (wantG rfl rfl rfl hc16) rfl rfl (x_move (v := (Value.int .i64 p1)) rfl e1) ?_
        obtain ⟨q19, z19, r19, h⟩ := h
        generalize hp19 : z19.add ((p1).toNat * 1) = p19 at h
        refine wpR_val (v := (Value.pointer (some p19))) (w' := w2) (wantG rfl rfl rfl hc16) rfl rfl ((x_indexAddr (s := x18) rfl rfl rfl ES_37 q19 r19).trans (by rw [hp19])) ?_
        obtain ⟨x20, q20, h⟩ := h
        refine wpR_val (v := (Value.bool x20)) (w' := w2) (wantG rfl rfl rfl hc16) rfl rfl (x_load1 rfl rfl SH_4 q20) ?_
        refine wpR_val (v := (Value.bool x20)) (w' := w2) rfl rfl rfl (x_pickT (v := (Value.bool x20)) rfl rfl hc16 rfl) ?_
        refine wpR_nil ?_
        exact ⟨x20, ⟨rfl, e8, trivial⟩, h, rfl⟩
      · replace h := h.2 hc16
        refine wpR_pass (wantN rfl rfl rfl hc16) rfl rfl ?_
        refine wpR_pass (wantN rfl rfl rfl hc16) rfl rfl ?_
        refine wpR_pass (wantN rfl rfl rfl hc16) rfl rfl ?_
        refine wpR_pass (wantN rfl rfl rfl hc16) rfl rfl ?_
        refine wpR_pass (wantN rfl rfl rfl hc16) rfl rfl ?_
        refine wpR_pass (wantN rfl rfl rfl hc16) rfl rfl ?_
        refine wpR_pass (wantN rfl rfl rfl hc16) rfl rfl ?_
        refine wpR_val (v := (Value.bool false)) (w' := w2) rfl rfl rfl (x_pickF (v := (Value.bool false)) rfl rfl hc16 rfl) ?_
        refine wpR_nil ?_
        exact ⟨false, ⟨rfl, e8, trivial⟩, h, rfl⟩
    clear h
    rintro c21 ρ wj ⟨e39, e8, -⟩ ⟨h, rfl⟩
    replace h := hk c21 h
    clear hk
    refine wpR_nil ?_
    refine wpC_cond (b := c21) e39 (fun hc22 => ?_) (fun hc22 => ?_)
    · replace h := h.1 hc22
      refine wpC_seq ?_
      refine wpC_region ?_
      refine wpR_val (v := (Value.pointer (some ((Addr.mk b12 0 none).add 1)))) (w' := w2) rfl rfl rfl (x_fieldAddr rfl e8 FA_55_1) ?_
      obtain ⟨x23, q23, h⟩ := h
      refine wpR_val (v := (Value.string x23)) (w' := w2) rfl rfl rfl (x_load1 rfl rfl SH_9 q23) ?_
      refine wpR_val (v := (Value.string x23)) (w' := w2) rfl rfl rfl (x_assign (v := (Value.string x23)) rfl rfl) ?_
      refine wpR_val (v := (Value.int .i64 0)) (w' := w2) rfl rfl rfl (x_assign (v := (Value.int .i64 0)) rfl rfl) ?_
      refine wpR_nil ?_
      refine wpC_ret ?_
      exact ⟨.inl rfl, fun a ha => ⟨_, results_rep2 rfl ha rfl rfl, (x23, 0), rfl, h⟩⟩
    · replace h := h.2 hc22
      refine wpC_skip ?_
      refine wpC_seq ?_
      refine wpC_region ?_
      refine wpR_val (v := (Value.string (ByteArray.mk #[]))) (w' := w2) rfl rfl rfl (x_assign (v := (Value.string (ByteArray.mk #[]))) rfl rfl) ?_
      refine wpR_val (v := (Value.int .i64 13)) (w' := w2) rfl rfl rfl (x_assign (v := (Value.int .i64 13)) rfl rfl) ?_
      refine wpR_nil ?_
      refine wpC_ret ?_
      exact ⟨.inl rfl, fun a ha => ⟨_, results_rep2 rfl ha rfl rfl, (ByteArray.mk #[], 13), rfl, h⟩⟩

/-- (*linguaref05.Vault).state -/
def F27 (p0 : Option Addr) (p1 : Int) (w0 : World) (K : Int → World → Prop) : Prop :=
  jp (fun J1 => cnd (decide (p1 < 0))
    (
    J1 true
    )
    (
    nn p0 fun a3 =>
    ld Sl.v (a3.add 0) w0 fun x4 =>
    J1 (decide ((x4.len : Int) ≤ p1))
    ))
  fun c5 =>
  cnd (c5)
    (
    K 0 w0
    )
    (
    nn p0 fun a7 =>
    ld Sl.v (a7.add 0) w0 fun x8 =>
    ix x8 p1 1 fun p9 =>
    ld Value.bool p9 w0 fun x10 =>
    cnd (x10)
      (
      K 1 w0
      )
      (
      K 2 w0
      )
    )
set_option maxRecDepth 100000 in
theorem D27 (p0 : Option Addr) (p1 : Int) (w0 : World) (K : Int → World → Prop) (h : F27 p0 p1 w0 K) : callC Try.prog 27 #[(Value.pointer p0), (Value.int .i64 p1)] (fun (r : Int) => (Value.int .i64 r)) w0 K := by
  unfold F27 at h
  refine calls_of_wpC Try.func27 rfl 23 rfl (by simp) ?_
  intro ρ hρ
  have e0 : ρ 0 = (Value.pointer p0) := hρ 0
  have e1 : ρ 1 = (Value.int .i64 p1) := hρ 1
  clear hρ
  refine wpC_seq ?_
  refine wpC_region ?_
  refine wpR_val (v := (Value.int .i64 0)) (w' := w0) rfl rfl rfl (x_assign (v := (Value.int .i64 0)) rfl rfl) ?_
  refine wpR_nil ?_
  refine wpC_seq ?_
  refine wpC_seq ?_
  refine wpC_cut (fun ρ => ρ 0 = (Value.pointer p0) ∧ ρ 1 = (Value.int .i64 p1) ∧ True) ⟨e0, e1, trivial⟩ ?_
  rintro ρ ⟨e0, e1, -⟩
  refine wpC_region ?_
  refine wpR_val (v := (Value.int .i64 p1)) (w' := w0) rfl rfl rfl (x_move (v := (Value.int .i64 p1)) rfl e1) ?_
  refine wpR_val (v := (Value.bool (decide (p1 < 0)))) (w' := w0) rfl rfl rfl (x_lss rfl rfl rfl) ?_
  refine wpR_val (v := (Value.bool (decide (p1 < 0)))) (w' := w0) rfl rfl rfl (x_move (v := (Value.bool (decide (p1 < 0)))) rfl rfl) ?_
  obtain ⟨J1, h, hk⟩ := h
  refine wpR_joinJ 8 (fun x ρ => ρ 15 = Value.bool x ∧ ρ 0 = (Value.pointer p0) ∧ ρ 1 = (Value.int .i64 p1) ∧ True) (fun x w => J1 x ∧ w0 = w) ?_ ?_
  · clear hk
    rcases Bool.eq_false_or_eq_true (decide (p1 < 0)) with hc2 | hc2
    · replace h := h.1 hc2
      refine wpR_pass (wantN rfl rfl rfl hc2) rfl rfl ?_
      refine wpR_pass (wantN rfl rfl rfl hc2) rfl rfl ?_
      refine wpR_pass (wantN rfl rfl rfl hc2) rfl rfl ?_
      refine wpR_pass (wantN rfl rfl rfl hc2) rfl rfl ?_
      refine wpR_pass (wantN rfl rfl rfl hc2) rfl rfl ?_
      refine wpR_pass (wantN rfl rfl rfl hc2) rfl rfl ?_
      refine wpR_pass (wantN rfl rfl rfl hc2) rfl rfl ?_
      refine wpR_val (v := (Value.bool true)) (w' := w0) rfl rfl rfl (x_pickT (v := (Value.bool true)) rfl rfl hc2 rfl) ?_
      refine wpR_nil ?_
      exact ⟨true, ⟨rfl, e0, e1, trivial⟩, h, rfl⟩
    · replace h := h.2 hc2
      refine wpR_val (v := (Value.int .i64 p1)) (w' := w0) (wantG rfl rfl rfl hc2) rfl rfl (x_move (v := (Value.int .i64 p1)) rfl e1) ?_
      refine wpR_val (v := (Value.pointer p0)) (w' := w0) (wantG rfl rfl rfl hc2) rfl rfl (x_move (v := (Value.pointer p0)) rfl e0) ?_
      obtain ⟨a3, q3, h⟩ := h
      refine wpR_val (v := (Value.pointer (some a3))) (w' := w0) (wantG rfl rfl rfl hc2) rfl rfl (x_nilCheck rfl rfl q3) ?_
      refine wpR_val (v := (Value.pointer (some (a3.add 0)))) (w' := w0) (wantG rfl rfl rfl hc2) rfl rfl (x_fieldAddr rfl rfl FA_41_0) ?_
      obtain ⟨x4, q4, h⟩ := h
      refine wpR_val (v := (Sl.v x4)) (w' := w0) (wantG rfl rfl rfl hc2) rfl rfl (x_load1 rfl rfl SH_37 q4) ?_
      refine wpR_val (v := (Value.int .i64 (x4.len : Int))) (w' := w0) (wantG rfl rfl rfl hc2) rfl rfl (x_lenS (s := x4) rfl rfl isSliceT_37) ?_
      refine wpR_val (v := (Value.bool (decide ((x4.len : Int) ≤ p1)))) (w' := w0) (wantG rfl rfl rfl hc2) rfl rfl (x_geq rfl rfl rfl) ?_
      refine wpR_val (v := (Value.bool (decide ((x4.len : Int) ≤ p1)))) (w' := w0) rfl rfl rfl (x_pickF (v := (Value.bool (decide ((x4.len : Int) ≤ p1)))) rfl rfl hc2 rfl) ?_
      refine wpR_nil ?_
      exact ⟨decide ((x4.len : Int) ≤ p1), ⟨rfl, e0, e1, trivial⟩, h, rfl⟩
  clear h
  rintro c5 ρ wj ⟨e15, e0, e1, -⟩ ⟨h, rfl⟩
  replace h := hk c5 h
  clear hk
  refine wpR_nil ?_
  refine wpC_cond (b := c5) e15 (fun hc6 => ?_) (fun hc6 => ?_)
  · replace h := h.1 hc6
    refine wpC_seq ?_
    refine wpC_region ?_
    refine wpR_val (v := (Value.int .i64 0)) (w' := w0) rfl rfl rfl (x_assign (v := (Value.int .i64 0)) rfl rfl) ?_
    refine wpR_nil ?_
    refine wpC_ret ?_
    exact ⟨.inl rfl, fun a ha => ⟨_, results_rep1 rfl ha rfl, 0, rfl, h⟩⟩
  · replace h := h.2 hc6
    refine wpC_skip ?_
    refine wpC_seq ?_
    refine wpC_seq ?_
    refine wpC_region ?_
    refine wpR_val (v := (Value.pointer p0)) (w' := w0) rfl rfl rfl (x_move (v := (Value.pointer p0)) rfl e0) ?_
    obtain ⟨a7, q7, h⟩ := h
    refine wpR_val (v := (Value.pointer (some a7))) (w' := w0) rfl rfl rfl (x_nilCheck rfl rfl q7) ?_
    refine wpR_val (v := (Value.pointer (some (a7.add 0)))) (w' := w0) rfl rfl rfl (x_fieldAddr rfl rfl FA_41_0) ?_
    obtain ⟨x8, q8, h⟩ := h
    refine wpR_val (v := (Sl.v x8)) (w' := w0) rfl rfl rfl (x_load1 rfl rfl SH_37 q8) ?_
    refine wpR_val (v := (Value.int .i64 p1)) (w' := w0) rfl rfl rfl (x_move (v := (Value.int .i64 p1)) rfl e1) ?_
    obtain ⟨q9, z9, r9, h⟩ := h
    generalize hp9 : z9.add ((p1).toNat * 1) = p9 at h
    refine wpR_val (v := (Value.pointer (some p9))) (w' := w0) rfl rfl rfl ((x_indexAddr (s := x8) rfl rfl rfl ES_37 q9 r9).trans (by rw [hp9])) ?_
    obtain ⟨x10, q10, h⟩ := h
    refine wpR_val (v := (Value.bool x10)) (w' := w0) rfl rfl rfl (x_load1 rfl rfl SH_4 q10) ?_
    refine wpR_nil ?_
    refine wpC_cond (b := x10) rfl (fun hc11 => ?_) (fun hc11 => ?_)
    · replace h := h.1 hc11
      refine wpC_seq ?_
      refine wpC_cut (fun ρ => True) trivial ?_
      rintro ρ -
      refine wpC_region ?_
      refine wpR_val (v := (Value.int .i64 1)) (w' := w0) rfl rfl rfl (x_assign (v := (Value.int .i64 1)) rfl rfl) ?_
      refine wpR_nil ?_
      refine wpC_ret ?_
      exact ⟨.inl rfl, fun a ha => ⟨_, results_rep1 rfl ha rfl, 1, rfl, h⟩⟩
    · replace h := h.2 hc11
      refine wpC_skip ?_
      refine wpC_seq ?_
      refine wpC_cut (fun ρ => True) trivial ?_
      rintro ρ -
      refine wpC_region ?_
      refine wpR_val (v := (Value.int .i64 2)) (w' := w0) rfl rfl rfl (x_assign (v := (Value.int .i64 2)) rfl rfl) ?_
      refine wpR_nil ?_
      refine wpC_ret ?_
      exact ⟨.inl rfl, fun a ha => ⟨_, results_rep1 rfl ha rfl, 2, rfl, h⟩⟩

/-- linguaref05.Few -/
def F8 (p0 : Sl) (p1 : Int) (w0 : World) (K : Bool → World → Prop) : Prop :=
  lp (fun (next1 : Int → World → Prop) l1 w1 =>
    cnd ((decide (l1 < (p0.len : Int))) && (decide (l1 ≤ p1)))
      (
      ix p0 l1 4 fun p5 =>
      ld Value.string (p5.add 3) w1 fun x6 =>
      cnd (decide (200 < (x6.size : Int)))
        (
        K false w1
        )
        (
        next1 (IntKind.i64.wrap (l1 + 1)) w1
        )
      )
      (
      K (decide ((p0.len : Int) ≤ p1)) w1
      )
  ) 0 w0
set_option maxRecDepth 100000 in
theorem D8 (p0 : Sl) (p1 : Int) (w0 : World) (K : Bool → World → Prop) (h : F8 p0 p1 w0 K) : callC Try.prog 8 #[(Sl.v p0), (Value.int .i64 p1)] (fun (r : Bool) => (Value.bool r)) w0 K := by
  unfold F8 at h
  refine calls_of_wpC Try.func8 rfl 28 rfl (by simp) ?_
  intro ρ hρ
  have e0 : ρ 0 = (Sl.v p0) := hρ 0
  have e1 : ρ 1 = (Value.int .i64 p1) := hρ 1
  clear hρ
  refine wpC_seq ?_
  refine wpC_region ?_
  refine wpR_val (v := (Value.bool false)) (w' := w0) rfl rfl rfl (x_assign (v := (Value.bool false)) rfl rfl) ?_
  refine wpR_nil ?_
  refine wpC_seq ?_
  refine wpC_seq ?_
  refine wpC_cut (fun ρ => ρ 0 = (Sl.v p0) ∧ ρ 1 = (Value.int .i64 p1) ∧ True) ⟨e0, e1, trivial⟩ ?_
  rintro ρ ⟨e0, e1, -⟩
  refine wpC_region ?_
  refine wpR_val (v := (Value.int .i64 0)) (w' := w0) rfl rfl rfl (x_assign (v := (Value.int .i64 0)) rfl rfl) ?_
  refine wpR_nil ?_
  refine wpC_block ?_
  obtain ⟨I1, μ1, hI1, hr1⟩ := h
  refine wpC_loop (fun (x : Int) ρ => ρ 5 = (Value.int .i64 x) ∧ ρ 0 = (Sl.v p0) ∧ ρ 1 = (Value.int .i64 p1) ∧ True) I1 μ1 0 ⟨rfl, e0, e1, trivial⟩ hI1 ?_
  rintro l1 ρ w1 ⟨e5, e0, e1, -⟩ h
  replace h := hr1 l1 w1 h
  clear hr1 hI1
  refine wpC_seq ?_
  refine wpC_seq ?_
  refine wpC_region ?_
  refine wpR_val (v := (Value.int .i64 l1)) (w' := w1) rfl rfl rfl (x_move (v := (Value.int .i64 l1)) rfl e5) ?_
  refine wpR_val (v := (Sl.v p0)) (w' := w1) rfl rfl rfl (x_move (v := (Sl.v p0)) rfl e0) ?_
  refine wpR_val (v := (Value.int .i64 (p0.len : Int))) (w' := w1) rfl rfl rfl (x_lenS (s := p0) rfl rfl isSliceT_22) ?_
  refine wpR_val (v := (Value.bool (decide (l1 < (p0.len : Int))))) (w' := w1) rfl rfl rfl (x_lss rfl rfl rfl) ?_
  refine wpR_val (v := (Value.bool (decide (l1 < (p0.len : Int))))) (w' := w1) rfl rfl rfl (x_move (v := (Value.bool (decide (l1 < (p0.len : Int))))) rfl rfl) ?_
  refine wpR_joinJ 4 (fun (_ : Unit) ρ => ρ 14 = Value.bool ((decide (l1 < (p0.len : Int))) && (decide (l1 ≤ p1))) ∧ ρ 0 = (Sl.v p0) ∧ ρ 1 = (Value.int .i64 p1) ∧ ρ 5 = (Value.int .i64 l1) ∧ True) (fun _ w => w1 = w) ?_ ?_
  · clear h
    rcases Bool.eq_false_or_eq_true (decide (l1 < (p0.len : Int))) with hc3 | hc3
    · skip
      refine wpR_val (v := (Value.int .i64 l1)) (w' := w1) (wantG rfl rfl rfl hc3) rfl rfl (x_move (v := (Value.int .i64 l1)) rfl e5) ?_
      refine wpR_val (v := (Value.int .i64 p1)) (w' := w1) (wantG rfl rfl rfl hc3) rfl rfl (x_move (v := (Value.int .i64 p1)) rfl e1) ?_
      refine wpR_val (v := (Value.bool (decide (l1 ≤ p1)))) (w' := w1) (wantG rfl rfl rfl hc3) rfl rfl (x_leq rfl rfl rfl) ?_
      refine wpR_val (v := (Value.bool (decide (l1 ≤ p1)))) (w' := w1) rfl rfl rfl (x_pickT (v := (Value.bool (decide (l1 ≤ p1)))) rfl rfl hc3 rfl) ?_
      refine wpR_nil ?_
      exact ⟨(), ⟨(by rw [hc3]; rfl), e0, e1, e5, trivial⟩, rfl⟩
    · skip
      refine wpR_pass (wantN rfl rfl rfl hc3) rfl rfl ?_
      refine wpR_pass (wantN rfl rfl rfl hc3) rfl rfl ?_
      refine wpR_pass (wantN rfl rfl rfl hc3) rfl rfl ?_
      refine wpR_val (v := (Value.bool false)) (w' := w1) rfl rfl rfl (x_pickF (v := (Value.bool false)) rfl rfl hc3 rfl) ?_
      refine wpR_nil ?_
      exact ⟨(), ⟨(by rw [hc3]; rfl), e0, e1, e5, trivial⟩, rfl⟩
  rintro _ ρ wj ⟨e14, e0, e1, e5, -⟩ rfl
  refine wpR_nil ?_
  refine wpC_cond (b := (decide (l1 < (p0.len : Int))) && (decide (l1 ≤ p1))) e14 (fun hc4 => ?_) (fun hc4 => ?_)
  · replace h := h.1 hc4
    refine wpC_skip ?_
    refine wpC_seq ?_
    refine wpC_block ?_
    refine wpC_seq ?_
    refine wpC_region ?_
    refine wpR_val (v := (Sl.v p0)) (w' := w1) rfl rfl rfl (x_move (v := (Sl.v p0)) rfl e0) ?_
    refine wpR_val (v := (Value.int .i64 l1)) (w' := w1) rfl rfl rfl (x_move (v := (Value.int .i64 l1)) rfl e5) ?_
    obtain ⟨q5, z5, r5, h⟩ := h
    generalize hp5 : z5.add ((l1).toNat * 4) = p5 at h
    refine wpR_val (v := (Value.pointer (some p5))) (w' := w1) rfl rfl rfl ((x_indexAddr (s := p0) rfl rfl rfl ES_22 q5 r5).trans (by rw [hp5])) ?_
    refine wpR_val (v := (Value.pointer (some (p5.add 3)))) (w' := w1) rfl rfl rfl (x_fieldAddr rfl rfl FA_34_3) ?_
    obtain ⟨x6, q6, h⟩ := h
    refine wpR_val (v := (Value.string x6)) (w' := w1) rfl rfl rfl (x_load1 rfl rfl SH_9 q6) ?_
    refine wpR_val (v := (Value.int .i64 (x6.size : Int))) (w' := w1) rfl rfl rfl (x_lenStr rfl rfl isStrT_9) ?_
    refine wpR_val (v := (Value.bool (decide (200 < (x6.size : Int))))) (w' := w1) rfl rfl rfl (x_gtr rfl rfl rfl) ?_
    refine wpR_nil ?_
    refine wpC_cond (b := decide (200 < (x6.size : Int))) rfl (fun hc7 => ?_) (fun hc7 => ?_)
    · replace h := h.1 hc7
      refine wpC_seq ?_
      refine wpC_cut (fun ρ => True) trivial ?_
      rintro ρ -
      refine wpC_region ?_
      refine wpR_val (v := (Value.bool false)) (w' := w1) rfl rfl rfl (x_assign (v := (Value.bool false)) rfl rfl) ?_
      refine wpR_nil ?_
      refine wpC_ret ?_
      exact ⟨.inl rfl, fun a ha => ⟨_, results_rep1 rfl ha rfl, false, rfl, h⟩⟩
    · replace h := h.2 hc7
      refine wpC_skip ?_
      refine wpC_cut (fun ρ => ρ 0 = (Sl.v p0) ∧ ρ 1 = (Value.int .i64 p1) ∧ ρ 5 = (Value.int .i64 l1) ∧ True) ⟨e0, e1, e5, trivial⟩ ?_
      rintro ρ ⟨e0, e1, e5, -⟩
      refine wpC_region ?_
      refine wpR_val (v := (Value.int .i64 l1)) (w' := w1) rfl rfl rfl (x_move (v := (Value.int .i64 l1)) rfl e5) ?_
      refine wpR_val (v := (Value.int .i64 (IntKind.i64.wrap (l1 + 1)))) (w' := w1) rfl rfl rfl (x_add rfl rfl rfl) ?_
      refine wpR_val (v := (Value.int .i64 (IntKind.i64.wrap (l1 + 1)))) (w' := w1) rfl rfl rfl (x_assign (v := (Value.int .i64 (IntKind.i64.wrap (l1 + 1)))) rfl rfl) ?_
      refine wpR_nil ?_
      exact ⟨IntKind.i64.wrap (l1 + 1), ⟨rfl, e0, e1, trivial⟩, h⟩
  · replace h := h.2 hc4
    refine wpC_exit ?_
    refine wpC_seq ?_
    refine wpC_region ?_
    refine wpR_val (v := (Sl.v p0)) (w' := w1) rfl rfl rfl (x_move (v := (Sl.v p0)) rfl e0) ?_
    refine wpR_val (v := (Value.int .i64 (p0.len : Int))) (w' := w1) rfl rfl rfl (x_lenS (s := p0) rfl rfl isSliceT_22) ?_
    refine wpR_val (v := (Value.int .i64 p1)) (w' := w1) rfl rfl rfl (x_move (v := (Value.int .i64 p1)) rfl e1) ?_
    refine wpR_val (v := (Value.bool (decide ((p0.len : Int) ≤ p1)))) (w' := w1) rfl rfl rfl (x_leq rfl rfl rfl) ?_
    refine wpR_val (v := (Value.bool (decide ((p0.len : Int) ≤ p1)))) (w' := w1) rfl rfl rfl (x_assign (v := (Value.bool (decide ((p0.len : Int) ≤ p1)))) rfl rfl) ?_
    refine wpR_nil ?_
    refine wpC_ret ?_
    exact ⟨.inl rfl, fun a ha => ⟨_, results_rep1 rfl ha rfl, decide ((p0.len : Int) ≤ p1), rfl, h⟩⟩

/-- (*vault.Vault).Destroy -/
def F19 (p0 : Option Addr) (p1 : Int) (w0 : World) (K : Int → World → Prop) : Prop :=
  callC Try.prog 26 #[(Value.pointer p0), (Value.int .i64 p1)] (fun (r : Bool) => (Value.bool r)) w0 fun r1 w1 =>
  cnd (!r1)
    (
    K 4 w1
    )
    (
    nn p0 fun a3 =>
    ld Sl.v (a3.add 0) w1 fun x4 =>
    ix x4 p1 1 fun p5 =>
    ld Value.bool p5 w1 fun x6 =>
    cnd (!x6)
      (
      K 5 w1
      )
      (
      nn p0 fun a8 =>
      ld Sl.v (a8.add 0) w1 fun x9 =>
      ix x9 p1 1 fun p10 =>
      st p10 [(Value.bool false)] w1 fun w2 =>
      nn p0 fun a12 =>
      ld Sl.v (a12.add 1) w2 fun x13 =>
      lp (fun (next14 : Int → World → Prop) l14 w3 =>
        cnd (decide (l14 < (x13.len : Int)))
          (
          jn (fun (J16 : Unit → World → Prop) =>
            nn p0 fun a18 =>
            ld Sl.v (a18.add 1) w3 fun x19 =>
            ix x19 l14 2 fun p20 =>
            ld (Value.int .i64) (p20.add 0) w3 fun x21 =>
            cnd (decide (x21 = p1))
              (
              nn p0 fun a23 =>
              ld Sl.v (a23.add 1) w3 fun x24 =>
              ix x24 l14 2 fun p25 =>
              st (p25.add 1) [(Value.string (ByteArray.mk #[]))] w3 fun w5 =>
              J16 () w5
              )
              (
              J16 () w3
              )
          )
          fun _l17 w4 =>
          next14 (IntKind.i64.wrap (l14 + 1)) w4
          )
          (
          K 0 w3
          )
      ) 0 w2
      )
    )
set_option maxRecDepth 100000 in
theorem D19 (p0 : Option Addr) (p1 : Int) (w0 : World) (K : Int → World → Prop) (h : F19 p0 p1 w0 K) : callC Try.prog 19 #[(Value.pointer p0), (Value.int .i64 p1)] (fun (r : Int) => (Value.int .i64 r)) w0 K := by
  unfold F19 at h
  refine calls_of_wpC Try.func19 rfl 52 rfl (by simp) ?_
  intro ρ hρ
  have e0 : ρ 0 = (Value.pointer p0) := hρ 0
  have e1 : ρ 1 = (Value.int .i64 p1) := hρ 1
  clear hρ
  refine wpC_seq ?_
  refine wpC_region ?_
  refine wpR_val (v := (Value.int .i64 0)) (w' := w0) rfl rfl rfl (x_assign (v := (Value.int .i64 0)) rfl rfl) ?_
  refine wpR_nil ?_
  refine wpC_seq ?_
  refine wpC_block ?_
  refine wpC_seq ?_
  refine wpC_cut (fun ρ => ρ 0 = (Value.pointer p0) ∧ ρ 1 = (Value.int .i64 p1) ∧ True) ⟨e0, e1, trivial⟩ ?_
  rintro ρ ⟨e0, e1, -⟩
  refine wpC_region ?_
  refine wpR_val (v := (Value.pointer p0)) (w' := w0) rfl rfl rfl (x_move (v := (Value.pointer p0)) rfl e0) ?_
  refine wpR_val (v := (Value.int .i64 p1)) (w' := w0) rfl rfl rfl (x_move (v := (Value.int .i64 p1)) rfl e1) ?_
  refine wpR_enter rfl rfl rfl (x_call (vs := [(Value.pointer p0), (Value.int .i64 p1)]) rfl rfl (by rfl) Try.func26 NN_26 NB_26) (Calls.mono h ?_)
  rintro _ w1 ⟨r1, rfl, h⟩
  refine ⟨_, rfl, ?_⟩
  refine wpR_val (v := (Value.bool (!r1))) (w' := w1) rfl rfl rfl (x_not rfl rfl) ?_
  refine wpR_val (v := (Value.bool (!r1))) (w' := w1) rfl rfl rfl (x_assign (v := (Value.bool (!r1))) rfl rfl) ?_
  refine wpR_nil ?_
  refine wpC_cond (b := !r1) rfl (fun hc2 => ?_) (fun hc2 => ?_)
  · replace h := h.1 hc2
    refine wpC_seq ?_
    refine wpC_cut (fun ρ => True) trivial ?_
    rintro ρ -
    refine wpC_region ?_
    refine wpR_val (v := (Value.int .i64 4)) (w' := w1) rfl rfl rfl (x_assign (v := (Value.int .i64 4)) rfl rfl) ?_
    refine wpR_nil ?_
    refine wpC_ret ?_
    exact ⟨.inl rfl, fun a ha => ⟨_, results_rep1 rfl ha rfl, 4, rfl, h⟩⟩
  · replace h := h.2 hc2
    refine wpC_seq ?_
    refine wpC_cut (fun ρ => ρ 0 = (Value.pointer p0) ∧ ρ 1 = (Value.int .i64 p1) ∧ True) ⟨e0, e1, trivial⟩ ?_
    rintro ρ ⟨e0, e1, -⟩
    refine wpC_region ?_
    refine wpR_val (v := (Value.pointer p0)) (w' := w1) rfl rfl rfl (x_move (v := (Value.pointer p0)) rfl e0) ?_
    obtain ⟨a3, q3, h⟩ := h
    refine wpR_val (v := (Value.pointer (some a3))) (w' := w1) rfl rfl rfl (x_nilCheck rfl rfl q3) ?_
    refine wpR_val (v := (Value.pointer (some (a3.add 0)))) (w' := w1) rfl rfl rfl (x_fieldAddr rfl rfl FA_53_0) ?_
    obtain ⟨x4, q4, h⟩ := h
    refine wpR_val (v := (Sl.v x4)) (w' := w1) rfl rfl rfl (x_load1 rfl rfl SH_37 q4) ?_
    refine wpR_val (v := (Value.int .i64 p1)) (w' := w1) rfl rfl rfl (x_move (v := (Value.int .i64 p1)) rfl e1) ?_
    obtain ⟨q5, z5, r5, h⟩ := h
    generalize hp5 : z5.add ((p1).toNat * 1) = p5 at h
    refine wpR_val (v := (Value.pointer (some p5))) (w' := w1) rfl rfl rfl ((x_indexAddr (s := x4) rfl rfl rfl ES_37 q5 r5).trans (by rw [hp5])) ?_
    obtain ⟨x6, q6, h⟩ := h
    refine wpR_val (v := (Value.bool x6)) (w' := w1) rfl rfl rfl (x_load1 rfl rfl SH_4 q6) ?_
    refine wpR_val (v := (Value.bool (!x6))) (w' := w1) rfl rfl rfl (x_not rfl rfl) ?_
    refine wpR_val (v := (Value.bool (!x6))) (w' := w1) rfl rfl rfl (x_assign (v := (Value.bool (!x6))) rfl rfl) ?_
    refine wpR_nil ?_
    refine wpC_cond (b := !x6) rfl (fun hc7 => ?_) (fun hc7 => ?_)
    · replace h := h.1 hc7
      refine wpC_seq ?_
      refine wpC_cut (fun ρ => True) trivial ?_
      rintro ρ -
      refine wpC_region ?_
      refine wpR_val (v := (Value.int .i64 5)) (w' := w1) rfl rfl rfl (x_assign (v := (Value.int .i64 5)) rfl rfl) ?_
      refine wpR_nil ?_
      refine wpC_ret ?_
      exact ⟨.inl rfl, fun a ha => ⟨_, results_rep1 rfl ha rfl, 5, rfl, h⟩⟩
    · replace h := h.2 hc7
      refine wpC_skip ?_
      refine wpC_seq ?_
      refine wpC_cut (fun ρ => ρ 0 = (Value.pointer p0) ∧ ρ 1 = (Value.int .i64 p1) ∧ True) ⟨e0, e1, trivial⟩ ?_
      rintro ρ ⟨e0, e1, -⟩
      refine wpC_region ?_
      refine wpR_val (v := (Value.pointer p0)) (w' := w1) rfl rfl rfl (x_move (v := (Value.pointer p0)) rfl e0) ?_
      obtain ⟨a8, q8, h⟩ := h
      refine wpR_val (v := (Value.pointer (some a8))) (w' := w1) rfl rfl rfl (x_nilCheck rfl rfl q8) ?_
      refine wpR_val (v := (Value.pointer (some (a8.add 0)))) (w' := w1) rfl rfl rfl (x_fieldAddr rfl rfl FA_53_0) ?_
      obtain ⟨x9, q9, h⟩ := h
      refine wpR_val (v := (Sl.v x9)) (w' := w1) rfl rfl rfl (x_load1 rfl rfl SH_37 q9) ?_
      refine wpR_val (v := (Value.int .i64 p1)) (w' := w1) rfl rfl rfl (x_move (v := (Value.int .i64 p1)) rfl e1) ?_
      obtain ⟨q10, z10, r10, h⟩ := h
      generalize hp10 : z10.add ((p1).toNat * 1) = p10 at h
      refine wpR_val (v := (Value.pointer (some p10))) (w' := w1) rfl rfl rfl ((x_indexAddr (s := x9) rfl rfl rfl ES_37 q10 r10).trans (by rw [hp10])) ?_
      obtain ⟨q11, h⟩ := h
      obtain ⟨w2, hw11⟩ : ∃ u, u = setAll w1 p10 [(Value.bool false)] 0 := ⟨_, rfl⟩
      replace h := h w2 hw11
      refine wpR_skp (w' := w2) rfl rfl ((x_store (v := (Value.bool false)) rfl rfl rfl SZ_4 (ones (by rfl)) q11).trans (by rw [hw11]; rfl)) ?_
      refine wpR_nil ?_
      refine wpC_seq ?_
      refine wpC_seq ?_
      refine wpC_cut (fun ρ => ρ 0 = (Value.pointer p0) ∧ ρ 1 = (Value.int .i64 p1) ∧ True) ⟨e0, e1, trivial⟩ ?_
      rintro ρ ⟨e0, e1, -⟩
      refine wpC_region ?_
      refine wpR_val (v := (Value.pointer p0)) (w' := w2) rfl rfl rfl (x_move (v := (Value.pointer p0)) rfl e0) ?_
      obtain ⟨a12, q12, h⟩ := h
      refine wpR_val (v := (Value.pointer (some a12))) (w' := w2) rfl rfl rfl (x_nilCheck rfl rfl q12) ?_
      refine wpR_val (v := (Value.pointer (some (a12.add 1)))) (w' := w2) rfl rfl rfl (x_fieldAddr rfl rfl FA_53_1) ?_
      obtain ⟨x13, q13, h⟩ := h
      refine wpR_val (v := (Sl.v x13)) (w' := w2) rfl rfl rfl (x_load1 rfl rfl SH_51 q13) ?_
      refine wpR_val (v := (Value.int .i64 (x13.len : Int))) (w' := w2) rfl rfl rfl (x_lenS (s := x13) rfl rfl isSliceT_51) ?_
      refine wpR_val (v := (Value.int .i64 0)) (w' := w2) rfl rfl rfl (x_move (v := (Value.int .i64 0)) rfl rfl) ?_
      refine wpR_nil ?_
      refine wpC_block ?_
      obtain ⟨I14, μ14, hI14, hr14⟩ := h
      refine wpC_loop (fun (x : Int) ρ => ρ 31 = (Value.int .i64 x) ∧ ρ 0 = (Value.pointer p0) ∧ ρ 1 = (Value.int .i64 p1) ∧ ρ 30 = (Value.int .i64 (x13.len : Int)) ∧ True) I14 μ14 0 ⟨rfl, e0, e1, rfl, trivial⟩ hI14 ?_
      rintro l14 ρ w3 ⟨e31, e0, e1, e30, -⟩ h
      replace h := hr14 l14 w3 h
      clear hr14 hI14
      refine wpC_seq ?_
      refine wpC_region ?_
      refine wpR_val (v := (Value.bool (decide (l14 < (x13.len : Int))))) (w' := w3) rfl rfl rfl (x_lss rfl e31 e30) ?_
      refine wpR_nil ?_
      refine wpC_seq ?_
      refine wpC_cond (b := decide (l14 < (x13.len : Int))) rfl (fun hc15 => ?_) (fun hc15 => ?_)
      · replace h := h.1 hc15
        refine wpC_skip ?_
        obtain ⟨J16, h, hk⟩ := h
        refine wpC_seqJ (fun (x : Unit) ρ => ρ 0 = (Value.pointer p0) ∧ ρ 1 = (Value.int .i64 p1) ∧ ρ 30 = (Value.int .i64 (x13.len : Int)) ∧ ρ 31 = (Value.int .i64 l14) ∧ True) J16 ?_ ?_
        · clear hk
          refine wpC_block ?_
          refine wpC_seq ?_
          refine wpC_cut (fun ρ => ρ 0 = (Value.pointer p0) ∧ ρ 1 = (Value.int .i64 p1) ∧ ρ 30 = (Value.int .i64 (x13.len : Int)) ∧ ρ 31 = (Value.int .i64 l14) ∧ True) ⟨e0, e1, e30, e31, trivial⟩ ?_
          rintro ρ ⟨e0, e1, e30, e31, -⟩
          refine wpC_region ?_
          refine wpR_val (v := (Value.int .i64 l14)) (w' := w3) rfl rfl rfl (x_move (v := (Value.int .i64 l14)) rfl e31) ?_
          refine wpR_val (v := (Value.int .i64 l14)) (w' := w3) rfl rfl rfl (x_assign (v := (Value.int .i64 l14)) rfl rfl) ?_
          refine wpR_nil ?_
          refine wpC_seq ?_
          refine wpC_cut (fun ρ => ρ 0 = (Value.pointer p0) ∧ ρ 1 = (Value.int .i64 p1) ∧ ρ 5 = (Value.int .i64 l14) ∧ ρ 30 = (Value.int .i64 (x13.len : Int)) ∧ ρ 31 = (Value.int .i64 l14) ∧ True) ⟨e0, e1, rfl, e30, e31, trivial⟩ ?_
          rintro ρ ⟨e0, e1, e5, e30, e31, -⟩
          refine wpC_region ?_
          refine wpR_val (v := (Value.pointer p0)) (w' := w3) rfl rfl rfl (x_move (v := (Value.pointer p0)) rfl e0) ?_
          obtain ⟨a18, q18, h⟩ := h
          refine wpR_val (v := (Value.pointer (some a18))) (w' := w3) rfl rfl rfl (x_nilCheck rfl rfl q18) ?_
          refine wpR_val (v := (Value.pointer (some (a18.add 1)))) (w' := w3) rfl rfl rfl (x_fieldAddr rfl rfl FA_53_1) ?_
          obtain ⟨x19, q19, h⟩ := h
          refine wpR_val (v := (Sl.v x19)) (w' := w3) rfl rfl rfl (x_load1 rfl rfl SH_51 q19) ?_
          refine wpR_val (v := (Value.int .i64 l14)) (w' := w3) rfl rfl rfl (x_move (v := (Value.int .i64 l14)) rfl e5) ?_
          obtain ⟨q20, z20, r20, h⟩ := h
          generalize hp20 : z20.add ((l14).toNat * 2) = p20 at h
          refine wpR_val (v := (Value.pointer (some p20))) (w' := w3) rfl rfl rfl ((x_indexAddr (s := x19) rfl rfl rfl ES_51 q20 r20).trans (by rw [hp20])) ?_
          refine wpR_val (v := (Value.pointer (some (p20.add 0)))) (w' := w3) rfl rfl rfl (x_fieldAddr rfl rfl FA_55_0) ?_
          obtain ⟨x21, q21, h⟩ := h
          refine wpR_val (v := (Value.int .i64 x21)) (w' := w3) rfl rfl rfl (x_load1 rfl rfl SH_3 q21) ?_
          refine wpR_val (v := (Value.int .i64 p1)) (w' := w3) rfl rfl rfl (x_move (v := (Value.int .i64 p1)) rfl e1) ?_
          refine wpR_val (v := (Value.bool (decide (x21 = p1)))) (w' := w3) rfl rfl rfl (x_eql rfl rfl rfl) ?_
          refine wpR_nil ?_
          refine wpC_cond (b := decide (x21 = p1)) rfl (fun hc22 => ?_) (fun hc22 => ?_)
          · replace h := h.1 hc22
            refine wpC_cut (fun ρ => ρ 0 = (Value.pointer p0) ∧ ρ 1 = (Value.int .i64 p1) ∧ ρ 5 = (Value.int .i64 l14) ∧ ρ 30 = (Value.int .i64 (x13.len : Int)) ∧ ρ 31 = (Value.int .i64 l14) ∧ True) ⟨e0, e1, e5, e30, e31, trivial⟩ ?_
            rintro ρ ⟨e0, e1, e5, e30, e31, -⟩
            refine wpC_region ?_
            refine wpR_val (v := (Value.pointer p0)) (w' := w3) rfl rfl rfl (x_move (v := (Value.pointer p0)) rfl e0) ?_
            obtain ⟨a23, q23, h⟩ := h
            refine wpR_val (v := (Value.pointer (some a23))) (w' := w3) rfl rfl rfl (x_nilCheck rfl rfl q23) ?_
            refine wpR_val (v := (Value.pointer (some (a23.add 1)))) (w' := w3) rfl rfl rfl (x_fieldAddr rfl rfl FA_53_1) ?_
            obtain ⟨x24, q24, h⟩ := h
            refine wpR_val (v := (Sl.v x24)) (w' := w3) rfl rfl rfl (x_load1 rfl rfl SH_51 q24) ?_
            refine wpR_val (v := (Value.int .i64 l14)) (w' := w3) rfl rfl rfl (x_move (v := (Value.int .i64 l14)) rfl e5) ?_
            obtain ⟨q25, z25, r25, h⟩ := h
            generalize hp25 : z25.add ((l14).toNat * 2) = p25 at h
            refine wpR_val (v := (Value.pointer (some p25))) (w' := w3) rfl rfl rfl ((x_indexAddr (s := x24) rfl rfl rfl ES_51 q25 r25).trans (by rw [hp25])) ?_
            refine wpR_val (v := (Value.pointer (some (p25.add 1)))) (w' := w3) rfl rfl rfl (x_fieldAddr rfl rfl FA_55_1) ?_
            obtain ⟨q26, h⟩ := h
            obtain ⟨w5, hw26⟩ : ∃ u, u = setAll w3 (p25.add 1) [(Value.string (ByteArray.mk #[]))] 0 := ⟨_, rfl⟩
            replace h := h w5 hw26
            refine wpR_skp (w' := w5) rfl rfl ((x_store (v := (Value.string (ByteArray.mk #[]))) rfl rfl rfl SZ_9 (ones (by rfl)) q26).trans (by rw [hw26]; rfl)) ?_
            refine wpR_nil ?_
            exact ⟨(), ⟨e0, e1, e30, e31, trivial⟩, h⟩
          · replace h := h.2 hc22
            refine wpC_skip ?_
            exact ⟨(), ⟨e0, e1, e30, e31, trivial⟩, h⟩
        clear h
        rintro l17 ρ w4 ⟨e0, e1, e30, e31, -⟩ h
        replace h := hk l17 w4 h
        clear hk
        refine wpC_region ?_
        refine wpR_val (v := (Value.int .i64 (IntKind.i64.wrap (l14 + 1)))) (w' := w4) rfl rfl rfl (x_add rfl e31 rfl) ?_
        refine wpR_val (v := (Value.int .i64 (IntKind.i64.wrap (l14 + 1)))) (w' := w4) rfl rfl rfl (x_move (v := (Value.int .i64 (IntKind.i64.wrap (l14 + 1)))) rfl rfl) ?_
        refine wpR_nil ?_
        exact ⟨IntKind.i64.wrap (l14 + 1), ⟨rfl, e0, e1, e30, trivial⟩, h⟩
      · replace h := h.2 hc15
        refine wpC_exit ?_
        refine wpC_seq ?_
        refine wpC_cut (fun ρ => True) trivial ?_
        rintro ρ -
        refine wpC_region ?_
        refine wpR_val (v := (Value.int .i64 0)) (w' := w3) rfl rfl rfl (x_assign (v := (Value.int .i64 0)) rfl rfl) ?_
        refine wpR_nil ?_
        refine wpC_ret ?_
        exact ⟨.inl rfl, fun a ha => ⟨_, results_rep1 rfl ha rfl, 0, rfl, h⟩⟩

/-- lingualaw05.do -/
def F11 (p0 : Option Addr) (p1_0 : Int) (p1_1 : Int) (p1_2 : Int) (p1_3 : ByteArray) (w0 : World) (K : (Int × ByteArray × Int) → World → Prop) : Prop :=
  nw 34 #[(Value.int .i64 p1_0), (Value.int .i64 p1_1), (Value.int .i64 p1_2), (Value.string p1_3)] w0 fun b1 w1 =>
  nw 31 #[(Value.int .i64 0), (Value.string (ByteArray.mk #[])), (Value.int .i64 0)] w1 fun b2 w2 =>
  ld (Value.int .i64) ((Addr.mk b1 0 none).add 0) w2 fun x3 =>
  cnd (decide (x3 = 0))
    (
    callC Try.prog 17 #[(Value.pointer p0)] (fun (r : Int) => (Value.int .i64 r)) w2 fun r5 w3 =>
    st (Addr.mk b2 0 none) [(Value.int .i64 r5), (Value.string (ByteArray.mk #[])), (Value.int .i64 0)] w3 fun w4 =>
    ld (Value.int .i64) ((Addr.mk b2 0 none).add 0) w4 fun x7 =>
    ld Value.string ((Addr.mk b2 0 none).add 1) w4 fun x8 =>
    ld (Value.int .i64) ((Addr.mk b2 0 none).add 2) w4 fun x9 =>
    K (x7, x8, x9) w4
    )
    (
    cnd (decide (x3 = 1))
      (
      ld (Value.int .i64) ((Addr.mk b1 0 none).add 1) w2 fun x11 =>
      ld Value.string ((Addr.mk b1 0 none).add 3) w2 fun x12 =>
      callC Try.prog 18 #[(Value.pointer p0), (Value.int .i64 x11), (Value.string x12)] (fun (r : Int × Int) => (Value.tuple #[(Value.int .i64 r.1), (Value.int .i64 r.2)])) w2 fun r13 w5 =>
      st (Addr.mk b2 0 none) [(Value.int .i64 r13.1), (Value.string (ByteArray.mk #[])), (Value.int .i64 r13.2)] w5 fun w6 =>
      ld (Value.int .i64) ((Addr.mk b2 0 none).add 0) w6 fun x15 =>
      ld Value.string ((Addr.mk b2 0 none).add 1) w6 fun x16 =>
      ld (Value.int .i64) ((Addr.mk b2 0 none).add 2) w6 fun x17 =>
      K (x15, x16, x17) w6
      )
      (
      cnd (decide (x3 = 2))
        (
        ld (Value.int .i64) ((Addr.mk b1 0 none).add 1) w2 fun x19 =>
        ld (Value.int .i64) ((Addr.mk b1 0 none).add 2) w2 fun x20 =>
        callC Try.prog 15 #[(Value.pointer p0), (Value.int .i64 x19), (Value.int .i64 x20)] (fun (r : ByteArray × Int) => (Value.tuple #[(Value.string r.1), (Value.int .i64 r.2)])) w2 fun r21 w7 =>
        st (Addr.mk b2 0 none) [(Value.int .i64 0), (Value.string r21.1), (Value.int .i64 r21.2)] w7 fun w8 =>
        ld (Value.int .i64) ((Addr.mk b2 0 none).add 0) w8 fun x23 =>
        ld Value.string ((Addr.mk b2 0 none).add 1) w8 fun x24 =>
        ld (Value.int .i64) ((Addr.mk b2 0 none).add 2) w8 fun x25 =>
        K (x23, x24, x25) w8
        )
        (
        cnd (decide (x3 = 3))
          (
          ld (Value.int .i64) ((Addr.mk b1 0 none).add 1) w2 fun x27 =>
          callC Try.prog 19 #[(Value.pointer p0), (Value.int .i64 x27)] (fun (r : Int) => (Value.int .i64 r)) w2 fun r28 w9 =>
          st (Addr.mk b2 0 none) [(Value.int .i64 0), (Value.string (ByteArray.mk #[])), (Value.int .i64 r28)] w9 fun w10 =>
          ld (Value.int .i64) ((Addr.mk b2 0 none).add 0) w10 fun x30 =>
          ld Value.string ((Addr.mk b2 0 none).add 1) w10 fun x31 =>
          ld (Value.int .i64) ((Addr.mk b2 0 none).add 2) w10 fun x32 =>
          K (x30, x31, x32) w10
          )
          (
          st (Addr.mk b2 0 none) [(Value.int .i64 0), (Value.string (ByteArray.mk #[])), (Value.int .i64 0)] w2 fun w11 =>
          ld (Value.int .i64) ((Addr.mk b2 0 none).add 0) w11 fun x34 =>
          ld Value.string ((Addr.mk b2 0 none).add 1) w11 fun x35 =>
          ld (Value.int .i64) ((Addr.mk b2 0 none).add 2) w11 fun x36 =>
          K (x34, x35, x36) w11
          )
        )
      )
    )
set_option maxRecDepth 100000 in
theorem D11 (p0 : Option Addr) (p1_0 : Int) (p1_1 : Int) (p1_2 : Int) (p1_3 : ByteArray) (w0 : World) (K : (Int × ByteArray × Int) → World → Prop) (h : F11 p0 p1_0 p1_1 p1_2 p1_3 w0 K) : callC Try.prog 11 #[(Value.pointer p0), (Value.agg #[(Value.int .i64 p1_0), (Value.int .i64 p1_1), (Value.int .i64 p1_2), (Value.string p1_3)])] (fun (r : Int × ByteArray × Int) => (Value.agg #[(Value.int .i64 r.1), (Value.string r.2.1), (Value.int .i64 r.2.2)])) w0 K := by
  unfold F11 at h
  refine calls_of_wpC Try.func11 rfl 52 rfl (by simp) ?_
  intro ρ hρ
  have e0 : ρ 0 = (Value.pointer p0) := hρ 0
  have e1 : ρ 1 = (Value.agg #[(Value.int .i64 p1_0), (Value.int .i64 p1_1), (Value.int .i64 p1_2), (Value.string p1_3)]) := hρ 1
  clear hρ
  refine wpC_seq ?_
  refine wpC_region ?_
  obtain ⟨b1, hb1⟩ : ∃ u, u = w0.heap.size := ⟨_, rfl⟩
  obtain ⟨w1, hw1⟩ : ∃ u, u = w0.alloc (.cells #[(Value.int .i64 p1_0), (Value.int .i64 p1_1), (Value.int .i64 p1_2), (Value.string p1_3)] 34) := ⟨_, rfl⟩
  replace h := h b1 w1 hb1 hw1
  refine wpR_val (v := (Value.pointer (some (Addr.mk b1 0 none)))) (w' := w1) rfl rfl rfl ((x_box (v := (Value.agg #[(Value.int .i64 p1_0), (Value.int .i64 p1_1), (Value.int .i64 p1_2), (Value.string p1_3)])) rfl e1).trans (by rw [hb1, hw1]; rfl)) ?_
  obtain ⟨b2, hb2⟩ : ∃ u, u = w1.heap.size := ⟨_, rfl⟩
  obtain ⟨w2, hw2⟩ : ∃ u, u = w1.alloc (.cells #[(Value.int .i64 0), (Value.string (ByteArray.mk #[])), (Value.int .i64 0)] 31) := ⟨_, rfl⟩
  replace h := h b2 w2 hb2 hw2
  refine wpR_val (v := (Value.pointer (some (Addr.mk b2 0 none)))) (w' := w2) rfl rfl rfl ((x_alloc rfl ZV_31).trans (by rw [hb2, hw2]; rfl)) ?_
  refine wpR_nil ?_
  refine wpC_seq ?_
  refine wpC_seq ?_
  refine wpC_cut (fun ρ => ρ 0 = (Value.pointer p0) ∧ ρ 3 = (Value.pointer (some (Addr.mk b1 0 none))) ∧ ρ 4 = (Value.pointer (some (Addr.mk b2 0 none))) ∧ True) ⟨e0, rfl, rfl, trivial⟩ ?_
  rintro ρ ⟨e0, e3, e4, -⟩
  refine wpC_region ?_
  refine wpR_val (v := (Value.pointer (some ((Addr.mk b1 0 none).add 0)))) (w' := w2) rfl rfl rfl (x_fieldAddr rfl e3 FA_34_0) ?_
  obtain ⟨x3, q3, h⟩ := h
  refine wpR_val (v := (Value.int .i64 x3)) (w' := w2) rfl rfl rfl (x_load1 rfl rfl SH_3 q3) ?_
  refine wpR_nil ?_
  refine wpC_block ?_
  refine wpC_seq ?_
  refine wpC_cut (fun ρ => ρ 0 = (Value.pointer p0) ∧ ρ 3 = (Value.pointer (some (Addr.mk b1 0 none))) ∧ ρ 4 = (Value.pointer (some (Addr.mk b2 0 none))) ∧ ρ 10 = (Value.int .i64 x3) ∧ True) ⟨e0, e3, e4, rfl, trivial⟩ ?_
  rintro ρ ⟨e0, e3, e4, e10, -⟩
  refine wpC_region ?_
  refine wpR_val (v := (Value.bool (decide (x3 = 0)))) (w' := w2) rfl rfl rfl (x_eql rfl e10 rfl) ?_
  refine wpR_val (v := (Value.bool (decide (x3 = 0)))) (w' := w2) rfl rfl rfl (x_assign (v := (Value.bool (decide (x3 = 0)))) rfl rfl) ?_
  refine wpR_nil ?_
  refine wpC_cond (b := decide (x3 = 0)) rfl (fun hc4 => ?_) (fun hc4 => ?_)
  · replace h := h.1 hc4
    refine wpC_seq ?_
    refine wpC_cut (fun ρ => ρ 0 = (Value.pointer p0) ∧ ρ 4 = (Value.pointer (some (Addr.mk b2 0 none))) ∧ True) ⟨e0, e4, trivial⟩ ?_
    rintro ρ ⟨e0, e4, -⟩
    refine wpC_region ?_
    refine wpR_val (v := (Value.pointer p0)) (w' := w2) rfl rfl rfl (x_move (v := (Value.pointer p0)) rfl e0) ?_
    refine wpR_enter rfl rfl rfl (x_call (vs := [(Value.pointer p0)]) rfl rfl (by rfl) Try.func17 NN_17 NB_17) (Calls.mono h ?_)
    rintro _ w3 ⟨r5, rfl, h⟩
    refine ⟨_, rfl, ?_⟩
    refine wpR_val (v := (Value.agg #[(Value.int .i64 r5), (Value.string (ByteArray.mk #[])), (Value.int .i64 0)])) (w' := w3) rfl rfl rfl (x_build (qs := [(0, (Value.int .i64 r5))]) rfl (by rfl) (BD_31_0 r5 _)) ?_
    obtain ⟨q6, h⟩ := h
    obtain ⟨w4, hw6⟩ : ∃ u, u = setAll w3 (Addr.mk b2 0 none) [(Value.int .i64 r5), (Value.string (ByteArray.mk #[])), (Value.int .i64 0)] 0 := ⟨_, rfl⟩
    replace h := h w4 hw6
    refine wpR_skp (w' := w4) rfl rfl ((x_store (v := (Value.agg #[(Value.int .i64 r5), (Value.string (ByteArray.mk #[])), (Value.int .i64 0)])) rfl e4 rfl SZ_31 (ones (by rfl)) q6).trans (by rw [hw6]; rfl)) ?_
    refine wpR_nil ?_
    refine wpC_ret ?_
    obtain ⟨x7, q7, h⟩ := h
    obtain ⟨x8, q8, h⟩ := h
    obtain ⟨x9, q9, h⟩ := h
    exact ⟨.inl rfl, fun a ha => ⟨_, results_repC [(Value.int .i64 x7), (Value.string x8), (Value.int .i64 x9)] rfl ha e4 SH_31 (CellsAt.out (CellsAt.cons q7 (CellsAt.cons q8 (CellsAt.cons q9 CellsAt.nil)))), (x7, x8, x9), rfl, h⟩⟩
  · replace h := h.2 hc4
    refine wpC_seq ?_
    refine wpC_cut (fun ρ => ρ 0 = (Value.pointer p0) ∧ ρ 3 = (Value.pointer (some (Addr.mk b1 0 none))) ∧ ρ 4 = (Value.pointer (some (Addr.mk b2 0 none))) ∧ ρ 10 = (Value.int .i64 x3) ∧ True) ⟨e0, e3, e4, e10, trivial⟩ ?_
    rintro ρ ⟨e0, e3, e4, e10, -⟩
    refine wpC_region ?_
    refine wpR_val (v := (Value.bool (decide (x3 = 1)))) (w' := w2) rfl rfl rfl (x_eql rfl e10 rfl) ?_
    refine wpR_val (v := (Value.bool (decide (x3 = 1)))) (w' := w2) rfl rfl rfl (x_assign (v := (Value.bool (decide (x3 = 1)))) rfl rfl) ?_
    refine wpR_nil ?_
    refine wpC_cond (b := decide (x3 = 1)) rfl (fun hc10 => ?_) (fun hc10 => ?_)
    · replace h := h.1 hc10
      refine wpC_seq ?_
      refine wpC_cut (fun ρ => ρ 0 = (Value.pointer p0) ∧ ρ 3 = (Value.pointer (some (Addr.mk b1 0 none))) ∧ ρ 4 = (Value.pointer (some (Addr.mk b2 0 none))) ∧ True) ⟨e0, e3, e4, trivial⟩ ?_
      rintro ρ ⟨e0, e3, e4, -⟩
      refine wpC_region ?_
      refine wpR_val (v := (Value.pointer p0)) (w' := w2) rfl rfl rfl (x_move (v := (Value.pointer p0)) rfl e0) ?_
      refine wpR_val (v := (Value.pointer (some ((Addr.mk b1 0 none).add 1)))) (w' := w2) rfl rfl rfl (x_fieldAddr rfl e3 FA_34_1) ?_
      obtain ⟨x11, q11, h⟩ := h
      refine wpR_val (v := (Value.int .i64 x11)) (w' := w2) rfl rfl rfl (x_load1 rfl rfl SH_3 q11) ?_
      refine wpR_val (v := (Value.pointer (some ((Addr.mk b1 0 none).add 3)))) (w' := w2) rfl rfl rfl (x_fieldAddr rfl e3 FA_34_3) ?_
      obtain ⟨x12, q12, h⟩ := h
      refine wpR_val (v := (Value.string x12)) (w' := w2) rfl rfl rfl (x_load1 rfl rfl SH_9 q12) ?_
      refine wpR_enter rfl rfl rfl (x_call (vs := [(Value.pointer p0), (Value.int .i64 x11), (Value.string x12)]) rfl rfl (by rfl) Try.func18 NN_18 NB_18) (Calls.mono h ?_)
      rintro _ w5 ⟨r13, rfl, h⟩
      refine ⟨_, rfl, ?_⟩
      refine wpR_val (v := (Value.tuple #[(Value.int .i64 r13.1), (Value.int .i64 r13.2)])) (w' := w5) rfl rfl rfl (x_move (v := (Value.tuple #[(Value.int .i64 r13.1), (Value.int .i64 r13.2)])) rfl rfl) ?_
      refine wpR_val (v := (Value.int .i64 r13.1)) (w' := w5) rfl rfl rfl (x_extract rfl rfl rfl) ?_
      refine wpR_val (v := (Value.int .i64 r13.2)) (w' := w5) rfl rfl rfl (x_extract rfl rfl rfl) ?_
      refine wpR_val (v := (Value.int .i64 r13.1)) (w' := w5) rfl rfl rfl (x_assign (v := (Value.int .i64 r13.1)) rfl rfl) ?_
      refine wpR_val (v := (Value.int .i64 r13.2)) (w' := w5) rfl rfl rfl (x_assign (v := (Value.int .i64 r13.2)) rfl rfl) ?_
      refine wpR_nil ?_
      refine wpC_seq ?_
      refine wpC_cut (fun ρ => ρ 4 = (Value.pointer (some (Addr.mk b2 0 none))) ∧ ρ 5 = (Value.int .i64 r13.1) ∧ ρ 6 = (Value.int .i64 r13.2) ∧ True) ⟨e4, rfl, rfl, trivial⟩ ?_
      rintro ρ ⟨e4, e5, e6, -⟩
      refine wpC_region ?_
      refine wpR_val (v := (Value.int .i64 r13.1)) (w' := w5) rfl rfl rfl (x_move (v := (Value.int .i64 r13.1)) rfl e5) ?_
      refine wpR_val (v := (Value.int .i64 r13.2)) (w' := w5) rfl rfl rfl (x_move (v := (Value.int .i64 r13.2)) rfl e6) ?_
      refine wpR_val (v := (Value.agg #[(Value.int .i64 r13.1), (Value.string (ByteArray.mk #[])), (Value.int .i64 r13.2)])) (w' := w5) rfl rfl rfl (x_build (qs := [(0, (Value.int .i64 r13.1)), (2, (Value.int .i64 r13.2))]) rfl (by rfl) (BD_31_0_2 r13.1 r13.2 _)) ?_
      obtain ⟨q14, h⟩ := h
      obtain ⟨w6, hw14⟩ : ∃ u, u = setAll w5 (Addr.mk b2 0 none) [(Value.int .i64 r13.1), (Value.string (ByteArray.mk #[])), (Value.int .i64 r13.2)] 0 := ⟨_, rfl⟩
      replace h := h w6 hw14
      refine wpR_skp (w' := w6) rfl rfl ((x_store (v := (Value.agg #[(Value.int .i64 r13.1), (Value.string (ByteArray.mk #[])), (Value.int .i64 r13.2)])) rfl e4 rfl SZ_31 (ones (by rfl)) q14).trans (by rw [hw14]; rfl)) ?_
      refine wpR_nil ?_
      refine wpC_ret ?_
      obtain ⟨x15, q15, h⟩ := h
      obtain ⟨x16, q16, h⟩ := h
      obtain ⟨x17, q17, h⟩ := h
      exact ⟨.inl rfl, fun a ha => ⟨_, results_repC [(Value.int .i64 x15), (Value.string x16), (Value.int .i64 x17)] rfl ha e4 SH_31 (CellsAt.out (CellsAt.cons q15 (CellsAt.cons q16 (CellsAt.cons q17 CellsAt.nil)))), (x15, x16, x17), rfl, h⟩⟩
    · replace h := h.2 hc10
      refine wpC_seq ?_
      refine wpC_cut (fun ρ => ρ 0 = (Value.pointer p0) ∧ ρ 3 = (Value.pointer (some (Addr.mk b1 0 none))) ∧ ρ 4 = (Value.pointer (some (Addr.mk b2 0 none))) ∧ ρ 10 = (Value.int .i64 x3) ∧ True) ⟨e0, e3, e4, e10, trivial⟩ ?_
      rintro ρ ⟨e0, e3, e4, e10, -⟩
      refine wpC_region ?_
      refine wpR_val (v := (Value.bool (decide (x3 = 2)))) (w' := w2) rfl rfl rfl (x_eql rfl e10 rfl) ?_
      refine wpR_val (v := (Value.bool (decide (x3 = 2)))) (w' := w2) rfl rfl rfl (x_assign (v := (Value.bool (decide (x3 = 2)))) rfl rfl) ?_
      refine wpR_nil ?_
      refine wpC_cond (b := decide (x3 = 2)) rfl (fun hc18 => ?_) (fun hc18 => ?_)
      · replace h := h.1 hc18
        refine wpC_seq ?_
        refine wpC_cut (fun ρ => ρ 0 = (Value.pointer p0) ∧ ρ 3 = (Value.pointer (some (Addr.mk b1 0 none))) ∧ ρ 4 = (Value.pointer (some (Addr.mk b2 0 none))) ∧ True) ⟨e0, e3, e4, trivial⟩ ?_
        rintro ρ ⟨e0, e3, e4, -⟩
        refine wpC_region ?_
        refine wpR_val (v := (Value.pointer p0)) (w' := w2) rfl rfl rfl (x_move (v := (Value.pointer p0)) rfl e0) ?_
        refine wpR_val (v := (Value.pointer (some ((Addr.mk b1 0 none).add 1)))) (w' := w2) rfl rfl rfl (x_fieldAddr rfl e3 FA_34_1) ?_
        obtain ⟨x19, q19, h⟩ := h
        refine wpR_val (v := (Value.int .i64 x19)) (w' := w2) rfl rfl rfl (x_load1 rfl rfl SH_3 q19) ?_
        refine wpR_val (v := (Value.pointer (some ((Addr.mk b1 0 none).add 2)))) (w' := w2) rfl rfl rfl (x_fieldAddr rfl e3 FA_34_2) ?_
        obtain ⟨x20, q20, h⟩ := h
        refine wpR_val (v := (Value.int .i64 x20)) (w' := w2) rfl rfl rfl (x_load1 rfl rfl SH_3 q20) ?_
        refine wpR_enter rfl rfl rfl (x_call (vs := [(Value.pointer p0), (Value.int .i64 x19), (Value.int .i64 x20)]) rfl rfl (by rfl) Try.func15 NN_15 NB_15) (Calls.mono h ?_)
        rintro _ w7 ⟨r21, rfl, h⟩
        refine ⟨_, rfl, ?_⟩
        refine wpR_val (v := (Value.tuple #[(Value.string r21.1), (Value.int .i64 r21.2)])) (w' := w7) rfl rfl rfl (x_move (v := (Value.tuple #[(Value.string r21.1), (Value.int .i64 r21.2)])) rfl rfl) ?_
        refine wpR_val (v := (Value.string r21.1)) (w' := w7) rfl rfl rfl (x_extract rfl rfl rfl) ?_
        refine wpR_val (v := (Value.int .i64 r21.2)) (w' := w7) rfl rfl rfl (x_extract rfl rfl rfl) ?_
        refine wpR_val (v := (Value.string r21.1)) (w' := w7) rfl rfl rfl (x_assign (v := (Value.string r21.1)) rfl rfl) ?_
        refine wpR_val (v := (Value.int .i64 r21.2)) (w' := w7) rfl rfl rfl (x_assign (v := (Value.int .i64 r21.2)) rfl rfl) ?_
        refine wpR_nil ?_
        refine wpC_seq ?_
        refine wpC_cut (fun ρ => ρ 4 = (Value.pointer (some (Addr.mk b2 0 none))) ∧ ρ 7 = (Value.string r21.1) ∧ ρ 8 = (Value.int .i64 r21.2) ∧ True) ⟨e4, rfl, rfl, trivial⟩ ?_
        rintro ρ ⟨e4, e7, e8, -⟩
        refine wpC_region ?_
        refine wpR_val (v := (Value.string r21.1)) (w' := w7) rfl rfl rfl (x_move (v := (Value.string r21.1)) rfl e7) ?_
        refine wpR_val (v := (Value.int .i64 r21.2)) (w' := w7) rfl rfl rfl (x_move (v := (Value.int .i64 r21.2)) rfl e8) ?_
        refine wpR_val (v := (Value.agg #[(Value.int .i64 0), (Value.string r21.1), (Value.int .i64 r21.2)])) (w' := w7) rfl rfl rfl (x_build (qs := [(1, (Value.string r21.1)), (2, (Value.int .i64 r21.2))]) rfl (by rfl) (BD_31_1_2 r21.1 r21.2 _)) ?_
        obtain ⟨q22, h⟩ := h
        obtain ⟨w8, hw22⟩ : ∃ u, u = setAll w7 (Addr.mk b2 0 none) [(Value.int .i64 0), (Value.string r21.1), (Value.int .i64 r21.2)] 0 := ⟨_, rfl⟩
        replace h := h w8 hw22
        refine wpR_skp (w' := w8) rfl rfl ((x_store (v := (Value.agg #[(Value.int .i64 0), (Value.string r21.1), (Value.int .i64 r21.2)])) rfl e4 rfl SZ_31 (ones (by rfl)) q22).trans (by rw [hw22]; rfl)) ?_
        refine wpR_nil ?_
        refine wpC_ret ?_
        obtain ⟨x23, q23, h⟩ := h
        obtain ⟨x24, q24, h⟩ := h
        obtain ⟨x25, q25, h⟩ := h
        exact ⟨.inl rfl, fun a ha => ⟨_, results_repC [(Value.int .i64 x23), (Value.string x24), (Value.int .i64 x25)] rfl ha e4 SH_31 (CellsAt.out (CellsAt.cons q23 (CellsAt.cons q24 (CellsAt.cons q25 CellsAt.nil)))), (x23, x24, x25), rfl, h⟩⟩
      · replace h := h.2 hc18
        refine wpC_seq ?_
        refine wpC_cut (fun ρ => ρ 0 = (Value.pointer p0) ∧ ρ 3 = (Value.pointer (some (Addr.mk b1 0 none))) ∧ ρ 4 = (Value.pointer (some (Addr.mk b2 0 none))) ∧ ρ 10 = (Value.int .i64 x3) ∧ True) ⟨e0, e3, e4, e10, trivial⟩ ?_
        rintro ρ ⟨e0, e3, e4, e10, -⟩
        refine wpC_region ?_
        refine wpR_val (v := (Value.bool (decide (x3 = 3)))) (w' := w2) rfl rfl rfl (x_eql rfl e10 rfl) ?_
        refine wpR_val (v := (Value.bool (decide (x3 = 3)))) (w' := w2) rfl rfl rfl (x_assign (v := (Value.bool (decide (x3 = 3)))) rfl rfl) ?_
        refine wpR_nil ?_
        refine wpC_cond (b := decide (x3 = 3)) rfl (fun hc26 => ?_) (fun hc26 => ?_)
        · replace h := h.1 hc26
          refine wpC_seq ?_
          refine wpC_cut (fun ρ => ρ 0 = (Value.pointer p0) ∧ ρ 3 = (Value.pointer (some (Addr.mk b1 0 none))) ∧ ρ 4 = (Value.pointer (some (Addr.mk b2 0 none))) ∧ True) ⟨e0, e3, e4, trivial⟩ ?_
          rintro ρ ⟨e0, e3, e4, -⟩
          refine wpC_region ?_
          refine wpR_val (v := (Value.pointer p0)) (w' := w2) rfl rfl rfl (x_move (v := (Value.pointer p0)) rfl e0) ?_
          refine wpR_val (v := (Value.pointer (some ((Addr.mk b1 0 none).add 1)))) (w' := w2) rfl rfl rfl (x_fieldAddr rfl e3 FA_34_1) ?_
          obtain ⟨x27, q27, h⟩ := h
          refine wpR_val (v := (Value.int .i64 x27)) (w' := w2) rfl rfl rfl (x_load1 rfl rfl SH_3 q27) ?_
          refine wpR_enter rfl rfl rfl (x_call (vs := [(Value.pointer p0), (Value.int .i64 x27)]) rfl rfl (by rfl) Try.func19 NN_19 NB_19) (Calls.mono h ?_)
          rintro _ w9 ⟨r28, rfl, h⟩
          refine ⟨_, rfl, ?_⟩
          refine wpR_val (v := (Value.agg #[(Value.int .i64 0), (Value.string (ByteArray.mk #[])), (Value.int .i64 r28)])) (w' := w9) rfl rfl rfl (x_build (qs := [(2, (Value.int .i64 r28))]) rfl (by rfl) (BD_31_2 r28 _)) ?_
          obtain ⟨q29, h⟩ := h
          obtain ⟨w10, hw29⟩ : ∃ u, u = setAll w9 (Addr.mk b2 0 none) [(Value.int .i64 0), (Value.string (ByteArray.mk #[])), (Value.int .i64 r28)] 0 := ⟨_, rfl⟩
          replace h := h w10 hw29
          refine wpR_skp (w' := w10) rfl rfl ((x_store (v := (Value.agg #[(Value.int .i64 0), (Value.string (ByteArray.mk #[])), (Value.int .i64 r28)])) rfl e4 rfl SZ_31 (ones (by rfl)) q29).trans (by rw [hw29]; rfl)) ?_
          refine wpR_nil ?_
          refine wpC_ret ?_
          obtain ⟨x30, q30, h⟩ := h
          obtain ⟨x31, q31, h⟩ := h
          obtain ⟨x32, q32, h⟩ := h
          exact ⟨.inl rfl, fun a ha => ⟨_, results_repC [(Value.int .i64 x30), (Value.string x31), (Value.int .i64 x32)] rfl ha e4 SH_31 (CellsAt.out (CellsAt.cons q30 (CellsAt.cons q31 (CellsAt.cons q32 CellsAt.nil)))), (x30, x31, x32), rfl, h⟩⟩
        · replace h := h.2 hc26
          refine wpC_skip ?_
          refine wpC_seq ?_
          refine wpC_cut (fun ρ => ρ 4 = (Value.pointer (some (Addr.mk b2 0 none))) ∧ True) ⟨e4, trivial⟩ ?_
          rintro ρ ⟨e4, -⟩
          refine wpC_region ?_
          refine wpR_val (v := (Value.agg #[(Value.int .i64 0), (Value.string (ByteArray.mk #[])), (Value.int .i64 0)])) (w' := w2) rfl rfl rfl (x_build (qs := []) rfl (by rfl) (BD_31_  _)) ?_
          obtain ⟨q33, h⟩ := h
          obtain ⟨w11, hw33⟩ : ∃ u, u = setAll w2 (Addr.mk b2 0 none) [(Value.int .i64 0), (Value.string (ByteArray.mk #[])), (Value.int .i64 0)] 0 := ⟨_, rfl⟩
          replace h := h w11 hw33
          refine wpR_skp (w' := w11) rfl rfl ((x_store (v := (Value.agg #[(Value.int .i64 0), (Value.string (ByteArray.mk #[])), (Value.int .i64 0)])) rfl e4 rfl SZ_31 (ones (by rfl)) q33).trans (by rw [hw33]; rfl)) ?_
          refine wpR_nil ?_
          refine wpC_ret ?_
          obtain ⟨x34, q34, h⟩ := h
          obtain ⟨x35, q35, h⟩ := h
          obtain ⟨x36, q36, h⟩ := h
          exact ⟨.inl rfl, fun a ha => ⟨_, results_repC [(Value.int .i64 x34), (Value.string x35), (Value.int .i64 x36)] rfl ha e4 SH_31 (CellsAt.out (CellsAt.cons q34 (CellsAt.cons q35 (CellsAt.cons q36 CellsAt.nil)))), (x34, x35, x36), rfl, h⟩⟩

/-- linguaref05.New -/
def F10  (w0 : World) (K : (Option Addr) → World → Prop) : Prop :=
  nw 41 #[(Sl.v Sl.nil), (Sl.v Sl.nil), (Sl.v Sl.nil)] w0 fun b1 w1 =>
  K (some (Addr.mk b1 0 none)) w1
set_option maxRecDepth 100000 in
theorem D10  (w0 : World) (K : (Option Addr) → World → Prop) (h : F10  w0 K) : callC Try.prog 10 #[] (fun (r : (Option Addr)) => (Value.pointer r)) w0 K := by
  unfold F10 at h
  refine calls_of_wpC Try.func10 rfl 3 rfl (by simp) ?_
  intro ρ hρ
  clear hρ
  refine wpC_seq ?_
  refine wpC_region ?_
  refine wpR_val (v := (Value.pointer none)) (w' := w0) rfl rfl rfl (x_assign (v := (Value.pointer none)) rfl rfl) ?_
  refine wpR_nil ?_
  refine wpC_seq ?_
  refine wpC_cut (fun ρ => True) trivial ?_
  rintro ρ -
  refine wpC_region ?_
  refine wpR_val (v := (Value.agg #[(Sl.v Sl.nil), (Sl.v Sl.nil), (Sl.v Sl.nil)])) (w' := w0) rfl rfl rfl (x_build (qs := []) rfl (by rfl) (BD_41_  _)) ?_
  obtain ⟨b1, hb1⟩ : ∃ u, u = w0.heap.size := ⟨_, rfl⟩
  obtain ⟨w1, hw1⟩ : ∃ u, u = w0.alloc (.cells #[(Sl.v Sl.nil), (Sl.v Sl.nil), (Sl.v Sl.nil)] 41) := ⟨_, rfl⟩
  replace h := h b1 w1 hb1 hw1
  refine wpR_val (v := (Value.pointer (some (Addr.mk b1 0 none)))) (w' := w1) rfl rfl rfl ((x_box (v := (Value.agg #[(Sl.v Sl.nil), (Sl.v Sl.nil), (Sl.v Sl.nil)])) rfl rfl).trans (by rw [hb1, hw1]; rfl)) ?_
  refine wpR_val (v := (Value.pointer (some (Addr.mk b1 0 none)))) (w' := w1) rfl rfl rfl (x_assign (v := (Value.pointer (some (Addr.mk b1 0 none)))) rfl rfl) ?_
  refine wpR_nil ?_
  refine wpC_ret ?_
  exact ⟨.inl rfl, fun a ha => ⟨_, results_rep1 rfl ha rfl, some (Addr.mk b1 0 none), rfl, h⟩⟩

/-- (*linguaref05.Vault).Do -/
def F12 (p0 : Option Addr) (p1_0 : Int) (p1_1 : Int) (p1_2 : Int) (p1_3 : ByteArray) (w0 : World) (K : (Int × ByteArray × Int) → World → Prop) : Prop :=
  nw 34 #[(Value.int .i64 p1_0), (Value.int .i64 p1_1), (Value.int .i64 p1_2), (Value.string p1_3)] w0 fun b1 w1 =>
  nw 31 #[(Value.int .i64 0), (Value.string (ByteArray.mk #[])), (Value.int .i64 0)] w1 fun b2 w2 =>
  ld (Value.int .i64) ((Addr.mk b1 0 none).add 0) w2 fun x3 =>
  cnd (decide (x3 = 0))
    (
    callC Try.prog 20 #[(Value.pointer p0)] (fun (r : Int) => (Value.int .i64 r)) w2 fun r5 w3 =>
    st (Addr.mk b2 0 none) [(Value.int .i64 r5), (Value.string (ByteArray.mk #[])), (Value.int .i64 0)] w3 fun w4 =>
    ld (Value.int .i64) ((Addr.mk b2 0 none).add 0) w4 fun x7 =>
    ld Value.string ((Addr.mk b2 0 none).add 1) w4 fun x8 =>
    ld (Value.int .i64) ((Addr.mk b2 0 none).add 2) w4 fun x9 =>
    K (x7, x8, x9) w4
    )
    (
    cnd (decide (x3 = 1))
      (
      ld (Value.int .i64) ((Addr.mk b1 0 none).add 1) w2 fun x11 =>
      ld Value.string ((Addr.mk b1 0 none).add 3) w2 fun x12 =>
      callC Try.prog 21 #[(Value.pointer p0), (Value.int .i64 x11), (Value.string x12)] (fun (r : Int × Int) => (Value.tuple #[(Value.int .i64 r.1), (Value.int .i64 r.2)])) w2 fun r13 w5 =>
      st (Addr.mk b2 0 none) [(Value.int .i64 r13.1), (Value.string (ByteArray.mk #[])), (Value.int .i64 r13.2)] w5 fun w6 =>
      ld (Value.int .i64) ((Addr.mk b2 0 none).add 0) w6 fun x15 =>
      ld Value.string ((Addr.mk b2 0 none).add 1) w6 fun x16 =>
      ld (Value.int .i64) ((Addr.mk b2 0 none).add 2) w6 fun x17 =>
      K (x15, x16, x17) w6
      )
      (
      cnd (decide (x3 = 2))
        (
        ld (Value.int .i64) ((Addr.mk b1 0 none).add 1) w2 fun x19 =>
        ld (Value.int .i64) ((Addr.mk b1 0 none).add 2) w2 fun x20 =>
        callC Try.prog 22 #[(Value.pointer p0), (Value.int .i64 x19), (Value.int .i64 x20)] (fun (r : ByteArray × Int) => (Value.tuple #[(Value.string r.1), (Value.int .i64 r.2)])) w2 fun r21 w7 =>
        st (Addr.mk b2 0 none) [(Value.int .i64 0), (Value.string r21.1), (Value.int .i64 r21.2)] w7 fun w8 =>
        ld (Value.int .i64) ((Addr.mk b2 0 none).add 0) w8 fun x23 =>
        ld Value.string ((Addr.mk b2 0 none).add 1) w8 fun x24 =>
        ld (Value.int .i64) ((Addr.mk b2 0 none).add 2) w8 fun x25 =>
        K (x23, x24, x25) w8
        )
        (
        cnd (decide (x3 = 3))
          (
          ld (Value.int .i64) ((Addr.mk b1 0 none).add 1) w2 fun x27 =>
          callC Try.prog 23 #[(Value.pointer p0), (Value.int .i64 x27)] (fun (r : Int) => (Value.int .i64 r)) w2 fun r28 w9 =>
          st (Addr.mk b2 0 none) [(Value.int .i64 0), (Value.string (ByteArray.mk #[])), (Value.int .i64 r28)] w9 fun w10 =>
          ld (Value.int .i64) ((Addr.mk b2 0 none).add 0) w10 fun x30 =>
          ld Value.string ((Addr.mk b2 0 none).add 1) w10 fun x31 =>
          ld (Value.int .i64) ((Addr.mk b2 0 none).add 2) w10 fun x32 =>
          K (x30, x31, x32) w10
          )
          (
          st (Addr.mk b2 0 none) [(Value.int .i64 0), (Value.string (ByteArray.mk #[])), (Value.int .i64 0)] w2 fun w11 =>
          ld (Value.int .i64) ((Addr.mk b2 0 none).add 0) w11 fun x34 =>
          ld Value.string ((Addr.mk b2 0 none).add 1) w11 fun x35 =>
          ld (Value.int .i64) ((Addr.mk b2 0 none).add 2) w11 fun x36 =>
          K (x34, x35, x36) w11
          )
        )
      )
    )
set_option maxRecDepth 100000 in
theorem D12 (p0 : Option Addr) (p1_0 : Int) (p1_1 : Int) (p1_2 : Int) (p1_3 : ByteArray) (w0 : World) (K : (Int × ByteArray × Int) → World → Prop) (h : F12 p0 p1_0 p1_1 p1_2 p1_3 w0 K) : callC Try.prog 12 #[(Value.pointer p0), (Value.agg #[(Value.int .i64 p1_0), (Value.int .i64 p1_1), (Value.int .i64 p1_2), (Value.string p1_3)])] (fun (r : Int × ByteArray × Int) => (Value.agg #[(Value.int .i64 r.1), (Value.string r.2.1), (Value.int .i64 r.2.2)])) w0 K := by
  unfold F12 at h
  refine calls_of_wpC Try.func12 rfl 52 rfl (by simp) ?_
  intro ρ hρ
  have e0 : ρ 0 = (Value.pointer p0) := hρ 0
  have e1 : ρ 1 = (Value.agg #[(Value.int .i64 p1_0), (Value.int .i64 p1_1), (Value.int .i64 p1_2), (Value.string p1_3)]) := hρ 1
  clear hρ
  refine wpC_seq ?_
  refine wpC_region ?_
  obtain ⟨b1, hb1⟩ : ∃ u, u = w0.heap.size := ⟨_, rfl⟩
  obtain ⟨w1, hw1⟩ : ∃ u, u = w0.alloc (.cells #[(Value.int .i64 p1_0), (Value.int .i64 p1_1), (Value.int .i64 p1_2), (Value.string p1_3)] 34) := ⟨_, rfl⟩
  replace h := h b1 w1 hb1 hw1
  refine wpR_val (v := (Value.pointer (some (Addr.mk b1 0 none)))) (w' := w1) rfl rfl rfl ((x_box (v := (Value.agg #[(Value.int .i64 p1_0), (Value.int .i64 p1_1), (Value.int .i64 p1_2), (Value.string p1_3)])) rfl e1).trans (by rw [hb1, hw1]; rfl)) ?_
  obtain ⟨b2, hb2⟩ : ∃ u, u = w1.heap.size := ⟨_, rfl⟩
  obtain ⟨w2, hw2⟩ : ∃ u, u = w1.alloc (.cells #[(Value.int .i64 0), (Value.string (ByteArray.mk #[])), (Value.int .i64 0)] 31) := ⟨_, rfl⟩
  replace h := h b2 w2 hb2 hw2
  refine wpR_val (v := (Value.pointer (some (Addr.mk b2 0 none)))) (w' := w2) rfl rfl rfl ((x_alloc rfl ZV_31).trans (by rw [hb2, hw2]; rfl)) ?_
  refine wpR_nil ?_
  refine wpC_seq ?_
  refine wpC_seq ?_
  refine wpC_cut (fun ρ => ρ 0 = (Value.pointer p0) ∧ ρ 3 = (Value.pointer (some (Addr.mk b1 0 none))) ∧ ρ 4 = (Value.pointer (some (Addr.mk b2 0 none))) ∧ True) ⟨e0, rfl, rfl, trivial⟩ ?_
  rintro ρ ⟨e0, e3, e4, -⟩
  refine wpC_region ?_
  refine wpR_val (v := (Value.pointer (some ((Addr.mk b1 0 none).add 0)))) (w' := w2) rfl rfl rfl (x_fieldAddr rfl e3 FA_34_0) ?_
  obtain ⟨x3, q3, h⟩ := h
  refine wpR_val (v := (Value.int .i64 x3)) (w' := w2) rfl rfl rfl (x_load1 rfl rfl SH_3 q3) ?_
  refine wpR_nil ?_
  refine wpC_block ?_
  refine wpC_seq ?_
  refine wpC_cut (fun ρ => ρ 0 = (Value.pointer p0) ∧ ρ 3 = (Value.pointer (some (Addr.mk b1 0 none))) ∧ ρ 4 = (Value.pointer (some (Addr.mk b2 0 none))) ∧ ρ 10 = (Value.int .i64 x3) ∧ True) ⟨e0, e3, e4, rfl, trivial⟩ ?_
  rintro ρ ⟨e0, e3, e4, e10, -⟩
  refine wpC_region ?_
  refine wpR_val (v := (Value.bool (decide (x3 = 0)))) (w' := w2) rfl rfl rfl (x_eql rfl e10 rfl) ?_
  refine wpR_val (v := (Value.bool (decide (x3 = 0)))) (w' := w2) rfl rfl rfl (x_assign (v := (Value.bool (decide (x3 = 0)))) rfl rfl) ?_
  refine wpR_nil ?_
  refine wpC_cond (b := decide (x3 = 0)) rfl (fun hc4 => ?_) (fun hc4 => ?_)
  · replace h := h.1 hc4
    refine wpC_seq ?_
    refine wpC_cut (fun ρ => ρ 0 = (Value.pointer p0) ∧ ρ 4 = (Value.pointer (some (Addr.mk b2 0 none))) ∧ True) ⟨e0, e4, trivial⟩ ?_
    rintro ρ ⟨e0, e4, -⟩
    refine wpC_region ?_
    refine wpR_val (v := (Value.pointer p0)) (w' := w2) rfl rfl rfl (x_move (v := (Value.pointer p0)) rfl e0) ?_
    refine wpR_enter rfl rfl rfl (x_call (vs := [(Value.pointer p0)]) rfl rfl (by rfl) Try.func20 NN_20 NB_20) (Calls.mono h ?_)
    rintro _ w3 ⟨r5, rfl, h⟩
    refine ⟨_, rfl, ?_⟩
    refine wpR_val (v := (Value.agg #[(Value.int .i64 r5), (Value.string (ByteArray.mk #[])), (Value.int .i64 0)])) (w' := w3) rfl rfl rfl (x_build (qs := [(0, (Value.int .i64 r5))]) rfl (by rfl) (BD_31_0 r5 _)) ?_
    obtain ⟨q6, h⟩ := h
    obtain ⟨w4, hw6⟩ : ∃ u, u = setAll w3 (Addr.mk b2 0 none) [(Value.int .i64 r5), (Value.string (ByteArray.mk #[])), (Value.int .i64 0)] 0 := ⟨_, rfl⟩
    replace h := h w4 hw6
    refine wpR_skp (w' := w4) rfl rfl ((x_store (v := (Value.agg #[(Value.int .i64 r5), (Value.string (ByteArray.mk #[])), (Value.int .i64 0)])) rfl e4 rfl SZ_31 (ones (by rfl)) q6).trans (by rw [hw6]; rfl)) ?_
    refine wpR_nil ?_
    refine wpC_ret ?_
    obtain ⟨x7, q7, h⟩ := h
    obtain ⟨x8, q8, h⟩ := h
    obtain ⟨x9, q9, h⟩ := h
    exact ⟨.inl rfl, fun a ha => ⟨_, results_repC [(Value.int .i64 x7), (Value.string x8), (Value.int .i64 x9)] rfl ha e4 SH_31 (CellsAt.out (CellsAt.cons q7 (CellsAt.cons q8 (CellsAt.cons q9 CellsAt.nil)))), (x7, x8, x9), rfl, h⟩⟩
  · replace h := h.2 hc4
    refine wpC_seq ?_
    refine wpC_cut (fun ρ => ρ 0 = (Value.pointer p0) ∧ ρ 3 = (Value.pointer (some (Addr.mk b1 0 none))) ∧ ρ 4 = (Value.pointer (some (Addr.mk b2 0 none))) ∧ ρ 10 = (Value.int .i64 x3) ∧ True) ⟨e0, e3, e4, e10, trivial⟩ ?_
    rintro ρ ⟨e0, e3, e4, e10, -⟩
    refine wpC_region ?_
    refine wpR_val (v := (Value.bool (decide (x3 = 1)))) (w' := w2) rfl rfl rfl (x_eql rfl e10 rfl) ?_
    refine wpR_val (v := (Value.bool (decide (x3 = 1)))) (w' := w2) rfl rfl rfl (x_assign (v := (Value.bool (decide (x3 = 1)))) rfl rfl) ?_
    refine wpR_nil ?_
    refine wpC_cond (b := decide (x3 = 1)) rfl (fun hc10 => ?_) (fun hc10 => ?_)
    · replace h := h.1 hc10
      refine wpC_seq ?_
      refine wpC_cut (fun ρ => ρ 0 = (Value.pointer p0) ∧ ρ 3 = (Value.pointer (some (Addr.mk b1 0 none))) ∧ ρ 4 = (Value.pointer (some (Addr.mk b2 0 none))) ∧ True) ⟨e0, e3, e4, trivial⟩ ?_
      rintro ρ ⟨e0, e3, e4, -⟩
      refine wpC_region ?_
      refine wpR_val (v := (Value.pointer p0)) (w' := w2) rfl rfl rfl (x_move (v := (Value.pointer p0)) rfl e0) ?_
      refine wpR_val (v := (Value.pointer (some ((Addr.mk b1 0 none).add 1)))) (w' := w2) rfl rfl rfl (x_fieldAddr rfl e3 FA_34_1) ?_
      obtain ⟨x11, q11, h⟩ := h
      refine wpR_val (v := (Value.int .i64 x11)) (w' := w2) rfl rfl rfl (x_load1 rfl rfl SH_3 q11) ?_
      refine wpR_val (v := (Value.pointer (some ((Addr.mk b1 0 none).add 3)))) (w' := w2) rfl rfl rfl (x_fieldAddr rfl e3 FA_34_3) ?_
      obtain ⟨x12, q12, h⟩ := h
      refine wpR_val (v := (Value.string x12)) (w' := w2) rfl rfl rfl (x_load1 rfl rfl SH_9 q12) ?_
      refine wpR_enter rfl rfl rfl (x_call (vs := [(Value.pointer p0), (Value.int .i64 x11), (Value.string x12)]) rfl rfl (by rfl) Try.func21 NN_21 NB_21) (Calls.mono h ?_)
      rintro _ w5 ⟨r13, rfl, h⟩
      refine ⟨_, rfl, ?_⟩
      refine wpR_val (v := (Value.tuple #[(Value.int .i64 r13.1), (Value.int .i64 r13.2)])) (w' := w5) rfl rfl rfl (x_move (v := (Value.tuple #[(Value.int .i64 r13.1), (Value.int .i64 r13.2)])) rfl rfl) ?_
      refine wpR_val (v := (Value.int .i64 r13.1)) (w' := w5) rfl rfl rfl (x_extract rfl rfl rfl) ?_
      refine wpR_val (v := (Value.int .i64 r13.2)) (w' := w5) rfl rfl rfl (x_extract rfl rfl rfl) ?_
      refine wpR_val (v := (Value.int .i64 r13.1)) (w' := w5) rfl rfl rfl (x_assign (v := (Value.int .i64 r13.1)) rfl rfl) ?_
      refine wpR_val (v := (Value.int .i64 r13.2)) (w' := w5) rfl rfl rfl (x_assign (v := (Value.int .i64 r13.2)) rfl rfl) ?_
      refine wpR_nil ?_
      refine wpC_seq ?_
      refine wpC_cut (fun ρ => ρ 4 = (Value.pointer (some (Addr.mk b2 0 none))) ∧ ρ 5 = (Value.int .i64 r13.1) ∧ ρ 6 = (Value.int .i64 r13.2) ∧ True) ⟨e4, rfl, rfl, trivial⟩ ?_
      rintro ρ ⟨e4, e5, e6, -⟩
      refine wpC_region ?_
      refine wpR_val (v := (Value.int .i64 r13.1)) (w' := w5) rfl rfl rfl (x_move (v := (Value.int .i64 r13.1)) rfl e5) ?_
      refine wpR_val (v := (Value.int .i64 r13.2)) (w' := w5) rfl rfl rfl (x_move (v := (Value.int .i64 r13.2)) rfl e6) ?_
      refine wpR_val (v := (Value.agg #[(Value.int .i64 r13.1), (Value.string (ByteArray.mk #[])), (Value.int .i64 r13.2)])) (w' := w5) rfl rfl rfl (x_build (qs := [(0, (Value.int .i64 r13.1)), (2, (Value.int .i64 r13.2))]) rfl (by rfl) (BD_31_0_2 r13.1 r13.2 _)) ?_
      obtain ⟨q14, h⟩ := h
      obtain ⟨w6, hw14⟩ : ∃ u, u = setAll w5 (Addr.mk b2 0 none) [(Value.int .i64 r13.1), (Value.string (ByteArray.mk #[])), (Value.int .i64 r13.2)] 0 := ⟨_, rfl⟩
      replace h := h w6 hw14
      refine wpR_skp (w' := w6) rfl rfl ((x_store (v := (Value.agg #[(Value.int .i64 r13.1), (Value.string (ByteArray.mk #[])), (Value.int .i64 r13.2)])) rfl e4 rfl SZ_31 (ones (by rfl)) q14).trans (by rw [hw14]; rfl)) ?_
      refine wpR_nil ?_
      refine wpC_ret ?_
      obtain ⟨x15, q15, h⟩ := h
      obtain ⟨x16, q16, h⟩ := h
      obtain ⟨x17, q17, h⟩ := h
      exact ⟨.inl rfl, fun a ha => ⟨_, results_repC [(Value.int .i64 x15), (Value.string x16), (Value.int .i64 x17)] rfl ha e4 SH_31 (CellsAt.out (CellsAt.cons q15 (CellsAt.cons q16 (CellsAt.cons q17 CellsAt.nil)))), (x15, x16, x17), rfl, h⟩⟩
    · replace h := h.2 hc10
      refine wpC_seq ?_
      refine wpC_cut (fun ρ => ρ 0 = (Value.pointer p0) ∧ ρ 3 = (Value.pointer (some (Addr.mk b1 0 none))) ∧ ρ 4 = (Value.pointer (some (Addr.mk b2 0 none))) ∧ ρ 10 = (Value.int .i64 x3) ∧ True) ⟨e0, e3, e4, e10, trivial⟩ ?_
      rintro ρ ⟨e0, e3, e4, e10, -⟩
      refine wpC_region ?_
      refine wpR_val (v := (Value.bool (decide (x3 = 2)))) (w' := w2) rfl rfl rfl (x_eql rfl e10 rfl) ?_
      refine wpR_val (v := (Value.bool (decide (x3 = 2)))) (w' := w2) rfl rfl rfl (x_assign (v := (Value.bool (decide (x3 = 2)))) rfl rfl) ?_
      refine wpR_nil ?_
      refine wpC_cond (b := decide (x3 = 2)) rfl (fun hc18 => ?_) (fun hc18 => ?_)
      · replace h := h.1 hc18
        refine wpC_seq ?_
        refine wpC_cut (fun ρ => ρ 0 = (Value.pointer p0) ∧ ρ 3 = (Value.pointer (some (Addr.mk b1 0 none))) ∧ ρ 4 = (Value.pointer (some (Addr.mk b2 0 none))) ∧ True) ⟨e0, e3, e4, trivial⟩ ?_
        rintro ρ ⟨e0, e3, e4, -⟩
        refine wpC_region ?_
        refine wpR_val (v := (Value.pointer p0)) (w' := w2) rfl rfl rfl (x_move (v := (Value.pointer p0)) rfl e0) ?_
        refine wpR_val (v := (Value.pointer (some ((Addr.mk b1 0 none).add 1)))) (w' := w2) rfl rfl rfl (x_fieldAddr rfl e3 FA_34_1) ?_
        obtain ⟨x19, q19, h⟩ := h
        refine wpR_val (v := (Value.int .i64 x19)) (w' := w2) rfl rfl rfl (x_load1 rfl rfl SH_3 q19) ?_
        refine wpR_val (v := (Value.pointer (some ((Addr.mk b1 0 none).add 2)))) (w' := w2) rfl rfl rfl (x_fieldAddr rfl e3 FA_34_2) ?_
        obtain ⟨x20, q20, h⟩ := h
        refine wpR_val (v := (Value.int .i64 x20)) (w' := w2) rfl rfl rfl (x_load1 rfl rfl SH_3 q20) ?_
        refine wpR_enter rfl rfl rfl (x_call (vs := [(Value.pointer p0), (Value.int .i64 x19), (Value.int .i64 x20)]) rfl rfl (by rfl) Try.func22 NN_22 NB_22) (Calls.mono h ?_)
        rintro _ w7 ⟨r21, rfl, h⟩
        refine ⟨_, rfl, ?_⟩
        refine wpR_val (v := (Value.tuple #[(Value.string r21.1), (Value.int .i64 r21.2)])) (w' := w7) rfl rfl rfl (x_move (v := (Value.tuple #[(Value.string r21.1), (Value.int .i64 r21.2)])) rfl rfl) ?_
        refine wpR_val (v := (Value.string r21.1)) (w' := w7) rfl rfl rfl (x_extract rfl rfl rfl) ?_
        refine wpR_val (v := (Value.int .i64 r21.2)) (w' := w7) rfl rfl rfl (x_extract rfl rfl rfl) ?_
        refine wpR_val (v := (Value.string r21.1)) (w' := w7) rfl rfl rfl (x_assign (v := (Value.string r21.1)) rfl rfl) ?_
        refine wpR_val (v := (Value.int .i64 r21.2)) (w' := w7) rfl rfl rfl (x_assign (v := (Value.int .i64 r21.2)) rfl rfl) ?_
        refine wpR_nil ?_
        refine wpC_seq ?_
        refine wpC_cut (fun ρ => ρ 4 = (Value.pointer (some (Addr.mk b2 0 none))) ∧ ρ 7 = (Value.string r21.1) ∧ ρ 8 = (Value.int .i64 r21.2) ∧ True) ⟨e4, rfl, rfl, trivial⟩ ?_
        rintro ρ ⟨e4, e7, e8, -⟩
        refine wpC_region ?_
        refine wpR_val (v := (Value.string r21.1)) (w' := w7) rfl rfl rfl (x_move (v := (Value.string r21.1)) rfl e7) ?_
        refine wpR_val (v := (Value.int .i64 r21.2)) (w' := w7) rfl rfl rfl (x_move (v := (Value.int .i64 r21.2)) rfl e8) ?_
        refine wpR_val (v := (Value.agg #[(Value.int .i64 0), (Value.string r21.1), (Value.int .i64 r21.2)])) (w' := w7) rfl rfl rfl (x_build (qs := [(1, (Value.string r21.1)), (2, (Value.int .i64 r21.2))]) rfl (by rfl) (BD_31_1_2 r21.1 r21.2 _)) ?_
        obtain ⟨q22, h⟩ := h
        obtain ⟨w8, hw22⟩ : ∃ u, u = setAll w7 (Addr.mk b2 0 none) [(Value.int .i64 0), (Value.string r21.1), (Value.int .i64 r21.2)] 0 := ⟨_, rfl⟩
        replace h := h w8 hw22
        refine wpR_skp (w' := w8) rfl rfl ((x_store (v := (Value.agg #[(Value.int .i64 0), (Value.string r21.1), (Value.int .i64 r21.2)])) rfl e4 rfl SZ_31 (ones (by rfl)) q22).trans (by rw [hw22]; rfl)) ?_
        refine wpR_nil ?_
        refine wpC_ret ?_
        obtain ⟨x23, q23, h⟩ := h
        obtain ⟨x24, q24, h⟩ := h
        obtain ⟨x25, q25, h⟩ := h
        exact ⟨.inl rfl, fun a ha => ⟨_, results_repC [(Value.int .i64 x23), (Value.string x24), (Value.int .i64 x25)] rfl ha e4 SH_31 (CellsAt.out (CellsAt.cons q23 (CellsAt.cons q24 (CellsAt.cons q25 CellsAt.nil)))), (x23, x24, x25), rfl, h⟩⟩
      · replace h := h.2 hc18
        refine wpC_seq ?_
        refine wpC_cut (fun ρ => ρ 0 = (Value.pointer p0) ∧ ρ 3 = (Value.pointer (some (Addr.mk b1 0 none))) ∧ ρ 4 = (Value.pointer (some (Addr.mk b2 0 none))) ∧ ρ 10 = (Value.int .i64 x3) ∧ True) ⟨e0, e3, e4, e10, trivial⟩ ?_
        rintro ρ ⟨e0, e3, e4, e10, -⟩
        refine wpC_region ?_
        refine wpR_val (v := (Value.bool (decide (x3 = 3)))) (w' := w2) rfl rfl rfl (x_eql rfl e10 rfl) ?_
        refine wpR_val (v := (Value.bool (decide (x3 = 3)))) (w' := w2) rfl rfl rfl (x_assign (v := (Value.bool (decide (x3 = 3)))) rfl rfl) ?_
        refine wpR_nil ?_
        refine wpC_cond (b := decide (x3 = 3)) rfl (fun hc26 => ?_) (fun hc26 => ?_)
        · replace h := h.1 hc26
          refine wpC_seq ?_
          refine wpC_cut (fun ρ => ρ 0 = (Value.pointer p0) ∧ ρ 3 = (Value.pointer (some (Addr.mk b1 0 none))) ∧ ρ 4 = (Value.pointer (some (Addr.mk b2 0 none))) ∧ True) ⟨e0, e3, e4, trivial⟩ ?_
          rintro ρ ⟨e0, e3, e4, -⟩
          refine wpC_region ?_
          refine wpR_val (v := (Value.pointer p0)) (w' := w2) rfl rfl rfl (x_move (v := (Value.pointer p0)) rfl e0) ?_
          refine wpR_val (v := (Value.pointer (some ((Addr.mk b1 0 none).add 1)))) (w' := w2) rfl rfl rfl (x_fieldAddr rfl e3 FA_34_1) ?_
          obtain ⟨x27, q27, h⟩ := h
          refine wpR_val (v := (Value.int .i64 x27)) (w' := w2) rfl rfl rfl (x_load1 rfl rfl SH_3 q27) ?_
          refine wpR_enter rfl rfl rfl (x_call (vs := [(Value.pointer p0), (Value.int .i64 x27)]) rfl rfl (by rfl) Try.func23 NN_23 NB_23) (Calls.mono h ?_)
          rintro _ w9 ⟨r28, rfl, h⟩
          refine ⟨_, rfl, ?_⟩
          refine wpR_val (v := (Value.agg #[(Value.int .i64 0), (Value.string (ByteArray.mk #[])), (Value.int .i64 r28)])) (w' := w9) rfl rfl rfl (x_build (qs := [(2, (Value.int .i64 r28))]) rfl (by rfl) (BD_31_2 r28 _)) ?_
          obtain ⟨q29, h⟩ := h
          obtain ⟨w10, hw29⟩ : ∃ u, u = setAll w9 (Addr.mk b2 0 none) [(Value.int .i64 0), (Value.string (ByteArray.mk #[])), (Value.int .i64 r28)] 0 := ⟨_, rfl⟩
          replace h := h w10 hw29
          refine wpR_skp (w' := w10) rfl rfl ((x_store (v := (Value.agg #[(Value.int .i64 0), (Value.string (ByteArray.mk #[])), (Value.int .i64 r28)])) rfl e4 rfl SZ_31 (ones (by rfl)) q29).trans (by rw [hw29]; rfl)) ?_
          refine wpR_nil ?_
          refine wpC_ret ?_
          obtain ⟨x30, q30, h⟩ := h
          obtain ⟨x31, q31, h⟩ := h
          obtain ⟨x32, q32, h⟩ := h
          exact ⟨.inl rfl, fun a ha => ⟨_, results_repC [(Value.int .i64 x30), (Value.string x31), (Value.int .i64 x32)] rfl ha e4 SH_31 (CellsAt.out (CellsAt.cons q30 (CellsAt.cons q31 (CellsAt.cons q32 CellsAt.nil)))), (x30, x31, x32), rfl, h⟩⟩
        · replace h := h.2 hc26
          refine wpC_skip ?_
          refine wpC_seq ?_
          refine wpC_cut (fun ρ => ρ 4 = (Value.pointer (some (Addr.mk b2 0 none))) ∧ True) ⟨e4, trivial⟩ ?_
          rintro ρ ⟨e4, -⟩
          refine wpC_region ?_
          refine wpR_val (v := (Value.agg #[(Value.int .i64 0), (Value.string (ByteArray.mk #[])), (Value.int .i64 0)])) (w' := w2) rfl rfl rfl (x_build (qs := []) rfl (by rfl) (BD_31_  _)) ?_
          obtain ⟨q33, h⟩ := h
          obtain ⟨w11, hw33⟩ : ∃ u, u = setAll w2 (Addr.mk b2 0 none) [(Value.int .i64 0), (Value.string (ByteArray.mk #[])), (Value.int .i64 0)] 0 := ⟨_, rfl⟩
          replace h := h w11 hw33
          refine wpR_skp (w' := w11) rfl rfl ((x_store (v := (Value.agg #[(Value.int .i64 0), (Value.string (ByteArray.mk #[])), (Value.int .i64 0)])) rfl e4 rfl SZ_31 (ones (by rfl)) q33).trans (by rw [hw33]; rfl)) ?_
          refine wpR_nil ?_
          refine wpC_ret ?_
          obtain ⟨x34, q34, h⟩ := h
          obtain ⟨x35, q35, h⟩ := h
          obtain ⟨x36, q36, h⟩ := h
          exact ⟨.inl rfl, fun a ha => ⟨_, results_repC [(Value.int .i64 x34), (Value.string x35), (Value.int .i64 x36)] rfl ha e4 SH_31 (CellsAt.out (CellsAt.cons q34 (CellsAt.cons q35 (CellsAt.cons q36 CellsAt.nil)))), (x34, x35, x36), rfl, h⟩⟩

/-- (*linguaref05.Vault).Key -/
def F20 (p0 : Option Addr) (w0 : World) (K : Int → World → Prop) : Prop :=
  nn p0 fun a1 =>
  ld Sl.v (a1.add 0) w0 fun x2 =>
  nw 4 #[(Value.bool true)] w0 fun b3 w1 =>
  rn Try.prog (Builtin.append_ #[37, 37] 37 #[Sl.v x2, Sl.v (⟨some ⟨b3, 0, none⟩, 1, 1⟩ : Sl)]) Sl.v w1 fun r4 w2 =>
  nn p0 fun a5 =>
  st (a5.add 0) [(Sl.v r4)] w2 fun w3 =>
  nn p0 fun a7 =>
  ld Sl.v (a7.add 0) w3 fun x8 =>
  K (IntKind.i64.wrap ((x8.len : Int) - 1)) w3
set_option maxRecDepth 100000 in
theorem D20 (p0 : Option Addr) (w0 : World) (K : Int → World → Prop) (h : F20 p0 w0 K) : callC Try.prog 20 #[(Value.pointer p0)] (fun (r : Int) => (Value.int .i64 r)) w0 K := by
  unfold F20 at h
  refine calls_of_wpC Try.func20 rfl 18 rfl (by simp) ?_
  intro ρ hρ
  have e0 : ρ 0 = (Value.pointer p0) := hρ 0
  clear hρ
  refine wpC_seq ?_
  refine wpC_region ?_
  refine wpR_val (v := (Value.int .i64 0)) (w' := w0) rfl rfl rfl (x_assign (v := (Value.int .i64 0)) rfl rfl) ?_
  refine wpR_nil ?_
  refine wpC_seq ?_
  refine wpC_cut (fun ρ => ρ 0 = (Value.pointer p0) ∧ True) ⟨e0, trivial⟩ ?_
  rintro ρ ⟨e0, -⟩
  refine wpC_region ?_
  refine wpR_val (v := (Value.pointer p0)) (w' := w0) rfl rfl rfl (x_move (v := (Value.pointer p0)) rfl e0) ?_
  refine wpR_val (v := (Value.pointer p0)) (w' := w0) rfl rfl rfl (x_move (v := (Value.pointer p0)) rfl e0) ?_
  obtain ⟨a1, q1, h⟩ := h
  refine wpR_val (v := (Value.pointer (some a1))) (w' := w0) rfl rfl rfl (x_nilCheck rfl rfl q1) ?_
  refine wpR_val (v := (Value.pointer (some (a1.add 0)))) (w' := w0) rfl rfl rfl (x_fieldAddr rfl rfl FA_41_0) ?_
  obtain ⟨x2, q2, h⟩ := h
  refine wpR_val (v := (Sl.v x2)) (w' := w0) rfl rfl rfl (x_load1 rfl rfl SH_37 q2) ?_
  obtain ⟨b3, hb3⟩ : ∃ u, u = w0.heap.size := ⟨_, rfl⟩
  obtain ⟨w1, hw3⟩ : ∃ u, u = w0.alloc (.cells #[(Value.bool true)] 4) := ⟨_, rfl⟩
  replace h := h b3 w1 hb3 hw3
  refine wpR_val (v := (Sl.v (⟨some ⟨b3, 0, none⟩, 1, 1⟩ : Sl))) (w' := w1) rfl rfl rfl ((x_buildSlice (qs := [(0, (Value.bool true))]) rfl (by rfl) (BS_37_1_0 true)).trans (by rw [← hb3, ← hw3])) ?_
  obtain ⟨r4, w2, q4, h⟩ := h
  refine wpR_val (v := (Sl.v r4)) (w' := w2) rfl rfl rfl (x_append (s := x2) (u := (⟨some ⟨b3, 0, none⟩, 1, 1⟩ : Sl)) rfl rfl rfl rfl q4) ?_
  obtain ⟨a5, q5, h⟩ := h
  refine wpR_val (v := (Value.pointer (some a5))) (w' := w2) rfl rfl rfl (x_nilCheck rfl rfl q5) ?_
  refine wpR_val (v := (Value.pointer (some (a5.add 0)))) (w' := w2) rfl rfl rfl (x_fieldAddr rfl rfl FA_41_0) ?_
  obtain ⟨q6, h⟩ := h
  obtain ⟨w3, hw6⟩ : ∃ u, u = setAll w2 (a5.add 0) [(Sl.v r4)] 0 := ⟨_, rfl⟩
  replace h := h w3 hw6
  refine wpR_skp (w' := w3) rfl rfl ((x_store (v := (Sl.v r4)) rfl rfl rfl SZ_37 (ones (by rfl)) q6).trans (by rw [hw6]; rfl)) ?_
  refine wpR_nil ?_
  refine wpC_seq ?_
  refine wpC_cut (fun ρ => ρ 0 = (Value.pointer p0) ∧ True) ⟨e0, trivial⟩ ?_
  rintro ρ ⟨e0, -⟩
  refine wpC_region ?_
  refine wpR_val (v := (Value.pointer p0)) (w' := w3) rfl rfl rfl (x_move (v := (Value.pointer p0)) rfl e0) ?_
  obtain ⟨a7, q7, h⟩ := h
  refine wpR_val (v := (Value.pointer (some a7))) (w' := w3) rfl rfl rfl (x_nilCheck rfl rfl q7) ?_
  refine wpR_val (v := (Value.pointer (some (a7.add 0)))) (w' := w3) rfl rfl rfl (x_fieldAddr rfl rfl FA_41_0) ?_
  obtain ⟨x8, q8, h⟩ := h
  refine wpR_val (v := (Sl.v x8)) (w' := w3) rfl rfl rfl (x_load1 rfl rfl SH_37 q8) ?_
  refine wpR_val (v := (Value.int .i64 (x8.len : Int))) (w' := w3) rfl rfl rfl (x_lenS (s := x8) rfl rfl isSliceT_37) ?_
  refine wpR_val (v := (Value.int .i64 (IntKind.i64.wrap ((x8.len : Int) - 1)))) (w' := w3) rfl rfl rfl (x_sub rfl rfl rfl) ?_
  refine wpR_val (v := (Value.int .i64 (IntKind.i64.wrap ((x8.len : Int) - 1)))) (w' := w3) rfl rfl rfl (x_assign (v := (Value.int .i64 (IntKind.i64.wrap ((x8.len : Int) - 1)))) rfl rfl) ?_
  refine wpR_nil ?_
  refine wpC_ret ?_
  exact ⟨.inl rfl, fun a ha => ⟨_, results_rep1 rfl ha rfl, IntKind.i64.wrap ((x8.len : Int) - 1), rfl, h⟩⟩

/-- (*linguaref05.Vault).Lock -/
def F21 (p0 : Option Addr) (p1 : Int) (p2 : ByteArray) (w0 : World) (K : (Int × Int) → World → Prop) : Prop :=
  callC Try.prog 27 #[(Value.pointer p0), (Value.int .i64 p1)] (fun (r : Int) => (Value.int .i64 r)) w0 fun r1 w1 =>
  cnd (decide (r1 = 0))
    (
    K (0, 4) w1
    )
    (
    cnd (decide (r1 = 2))
      (
      K (0, 13) w1
      )
      (
      nn p0 fun a4 =>
      ld Sl.v (a4.add 1) w1 fun x5 =>
      nw 3 #[(Value.int .i64 p1)] w1 fun b6 w2 =>
      rn Try.prog (Builtin.append_ #[38, 38] 38 #[Sl.v x5, Sl.v (⟨some ⟨b6, 0, none⟩, 1, 1⟩ : Sl)]) Sl.v w2 fun r7 w3 =>
      nn p0 fun a8 =>
      st (a8.add 1) [(Sl.v r7)] w3 fun w4 =>
      nn p0 fun a10 =>
      ld Sl.v (a10.add 2) w4 fun x11 =>
      nw 9 #[(Value.string p2)] w4 fun b12 w5 =>
      rn Try.prog (Builtin.append_ #[39, 39] 39 #[Sl.v x11, Sl.v (⟨some ⟨b12, 0, none⟩, 1, 1⟩ : Sl)]) Sl.v w5 fun r13 w6 =>
      nn p0 fun a14 =>
      st (a14.add 2) [(Sl.v r13)] w6 fun w7 =>
      nn p0 fun a16 =>
      ld Sl.v (a16.add 1) w7 fun x17 =>
      K (IntKind.i64.wrap ((x17.len : Int) - 1), 0) w7
      )
    )
set_option maxRecDepth 100000 in
theorem D21 (p0 : Option Addr) (p1 : Int) (p2 : ByteArray) (w0 : World) (K : (Int × Int) → World → Prop) (h : F21 p0 p1 p2 w0 K) : callC Try.prog 21 #[(Value.pointer p0), (Value.int .i64 p1), (Value.string p2)] (fun (r : Int × Int) => (Value.tuple #[(Value.int .i64 r.1), (Value.int .i64 r.2)])) w0 K := by
  unfold F21 at h
  refine calls_of_wpC Try.func21 rfl 41 rfl (by simp) ?_
  intro ρ hρ
  have e0 : ρ 0 = (Value.pointer p0) := hρ 0
  have e1 : ρ 1 = (Value.int .i64 p1) := hρ 1
  have e2 : ρ 2 = (Value.string p2) := hρ 2
  clear hρ
  refine wpC_seq ?_
  refine wpC_region ?_
  refine wpR_val (v := (Value.int .i64 0)) (w' := w0) rfl rfl rfl (x_assign (v := (Value.int .i64 0)) rfl rfl) ?_
  refine wpR_val (v := (Value.int .i64 0)) (w' := w0) rfl rfl rfl (x_assign (v := (Value.int .i64 0)) rfl rfl) ?_
  refine wpR_nil ?_
  refine wpC_seq ?_
  refine wpC_seq ?_
  refine wpC_cut (fun ρ => ρ 0 = (Value.pointer p0) ∧ ρ 1 = (Value.int .i64 p1) ∧ ρ 2 = (Value.string p2) ∧ True) ⟨e0, e1, e2, trivial⟩ ?_
  rintro ρ ⟨e0, e1, e2, -⟩
  refine wpC_region ?_
  refine wpR_val (v := (Value.pointer p0)) (w' := w0) rfl rfl rfl (x_move (v := (Value.pointer p0)) rfl e0) ?_
  refine wpR_val (v := (Value.int .i64 p1)) (w' := w0) rfl rfl rfl (x_move (v := (Value.int .i64 p1)) rfl e1) ?_
  refine wpR_enter rfl rfl rfl (x_call (vs := [(Value.pointer p0), (Value.int .i64 p1)]) rfl rfl (by rfl) Try.func27 NN_27 NB_27) (Calls.mono h ?_)
  rintro _ w1 ⟨r1, rfl, h⟩
  refine ⟨_, rfl, ?_⟩
  refine wpR_nil ?_
  refine wpC_block ?_
  refine wpC_seq ?_
  refine wpC_cut (fun ρ => ρ 0 = (Value.pointer p0) ∧ ρ 1 = (Value.int .i64 p1) ∧ ρ 2 = (Value.string p2) ∧ ρ 10 = (Value.int .i64 r1) ∧ True) ⟨e0, e1, e2, rfl, trivial⟩ ?_
  rintro ρ ⟨e0, e1, e2, e10, -⟩
  refine wpC_region ?_
  refine wpR_val (v := (Value.bool (decide (r1 = 0)))) (w' := w1) rfl rfl rfl (x_eql rfl e10 rfl) ?_
  refine wpR_val (v := (Value.bool (decide (r1 = 0)))) (w' := w1) rfl rfl rfl (x_assign (v := (Value.bool (decide (r1 = 0)))) rfl rfl) ?_
  refine wpR_nil ?_
  refine wpC_cond (b := decide (r1 = 0)) rfl (fun hc2 => ?_) (fun hc2 => ?_)
  · replace h := h.1 hc2
    refine wpC_seq ?_
    refine wpC_cut (fun ρ => True) trivial ?_
    rintro ρ -
    refine wpC_region ?_
    refine wpR_val (v := (Value.int .i64 0)) (w' := w1) rfl rfl rfl (x_assign (v := (Value.int .i64 0)) rfl rfl) ?_
    refine wpR_val (v := (Value.int .i64 4)) (w' := w1) rfl rfl rfl (x_assign (v := (Value.int .i64 4)) rfl rfl) ?_
    refine wpR_nil ?_
    refine wpC_ret ?_
    exact ⟨.inl rfl, fun a ha => ⟨_, results_rep2 rfl ha rfl rfl, (0, 4), rfl, h⟩⟩
  · replace h := h.2 hc2
    refine wpC_seq ?_
    refine wpC_cut (fun ρ => ρ 0 = (Value.pointer p0) ∧ ρ 1 = (Value.int .i64 p1) ∧ ρ 2 = (Value.string p2) ∧ ρ 10 = (Value.int .i64 r1) ∧ True) ⟨e0, e1, e2, e10, trivial⟩ ?_
    rintro ρ ⟨e0, e1, e2, e10, -⟩
    refine wpC_region ?_
    refine wpR_val (v := (Value.bool (decide (r1 = 2)))) (w' := w1) rfl rfl rfl (x_eql rfl e10 rfl) ?_
    refine wpR_val (v := (Value.bool (decide (r1 = 2)))) (w' := w1) rfl rfl rfl (x_assign (v := (Value.bool (decide (r1 = 2)))) rfl rfl) ?_
    refine wpR_nil ?_
    refine wpC_cond (b := decide (r1 = 2)) rfl (fun hc3 => ?_) (fun hc3 => ?_)
    · replace h := h.1 hc3
      refine wpC_seq ?_
      refine wpC_cut (fun ρ => True) trivial ?_
      rintro ρ -
      refine wpC_region ?_
      refine wpR_val (v := (Value.int .i64 0)) (w' := w1) rfl rfl rfl (x_assign (v := (Value.int .i64 0)) rfl rfl) ?_
      refine wpR_val (v := (Value.int .i64 13)) (w' := w1) rfl rfl rfl (x_assign (v := (Value.int .i64 13)) rfl rfl) ?_
      refine wpR_nil ?_
      refine wpC_ret ?_
      exact ⟨.inl rfl, fun a ha => ⟨_, results_rep2 rfl ha rfl rfl, (0, 13), rfl, h⟩⟩
    · replace h := h.2 hc3
      refine wpC_skip ?_
      refine wpC_seq ?_
      refine wpC_cut (fun ρ => ρ 0 = (Value.pointer p0) ∧ ρ 1 = (Value.int .i64 p1) ∧ ρ 2 = (Value.string p2) ∧ True) ⟨e0, e1, e2, trivial⟩ ?_
      rintro ρ ⟨e0, e1, e2, -⟩
      refine wpC_region ?_
      refine wpR_val (v := (Value.pointer p0)) (w' := w1) rfl rfl rfl (x_move (v := (Value.pointer p0)) rfl e0) ?_
      refine wpR_val (v := (Value.pointer p0)) (w' := w1) rfl rfl rfl (x_move (v := (Value.pointer p0)) rfl e0) ?_
      obtain ⟨a4, q4, h⟩ := h
      refine wpR_val (v := (Value.pointer (some a4))) (w' := w1) rfl rfl rfl (x_nilCheck rfl rfl q4) ?_
      refine wpR_val (v := (Value.pointer (some (a4.add 1)))) (w' := w1) rfl rfl rfl (x_fieldAddr rfl rfl FA_41_1) ?_
      obtain ⟨x5, q5, h⟩ := h
      refine wpR_val (v := (Sl.v x5)) (w' := w1) rfl rfl rfl (x_load1 rfl rfl SH_38 q5) ?_
      refine wpR_val (v := (Value.int .i64 p1)) (w' := w1) rfl rfl rfl (x_move (v := (Value.int .i64 p1)) rfl e1) ?_
      obtain ⟨b6, hb6⟩ : ∃ u, u = w1.heap.size := ⟨_, rfl⟩
      obtain ⟨w2, hw6⟩ : ∃ u, u = w1.alloc (.cells #[(Value.int .i64 p1)] 3) := ⟨_, rfl⟩
      replace h := h b6 w2 hb6 hw6
      refine wpR_val (v := (Sl.v (⟨some ⟨b6, 0, none⟩, 1, 1⟩ : Sl))) (w' := w2) rfl rfl rfl ((x_buildSlice (qs := [(0, (Value.int .i64 p1))]) rfl (by rfl) (BS_38_1_0 p1)).trans (by rw [← hb6, ← hw6])) ?_
      obtain ⟨r7, w3, q7, h⟩ := h
      refine wpR_val (v := (Sl.v r7)) (w' := w3) rfl rfl rfl (x_append (s := x5) (u := (⟨some ⟨b6, 0, none⟩, 1, 1⟩ : Sl)) rfl rfl rfl rfl q7) ?_
      obtain ⟨a8, q8, h⟩ := h
      refine wpR_val (v := (Value.pointer (some a8))) (w' := w3) rfl rfl rfl (x_nilCheck rfl rfl q8) ?_
      refine wpR_val (v := (Value.pointer (some (a8.add 1)))) (w' := w3) rfl rfl rfl (x_fieldAddr rfl rfl FA_41_1) ?_
      obtain ⟨q9, h⟩ := h
      obtain ⟨w4, hw9⟩ : ∃ u, u = setAll w3 (a8.add 1) [(Sl.v r7)] 0 := ⟨_, rfl⟩
      replace h := h w4 hw9
      refine wpR_skp (w' := w4) rfl rfl ((x_store (v := (Sl.v r7)) rfl rfl rfl SZ_38 (ones (by rfl)) q9).trans (by rw [hw9]; rfl)) ?_
      refine wpR_nil ?_
      refine wpC_seq ?_
      refine wpC_cut (fun ρ => ρ 0 = (Value.pointer p0) ∧ ρ 2 = (Value.string p2) ∧ True) ⟨e0, e2, trivial⟩ ?_
      rintro ρ ⟨e0, e2, -⟩
      refine wpC_region ?_
      refine wpR_val (v := (Value.pointer p0)) (w' := w4) rfl rfl rfl (x_move (v := (Value.pointer p0)) rfl e0) ?_
      refine wpR_val (v := (Value.pointer p0)) (w' := w4) rfl rfl rfl (x_move (v := (Value.pointer p0)) rfl e0) ?_
      obtain ⟨a10, q10, h⟩ := h
      refine wpR_val (v := (Value.pointer (some a10))) (w' := w4) rfl rfl rfl (x_nilCheck rfl rfl q10) ?_
      refine wpR_val (v := (Value.pointer (some (a10.add 2)))) (w' := w4) rfl rfl rfl (x_fieldAddr rfl rfl FA_41_2) ?_
      obtain ⟨x11, q11, h⟩ := h
      refine wpR_val (v := (Sl.v x11)) (w' := w4) rfl rfl rfl (x_load1 rfl rfl SH_39 q11) ?_
      refine wpR_val (v := (Value.string p2)) (w' := w4) rfl rfl rfl (x_move (v := (Value.string p2)) rfl e2) ?_
      obtain ⟨b12, hb12⟩ : ∃ u, u = w4.heap.size := ⟨_, rfl⟩
      obtain ⟨w5, hw12⟩ : ∃ u, u = w4.alloc (.cells #[(Value.string p2)] 9) := ⟨_, rfl⟩
      replace h := h b12 w5 hb12 hw12
      refine wpR_val (v := (Sl.v (⟨some ⟨b12, 0, none⟩, 1, 1⟩ : Sl))) (w' := w5) rfl rfl rfl ((x_buildSlice (qs := [(0, (Value.string p2))]) rfl (by rfl) (BS_39_1_0 p2)).trans (by rw [← hb12, ← hw12])) ?_
      obtain ⟨r13, w6, q13, h⟩ := h
      refine wpR_val (v := (Sl.v r13)) (w' := w6) rfl rfl rfl (x_append (s := x11) (u := (⟨some ⟨b12, 0, none⟩, 1, 1⟩ : Sl)) rfl rfl rfl rfl q13) ?_
      obtain ⟨a14, q14, h⟩ := h
      refine wpR_val (v := (Value.pointer (some a14))) (w' := w6) rfl rfl rfl (x_nilCheck rfl rfl q14) ?_
      refine wpR_val (v := (Value.pointer (some (a14.add 2)))) (w' := w6) rfl rfl rfl (x_fieldAddr rfl rfl FA_41_2) ?_
      obtain ⟨q15, h⟩ := h
      obtain ⟨w7, hw15⟩ : ∃ u, u = setAll w6 (a14.add 2) [(Sl.v r13)] 0 := ⟨_, rfl⟩
      replace h := h w7 hw15
      refine wpR_skp (w' := w7) rfl rfl ((x_store (v := (Sl.v r13)) rfl rfl rfl SZ_39 (ones (by rfl)) q15).trans (by rw [hw15]; rfl)) ?_
      refine wpR_nil ?_
      refine wpC_seq ?_
      refine wpC_cut (fun ρ => ρ 0 = (Value.pointer p0) ∧ True) ⟨e0, trivial⟩ ?_
      rintro ρ ⟨e0, -⟩
      refine wpC_region ?_
      refine wpR_val (v := (Value.pointer p0)) (w' := w7) rfl rfl rfl (x_move (v := (Value.pointer p0)) rfl e0) ?_
      obtain ⟨a16, q16, h⟩ := h
      refine wpR_val (v := (Value.pointer (some a16))) (w' := w7) rfl rfl rfl (x_nilCheck rfl rfl q16) ?_
      refine wpR_val (v := (Value.pointer (some (a16.add 1)))) (w' := w7) rfl rfl rfl (x_fieldAddr rfl rfl FA_41_1) ?_
      obtain ⟨x17, q17, h⟩ := h
      refine wpR_val (v := (Sl.v x17)) (w' := w7) rfl rfl rfl (x_load1 rfl rfl SH_38 q17) ?_
      refine wpR_val (v := (Value.int .i64 (x17.len : Int))) (w' := w7) rfl rfl rfl (x_lenS (s := x17) rfl rfl isSliceT_38) ?_
      refine wpR_val (v := (Value.int .i64 (IntKind.i64.wrap ((x17.len : Int) - 1)))) (w' := w7) rfl rfl rfl (x_sub rfl rfl rfl) ?_
      refine wpR_val (v := (Value.int .i64 (IntKind.i64.wrap ((x17.len : Int) - 1)))) (w' := w7) rfl rfl rfl (x_assign (v := (Value.int .i64 (IntKind.i64.wrap ((x17.len : Int) - 1)))) rfl rfl) ?_
      refine wpR_val (v := (Value.int .i64 0)) (w' := w7) rfl rfl rfl (x_assign (v := (Value.int .i64 0)) rfl rfl) ?_
      refine wpR_nil ?_
      refine wpC_ret ?_
      exact ⟨.inl rfl, fun a ha => ⟨_, results_rep2 rfl ha rfl rfl, (IntKind.i64.wrap ((x17.len : Int) - 1), 0), rfl, h⟩⟩

/-- (*linguaref05.Vault).Open -/
def F22 (p0 : Option Addr) (p1 : Int) (p2 : Int) (w0 : World) (K : (ByteArray × Int) → World → Prop) : Prop :=
  jp (fun J1 => cnd (decide (p2 < 0))
    (
    J1 true
    )
    (
    nn p0 fun a3 =>
    ld Sl.v (a3.add 1) w0 fun x4 =>
    J1 (decide ((x4.len : Int) ≤ p2))
    ))
  fun c5 =>
  cnd (c5)
    (
    K (ByteArray.mk #[], 4) w0
    )
    (
    nn p0 fun a7 =>
    ld Sl.v (a7.add 1) w0 fun x8 =>
    ix x8 p2 1 fun p9 =>
    ld (Value.int .i64) p9 w0 fun x10 =>
    jn (fun J11 => cnd (!decide (x10 = p1))
      (
      J11 true w0
      )
      (
      callC Try.prog 27 #[(Value.pointer p0), (Value.int .i64 p1)] (fun (r : Int) => (Value.int .i64 r)) w0 fun r13 w1 =>
      J11 (!decide (r13 = 1)) w1
      ))
    fun c14 w2 =>
    cnd (c14)
      (
      K (ByteArray.mk #[], 13) w2
      )
      (
      nn p0 fun a16 =>
      ld Sl.v (a16.add 2) w2 fun x17 =>
      ix x17 p2 1 fun p18 =>
      ld Value.string p18 w2 fun x19 =>
      K (x19, 0) w2
      )
    )
set_option maxRecDepth 100000 in
theorem D22 (p0 : Option Addr) (p1 : Int) (p2 : Int) (w0 : World) (K : (ByteArray × Int) → World → Prop) (h : F22 p0 p1 p2 w0 K) : callC Try.prog 22 #[(Value.pointer p0), (Value.int .i64 p1), (Value.int .i64 p2)] (fun (r : ByteArray × Int) => (Value.tuple #[(Value.string r.1), (Value.int .i64 r.2)])) w0 K := by
  unfold F22 at h
  refine calls_of_wpC Try.func22 rfl 41 rfl (by simp) ?_
  intro ρ hρ
  have e0 : ρ 0 = (Value.pointer p0) := hρ 0
  have e1 : ρ 1 = (Value.int .i64 p1) := hρ 1
  have e2 : ρ 2 = (Value.int .i64 p2) := hρ 2
  clear hρ
  refine wpC_seq ?_
  refine wpC_region ?_
  refine wpR_val (v := (Value.string (ByteArray.mk #[]))) (w' := w0) rfl rfl rfl (x_assign (v := (Value.string (ByteArray.mk #[]))) rfl rfl) ?_
  refine wpR_val (v := (Value.int .i64 0)) (w' := w0) rfl rfl rfl (x_assign (v := (Value.int .i64 0)) rfl rfl) ?_
  refine wpR_nil ?_
  refine wpC_seq ?_
  refine wpC_seq ?_
  refine wpC_cut (fun ρ => ρ 0 = (Value.pointer p0) ∧ ρ 1 = (Value.int .i64 p1) ∧ ρ 2 = (Value.int .i64 p2) ∧ True) ⟨e0, e1, e2, trivial⟩ ?_
  rintro ρ ⟨e0, e1, e2, -⟩
  refine wpC_region ?_
  refine wpR_val (v := (Value.int .i64 p2)) (w' := w0) rfl rfl rfl (x_move (v := (Value.int .i64 p2)) rfl e2) ?_
  refine wpR_val (v := (Value.bool (decide (p2 < 0)))) (w' := w0) rfl rfl rfl (x_lss rfl rfl rfl) ?_
  refine wpR_val (v := (Value.bool (decide (p2 < 0)))) (w' := w0) rfl rfl rfl (x_move (v := (Value.bool (decide (p2 < 0)))) rfl rfl) ?_
  obtain ⟨J1, h, hk⟩ := h
  refine wpR_joinJ 8 (fun x ρ => ρ 18 = Value.bool x ∧ ρ 0 = (Value.pointer p0) ∧ ρ 1 = (Value.int .i64 p1) ∧ ρ 2 = (Value.int .i64 p2) ∧ True) (fun x w => J1 x ∧ w0 = w) ?_ ?_
  · clear hk
    rcases Bool.eq_false_or_eq_true (decide (p2 < 0)) with hc2 | hc2
    · replace h := h.1 hc2
      refine wpR_pass (wantN rfl rfl rfl hc2) rfl rfl ?_
      refine wpR_pass (wantN rfl rfl rfl hc2) rfl rfl ?_
      refine wpR_pass (wantN rfl rfl rfl hc2) rfl rfl ?_
      refine wpR_pass (wantN rfl rfl rfl hc2) rfl rfl ?_
      refine wpR_pass (wantN rfl rfl rfl hc2) rfl rfl ?_
      refine wpR_pass (wantN rfl rfl rfl hc2) rfl rfl ?_
      refine wpR_pass (wantN rfl rfl rfl hc2) rfl rfl ?_
      refine wpR_val (v := (Value.bool true)) (w' := w0) rfl rfl rfl (x_pickT (v := (Value.bool true)) rfl rfl hc2 rfl) ?_
      refine wpR_nil ?_
      exact ⟨true, ⟨rfl, e0, e1, e2, trivial⟩, h, rfl⟩
    · replace h := h.2 hc2
      refine wpR_val (v := (Value.int .i64 p2)) (w' := w0) (wantG rfl rfl rfl hc2) rfl rfl (x_move (v := (Value.int .i64 p2)) rfl e2) ?_
      refine wpR_val (v := (Value.pointer p0)) (w' := w0) (wantG rfl rfl rfl hc2) rfl rfl (x_move (v := (Value.pointer p0)) rfl e0) ?_
      obtain ⟨a3, q3, h⟩ := h
      refine wpR_val (v := (Value.pointer (some a3))) (w' := w0) (wantG rfl rfl rfl hc2) rfl rfl (x_nilCheck rfl rfl q3) ?_
      refine wpR_val (v := (Value.pointer (some (a3.add 1)))) (w' := w0) (wantG rfl rfl rfl hc2) rfl rfl (x_fieldAddr rfl rfl FA_41_1) ?_
      obtain ⟨x4, q4, h⟩ := h
      refine wpR_val (v := (Sl.v x4)) (w' := w0) (wantG rfl rfl rfl hc2) rfl rfl (x_load1 rfl rfl SH_38 q4) ?_
      refine wpR_val (v := (Value.int .i64 (x4.len : Int))) (w' := w0) (wantG rfl rfl rfl hc2) rfl rfl (x_lenS (s := x4) rfl rfl isSliceT_38) ?_
      refine wpR_val (v := (Value.bool (decide ((x4.len : Int) ≤ p2)))) (w' := w0) (wantG rfl rfl rfl hc2) rfl rfl (x_geq rfl rfl rfl) ?_
      refine wpR_val (v := (Value.bool (decide ((x4.len : Int) ≤ p2)))) (w' := w0) rfl rfl rfl (x_pickF (v := (Value.bool (decide ((x4.len : Int) ≤ p2)))) rfl rfl hc2 rfl) ?_
      refine wpR_nil ?_
      exact ⟨decide ((x4.len : Int) ≤ p2), ⟨rfl, e0, e1, e2, trivial⟩, h, rfl⟩
  clear h
  rintro c5 ρ wj ⟨e18, e0, e1, e2, -⟩ ⟨h, rfl⟩
  replace h := hk c5 h
  clear hk
  refine wpR_nil ?_
  refine wpC_cond (b := c5) e18 (fun hc6 => ?_) (fun hc6 => ?_)
  · replace h := h.1 hc6
    refine wpC_seq ?_
    refine wpC_region ?_
    refine wpR_val (v := (Value.string (ByteArray.mk #[]))) (w' := w0) rfl rfl rfl (x_assign (v := (Value.string (ByteArray.mk #[]))) rfl rfl) ?_
    refine wpR_val (v := (Value.int .i64 4)) (w' := w0) rfl rfl rfl (x_assign (v := (Value.int .i64 4)) rfl rfl) ?_
    refine wpR_nil ?_
    refine wpC_ret ?_
    exact ⟨.inl rfl, fun a ha => ⟨_, results_rep2 rfl ha rfl rfl, (ByteArray.mk #[], 4), rfl, h⟩⟩
  · replace h := h.2 hc6
    refine wpC_skip ?_
    refine wpC_seq ?_
    refine wpC_seq ?_
    refine wpC_region ?_
    refine wpR_val (v := (Value.pointer p0)) (w' := w0) rfl rfl rfl (x_move (v := (Value.pointer p0)) rfl e0) ?_
    obtain ⟨a7, q7, h⟩ := h
    refine wpR_val (v := (Value.pointer (some a7))) (w' := w0) rfl rfl rfl (x_nilCheck rfl rfl q7) ?_
    refine wpR_val (v := (Value.pointer (some (a7.add 1)))) (w' := w0) rfl rfl rfl (x_fieldAddr rfl rfl FA_41_1) ?_
    obtain ⟨x8, q8, h⟩ := h
    refine wpR_val (v := (Sl.v x8)) (w' := w0) rfl rfl rfl (x_load1 rfl rfl SH_38 q8) ?_
    refine wpR_val (v := (Value.int .i64 p2)) (w' := w0) rfl rfl rfl (x_move (v := (Value.int .i64 p2)) rfl e2) ?_
    obtain ⟨q9, z9, r9, h⟩ := h
    generalize hp9 : z9.add ((p2).toNat * 1) = p9 at h
    refine wpR_val (v := (Value.pointer (some p9))) (w' := w0) rfl rfl rfl ((x_indexAddr (s := x8) rfl rfl rfl ES_38 q9 r9).trans (by rw [hp9])) ?_
    obtain ⟨x10, q10, h⟩ := h
    refine wpR_val (v := (Value.int .i64 x10)) (w' := w0) rfl rfl rfl (x_load1 rfl rfl SH_3 q10) ?_
    refine wpR_val (v := (Value.int .i64 p1)) (w' := w0) rfl rfl rfl (x_move (v := (Value.int .i64 p1)) rfl e1) ?_
    refine wpR_val (v := (Value.bool (!decide (x10 = p1)))) (w' := w0) rfl rfl rfl (x_neq rfl rfl rfl) ?_
    refine wpR_val (v := (Value.bool (!decide (x10 = p1)))) (w' := w0) rfl rfl rfl (x_move (v := (Value.bool (!decide (x10 = p1)))) rfl rfl) ?_
    obtain ⟨J11, h, hk⟩ := h
    refine wpR_joinJ 5 (fun x ρ => ρ 33 = Value.bool x ∧ ρ 0 = (Value.pointer p0) ∧ ρ 2 = (Value.int .i64 p2) ∧ True) (J11) ?_ ?_
    · clear hk
      rcases Bool.eq_false_or_eq_true (!decide (x10 = p1)) with hc12 | hc12
      · replace h := h.1 hc12
        refine wpR_pass (wantN rfl rfl rfl hc12) rfl rfl ?_
        refine wpR_pass (wantN rfl rfl rfl hc12) rfl rfl ?_
        refine wpR_pass (wantN rfl rfl rfl hc12) rfl rfl ?_
        refine wpR_pass (wantN rfl rfl rfl hc12) rfl rfl ?_
        refine wpR_val (v := (Value.bool true)) (w' := w0) rfl rfl rfl (x_pickT (v := (Value.bool true)) rfl rfl hc12 rfl) ?_
        refine wpR_nil ?_
        exact ⟨true, ⟨rfl, e0, e2, trivial⟩, h⟩
      · replace h := h.2 hc12
        refine wpR_val (v := (Value.pointer p0)) (w' := w0) (wantG rfl rfl rfl hc12) rfl rfl (x_move (v := (Value.pointer p0)) rfl e0) ?_
        refine wpR_val (v := (Value.int .i64 p1)) (w' := w0) (wantG rfl rfl rfl hc12) rfl rfl (x_move (v := (Value.int .i64 p1)) rfl e1) ?_
        refine wpR_enter (wantG rfl rfl rfl hc12) rfl rfl (x_call (vs := [(Value.pointer p0), (Value.int .i64 p1)]) rfl rfl (by rfl) Try.func27 NN_27 NB_27) (Calls.mono h ?_)
        rintro _ w1 ⟨r13, rfl, h⟩
        refine ⟨_, rfl, ?_⟩
        refine wpR_val (v := (Value.bool (!decide (r13 = 1)))) (w' := w1) (wantG rfl rfl rfl hc12) rfl rfl (x_neq rfl rfl rfl) ?_
        refine wpR_val (v := (Value.bool (!decide (r13 = 1)))) (w' := w1) rfl rfl rfl (x_pickF (v := (Value.bool (!decide (r13 = 1)))) rfl rfl hc12 rfl) ?_
        refine wpR_nil ?_
        exact ⟨!decide (r13 = 1), ⟨rfl, e0, e2, trivial⟩, h⟩
    clear h
    rintro c14 ρ w2 ⟨e33, e0, e2, -⟩ h
    replace h := hk c14 w2 h
    clear hk
    refine wpR_nil ?_
    refine wpC_cond (b := c14) e33 (fun hc15 => ?_) (fun hc15 => ?_)
    · replace h := h.1 hc15
      refine wpC_seq ?_
      refine wpC_region ?_
      refine wpR_val (v := (Value.string (ByteArray.mk #[]))) (w' := w2) rfl rfl rfl (x_assign (v := (Value.string (ByteArray.mk #[]))) rfl rfl) ?_
      refine wpR_val (v := (Value.int .i64 13)) (w' := w2) rfl rfl rfl (x_assign (v := (Value.int .i64 13)) rfl rfl) ?_
      refine wpR_nil ?_
      refine wpC_ret ?_
      exact ⟨.inl rfl, fun a ha => ⟨_, results_rep2 rfl ha rfl rfl, (ByteArray.mk #[], 13), rfl, h⟩⟩
    · replace h := h.2 hc15
      refine wpC_skip ?_
      refine wpC_seq ?_
      refine wpC_region ?_
      refine wpR_val (v := (Value.pointer p0)) (w' := w2) rfl rfl rfl (x_move (v := (Value.pointer p0)) rfl e0) ?_
      obtain ⟨a16, q16, h⟩ := h
      refine wpR_val (v := (Value.pointer (some a16))) (w' := w2) rfl rfl rfl (x_nilCheck rfl rfl q16) ?_
      refine wpR_val (v := (Value.pointer (some (a16.add 2)))) (w' := w2) rfl rfl rfl (x_fieldAddr rfl rfl FA_41_2) ?_
      obtain ⟨x17, q17, h⟩ := h
      refine wpR_val (v := (Sl.v x17)) (w' := w2) rfl rfl rfl (x_load1 rfl rfl SH_39 q17) ?_
      refine wpR_val (v := (Value.int .i64 p2)) (w' := w2) rfl rfl rfl (x_move (v := (Value.int .i64 p2)) rfl e2) ?_
      obtain ⟨q18, z18, r18, h⟩ := h
      generalize hp18 : z18.add ((p2).toNat * 1) = p18 at h
      refine wpR_val (v := (Value.pointer (some p18))) (w' := w2) rfl rfl rfl ((x_indexAddr (s := x17) rfl rfl rfl ES_39 q18 r18).trans (by rw [hp18])) ?_
      obtain ⟨x19, q19, h⟩ := h
      refine wpR_val (v := (Value.string x19)) (w' := w2) rfl rfl rfl (x_load1 rfl rfl SH_9 q19) ?_
      refine wpR_val (v := (Value.string x19)) (w' := w2) rfl rfl rfl (x_assign (v := (Value.string x19)) rfl rfl) ?_
      refine wpR_val (v := (Value.int .i64 0)) (w' := w2) rfl rfl rfl (x_assign (v := (Value.int .i64 0)) rfl rfl) ?_
      refine wpR_nil ?_
      refine wpC_ret ?_
      exact ⟨.inl rfl, fun a ha => ⟨_, results_rep2 rfl ha rfl rfl, (x19, 0), rfl, h⟩⟩

/-- (*linguaref05.Vault).Destroy -/
def F23 (p0 : Option Addr) (p1 : Int) (w0 : World) (K : Int → World → Prop) : Prop :=
  callC Try.prog 27 #[(Value.pointer p0), (Value.int .i64 p1)] (fun (r : Int) => (Value.int .i64 r)) w0 fun r1 w1 =>
  cnd (decide (r1 = 0))
    (
    K 4 w1
    )
    (
    cnd (decide (r1 = 2))
      (
      K 5 w1
      )
      (
      nn p0 fun a4 =>
      ld Sl.v (a4.add 0) w1 fun x5 =>
      ix x5 p1 1 fun p6 =>
      st p6 [(Value.bool false)] w1 fun w2 =>
      K 0 w2
      )
    )
set_option maxRecDepth 100000 in
theorem D23 (p0 : Option Addr) (p1 : Int) (w0 : World) (K : Int → World → Prop) (h : F23 p0 p1 w0 K) : callC Try.prog 23 #[(Value.pointer p0), (Value.int .i64 p1)] (fun (r : Int) => (Value.int .i64 r)) w0 K := by
  unfold F23 at h
  refine calls_of_wpC Try.func23 rfl 18 rfl (by simp) ?_
  intro ρ hρ
  have e0 : ρ 0 = (Value.pointer p0) := hρ 0
  have e1 : ρ 1 = (Value.int .i64 p1) := hρ 1
  clear hρ
  refine wpC_seq ?_
  refine wpC_region ?_
  refine wpR_val (v := (Value.int .i64 0)) (w' := w0) rfl rfl rfl (x_assign (v := (Value.int .i64 0)) rfl rfl) ?_
  refine wpR_nil ?_
  refine wpC_seq ?_
  refine wpC_seq ?_
  refine wpC_cut (fun ρ => ρ 0 = (Value.pointer p0) ∧ ρ 1 = (Value.int .i64 p1) ∧ True) ⟨e0, e1, trivial⟩ ?_
  rintro ρ ⟨e0, e1, -⟩
  refine wpC_region ?_
  refine wpR_val (v := (Value.pointer p0)) (w' := w0) rfl rfl rfl (x_move (v := (Value.pointer p0)) rfl e0) ?_
  refine wpR_val (v := (Value.int .i64 p1)) (w' := w0) rfl rfl rfl (x_move (v := (Value.int .i64 p1)) rfl e1) ?_
  refine wpR_enter rfl rfl rfl (x_call (vs := [(Value.pointer p0), (Value.int .i64 p1)]) rfl rfl (by rfl) Try.func27 NN_27 NB_27) (Calls.mono h ?_)
  rintro _ w1 ⟨r1, rfl, h⟩
  refine ⟨_, rfl, ?_⟩
  refine wpR_nil ?_
  refine wpC_block ?_
  refine wpC_seq ?_
  refine wpC_cut (fun ρ => ρ 0 = (Value.pointer p0) ∧ ρ 1 = (Value.int .i64 p1) ∧ ρ 7 = (Value.int .i64 r1) ∧ True) ⟨e0, e1, rfl, trivial⟩ ?_
  rintro ρ ⟨e0, e1, e7, -⟩
  refine wpC_region ?_
  refine wpR_val (v := (Value.bool (decide (r1 = 0)))) (w' := w1) rfl rfl rfl (x_eql rfl e7 rfl) ?_
  refine wpR_val (v := (Value.bool (decide (r1 = 0)))) (w' := w1) rfl rfl rfl (x_assign (v := (Value.bool (decide (r1 = 0)))) rfl rfl) ?_
  refine wpR_nil ?_
  refine wpC_cond (b := decide (r1 = 0)) rfl (fun hc2 => ?_) (fun hc2 => ?_)
  · replace h := h.1 hc2
    refine wpC_seq ?_
    refine wpC_cut (fun ρ => True) trivial ?_
    rintro ρ -
    refine wpC_region ?_
    refine wpR_val (v := (Value.int .i64 4)) (w' := w1) rfl rfl rfl (x_assign (v := (Value.int .i64 4)) rfl rfl) ?_
    refine wpR_nil ?_
    refine wpC_ret ?_
    exact ⟨.inl rfl, fun a ha => ⟨_, results_rep1 rfl ha rfl, 4, rfl, h⟩⟩
  · replace h := h.2 hc2
    refine wpC_seq ?_
    refine wpC_cut (fun ρ => ρ 0 = (Value.pointer p0) ∧ ρ 1 = (Value.int .i64 p1) ∧ ρ 7 = (Value.int .i64 r1) ∧ True) ⟨e0, e1, e7, trivial⟩ ?_
    rintro ρ ⟨e0, e1, e7, -⟩
    refine wpC_region ?_
    refine wpR_val (v := (Value.bool (decide (r1 = 2)))) (w' := w1) rfl rfl rfl (x_eql rfl e7 rfl) ?_
    refine wpR_val (v := (Value.bool (decide (r1 = 2)))) (w' := w1) rfl rfl rfl (x_assign (v := (Value.bool (decide (r1 = 2)))) rfl rfl) ?_
    refine wpR_nil ?_
    refine wpC_cond (b := decide (r1 = 2)) rfl (fun hc3 => ?_) (fun hc3 => ?_)
    · replace h := h.1 hc3
      refine wpC_seq ?_
      refine wpC_cut (fun ρ => True) trivial ?_
      rintro ρ -
      refine wpC_region ?_
      refine wpR_val (v := (Value.int .i64 5)) (w' := w1) rfl rfl rfl (x_assign (v := (Value.int .i64 5)) rfl rfl) ?_
      refine wpR_nil ?_
      refine wpC_ret ?_
      exact ⟨.inl rfl, fun a ha => ⟨_, results_rep1 rfl ha rfl, 5, rfl, h⟩⟩
    · replace h := h.2 hc3
      refine wpC_skip ?_
      refine wpC_seq ?_
      refine wpC_cut (fun ρ => ρ 0 = (Value.pointer p0) ∧ ρ 1 = (Value.int .i64 p1) ∧ True) ⟨e0, e1, trivial⟩ ?_
      rintro ρ ⟨e0, e1, -⟩
      refine wpC_region ?_
      refine wpR_val (v := (Value.pointer p0)) (w' := w1) rfl rfl rfl (x_move (v := (Value.pointer p0)) rfl e0) ?_
      obtain ⟨a4, q4, h⟩ := h
      refine wpR_val (v := (Value.pointer (some a4))) (w' := w1) rfl rfl rfl (x_nilCheck rfl rfl q4) ?_
      refine wpR_val (v := (Value.pointer (some (a4.add 0)))) (w' := w1) rfl rfl rfl (x_fieldAddr rfl rfl FA_41_0) ?_
      obtain ⟨x5, q5, h⟩ := h
      refine wpR_val (v := (Sl.v x5)) (w' := w1) rfl rfl rfl (x_load1 rfl rfl SH_37 q5) ?_
      refine wpR_val (v := (Value.int .i64 p1)) (w' := w1) rfl rfl rfl (x_move (v := (Value.int .i64 p1)) rfl e1) ?_
      obtain ⟨q6, z6, r6, h⟩ := h
      generalize hp6 : z6.add ((p1).toNat * 1) = p6 at h
      refine wpR_val (v := (Value.pointer (some p6))) (w' := w1) rfl rfl rfl ((x_indexAddr (s := x5) rfl rfl rfl ES_37 q6 r6).trans (by rw [hp6])) ?_
      obtain ⟨q7, h⟩ := h
      obtain ⟨w2, hw7⟩ : ∃ u, u = setAll w1 p6 [(Value.bool false)] 0 := ⟨_, rfl⟩
      replace h := h w2 hw7
      refine wpR_skp (w' := w2) rfl rfl ((x_store (v := (Value.bool false)) rfl rfl rfl SZ_4 (ones (by rfl)) q7).trans (by rw [hw7]; rfl)) ?_
      refine wpR_nil ?_
      refine wpC_seq ?_
      refine wpC_cut (fun ρ => True) trivial ?_
      rintro ρ -
      refine wpC_region ?_
      refine wpR_val (v := (Value.int .i64 0)) (w' := w2) rfl rfl rfl (x_assign (v := (Value.int .i64 0)) rfl rfl) ?_
      refine wpR_nil ?_
      refine wpC_ret ?_
      exact ⟨.inl rfl, fun a ha => ⟨_, results_rep1 rfl ha rfl, 0, rfl, h⟩⟩

/-- slices.Clone[[]bool,bool] -/
def F24 (p0 : Sl) (w0 : World) (K : Sl → World → Prop) : Prop :=
  cnd (p0.a.isNone)
    (
    K Sl.nil w0
    )
    (
    nw 4 #[] w0 fun b2 w1 =>
    rn Try.prog (Builtin.append_ #[37, 37] 37 #[Sl.v (⟨some ⟨b2, 0, none⟩, 0, 0⟩ : Sl), Sl.v p0]) Sl.v w1 fun r3 w2 =>
    K r3 w2
    )
set_option maxRecDepth 100000 in
theorem D24 (p0 : Sl) (w0 : World) (K : Sl → World → Prop) (h : F24 p0 w0 K) : callC Try.prog 24 #[(Sl.v p0)] (fun (r : Sl) => (Sl.v r)) w0 K := by
  unfold F24 at h
  refine calls_of_wpC Try.func24 rfl 8 rfl (by simp) ?_
  intro ρ hρ
  have e0 : ρ 0 = (Sl.v p0) := hρ 0
  clear hρ
  refine wpC_seq ?_
  refine wpC_region ?_
  refine wpR_val (v := (Sl.v Sl.nil)) (w' := w0) rfl rfl rfl (x_assign (v := (Sl.v Sl.nil)) rfl rfl) ?_
  refine wpR_nil ?_
  refine wpC_seq ?_
  refine wpC_seq ?_
  refine wpC_cut (fun ρ => ρ 0 = (Sl.v p0) ∧ True) ⟨e0, trivial⟩ ?_
  rintro ρ ⟨e0, -⟩
  refine wpC_region ?_
  refine wpR_val (v := (Sl.v p0)) (w' := w0) rfl rfl rfl (x_move (v := (Sl.v p0)) rfl e0) ?_
  refine wpR_val (v := (Value.bool p0.a.isNone)) (w' := w0) rfl rfl rfl (x_eqlNilS (s := p0) rfl rfl rfl isSliceT_37) ?_
  refine wpR_nil ?_
  refine wpC_cond (b := p0.a.isNone) rfl (fun hc1 => ?_) (fun hc1 => ?_)
  · replace h := h.1 hc1
    refine wpC_seq ?_
    refine wpC_cut (fun ρ => True) trivial ?_
    rintro ρ -
    refine wpC_region ?_
    refine wpR_val (v := (Sl.v Sl.nil)) (w' := w0) rfl rfl rfl (x_assign (v := (Sl.v Sl.nil)) rfl rfl) ?_
    refine wpR_nil ?_
    refine wpC_ret ?_
    exact ⟨.inl rfl, fun a ha => ⟨_, results_rep1 rfl ha rfl, Sl.nil, rfl, h⟩⟩
  · replace h := h.2 hc1
    refine wpC_skip ?_
    refine wpC_seq ?_
    refine wpC_cut (fun ρ => ρ 0 = (Sl.v p0) ∧ True) ⟨e0, trivial⟩ ?_
    rintro ρ ⟨e0, -⟩
    refine wpC_region ?_
    obtain ⟨b2, hb2⟩ : ∃ u, u = w0.heap.size := ⟨_, rfl⟩
    obtain ⟨w1, hw2⟩ : ∃ u, u = w0.alloc (.cells #[] 4) := ⟨_, rfl⟩
    replace h := h b2 w1 hb2 hw2
    refine wpR_val (v := (Sl.v (⟨some ⟨b2, 0, none⟩, 0, 0⟩ : Sl))) (w' := w1) rfl rfl rfl ((x_buildSlice (qs := []) rfl (by rfl) (BS_37_0_ )).trans (by rw [← hb2, ← hw2])) ?_
    refine wpR_val (v := (Sl.v p0)) (w' := w1) rfl rfl rfl (x_move (v := (Sl.v p0)) rfl e0) ?_
    obtain ⟨r3, w2, q3, h⟩ := h
    refine wpR_val (v := (Sl.v r3)) (w' := w2) rfl rfl rfl (x_append (s := (⟨some ⟨b2, 0, none⟩, 0, 0⟩ : Sl)) (u := p0) rfl rfl rfl rfl q3) ?_
    refine wpR_val (v := (Sl.v r3)) (w' := w2) rfl rfl rfl (x_assign (v := (Sl.v r3)) rfl rfl) ?_
    refine wpR_nil ?_
    refine wpC_ret ?_
    exact ⟨.inl rfl, fun a ha => ⟨_, results_rep1 rfl ha rfl, r3, rfl, h⟩⟩

/-- slices.Clone[[]vault.box,vault.box] -/
def F25 (p0 : Sl) (w0 : World) (K : Sl → World → Prop) : Prop :=
  cnd (p0.a.isNone)
    (
    K Sl.nil w0
    )
    (
    nw 55 #[] w0 fun b2 w1 =>
    rn Try.prog (Builtin.append_ #[51, 51] 51 #[Sl.v (⟨some ⟨b2, 0, none⟩, 0, 0⟩ : Sl), Sl.v p0]) Sl.v w1 fun r3 w2 =>
    K r3 w2
    )
set_option maxRecDepth 100000 in
theorem D25 (p0 : Sl) (w0 : World) (K : Sl → World → Prop) (h : F25 p0 w0 K) : callC Try.prog 25 #[(Sl.v p0)] (fun (r : Sl) => (Sl.v r)) w0 K := by
  unfold F25 at h
  refine calls_of_wpC Try.func25 rfl 8 rfl (by simp) ?_
  intro ρ hρ
  have e0 : ρ 0 = (Sl.v p0) := hρ 0
  clear hρ
  refine wpC_seq ?_
  refine wpC_region ?_
  refine wpR_val (v := (Sl.v Sl.nil)) (w' := w0) rfl rfl rfl (x_assign (v := (Sl.v Sl.nil)) rfl rfl) ?_
  refine wpR_nil ?_
  refine wpC_seq ?_
  refine wpC_seq ?_
  refine wpC_cut (fun ρ => ρ 0 = (Sl.v p0) ∧ True) ⟨e0, trivial⟩ ?_
  rintro ρ ⟨e0, -⟩
  refine wpC_region ?_
  refine wpR_val (v := (Sl.v p0)) (w' := w0) rfl rfl rfl (x_move (v := (Sl.v p0)) rfl e0) ?_
  refine wpR_val (v := (Value.bool p0.a.isNone)) (w' := w0) rfl rfl rfl (x_eqlNilS (s := p0) rfl rfl rfl isSliceT_51) ?_
  refine wpR_nil ?_
  refine wpC_cond (b := p0.a.isNone) rfl (fun hc1 => ?_) (fun hc1 => ?_)
  · replace h := h.1 hc1
    refine wpC_seq ?_
    refine wpC_cut (fun ρ => True) trivial ?_
    rintro ρ -
    refine wpC_region ?_
    refine wpR_val (v := (Sl.v Sl.nil)) (w' := w0) rfl rfl rfl (x_assign (v := (Sl.v Sl.nil)) rfl rfl) ?_
    refine wpR_nil ?_
    refine wpC_ret ?_
    exact ⟨.inl rfl, fun a ha => ⟨_, results_rep1 rfl ha rfl, Sl.nil, rfl, h⟩⟩
  · replace h := h.2 hc1
    refine wpC_skip ?_
    refine wpC_seq ?_
    refine wpC_cut (fun ρ => ρ 0 = (Sl.v p0) ∧ True) ⟨e0, trivial⟩ ?_
    rintro ρ ⟨e0, -⟩
    refine wpC_region ?_
    obtain ⟨b2, hb2⟩ : ∃ u, u = w0.heap.size := ⟨_, rfl⟩
    obtain ⟨w1, hw2⟩ : ∃ u, u = w0.alloc (.cells #[] 55) := ⟨_, rfl⟩
    replace h := h b2 w1 hb2 hw2
    refine wpR_val (v := (Sl.v (⟨some ⟨b2, 0, none⟩, 0, 0⟩ : Sl))) (w' := w1) rfl rfl rfl ((x_buildSlice (qs := []) rfl (by rfl) (BS_51_0_ )).trans (by rw [← hb2, ← hw2])) ?_
    refine wpR_val (v := (Sl.v p0)) (w' := w1) rfl rfl rfl (x_move (v := (Sl.v p0)) rfl e0) ?_
    obtain ⟨r3, w2, q3, h⟩ := h
    refine wpR_val (v := (Sl.v r3)) (w' := w2) rfl rfl rfl (x_append (s := (⟨some ⟨b2, 0, none⟩, 0, 0⟩ : Sl)) (u := p0) rfl rfl rfl rfl q3) ?_
    refine wpR_val (v := (Sl.v r3)) (w' := w2) rfl rfl rfl (x_assign (v := (Sl.v r3)) rfl rfl) ?_
    refine wpR_nil ?_
    refine wpC_ret ?_
    exact ⟨.inl rfl, fun a ha => ⟨_, results_rep1 rfl ha rfl, r3, rfl, h⟩⟩


end Go.Proofs.Ytfmimbcljhjflaa
