import Derived.Test.YtmnhehklhelpeaaRows
import Derived.Test.YtmnhehklhelpeaaDecRaw
namespace Go.Proofs.Ytmnhehklhelpeaa
open Go.Dec
set_option maxHeartbeats 400000
set_option maxRecDepth 100000

@[reducible] def T36 : Type := Int × Int × Int × Int × Int × Int × Int × ByteArray × Sl
@[reducible] def V36 (x0 : Int) (x1 : Int) (x2 : Int) (x3 : Int) (x4 : Int) (x5 : Int) (x6 : Int) (x7 : ByteArray) (x8 : Sl) : Value := .agg #[.int .i64 x0, .int .i64 x1, .int .i64 x2, .int .i64 x3, .int .i64 x4, .int .i64 x5, .int .i64 x6, .string x7, Sl.v x8]
@[reducible] def A36 (x0 : Int) (x1 : Int) (x2 : Int) (x3 : Int) (x4 : Int) (x5 : Int) (x6 : Int) (x7 : ByteArray) (x8 : Sl) : Array Value := #[.int .i64 x0, .int .i64 x1, .int .i64 x2, .int .i64 x3, .int .i64 x4, .int .i64 x5, .int .i64 x6, .string x7, Sl.v x8]
@[reducible] def S36 (x0 : Int) (x1 : Int) (x2 : Int) (x3 : Int) (x4 : Int) (x5 : Int) (x6 : Int) (x7 : ByteArray) (x8 : Sl) : List Value := [.int .i64 x0, .int .i64 x1, .int .i64 x2, .int .i64 x3, .int .i64 x4, .int .i64 x5, .int .i64 x6, .string x7, Sl.v x8]
@[reducible] def E36 (r : T36) : Value := V36 r.1 r.2.1 r.2.2.1 r.2.2.2.1 r.2.2.2.2.1 r.2.2.2.2.2.1 r.2.2.2.2.2.2.1 r.2.2.2.2.2.2.2.1 r.2.2.2.2.2.2.2.2
@[reducible] def C36 (p : Addr) (x0 : Int) (x1 : Int) (x2 : Int) (x3 : Int) (x4 : Int) (x5 : Int) (x6 : Int) (x7 : ByteArray) (x8 : Sl) (w : World) : Prop := w.cell? (p.add 0) = some (.int .i64 x0) ∧ w.cell? (p.add 1) = some (.int .i64 x1) ∧ w.cell? (p.add 2) = some (.int .i64 x2) ∧ w.cell? (p.add 3) = some (.int .i64 x3) ∧ w.cell? (p.add 4) = some (.int .i64 x4) ∧ w.cell? (p.add 5) = some (.int .i64 x5) ∧ w.cell? (p.add 6) = some (.int .i64 x6) ∧ w.cell? (p.add 7) = some (.string x7) ∧ w.cell? (p.add 8) = some (Sl.v x8)
@[reducible] def L36 (p : Addr) (w : World) (K : Int → Int → Int → Int → Int → Int → Int → ByteArray → Sl → Prop) : Prop := ld (Value.int .i64) (p.add 0) w fun x0 => ld (Value.int .i64) (p.add 1) w fun x1 => ld (Value.int .i64) (p.add 2) w fun x2 => ld (Value.int .i64) (p.add 3) w fun x3 => ld (Value.int .i64) (p.add 4) w fun x4 => ld (Value.int .i64) (p.add 5) w fun x5 => ld (Value.int .i64) (p.add 6) w fun x6 => ld Value.string (p.add 7) w fun x7 => ld Sl.v (p.add 8) w fun x8 => K x0 x1 x2 x3 x4 x5 x6 x7 x8
theorem K36 {w : World} {p : Addr} {x0 : Int} {x1 : Int} {x2 : Int} {x3 : Int} {x4 : Int} {x5 : Int} {x6 : Int} {x7 : ByteArray} {x8 : Sl} (h : C36 p x0 x1 x2 x3 x4 x5 x6 x7 x8 w) : ∀ (j : Nat) (u : Value), (S36 x0 x1 x2 x3 x4 x5 x6 x7 x8)[j]? = some u → w.cell? (p.add j) = some u := by
  obtain ⟨q0, q1, q2, q3, q4, q5, q6, q7, q8⟩ := h
  exact CellsAt.out (CellsAt.cons q0 (CellsAt.cons q1 (CellsAt.cons q2 (CellsAt.cons q3 (CellsAt.cons q4 (CellsAt.cons q5 (CellsAt.cons q6 (CellsAt.cons q7 (CellsAt.cons q8 CellsAt.nil)))))))))

theorem BD_54_ : ∀ w, (Instr.build 54 #[]).run Try.prog w = .ok (Value.agg #[(Sl.v Sl.nil)]) w := fun w => by kernel_rfl
theorem BD_56_0_1 (y0 : Int) (y1 : Int) : ∀ w, (Instr.build 56 #[(0, (Value.int .i64 y0)), (1, (Value.int .i64 y1))]).run Try.prog w = .ok (Value.agg #[(Value.int .i64 y0), (Value.int .i64 y1)]) w := fun w => by kernel_rfl
theorem BD_60_0 (y0 : Option Addr) : ∀ w, (Instr.build 60 #[(0, (Value.pointer y0))]).run Try.prog w = .ok (Value.agg #[(Value.pointer y0)]) w := fun w => by kernel_rfl
theorem BD_63_0 (y0 : Option Addr) : ∀ w, (Instr.build 63 #[(0, (Value.agg #[(Value.pointer y0)]))]).run Try.prog w = .ok (Value.agg #[(Value.pointer y0), (Sl.v Sl.nil)]) w := fun w => by kernel_rfl
theorem BD_63_0_1 (y0 : Option Addr) (y1 : Sl) : ∀ w, (Instr.build 63 #[(0, (Value.agg #[(Value.pointer y0)])), (1, (Sl.v y1))]).run Try.prog w = .ok (Value.agg #[(Value.pointer y0), (Sl.v y1)]) w := fun w => by kernel_rfl
theorem BD_69_0_1_2 (y0 : Int) (y1 : Int) (y2 : Int) : ∀ w, (Instr.build 69 #[(0, (Value.int .i64 y0)), (1, (Value.int .i64 y1)), (2, (Value.int .i64 y2))]).run Try.prog w = .ok (Value.agg #[(Value.int .i64 y0), (Value.int .i64 y1), (Value.int .i64 y2)]) w := fun w => by kernel_rfl
theorem BD_76_0_1 (y0 : ByteArray) (y1 : Int) : ∀ w, (Instr.build 76 #[(0, (Value.string y0)), (1, (Value.int .i64 y1))]).run Try.prog w = .ok (Value.agg #[(Value.string y0), (Value.int .i64 y1), (Value.bool false)]) w := fun w => by kernel_rfl
theorem BD_81_ : ∀ w, (Instr.build 81 #[]).run Try.prog w = .ok (Value.agg #[(Sl.v Sl.nil), (Sl.v Sl.nil)]) w := fun w => by kernel_rfl
theorem BD_81_0_1 (y0 : Sl) (y1 : Sl) : ∀ w, (Instr.build 81 #[(0, (Sl.v y0)), (1, (Sl.v y1))]).run Try.prog w = .ok (Value.agg #[(Sl.v y0), (Sl.v y1)]) w := fun w => by kernel_rfl
theorem BD_83_0_1 (y0 : Int) (y1 : ByteArray) : ∀ w, (Instr.build 83 #[(0, (Value.int .i64 y0)), (1, (Value.string y1))]).run Try.prog w = .ok (Value.agg #[(Value.int .i64 y0), (Value.string y1)]) w := fun w => by kernel_rfl
theorem BS_25_1_0 (y0 : Int) (y1 : Int) : ∀ w, (Instr.buildSlice 25 1 #[(0, (Value.agg #[(Value.int .i64 y0), (Value.int .i64 y1)]))]).run Try.prog w = .ok (.slice (some ⟨w.heap.size, 0, none⟩) 1 1) (w.alloc (.cells #[(Value.int .i64 y0), (Value.int .i64 y1)] 56)) := fun w => by kernel_rfl
theorem BS_25_2_0_1 (y0 : Int) (y1 : Int) (y2 : Int) (y3 : Int) : ∀ w, (Instr.buildSlice 25 2 #[(0, (Value.agg #[(Value.int .i64 y0), (Value.int .i64 y1)])), (1, (Value.agg #[(Value.int .i64 y2), (Value.int .i64 y3)]))]).run Try.prog w = .ok (.slice (some ⟨w.heap.size, 0, none⟩) 2 2) (w.alloc (.cells #[(Value.int .i64 y0), (Value.int .i64 y1), (Value.int .i64 y2), (Value.int .i64 y3)] 56)) := fun w => by kernel_rfl
theorem BS_34_1_0 (y0 : Sl) : ∀ w, (Instr.buildSlice 34 1 #[(0, (Sl.v y0))]).run Try.prog w = .ok (.slice (some ⟨w.heap.size, 0, none⟩) 1 1) (w.alloc (.cells #[(Sl.v y0)] 25)) := fun w => by kernel_rfl
theorem BS_35_1_0 (y0 : Int) : ∀ w, (Instr.buildSlice 35 1 #[(0, (Value.int .i64 y0))]).run Try.prog w = .ok (.slice (some ⟨w.heap.size, 0, none⟩) 1 1) (w.alloc (.cells #[(Value.int .i64 y0)] 3)) := fun w => by kernel_rfl
theorem BS_52_1_0 (y0 : ByteArray) (y1 : Int) (y2 : Bool) : ∀ w, (Instr.buildSlice 52 1 #[(0, (Value.agg #[(Value.string y0), (Value.int .i64 y1), (Value.bool y2)]))]).run Try.prog w = .ok (.slice (some ⟨w.heap.size, 0, none⟩) 1 1) (w.alloc (.cells #[(Value.string y0), (Value.int .i64 y1), (Value.bool y2)] 76)) := fun w => by kernel_rfl
theorem BS_61_0_ : ∀ w, (Instr.buildSlice 61 0 #[]).run Try.prog w = .ok (.slice (some ⟨w.heap.size, 0, none⟩) 0 0) (w.alloc (.cells #[] 69)) := fun w => by kernel_rfl
theorem BS_61_1_0 (y0 : Int) (y1 : Int) (y2 : Int) : ∀ w, (Instr.buildSlice 61 1 #[(0, (Value.agg #[(Value.int .i64 y0), (Value.int .i64 y1), (Value.int .i64 y2)]))]).run Try.prog w = .ok (.slice (some ⟨w.heap.size, 0, none⟩) 1 1) (w.alloc (.cells #[(Value.int .i64 y0), (Value.int .i64 y1), (Value.int .i64 y2)] 69)) := fun w => by kernel_rfl
theorem BS_78_0_ : ∀ w, (Instr.buildSlice 78 0 #[]).run Try.prog w = .ok (.slice (some ⟨w.heap.size, 0, none⟩) 0 0) (w.alloc (.cells #[] 4)) := fun w => by kernel_rfl
theorem BS_78_1_0 (y0 : Bool) : ∀ w, (Instr.buildSlice 78 1 #[(0, (Value.bool y0))]).run Try.prog w = .ok (.slice (some ⟨w.heap.size, 0, none⟩) 1 1) (w.alloc (.cells #[(Value.bool y0)] 4)) := fun w => by kernel_rfl
theorem BS_79_0_ : ∀ w, (Instr.buildSlice 79 0 #[]).run Try.prog w = .ok (.slice (some ⟨w.heap.size, 0, none⟩) 0 0) (w.alloc (.cells #[] 83)) := fun w => by kernel_rfl
theorem BS_79_1_0 (y0 : Int) (y1 : ByteArray) : ∀ w, (Instr.buildSlice 79 1 #[(0, (Value.agg #[(Value.int .i64 y0), (Value.string y1)]))]).run Try.prog w = .ok (.slice (some ⟨w.heap.size, 0, none⟩) 1 1) (w.alloc (.cells #[(Value.int .i64 y0), (Value.string y1)] 83)) := fun w => by kernel_rfl
theorem EQ1_56 : Try.prog.underlying 56 = some (.struct (Try.prog.fieldsOf 56)) := by kernel_rfl
theorem EQ2_56 : Try.prog.stoodInHeld 56 = false := by kernel_rfl
theorem EQ3_56 : Try.prog.eqGuardType Try.prog.depth 56 = false := by kernel_rfl
theorem EQ_56 (y0 : Int) (y1 : Int) (z0 : Int) (z1 : Int) : fieldsEq Try.prog #[(Value.int .i64 y0), (Value.int .i64 y1)] #[(Value.int .i64 z0), (Value.int .i64 z1)] (Try.prog.fieldsOf 56).toList = some (decide (y0 = z0) && (decide (y1 = z1) && true)) := by kernel_rfl
theorem ES_25 : elemSize Try.prog 25 = some 2 := by kernel_rfl
theorem ES_32 : elemSize Try.prog 32 = some 9 := by kernel_rfl
theorem ES_34 : elemSize Try.prog 34 = some 1 := by kernel_rfl
theorem ES_35 : elemSize Try.prog 35 = some 1 := by kernel_rfl
theorem ES_43 : elemSize Try.prog 43 = some 1 := by kernel_rfl
theorem ES_52 : elemSize Try.prog 52 = some 3 := by kernel_rfl
theorem ES_61 : elemSize Try.prog 61 = some 3 := by kernel_rfl
theorem ES_78 : elemSize Try.prog 78 = some 1 := by kernel_rfl
theorem ES_79 : elemSize Try.prog 79 = some 2 := by kernel_rfl
theorem FA_37_0 : fieldOff Try.prog 37 0 = some 0 := by kernel_rfl
theorem FA_37_1 : fieldOff Try.prog 37 1 = some 1 := by kernel_rfl
theorem FA_37_2 : fieldOff Try.prog 37 2 = some 2 := by kernel_rfl
theorem FA_37_3 : fieldOff Try.prog 37 3 = some 3 := by kernel_rfl
theorem FA_37_4 : fieldOff Try.prog 37 4 = some 4 := by kernel_rfl
theorem FA_37_5 : fieldOff Try.prog 37 5 = some 5 := by kernel_rfl
theorem FA_37_6 : fieldOff Try.prog 37 6 = some 6 := by kernel_rfl
theorem FA_37_7 : fieldOff Try.prog 37 7 = some 7 := by kernel_rfl
theorem FA_37_8 : fieldOff Try.prog 37 8 = some 8 := by kernel_rfl
theorem FA_54_0 : fieldOff Try.prog 54 0 = some 0 := by kernel_rfl
theorem FA_56_0 : fieldOff Try.prog 56 0 = some 0 := by kernel_rfl
theorem FA_56_1 : fieldOff Try.prog 56 1 = some 1 := by kernel_rfl
theorem FA_60_0 : fieldOff Try.prog 60 0 = some 0 := by kernel_rfl
theorem FA_63_0 : fieldOff Try.prog 63 0 = some 0 := by kernel_rfl
theorem FA_63_1 : fieldOff Try.prog 63 1 = some 1 := by kernel_rfl
theorem FA_69_0 : fieldOff Try.prog 69 0 = some 0 := by kernel_rfl
theorem FA_69_1 : fieldOff Try.prog 69 1 = some 1 := by kernel_rfl
theorem FA_69_2 : fieldOff Try.prog 69 2 = some 2 := by kernel_rfl
theorem FA_76_0 : fieldOff Try.prog 76 0 = some 0 := by kernel_rfl
theorem FA_76_1 : fieldOff Try.prog 76 1 = some 1 := by kernel_rfl
theorem FA_76_2 : fieldOff Try.prog 76 2 = some 2 := by kernel_rfl
theorem FA_81_0 : fieldOff Try.prog 81 0 = some 0 := by kernel_rfl
theorem FA_81_1 : fieldOff Try.prog 81 1 = some 1 := by kernel_rfl
theorem FA_83_0 : fieldOff Try.prog 83 0 = some 0 := by kernel_rfl
theorem FA_83_1 : fieldOff Try.prog 83 1 = some 1 := by kernel_rfl
theorem NB_10 : Try.f10.body.isNone = false := by kernel_rfl
theorem NN_10 : (Try.f10.name == "runtime.NumGoroutine") = false := by kernel_rfl
theorem NB_11 : Try.f11.body.isNone = false := by kernel_rfl
theorem NN_11 : (Try.f11.name == "runtime.NumGoroutine") = false := by kernel_rfl
theorem NB_12 : Try.f12.body.isNone = false := by kernel_rfl
theorem NN_12 : (Try.f12.name == "runtime.NumGoroutine") = false := by kernel_rfl
theorem NB_13 : Try.f13.body.isNone = false := by kernel_rfl
theorem NN_13 : (Try.f13.name == "runtime.NumGoroutine") = false := by kernel_rfl
theorem NB_14 : Try.f14.body.isNone = false := by kernel_rfl
theorem NN_14 : (Try.f14.name == "runtime.NumGoroutine") = false := by kernel_rfl
theorem NB_15 : Try.f15.body.isNone = false := by kernel_rfl
theorem NN_15 : (Try.f15.name == "runtime.NumGoroutine") = false := by kernel_rfl
theorem NB_16 : Try.f16.body.isNone = false := by kernel_rfl
theorem NN_16 : (Try.f16.name == "runtime.NumGoroutine") = false := by kernel_rfl
theorem NB_17 : Try.f17.body.isNone = false := by kernel_rfl
theorem NN_17 : (Try.f17.name == "runtime.NumGoroutine") = false := by kernel_rfl
theorem NB_18 : Try.f18.body.isNone = false := by kernel_rfl
theorem NN_18 : (Try.f18.name == "runtime.NumGoroutine") = false := by kernel_rfl
theorem NB_19 : Try.f19.body.isNone = false := by kernel_rfl
theorem NN_19 : (Try.f19.name == "runtime.NumGoroutine") = false := by kernel_rfl
theorem NB_20 : Try.f20.body.isNone = false := by kernel_rfl
theorem NN_20 : (Try.f20.name == "runtime.NumGoroutine") = false := by kernel_rfl
theorem NB_21 : Try.f21.body.isNone = false := by kernel_rfl
theorem NN_21 : (Try.f21.name == "runtime.NumGoroutine") = false := by kernel_rfl
theorem NB_22 : Try.f22.body.isNone = false := by kernel_rfl
theorem NN_22 : (Try.f22.name == "runtime.NumGoroutine") = false := by kernel_rfl
theorem NB_23 : Try.f23.body.isNone = false := by kernel_rfl
theorem NN_23 : (Try.f23.name == "runtime.NumGoroutine") = false := by kernel_rfl
theorem NB_24 : Try.f24.body.isNone = false := by kernel_rfl
theorem NN_24 : (Try.f24.name == "runtime.NumGoroutine") = false := by kernel_rfl
theorem NB_25 : Try.f25.body.isNone = false := by kernel_rfl
theorem NN_25 : (Try.f25.name == "runtime.NumGoroutine") = false := by kernel_rfl
theorem NB_26 : Try.f26.body.isNone = false := by kernel_rfl
theorem NN_26 : (Try.f26.name == "runtime.NumGoroutine") = false := by kernel_rfl
theorem NB_27 : Try.f27.body.isNone = false := by kernel_rfl
theorem NN_27 : (Try.f27.name == "runtime.NumGoroutine") = false := by kernel_rfl
theorem NB_28 : Try.f28.body.isNone = false := by kernel_rfl
theorem NN_28 : (Try.f28.name == "runtime.NumGoroutine") = false := by kernel_rfl
theorem NB_29 : Try.f29.body.isNone = false := by kernel_rfl
theorem NN_29 : (Try.f29.name == "runtime.NumGoroutine") = false := by kernel_rfl
theorem NB_30 : Try.f30.body.isNone = false := by kernel_rfl
theorem NN_30 : (Try.f30.name == "runtime.NumGoroutine") = false := by kernel_rfl
theorem NB_31 : Try.f31.body.isNone = false := by kernel_rfl
theorem NN_31 : (Try.f31.name == "runtime.NumGoroutine") = false := by kernel_rfl
theorem NB_32 : Try.f32.body.isNone = false := by kernel_rfl
theorem NN_32 : (Try.f32.name == "runtime.NumGoroutine") = false := by kernel_rfl
theorem NB_33 : Try.f33.body.isNone = false := by kernel_rfl
theorem NN_33 : (Try.f33.name == "runtime.NumGoroutine") = false := by kernel_rfl
theorem NB_34 : Try.f34.body.isNone = false := by kernel_rfl
theorem NN_34 : (Try.f34.name == "runtime.NumGoroutine") = false := by kernel_rfl
theorem NB_35 : Try.f35.body.isNone = false := by kernel_rfl
theorem NN_35 : (Try.f35.name == "runtime.NumGoroutine") = false := by kernel_rfl
theorem NB_36 : Try.f36.body.isNone = false := by kernel_rfl
theorem NN_36 : (Try.f36.name == "runtime.NumGoroutine") = false := by kernel_rfl
theorem NB_37 : Try.f37.body.isNone = false := by kernel_rfl
theorem NN_37 : (Try.f37.name == "runtime.NumGoroutine") = false := by kernel_rfl
theorem NB_38 : Try.f38.body.isNone = false := by kernel_rfl
theorem NN_38 : (Try.f38.name == "runtime.NumGoroutine") = false := by kernel_rfl
theorem NB_39 : Try.f39.body.isNone = false := by kernel_rfl
theorem NN_39 : (Try.f39.name == "runtime.NumGoroutine") = false := by kernel_rfl
theorem NB_40 : Try.f40.body.isNone = false := by kernel_rfl
theorem NN_40 : (Try.f40.name == "runtime.NumGoroutine") = false := by kernel_rfl
theorem NB_41 : Try.f41.body.isNone = false := by kernel_rfl
theorem NN_41 : (Try.f41.name == "runtime.NumGoroutine") = false := by kernel_rfl
theorem NB_42 : Try.f42.body.isNone = false := by kernel_rfl
theorem NN_42 : (Try.f42.name == "runtime.NumGoroutine") = false := by kernel_rfl
theorem NB_43 : Try.f43.body.isNone = false := by kernel_rfl
theorem NN_43 : (Try.f43.name == "runtime.NumGoroutine") = false := by kernel_rfl
theorem NB_44 : Try.f44.body.isNone = false := by kernel_rfl
theorem NN_44 : (Try.f44.name == "runtime.NumGoroutine") = false := by kernel_rfl
theorem NB_45 : Try.f45.body.isNone = false := by kernel_rfl
theorem NN_45 : (Try.f45.name == "runtime.NumGoroutine") = false := by kernel_rfl
theorem NB_46 : Try.f46.body.isNone = false := by kernel_rfl
theorem NN_46 : (Try.f46.name == "runtime.NumGoroutine") = false := by kernel_rfl
theorem NB_47 : Try.f47.body.isNone = false := by kernel_rfl
theorem NN_47 : (Try.f47.name == "runtime.NumGoroutine") = false := by kernel_rfl
theorem NB_48 : Try.f48.body.isNone = false := by kernel_rfl
theorem NN_48 : (Try.f48.name == "runtime.NumGoroutine") = false := by kernel_rfl
theorem NB_7 : Try.f7.body.isNone = false := by kernel_rfl
theorem NN_7 : (Try.f7.name == "runtime.NumGoroutine") = false := by kernel_rfl
theorem NB_8 : Try.f8.body.isNone = false := by kernel_rfl
theorem NN_8 : (Try.f8.name == "runtime.NumGoroutine") = false := by kernel_rfl
theorem NB_9 : Try.f9.body.isNone = false := by kernel_rfl
theorem NN_9 : (Try.f9.name == "runtime.NumGoroutine") = false := by kernel_rfl
theorem SH_25 : shapeT Try.prog 25 = some 0 := by kernel_rfl
theorem SH_3 : shapeT Try.prog 3 = some 0 := by kernel_rfl
theorem SH_35 : shapeT Try.prog 35 = some 0 := by kernel_rfl
theorem SH_37 : shapeT Try.prog 37 = some 10 := by kernel_rfl
theorem SH_4 : shapeT Try.prog 4 = some 0 := by kernel_rfl
theorem SH_52 : shapeT Try.prog 52 = some 0 := by kernel_rfl
theorem SH_56 : shapeT Try.prog 56 = some 3 := by kernel_rfl
theorem SH_57 : shapeT Try.prog 57 = some 0 := by kernel_rfl
theorem SH_61 : shapeT Try.prog 61 = some 0 := by kernel_rfl
theorem SH_69 : shapeT Try.prog 69 = some 4 := by kernel_rfl
theorem SH_78 : shapeT Try.prog 78 = some 0 := by kernel_rfl
theorem SH_79 : shapeT Try.prog 79 = some 0 := by kernel_rfl
theorem SH_83 : shapeT Try.prog 83 = some 3 := by kernel_rfl
theorem SH_9 : shapeT Try.prog 9 = some 0 := by kernel_rfl
theorem SZ_3 : sizeT Try.prog 3 = some 1 := by kernel_rfl
theorem SZ_37 : sizeT Try.prog 37 = some 9 := by kernel_rfl
theorem SZ_4 : sizeT Try.prog 4 = some 1 := by kernel_rfl
theorem SZ_52 : sizeT Try.prog 52 = some 1 := by kernel_rfl
theorem SZ_56 : sizeT Try.prog 56 = some 2 := by kernel_rfl
theorem SZ_61 : sizeT Try.prog 61 = some 1 := by kernel_rfl
theorem SZ_69 : sizeT Try.prog 69 = some 3 := by kernel_rfl
theorem SZ_78 : sizeT Try.prog 78 = some 1 := by kernel_rfl
theorem SZ_79 : sizeT Try.prog 79 = some 1 := by kernel_rfl
theorem SZ_83 : sizeT Try.prog 83 = some 2 := by kernel_rfl
theorem SZ_9 : sizeT Try.prog 9 = some 1 := by kernel_rfl
theorem ZV_37 : (Try.prog.info? 37).bind (·.zero) = some (V36 0 0 0 0 0 0 0 (ByteArray.mk #[]) Sl.nil) := by kernel_rfl
theorem ZV_56 : (Try.prog.info? 56).bind (·.zero) = some (Value.agg #[(Value.int .i64 0), (Value.int .i64 0)]) := by kernel_rfl
theorem ZV_69 : (Try.prog.info? 69).bind (·.zero) = some (Value.agg #[(Value.int .i64 0), (Value.int .i64 0), (Value.int .i64 0)]) := by kernel_rfl
theorem ZV_83 : (Try.prog.info? 83).bind (·.zero) = some (Value.agg #[(Value.int .i64 0), (Value.string (ByteArray.mk #[]))]) := by kernel_rfl
theorem isPtrT_23 : isPtrT Try.prog 23 = true := by kernel_rfl
theorem isSliceT_25 : isSliceT Try.prog 25 = true := by kernel_rfl
theorem isSliceT_32 : isSliceT Try.prog 32 = true := by kernel_rfl
theorem isSliceT_34 : isSliceT Try.prog 34 = true := by kernel_rfl
theorem isSliceT_35 : isSliceT Try.prog 35 = true := by kernel_rfl
theorem isSliceT_43 : isSliceT Try.prog 43 = true := by kernel_rfl
theorem isSliceT_52 : isSliceT Try.prog 52 = true := by kernel_rfl
theorem isSliceT_61 : isSliceT Try.prog 61 = true := by kernel_rfl
theorem isSliceT_78 : isSliceT Try.prog 78 = true := by kernel_rfl
theorem isSliceT_79 : isSliceT Try.prog 79 = true := by kernel_rfl
theorem isStrT_9 : isStrT Try.prog 9 = true := by kernel_rfl

/-- lingualaw45.SealedOthers -/
def F3 (p0 : ByteArray) (p1 : ByteArray) (p2 : Int) (p3 : Int) (p4 : Int) (p5 : Int) (w0 : World) (K : Bool → World → Prop) : Prop :=
  callC Try.prog 7 #[] (fun (r : Bool) => (Value.bool r)) w0 fun r9 w1 =>
  callC Try.prog 8 #[] (fun (r : (Option Addr)) => (Value.pointer r)) w1 fun r10 w2 =>
  cnd (r10.isNone)
    (
    K false w2
    )
    (
    cnd ((((((decide (200 < (p0.size : Int))) || (decide (200 < (p1.size : Int)))) || (decide (p3 < 1))) || (decide (20 < p3))) || (decide (p2 < 1))) || (decide (p3 < p2)))
      (
      K r9 w2
      )
      (
      callC Try.prog 9 #[(Value.pointer r10), (Value.string p0), (Value.int .i64 p2), (Value.int .i64 p3), (Value.int .i64 p4)] (fun (r : Int × Sl × Int) => (Value.tuple #[(Value.int .i64 r.1), (Sl.v r.2.1), (Value.int .i64 r.2.2)])) w2 fun r23 w3 =>
      callC Try.prog 9 #[(Value.pointer r10), (Value.string p1), (Value.int .i64 p2), (Value.int .i64 p3), (Value.int .i64 p4)] (fun (r : Int × Sl × Int) => (Value.tuple #[(Value.int .i64 r.1), (Sl.v r.2.1), (Value.int .i64 r.2.2)])) w3 fun r24 w4 =>
      cnd (((((!decide (r23.2.2 = 0)) || (!decide (r24.2.2 = 0))) || (decide (r23.1 = r24.1))) || (!decide ((r23.2.1.len : Int) = p3))) || (!decide ((r24.2.1.len : Int) = p3)))
        (
        K false w4
        )
        (
        callC Try.prog 10 #[(Value.pointer r10), (Value.int .i64 r23.1), (Sl.v r24.2.1)] (fun (r : ByteArray × Int) => (Value.tuple #[(Value.string r.1), (Value.int .i64 r.2)])) w4 fun r34 w5 =>
        callC Try.prog 10 #[(Value.pointer r10), (Value.int .i64 r24.1), (Sl.v r23.2.1)] (fun (r : ByteArray × Int) => (Value.tuple #[(Value.string r.1), (Value.int .i64 r.2)])) w5 fun r35 w6 =>
        callC Try.prog 10 #[(Value.pointer r10), (Value.int .i64 r23.1), (Sl.v r23.2.1)] (fun (r : ByteArray × Int) => (Value.tuple #[(Value.string r.1), (Value.int .i64 r.2)])) w6 fun r36 w7 =>
        rn Try.prog (Instr.sliceAt 25 (Sl.v r24.2.1) (some (Value.int .i64 (IntKind.i64.wrap (p3 - p2)))) none none) (fun (r : Sl) => (Sl.v r)) w7 fun r37 w8 =>
        callC Try.prog 10 #[(Value.pointer r10), (Value.int .i64 r24.1), (Sl.v r37)] (fun (r : ByteArray × Int) => (Value.tuple #[(Value.string r.1), (Value.int .i64 r.2)])) w8 fun r38 w9 =>
        callC Try.prog 10 #[(Value.pointer r10), (Value.int .i64 p5), (Sl.v r23.2.1)] (fun (r : ByteArray × Int) => (Value.tuple #[(Value.string r.1), (Value.int .i64 r.2)])) w9 fun r39 w10 =>
        K (((((((((r9 && (beqS r34.1 (ByteArray.mk #[]))) && (decide (r34.2 = 13))) && (beqS r35.1 (ByteArray.mk #[]))) && (decide (r35.2 = 13))) && (beqS r36.1 p0)) && (decide (r36.2 = 0))) && (beqS r38.1 p1)) && (decide (r38.2 = 0))) && (((decide (p5 = r23.1)) || (decide (p5 = r24.1))) || (decide (r39.2 = 4)))) w10
        )
      )
    )
set_option maxRecDepth 100000 in
theorem D3 (p0 : ByteArray) (p1 : ByteArray) (p2 : Int) (p3 : Int) (p4 : Int) (p5 : Int) (w0 : World) (K : Bool → World → Prop) (h : F3 p0 p1 p2 p3 p4 p5 w0 K) : callC Try.prog 3 #[(Value.string p0), (Value.string p1), (Value.int .i64 p2), (Value.int .i64 p3), (Value.int .i64 p4), (Value.int .i64 p5)] (fun (r : Bool) => (Value.bool r)) w0 K := by
  unfold F3 at h
  refine calls_of_wpC Try.func3 rfl 192 rfl (by simp) ?_
  intro ρ hρ
  have e0 : ρ 0 = (Value.string p0) := hρ 0
  have e1 : ρ 1 = (Value.string p1) := hρ 1
  have e2 : ρ 2 = (Value.int .i64 p2) := hρ 2
  have e3 : ρ 3 = (Value.int .i64 p3) := hρ 3
  have e4 : ρ 4 = (Value.int .i64 p4) := hρ 4
  have e5 : ρ 5 = (Value.int .i64 p5) := hρ 5
  clear hρ
  refine wpC_seq ?_
  refine wpC_region ?_
  refine wpR_val (v := (Value.bool false)) (w' := w0) rfl rfl rfl (x_assign (v := (Value.bool false)) rfl rfl) ?_
  refine wpR_nil ?_
  refine wpC_seq ?_
  refine wpC_cut (fun ρ => ρ 0 = (Value.string p0) ∧ ρ 1 = (Value.string p1) ∧ ρ 2 = (Value.int .i64 p2) ∧ ρ 3 = (Value.int .i64 p3) ∧ ρ 4 = (Value.int .i64 p4) ∧ ρ 5 = (Value.int .i64 p5) ∧ True) ⟨e0, e1, e2, e3, e4, e5, trivial⟩ ?_
  rintro ρ ⟨e0, e1, e2, e3, e4, e5, -⟩
  refine wpC_region ?_
  refine wpR_enter rfl rfl rfl (x_call (vs := []) rfl rfl mapl_nil Try.func7 NN_7 NB_7) (Calls.mono h ?_)
  rintro _ w1 ⟨r9, rfl, h⟩
  refine ⟨_, rfl, ?_⟩
  refine wpR_val (v := (Value.bool r9)) (w' := w1) rfl rfl rfl (x_assign (v := (Value.bool r9)) rfl rfl) ?_
  refine wpR_nil ?_
  refine wpC_seq ?_
  refine wpC_cut (fun ρ => ρ 0 = (Value.string p0) ∧ ρ 1 = (Value.string p1) ∧ ρ 2 = (Value.int .i64 p2) ∧ ρ 3 = (Value.int .i64 p3) ∧ ρ 4 = (Value.int .i64 p4) ∧ ρ 5 = (Value.int .i64 p5) ∧ ρ 13 = (Value.bool r9) ∧ True) ⟨e0, e1, e2, e3, e4, e5, rfl, trivial⟩ ?_
  rintro ρ ⟨e0, e1, e2, e3, e4, e5, e13, -⟩
  refine wpC_region ?_
  refine wpR_enter rfl rfl rfl (x_call (vs := []) rfl rfl mapl_nil Try.func8 NN_8 NB_8) (Calls.mono h ?_)
  rintro _ w2 ⟨r10, rfl, h⟩
  refine ⟨_, rfl, ?_⟩
  refine wpR_val (v := (Value.pointer r10)) (w' := w2) rfl rfl rfl (x_assign (v := (Value.pointer r10)) rfl rfl) ?_
  refine wpR_nil ?_
  refine wpC_seq ?_
  refine wpC_seq ?_
  refine wpC_cut (fun ρ => ρ 0 = (Value.string p0) ∧ ρ 1 = (Value.string p1) ∧ ρ 2 = (Value.int .i64 p2) ∧ ρ 3 = (Value.int .i64 p3) ∧ ρ 4 = (Value.int .i64 p4) ∧ ρ 5 = (Value.int .i64 p5) ∧ ρ 13 = (Value.bool r9) ∧ ρ 14 = (Value.pointer r10) ∧ True) ⟨e0, e1, e2, e3, e4, e5, e13, rfl, trivial⟩ ?_
  rintro ρ ⟨e0, e1, e2, e3, e4, e5, e13, e14, -⟩
  refine wpC_region ?_
  refine wpR_val (v := (Value.pointer r10)) (w' := w2) rfl rfl rfl (x_move (v := (Value.pointer r10)) rfl e14) ?_
  refine wpR_val (v := (Value.bool r10.isNone)) (w' := w2) rfl rfl rfl (x_eqlNil rfl rfl rfl isPtrT_23) ?_
  refine wpR_nil ?_
  refine wpC_cond (b := r10.isNone) rfl (fun hc11 => ?_) (fun hc11 => ?_)
  · replace h := h.1 hc11
    refine wpC_seq ?_
    refine wpC_cut (fun ρ => True) trivial ?_
    rintro ρ -
    refine wpC_region ?_
    refine wpR_val (v := (Value.bool false)) (w' := w2) rfl rfl rfl (x_assign (v := (Value.bool false)) rfl rfl) ?_
    refine wpR_nil ?_
    refine wpC_ret ?_
    exact ⟨.inl rfl, fun a ha => ⟨_, results_rep1 rfl ha rfl, false, rfl, h⟩⟩
  · replace h := h.2 hc11
    refine wpC_skip ?_
    refine wpC_seq ?_
    refine wpC_seq ?_
    refine wpC_cut (fun ρ => ρ 0 = (Value.string p0) ∧ ρ 1 = (Value.string p1) ∧ ρ 2 = (Value.int .i64 p2) ∧ ρ 3 = (Value.int .i64 p3) ∧ ρ 4 = (Value.int .i64 p4) ∧ ρ 5 = (Value.int .i64 p5) ∧ ρ 13 = (Value.bool r9) ∧ ρ 14 = (Value.pointer r10) ∧ True) ⟨e0, e1, e2, e3, e4, e5, e13, e14, trivial⟩ ?_
    rintro ρ ⟨e0, e1, e2, e3, e4, e5, e13, e14, -⟩
    refine wpC_region ?_
    refine wpR_val (v := (Value.string p0)) (w' := w2) rfl rfl rfl (x_move (v := (Value.string p0)) rfl e0) ?_
    refine wpR_val (v := (Value.int .i64 (p0.size : Int))) (w' := w2) rfl rfl rfl (x_lenStr rfl rfl isStrT_9) ?_
    refine wpR_val (v := (Value.bool (decide (200 < (p0.size : Int))))) (w' := w2) rfl rfl rfl (x_gtr rfl rfl rfl) ?_
    refine wpR_val (v := (Value.bool (decide (200 < (p0.size : Int))))) (w' := w2) rfl rfl rfl (x_move (v := (Value.bool (decide (200 < (p0.size : Int))))) rfl rfl) ?_
    refine wpR_joinJ 4 (fun (_ : Unit) ρ => ρ 42 = Value.bool ((decide (200 < (p0.size : Int))) || (decide (200 < (p1.size : Int)))) ∧ ρ 0 = (Value.string p0) ∧ ρ 1 = (Value.string p1) ∧ ρ 2 = (Value.int .i64 p2) ∧ ρ 3 = (Value.int .i64 p3) ∧ ρ 4 = (Value.int .i64 p4) ∧ ρ 5 = (Value.int .i64 p5) ∧ ρ 13 = (Value.bool r9) ∧ ρ 14 = (Value.pointer r10) ∧ True) (fun _ w => w2 = w) ?_ ?_
    · clear h
      rcases Bool.eq_false_or_eq_true (decide (200 < (p0.size : Int))) with hc13 | hc13
      · skip
        refine wpR_pass (wantN rfl rfl rfl hc13) rfl rfl ?_
        refine wpR_pass (wantN rfl rfl rfl hc13) rfl rfl ?_
        refine wpR_pass (wantN rfl rfl rfl hc13) rfl rfl ?_
        refine wpR_val (v := (Value.bool true)) (w' := w2) rfl rfl rfl (x_pickT (v := (Value.bool true)) rfl rfl hc13 rfl) ?_
        refine wpR_nil ?_
        exact ⟨(), ⟨(by rw [hc13]; rfl), e0, e1, e2, e3, e4, e5, e13, e14, trivial⟩, rfl⟩
      · skip
        refine wpR_val (v := (Value.string p1)) (w' := w2) (wantG rfl rfl rfl hc13) rfl rfl (x_move (v := (Value.string p1)) rfl e1) ?_
        refine wpR_val (v := (Value.int .i64 (p1.size : Int))) (w' := w2) (wantG rfl rfl rfl hc13) rfl rfl (x_lenStr rfl rfl isStrT_9) ?_
        refine wpR_val (v := (Value.bool (decide (200 < (p1.size : Int))))) (w' := w2) (wantG rfl rfl rfl hc13) rfl rfl (x_gtr rfl rfl rfl) ?_
        refine wpR_val (v := (Value.bool (decide (200 < (p1.size : Int))))) (w' := w2) rfl rfl rfl (x_pickF (v := (Value.bool (decide (200 < (p1.size : Int))))) rfl rfl hc13 rfl) ?_
        refine wpR_nil ?_
        exact ⟨(), ⟨(by rw [hc13]; rfl), e0, e1, e2, e3, e4, e5, e13, e14, trivial⟩, rfl⟩
    rintro _ ρ wj ⟨e42, e0, e1, e2, e3, e4, e5, e13, e14, -⟩ rfl
    refine wpR_val (v := (Value.bool ((decide (200 < (p0.size : Int))) || (decide (200 < (p1.size : Int)))))) (w' := w2) rfl rfl rfl (x_move (v := (Value.bool ((decide (200 < (p0.size : Int))) || (decide (200 < (p1.size : Int)))))) rfl e42) ?_
    refine wpR_joinJ 3 (fun (_ : Unit) ρ => ρ 46 = Value.bool (((decide (200 < (p0.size : Int))) || (decide (200 < (p1.size : Int)))) || (decide (p3 < 1))) ∧ ρ 0 = (Value.string p0) ∧ ρ 1 = (Value.string p1) ∧ ρ 2 = (Value.int .i64 p2) ∧ ρ 3 = (Value.int .i64 p3) ∧ ρ 4 = (Value.int .i64 p4) ∧ ρ 5 = (Value.int .i64 p5) ∧ ρ 13 = (Value.bool r9) ∧ ρ 14 = (Value.pointer r10) ∧ True) (fun _ w => w2 = w) ?_ ?_
    · clear h
      rcases Bool.eq_false_or_eq_true ((decide (200 < (p0.size : Int))) || (decide (200 < (p1.size : Int)))) with hc15 | hc15
      · skip
        refine wpR_pass (wantN rfl rfl rfl hc15) rfl rfl ?_
        refine wpR_pass (wantN rfl rfl rfl hc15) rfl rfl ?_
        refine wpR_val (v := (Value.bool true)) (w' := w2) rfl rfl rfl (x_pickT (v := (Value.bool true)) rfl rfl hc15 rfl) ?_
        refine wpR_nil ?_
        exact ⟨(), ⟨(by rw [hc15]; rfl), e0, e1, e2, e3, e4, e5, e13, e14, trivial⟩, rfl⟩
      · skip
        refine wpR_val (v := (Value.int .i64 p3)) (w' := w2) (wantG rfl rfl rfl hc15) rfl rfl (x_move (v := (Value.int .i64 p3)) rfl e3) ?_
        refine wpR_val (v := (Value.bool (decide (p3 < 1)))) (w' := w2) (wantG rfl rfl rfl hc15) rfl rfl (x_lss rfl rfl rfl) ?_
        refine wpR_val (v := (Value.bool (decide (p3 < 1)))) (w' := w2) rfl rfl rfl (x_pickF (v := (Value.bool (decide (p3 < 1)))) rfl rfl hc15 rfl) ?_
        refine wpR_nil ?_
        exact ⟨(), ⟨(by rw [hc15]; rfl), e0, e1, e2, e3, e4, e5, e13, e14, trivial⟩, rfl⟩
    rintro _ ρ wj ⟨e46, e0, e1, e2, e3, e4, e5, e13, e14, -⟩ rfl
    refine wpR_val (v := (Value.bool (((decide (200 < (p0.size : Int))) || (decide (200 < (p1.size : Int)))) || (decide (p3 < 1))))) (w' := w2) rfl rfl rfl (x_move (v := (Value.bool (((decide (200 < (p0.size : Int))) || (decide (200 < (p1.size : Int)))) || (decide (p3 < 1))))) rfl e46) ?_
    refine wpR_joinJ 3 (fun (_ : Unit) ρ => ρ 50 = Value.bool ((((decide (200 < (p0.size : Int))) || (decide (200 < (p1.size : Int)))) || (decide (p3 < 1))) || (decide (20 < p3))) ∧ ρ 0 = (Value.string p0) ∧ ρ 1 = (Value.string p1) ∧ ρ 2 = (Value.int .i64 p2) ∧ ρ 3 = (Value.int .i64 p3) ∧ ρ 4 = (Value.int .i64 p4) ∧ ρ 5 = (Value.int .i64 p5) ∧ ρ 13 = (Value.bool r9) ∧ ρ 14 = (Value.pointer r10) ∧ True) (fun _ w => w2 = w) ?_ ?_
    · clear h
      rcases Bool.eq_false_or_eq_true (((decide (200 < (p0.size : Int))) || (decide (200 < (p1.size : Int)))) || (decide (p3 < 1))) with hc17 | hc17
      · skip
        refine wpR_pass (wantN rfl rfl rfl hc17) rfl rfl ?_
        refine wpR_pass (wantN rfl rfl rfl hc17) rfl rfl ?_
        refine wpR_val (v := (Value.bool true)) (w' := w2) rfl rfl rfl (x_pickT (v := (Value.bool true)) rfl rfl hc17 rfl) ?_
        refine wpR_nil ?_
        exact ⟨(), ⟨(by rw [hc17]; rfl), e0, e1, e2, e3, e4, e5, e13, e14, trivial⟩, rfl⟩
      · skip
        refine wpR_val (v := (Value.int .i64 p3)) (w' := w2) (wantG rfl rfl rfl hc17) rfl rfl (x_move (v := (Value.int .i64 p3)) rfl e3) ?_
        refine wpR_val (v := (Value.bool (decide (20 < p3)))) (w' := w2) (wantG rfl rfl rfl hc17) rfl rfl (x_gtr rfl rfl rfl) ?_
        refine wpR_val (v := (Value.bool (decide (20 < p3)))) (w' := w2) rfl rfl rfl (x_pickF (v := (Value.bool (decide (20 < p3)))) rfl rfl hc17 rfl) ?_
        refine wpR_nil ?_
        exact ⟨(), ⟨(by rw [hc17]; rfl), e0, e1, e2, e3, e4, e5, e13, e14, trivial⟩, rfl⟩
    rintro _ ρ wj ⟨e50, e0, e1, e2, e3, e4, e5, e13, e14, -⟩ rfl
    refine wpR_val (v := (Value.bool ((((decide (200 < (p0.size : Int))) || (decide (200 < (p1.size : Int)))) || (decide (p3 < 1))) || (decide (20 < p3))))) (w' := w2) rfl rfl rfl (x_move (v := (Value.bool ((((decide (200 < (p0.size : Int))) || (decide (200 < (p1.size : Int)))) || (decide (p3 < 1))) || (decide (20 < p3))))) rfl e50) ?_
    refine wpR_joinJ 3 (fun (_ : Unit) ρ => ρ 54 = Value.bool (((((decide (200 < (p0.size : Int))) || (decide (200 < (p1.size : Int)))) || (decide (p3 < 1))) || (decide (20 < p3))) || (decide (p2 < 1))) ∧ ρ 0 = (Value.string p0) ∧ ρ 1 = (Value.string p1) ∧ ρ 2 = (Value.int .i64 p2) ∧ ρ 3 = (Value.int .i64 p3) ∧ ρ 4 = (Value.int .i64 p4) ∧ ρ 5 = (Value.int .i64 p5) ∧ ρ 13 = (Value.bool r9) ∧ ρ 14 = (Value.pointer r10) ∧ True) (fun _ w => w2 = w) ?_ ?_
    · clear h
      rcases Bool.eq_false_or_eq_true ((((decide (200 < (p0.size : Int))) || (decide (200 < (p1.size : Int)))) || (decide (p3 < 1))) || (decide (20 < p3))) with hc19 | hc19
      · skip
        refine wpR_pass (wantN rfl rfl rfl hc19) rfl rfl ?_
        refine wpR_pass (wantN rfl rfl rfl hc19) rfl rfl ?_
        refine wpR_val (v := (Value.bool true)) (w' := w2) rfl rfl rfl (x_pickT (v := (Value.bool true)) rfl rfl hc19 rfl) ?_
        refine wpR_nil ?_
        exact ⟨(), ⟨(by rw [hc19]; rfl), e0, e1, e2, e3, e4, e5, e13, e14, trivial⟩, rfl⟩
      · skip
        refine wpR_val (v := (Value.int .i64 p2)) (w' := w2) (wantG rfl rfl rfl hc19) rfl rfl (x_move (v := (Value.int .i64 p2)) rfl e2) ?_
        refine wpR_val (v := (Value.bool (decide (p2 < 1)))) (w' := w2) (wantG rfl rfl rfl hc19) rfl rfl (x_lss rfl rfl rfl) ?_
        refine wpR_val (v := (Value.bool (decide (p2 < 1)))) (w' := w2) rfl rfl rfl (x_pickF (v := (Value.bool (decide (p2 < 1)))) rfl rfl hc19 rfl) ?_
        refine wpR_nil ?_
        exact ⟨(), ⟨(by rw [hc19]; rfl), e0, e1, e2, e3, e4, e5, e13, e14, trivial⟩, rfl⟩
    rintro _ ρ wj ⟨e54, e0, e1, e2, e3, e4, e5, e13, e14, -⟩ rfl
    refine wpR_val (v := (Value.bool (((((decide (200 < (p0.size : Int))) || (decide (200 < (p1.size : Int)))) || (decide (p3 < 1))) || (decide (20 < p3))) || (decide (p2 < 1))))) (w' := w2) rfl rfl rfl (x_move (v := (Value.bool (((((decide (200 < (p0.size : Int))) || (decide (200 < (p1.size : Int)))) || (decide (p3 < 1))) || (decide (20 < p3))) || (decide (p2 < 1))))) rfl e54) ?_
    refine wpR_joinJ 4 (fun (_ : Unit) ρ => ρ 59 = Value.bool ((((((decide (200 < (p0.size : Int))) || (decide (200 < (p1.size : Int)))) || (decide (p3 < 1))) || (decide (20 < p3))) || (decide (p2 < 1))) || (decide (p3 < p2))) ∧ ρ 0 = (Value.string p0) ∧ ρ 1 = (Value.string p1) ∧ ρ 2 = (Value.int .i64 p2) ∧ ρ 3 = (Value.int .i64 p3) ∧ ρ 4 = (Value.int .i64 p4) ∧ ρ 5 = (Value.int .i64 p5) ∧ ρ 13 = (Value.bool r9) ∧ ρ 14 = (Value.pointer r10) ∧ True) (fun _ w => w2 = w) ?_ ?_
    · clear h
      rcases Bool.eq_false_or_eq_true (((((decide (200 < (p0.size : Int))) || (decide (200 < (p1.size : Int)))) || (decide (p3 < 1))) || (decide (20 < p3))) || (decide (p2 < 1))) with hc21 | hc21
      · skip
        refine wpR_pass (wantN rfl rfl rfl hc21) rfl rfl ?_
        refine wpR_pass (wantN rfl rfl rfl hc21) rfl rfl ?_
        refine wpR_pass (wantN rfl rfl rfl hc21) rfl rfl ?_
        refine wpR_val (v := (Value.bool true)) (w' := w2) rfl rfl rfl (x_pickT (v := (Value.bool true)) rfl rfl hc21 rfl) ?_
        refine wpR_nil ?_
        exact ⟨(), ⟨(by rw [hc21]; rfl), e0, e1, e2, e3, e4, e5, e13, e14, trivial⟩, rfl⟩
      · skip
        refine wpR_val (v := (Value.int .i64 p2)) (w' := w2) (wantG rfl rfl rfl hc21) rfl rfl (x_move (v := (Value.int .i64 p2)) rfl e2) ?_
        refine wpR_val (v := (Value.int .i64 p3)) (w' := w2) (wantG rfl rfl rfl hc21) rfl rfl (x_move (v := (Value.int .i64 p3)) rfl e3) ?_
        refine wpR_val (v := (Value.bool (decide (p3 < p2)))) (w' := w2) (wantG rfl rfl rfl hc21) rfl rfl (x_gtr rfl rfl rfl) ?_
        refine wpR_val (v := (Value.bool (decide (p3 < p2)))) (w' := w2) rfl rfl rfl (x_pickF (v := (Value.bool (decide (p3 < p2)))) rfl rfl hc21 rfl) ?_
        refine wpR_nil ?_
        exact ⟨(), ⟨(by rw [hc21]; rfl), e0, e1, e2, e3, e4, e5, e13, e14, trivial⟩, rfl⟩
    rintro _ ρ wj ⟨e59, e0, e1, e2, e3, e4, e5, e13, e14, -⟩ rfl
    refine wpR_nil ?_
    refine wpC_cond (b := (((((decide (200 < (p0.size : Int))) || (decide (200 < (p1.size : Int)))) || (decide (p3 < 1))) || (decide (20 < p3))) || (decide (p2 < 1))) || (decide (p3 < p2))) e59 (fun hc22 => ?_) (fun hc22 => ?_)
    · replace h := h.1 hc22
      refine wpC_seq ?_
      refine wpC_region ?_
      refine wpR_val (v := (Value.bool r9)) (w' := w2) rfl rfl rfl (x_move (v := (Value.bool r9)) rfl e13) ?_
      refine wpR_val (v := (Value.bool r9)) (w' := w2) rfl rfl rfl (x_assign (v := (Value.bool r9)) rfl rfl) ?_
      refine wpR_nil ?_
      refine wpC_ret ?_
      exact ⟨.inl rfl, fun a ha => ⟨_, results_rep1 rfl ha rfl, r9, rfl, h⟩⟩
    · replace h := h.2 hc22
      refine wpC_skip ?_
      refine wpC_seq ?_
      refine wpC_region ?_
      refine wpR_val (v := (Value.pointer r10)) (w' := w2) rfl rfl rfl (x_move (v := (Value.pointer r10)) rfl e14) ?_
      refine wpR_val (v := (Value.string p0)) (w' := w2) rfl rfl rfl (x_move (v := (Value.string p0)) rfl e0) ?_
      refine wpR_val (v := (Value.int .i64 p2)) (w' := w2) rfl rfl rfl (x_move (v := (Value.int .i64 p2)) rfl e2) ?_
      refine wpR_val (v := (Value.int .i64 p3)) (w' := w2) rfl rfl rfl (x_move (v := (Value.int .i64 p3)) rfl e3) ?_
      refine wpR_val (v := (Value.int .i64 p4)) (w' := w2) rfl rfl rfl (x_move (v := (Value.int .i64 p4)) rfl e4) ?_
      refine wpR_enter rfl rfl rfl (x_call (vs := [(Value.pointer r10), (Value.string p0), (Value.int .i64 p2), (Value.int .i64 p3), (Value.int .i64 p4)]) rfl rfl (mapl_cons rfl (mapl_cons rfl (mapl_cons rfl (mapl_cons rfl (mapl_cons rfl mapl_nil))))) Try.func9 NN_9 NB_9) (Calls.mono h ?_)
      rintro _ w3 ⟨r23, rfl, h⟩
      refine ⟨_, rfl, ?_⟩
      refine wpR_val (v := (Value.tuple #[(Value.int .i64 r23.1), (Sl.v r23.2.1), (Value.int .i64 r23.2.2)])) (w' := w3) rfl rfl rfl (x_move (v := (Value.tuple #[(Value.int .i64 r23.1), (Sl.v r23.2.1), (Value.int .i64 r23.2.2)])) rfl rfl) ?_
      refine wpR_val (v := (Value.int .i64 r23.1)) (w' := w3) rfl rfl rfl (x_extract rfl rfl rfl) ?_
      refine wpR_val (v := (Sl.v r23.2.1)) (w' := w3) rfl rfl rfl (x_extract rfl rfl rfl) ?_
      refine wpR_val (v := (Value.int .i64 r23.2.2)) (w' := w3) rfl rfl rfl (x_extract rfl rfl rfl) ?_
      refine wpR_val (v := (Value.int .i64 r23.1)) (w' := w3) rfl rfl rfl (x_assign (v := (Value.int .i64 r23.1)) rfl rfl) ?_
      refine wpR_val (v := (Sl.v r23.2.1)) (w' := w3) rfl rfl rfl (x_assign (v := (Sl.v r23.2.1)) rfl rfl) ?_
      refine wpR_val (v := (Value.int .i64 r23.2.2)) (w' := w3) rfl rfl rfl (x_assign (v := (Value.int .i64 r23.2.2)) rfl rfl) ?_
      refine wpR_nil ?_
      refine wpC_seq ?_
      refine wpC_cut (fun ρ => ρ 0 = (Value.string p0) ∧ ρ 1 = (Value.string p1) ∧ ρ 2 = (Value.int .i64 p2) ∧ ρ 3 = (Value.int .i64 p3) ∧ ρ 4 = (Value.int .i64 p4) ∧ ρ 5 = (Value.int .i64 p5) ∧ ρ 13 = (Value.bool r9) ∧ ρ 14 = (Value.pointer r10) ∧ ρ 15 = (Value.int .i64 r23.1) ∧ ρ 16 = (Sl.v r23.2.1) ∧ ρ 17 = (Value.int .i64 r23.2.2) ∧ True) ⟨e0, e1, e2, e3, e4, e5, e13, e14, rfl, rfl, rfl, trivial⟩ ?_
      rintro ρ ⟨e0, e1, e2, e3, e4, e5, e13, e14, e15, e16, e17, -⟩
      refine wpC_region ?_
      refine wpR_val (v := (Value.pointer r10)) (w' := w3) rfl rfl rfl (x_move (v := (Value.pointer r10)) rfl e14) ?_
      refine wpR_val (v := (Value.string p1)) (w' := w3) rfl rfl rfl (x_move (v := (Value.string p1)) rfl e1) ?_
      refine wpR_val (v := (Value.int .i64 p2)) (w' := w3) rfl rfl rfl (x_move (v := (Value.int .i64 p2)) rfl e2) ?_
      refine wpR_val (v := (Value.int .i64 p3)) (w' := w3) rfl rfl rfl (x_move (v := (Value.int .i64 p3)) rfl e3) ?_
      refine wpR_val (v := (Value.int .i64 p4)) (w' := w3) rfl rfl rfl (x_move (v := (Value.int .i64 p4)) rfl e4) ?_
      refine wpR_enter rfl rfl rfl (x_call (vs := [(Value.pointer r10), (Value.string p1), (Value.int .i64 p2), (Value.int .i64 p3), (Value.int .i64 p4)]) rfl rfl (mapl_cons rfl (mapl_cons rfl (mapl_cons rfl (mapl_cons rfl (mapl_cons rfl mapl_nil))))) Try.func9 NN_9 NB_9) (Calls.mono h ?_)
      rintro _ w4 ⟨r24, rfl, h⟩
      refine ⟨_, rfl, ?_⟩
      refine wpR_val (v := (Value.tuple #[(Value.int .i64 r24.1), (Sl.v r24.2.1), (Value.int .i64 r24.2.2)])) (w' := w4) rfl rfl rfl (x_move (v := (Value.tuple #[(Value.int .i64 r24.1), (Sl.v r24.2.1), (Value.int .i64 r24.2.2)])) rfl rfl) ?_
      refine wpR_val (v := (Value.int .i64 r24.1)) (w' := w4) rfl rfl rfl (x_extract rfl rfl rfl) ?_
      refine wpR_val (v := (Sl.v r24.2.1)) (w' := w4) rfl rfl rfl (x_extract rfl rfl rfl) ?_
      refine wpR_val (v := (Value.int .i64 r24.2.2)) (w' := w4) rfl rfl rfl (x_extract rfl rfl rfl) ?_
      refine wpR_val (v := (Value.int .i64 r24.1)) (w' := w4) rfl rfl rfl (x_assign (v := (Value.int .i64 r24.1)) rfl rfl) ?_
      refine wpR_val (v := (Sl.v r24.2.1)) (w' := w4) rfl rfl rfl (x_assign (v := (Sl.v r24.2.1)) rfl rfl) ?_
      refine wpR_val (v := (Value.int .i64 r24.2.2)) (w' := w4) rfl rfl rfl (x_assign (v := (Value.int .i64 r24.2.2)) rfl rfl) ?_
      refine wpR_nil ?_
      refine wpC_seq ?_
      refine wpC_seq ?_
      refine wpC_cut (fun ρ => ρ 0 = (Value.string p0) ∧ ρ 1 = (Value.string p1) ∧ ρ 2 = (Value.int .i64 p2) ∧ ρ 3 = (Value.int .i64 p3) ∧ ρ 5 = (Value.int .i64 p5) ∧ ρ 13 = (Value.bool r9) ∧ ρ 14 = (Value.pointer r10) ∧ ρ 15 = (Value.int .i64 r23.1) ∧ ρ 16 = (Sl.v r23.2.1) ∧ ρ 17 = (Value.int .i64 r23.2.2) ∧ ρ 18 = (Value.int .i64 r24.1) ∧ ρ 19 = (Sl.v r24.2.1) ∧ ρ 20 = (Value.int .i64 r24.2.2) ∧ True) ⟨e0, e1, e2, e3, e5, e13, e14, e15, e16, e17, rfl, rfl, rfl, trivial⟩ ?_
      rintro ρ ⟨e0, e1, e2, e3, e5, e13, e14, e15, e16, e17, e18, e19, e20, -⟩
      refine wpC_region ?_
      refine wpR_val (v := (Value.int .i64 r23.2.2)) (w' := w4) rfl rfl rfl (x_move (v := (Value.int .i64 r23.2.2)) rfl e17) ?_
      refine wpR_val (v := (Value.bool (!decide (r23.2.2 = 0)))) (w' := w4) rfl rfl rfl (x_neq rfl rfl rfl) ?_
      refine wpR_val (v := (Value.bool (!decide (r23.2.2 = 0)))) (w' := w4) rfl rfl rfl (x_move (v := (Value.bool (!decide (r23.2.2 = 0)))) rfl rfl) ?_
      refine wpR_joinJ 3 (fun (_ : Unit) ρ => ρ 86 = Value.bool ((!decide (r23.2.2 = 0)) || (!decide (r24.2.2 = 0))) ∧ ρ 0 = (Value.string p0) ∧ ρ 1 = (Value.string p1) ∧ ρ 2 = (Value.int .i64 p2) ∧ ρ 3 = (Value.int .i64 p3) ∧ ρ 5 = (Value.int .i64 p5) ∧ ρ 13 = (Value.bool r9) ∧ ρ 14 = (Value.pointer r10) ∧ ρ 15 = (Value.int .i64 r23.1) ∧ ρ 16 = (Sl.v r23.2.1) ∧ ρ 18 = (Value.int .i64 r24.1) ∧ ρ 19 = (Sl.v r24.2.1) ∧ True) (fun _ w => w4 = w) ?_ ?_
      · clear h
        rcases Bool.eq_false_or_eq_true (!decide (r23.2.2 = 0)) with hc26 | hc26
        · skip
          refine wpR_pass (wantN rfl rfl rfl hc26) rfl rfl ?_
          refine wpR_pass (wantN rfl rfl rfl hc26) rfl rfl ?_
          refine wpR_val (v := (Value.bool true)) (w' := w4) rfl rfl rfl (x_pickT (v := (Value.bool true)) rfl rfl hc26 rfl) ?_
          refine wpR_nil ?_
          exact ⟨(), ⟨(by rw [hc26]; rfl), e0, e1, e2, e3, e5, e13, e14, e15, e16, e18, e19, trivial⟩, rfl⟩
        · skip
          refine wpR_val (v := (Value.int .i64 r24.2.2)) (w' := w4) (wantG rfl rfl rfl hc26) rfl rfl (x_move (v := (Value.int .i64 r24.2.2)) rfl e20) ?_
          refine wpR_val (v := (Value.bool (!decide (r24.2.2 = 0)))) (w' := w4) (wantG rfl rfl rfl hc26) rfl rfl (x_neq rfl rfl rfl) ?_
          refine wpR_val (v := (Value.bool (!decide (r24.2.2 = 0)))) (w' := w4) rfl rfl rfl (x_pickF (v := (Value.bool (!decide (r24.2.2 = 0)))) rfl rfl hc26 rfl) ?_
          refine wpR_nil ?_
          exact ⟨(), ⟨(by rw [hc26]; rfl), e0, e1, e2, e3, e5, e13, e14, e15, e16, e18, e19, trivial⟩, rfl⟩
      rintro _ ρ wj ⟨e86, e0, e1, e2, e3, e5, e13, e14, e15, e16, e18, e19, -⟩ rfl
      refine wpR_val (v := (Value.bool ((!decide (r23.2.2 = 0)) || (!decide (r24.2.2 = 0))))) (w' := w4) rfl rfl rfl (x_move (v := (Value.bool ((!decide (r23.2.2 = 0)) || (!decide (r24.2.2 = 0))))) rfl e86) ?_
      refine wpR_joinJ 4 (fun (_ : Unit) ρ => ρ 91 = Value.bool (((!decide (r23.2.2 = 0)) || (!decide (r24.2.2 = 0))) || (decide (r23.1 = r24.1))) ∧ ρ 0 = (Value.string p0) ∧ ρ 1 = (Value.string p1) ∧ ρ 2 = (Value.int .i64 p2) ∧ ρ 3 = (Value.int .i64 p3) ∧ ρ 5 = (Value.int .i64 p5) ∧ ρ 13 = (Value.bool r9) ∧ ρ 14 = (Value.pointer r10) ∧ ρ 15 = (Value.int .i64 r23.1) ∧ ρ 16 = (Sl.v r23.2.1) ∧ ρ 18 = (Value.int .i64 r24.1) ∧ ρ 19 = (Sl.v r24.2.1) ∧ True) (fun _ w => w4 = w) ?_ ?_
      · clear h
        rcases Bool.eq_false_or_eq_true ((!decide (r23.2.2 = 0)) || (!decide (r24.2.2 = 0))) with hc28 | hc28
        · skip
          refine wpR_pass (wantN rfl rfl rfl hc28) rfl rfl ?_
          refine wpR_pass (wantN rfl rfl rfl hc28) rfl rfl ?_
          refine wpR_pass (wantN rfl rfl rfl hc28) rfl rfl ?_
          refine wpR_val (v := (Value.bool true)) (w' := w4) rfl rfl rfl (x_pickT (v := (Value.bool true)) rfl rfl hc28 rfl) ?_
          refine wpR_nil ?_
          exact ⟨(), ⟨(by rw [hc28]; rfl), e0, e1, e2, e3, e5, e13, e14, e15, e16, e18, e19, trivial⟩, rfl⟩
        · skip
          refine wpR_val (v := (Value.int .i64 r23.1)) (w' := w4) (wantG rfl rfl rfl hc28) rfl rfl (x_move (v := (Value.int .i64 r23.1)) rfl e15) ?_
          refine wpR_val (v := (Value.int .i64 r24.1)) (w' := w4) (wantG rfl rfl rfl hc28) rfl rfl (x_move (v := (Value.int .i64 r24.1)) rfl e18) ?_
          refine wpR_val (v := (Value.bool (decide (r23.1 = r24.1)))) (w' := w4) (wantG rfl rfl rfl hc28) rfl rfl (x_eql rfl rfl rfl) ?_
          refine wpR_val (v := (Value.bool (decide (r23.1 = r24.1)))) (w' := w4) rfl rfl rfl (x_pickF (v := (Value.bool (decide (r23.1 = r24.1)))) rfl rfl hc28 rfl) ?_
          refine wpR_nil ?_
          exact ⟨(), ⟨(by rw [hc28]; rfl), e0, e1, e2, e3, e5, e13, e14, e15, e16, e18, e19, trivial⟩, rfl⟩
      rintro _ ρ wj ⟨e91, e0, e1, e2, e3, e5, e13, e14, e15, e16, e18, e19, -⟩ rfl
      refine wpR_val (v := (Value.bool (((!decide (r23.2.2 = 0)) || (!decide (r24.2.2 = 0))) || (decide (r23.1 = r24.1))))) (w' := w4) rfl rfl rfl (x_move (v := (Value.bool (((!decide (r23.2.2 = 0)) || (!decide (r24.2.2 = 0))) || (decide (r23.1 = r24.1))))) rfl e91) ?_
      refine wpR_joinJ 5 (fun (_ : Unit) ρ => ρ 97 = Value.bool ((((!decide (r23.2.2 = 0)) || (!decide (r24.2.2 = 0))) || (decide (r23.1 = r24.1))) || (!decide ((r23.2.1.len : Int) = p3))) ∧ ρ 0 = (Value.string p0) ∧ ρ 1 = (Value.string p1) ∧ ρ 2 = (Value.int .i64 p2) ∧ ρ 3 = (Value.int .i64 p3) ∧ ρ 5 = (Value.int .i64 p5) ∧ ρ 13 = (Value.bool r9) ∧ ρ 14 = (Value.pointer r10) ∧ ρ 15 = (Value.int .i64 r23.1) ∧ ρ 16 = (Sl.v r23.2.1) ∧ ρ 18 = (Value.int .i64 r24.1) ∧ ρ 19 = (Sl.v r24.2.1) ∧ True) (fun _ w => w4 = w) ?_ ?_
      · clear h
        rcases Bool.eq_false_or_eq_true (((!decide (r23.2.2 = 0)) || (!decide (r24.2.2 = 0))) || (decide (r23.1 = r24.1))) with hc30 | hc30
        · skip
          refine wpR_pass (wantN rfl rfl rfl hc30) rfl rfl ?_
          refine wpR_pass (wantN rfl rfl rfl hc30) rfl rfl ?_
          refine wpR_pass (wantN rfl rfl rfl hc30) rfl rfl ?_
          refine wpR_pass (wantN rfl rfl rfl hc30) rfl rfl ?_
          refine wpR_val (v := (Value.bool true)) (w' := w4) rfl rfl rfl (x_pickT (v := (Value.bool true)) rfl rfl hc30 rfl) ?_
          refine wpR_nil ?_
          exact ⟨(), ⟨(by rw [hc30]; rfl), e0, e1, e2, e3, e5, e13, e14, e15, e16, e18, e19, trivial⟩, rfl⟩
        · skip
          refine wpR_val (v := (Sl.v r23.2.1)) (w' := w4) (wantG rfl rfl rfl hc30) rfl rfl (x_move (v := (Sl.v r23.2.1)) rfl e16) ?_
          refine wpR_val (v := (Value.int .i64 (r23.2.1.len : Int))) (w' := w4) (wantG rfl rfl rfl hc30) rfl rfl (x_lenS (s := r23.2.1) rfl rfl isSliceT_25) ?_
          refine wpR_val (v := (Value.int .i64 p3)) (w' := w4) (wantG rfl rfl rfl hc30) rfl rfl (x_move (v := (Value.int .i64 p3)) rfl e3) ?_
          refine wpR_val (v := (Value.bool (!decide ((r23.2.1.len : Int) = p3)))) (w' := w4) (wantG rfl rfl rfl hc30) rfl rfl (x_neq rfl rfl rfl) ?_
          refine wpR_val (v := (Value.bool (!decide ((r23.2.1.len : Int) = p3)))) (w' := w4) rfl rfl rfl (x_pickF (v := (Value.bool (!decide ((r23.2.1.len : Int) = p3)))) rfl rfl hc30 rfl) ?_
          refine wpR_nil ?_
          exact ⟨(), ⟨(by rw [hc30]; rfl), e0, e1, e2, e3, e5, e13, e14, e15, e16, e18, e19, trivial⟩, rfl⟩
      rintro _ ρ wj ⟨e97, e0, e1, e2, e3, e5, e13, e14, e15, e16, e18, e19, -⟩ rfl
      refine wpR_val (v := (Value.bool ((((!decide (r23.2.2 = 0)) || (!decide (r24.2.2 = 0))) || (decide (r23.1 = r24.1))) || (!decide ((r23.2.1.len : Int) = p3))))) (w' := w4) rfl rfl rfl (x_move (v := (Value.bool ((((!decide (r23.2.2 = 0)) || (!decide (r24.2.2 = 0))) || (decide (r23.1 = r24.1))) || (!decide ((r23.2.1.len : Int) = p3))))) rfl e97) ?_
      refine wpR_joinJ 5 (fun (_ : Unit) ρ => ρ 103 = Value.bool (((((!decide (r23.2.2 = 0)) || (!decide (r24.2.2 = 0))) || (decide (r23.1 = r24.1))) || (!decide ((r23.2.1.len : Int) = p3))) || (!decide ((r24.2.1.len : Int) = p3))) ∧ ρ 0 = (Value.string p0) ∧ ρ 1 = (Value.string p1) ∧ ρ 2 = (Value.int .i64 p2) ∧ ρ 3 = (Value.int .i64 p3) ∧ ρ 5 = (Value.int .i64 p5) ∧ ρ 13 = (Value.bool r9) ∧ ρ 14 = (Value.pointer r10) ∧ ρ 15 = (Value.int .i64 r23.1) ∧ ρ 16 = (Sl.v r23.2.1) ∧ ρ 18 = (Value.int .i64 r24.1) ∧ ρ 19 = (Sl.v r24.2.1) ∧ True) (fun _ w => w4 = w) ?_ ?_
      · clear h
        rcases Bool.eq_false_or_eq_true ((((!decide (r23.2.2 = 0)) || (!decide (r24.2.2 = 0))) || (decide (r23.1 = r24.1))) || (!decide ((r23.2.1.len : Int) = p3))) with hc32 | hc32
        · skip
          refine wpR_pass (wantN rfl rfl rfl hc32) rfl rfl ?_
          refine wpR_pass (wantN rfl rfl rfl hc32) rfl rfl ?_
          refine wpR_pass (wantN rfl rfl rfl hc32) rfl rfl ?_
          refine wpR_pass (wantN rfl rfl rfl hc32) rfl rfl ?_
          refine wpR_val (v := (Value.bool true)) (w' := w4) rfl rfl rfl (x_pickT (v := (Value.bool true)) rfl rfl hc32 rfl) ?_
          refine wpR_nil ?_
          exact ⟨(), ⟨(by rw [hc32]; rfl), e0, e1, e2, e3, e5, e13, e14, e15, e16, e18, e19, trivial⟩, rfl⟩
        · skip
          refine wpR_val (v := (Sl.v r24.2.1)) (w' := w4) (wantG rfl rfl rfl hc32) rfl rfl (x_move (v := (Sl.v r24.2.1)) rfl e19) ?_
          refine wpR_val (v := (Value.int .i64 (r24.2.1.len : Int))) (w' := w4) (wantG rfl rfl rfl hc32) rfl rfl (x_lenS (s := r24.2.1) rfl rfl isSliceT_25) ?_
          refine wpR_val (v := (Value.int .i64 p3)) (w' := w4) (wantG rfl rfl rfl hc32) rfl rfl (x_move (v := (Value.int .i64 p3)) rfl e3) ?_
          refine wpR_val (v := (Value.bool (!decide ((r24.2.1.len : Int) = p3)))) (w' := w4) (wantG rfl rfl rfl hc32) rfl rfl (x_neq rfl rfl rfl) ?_
          refine wpR_val (v := (Value.bool (!decide ((r24.2.1.len : Int) = p3)))) (w' := w4) rfl rfl rfl (x_pickF (v := (Value.bool (!decide ((r24.2.1.len : Int) = p3)))) rfl rfl hc32 rfl) ?_
          refine wpR_nil ?_
          exact ⟨(), ⟨(by rw [hc32]; rfl), e0, e1, e2, e3, e5, e13, e14, e15, e16, e18, e19, trivial⟩, rfl⟩
      rintro _ ρ wj ⟨e103, e0, e1, e2, e3, e5, e13, e14, e15, e16, e18, e19, -⟩ rfl
      refine wpR_nil ?_
      refine wpC_cond (b := ((((!decide (r23.2.2 = 0)) || (!decide (r24.2.2 = 0))) || (decide (r23.1 = r24.1))) || (!decide ((r23.2.1.len : Int) = p3))) || (!decide ((r24.2.1.len : Int) = p3))) e103 (fun hc33 => ?_) (fun hc33 => ?_)
      · replace h := h.1 hc33
        refine wpC_seq ?_
        refine wpC_region ?_
        refine wpR_val (v := (Value.bool false)) (w' := w4) rfl rfl rfl (x_assign (v := (Value.bool false)) rfl rfl) ?_
        refine wpR_nil ?_
        refine wpC_ret ?_
        exact ⟨.inl rfl, fun a ha => ⟨_, results_rep1 rfl ha rfl, false, rfl, h⟩⟩
      · replace h := h.2 hc33
        refine wpC_skip ?_
        refine wpC_seq ?_
        refine wpC_region ?_
        refine wpR_val (v := (Value.pointer r10)) (w' := w4) rfl rfl rfl (x_move (v := (Value.pointer r10)) rfl e14) ?_
        refine wpR_val (v := (Value.int .i64 r23.1)) (w' := w4) rfl rfl rfl (x_move (v := (Value.int .i64 r23.1)) rfl e15) ?_
        refine wpR_val (v := (Sl.v r24.2.1)) (w' := w4) rfl rfl rfl (x_move (v := (Sl.v r24.2.1)) rfl e19) ?_
        refine wpR_enter rfl rfl rfl (x_call (vs := [(Value.pointer r10), (Value.int .i64 r23.1), (Sl.v r24.2.1)]) rfl rfl (mapl_cons rfl (mapl_cons rfl (mapl_cons rfl mapl_nil))) Try.func10 NN_10 NB_10) (Calls.mono h ?_)
        rintro _ w5 ⟨r34, rfl, h⟩
        refine ⟨_, rfl, ?_⟩
        refine wpR_val (v := (Value.tuple #[(Value.string r34.1), (Value.int .i64 r34.2)])) (w' := w5) rfl rfl rfl (x_move (v := (Value.tuple #[(Value.string r34.1), (Value.int .i64 r34.2)])) rfl rfl) ?_
        refine wpR_val (v := (Value.string r34.1)) (w' := w5) rfl rfl rfl (x_extract rfl rfl rfl) ?_
        refine wpR_val (v := (Value.int .i64 r34.2)) (w' := w5) rfl rfl rfl (x_extract rfl rfl rfl) ?_
        refine wpR_val (v := (Value.string r34.1)) (w' := w5) rfl rfl rfl (x_assign (v := (Value.string r34.1)) rfl rfl) ?_
        refine wpR_val (v := (Value.int .i64 r34.2)) (w' := w5) rfl rfl rfl (x_assign (v := (Value.int .i64 r34.2)) rfl rfl) ?_
        refine wpR_nil ?_
        refine wpC_seq ?_
        refine wpC_cut (fun ρ => ρ 0 = (Value.string p0) ∧ ρ 1 = (Value.string p1) ∧ ρ 2 = (Value.int .i64 p2) ∧ ρ 3 = (Value.int .i64 p3) ∧ ρ 5 = (Value.int .i64 p5) ∧ ρ 13 = (Value.bool r9) ∧ ρ 14 = (Value.pointer r10) ∧ ρ 15 = (Value.int .i64 r23.1) ∧ ρ 16 = (Sl.v r23.2.1) ∧ ρ 18 = (Value.int .i64 r24.1) ∧ ρ 19 = (Sl.v r24.2.1) ∧ ρ 21 = (Value.string r34.1) ∧ ρ 22 = (Value.int .i64 r34.2) ∧ True) ⟨e0, e1, e2, e3, e5, e13, e14, e15, e16, e18, e19, rfl, rfl, trivial⟩ ?_
        rintro ρ ⟨e0, e1, e2, e3, e5, e13, e14, e15, e16, e18, e19, e21, e22, -⟩
        refine wpC_region ?_
        refine wpR_val (v := (Value.pointer r10)) (w' := w5) rfl rfl rfl (x_move (v := (Value.pointer r10)) rfl e14) ?_
        refine wpR_val (v := (Value.int .i64 r24.1)) (w' := w5) rfl rfl rfl (x_move (v := (Value.int .i64 r24.1)) rfl e18) ?_
        refine wpR_val (v := (Sl.v r23.2.1)) (w' := w5) rfl rfl rfl (x_move (v := (Sl.v r23.2.1)) rfl e16) ?_
        refine wpR_enter rfl rfl rfl (x_call (vs := [(Value.pointer r10), (Value.int .i64 r24.1), (Sl.v r23.2.1)]) rfl rfl (mapl_cons rfl (mapl_cons rfl (mapl_cons rfl mapl_nil))) Try.func10 NN_10 NB_10) (Calls.mono h ?_)
        rintro _ w6 ⟨r35, rfl, h⟩
        refine ⟨_, rfl, ?_⟩
        refine wpR_val (v := (Value.tuple #[(Value.string r35.1), (Value.int .i64 r35.2)])) (w' := w6) rfl rfl rfl (x_move (v := (Value.tuple #[(Value.string r35.1), (Value.int .i64 r35.2)])) rfl rfl) ?_
        refine wpR_val (v := (Value.string r35.1)) (w' := w6) rfl rfl rfl (x_extract rfl rfl rfl) ?_
        refine wpR_val (v := (Value.int .i64 r35.2)) (w' := w6) rfl rfl rfl (x_extract rfl rfl rfl) ?_
        refine wpR_val (v := (Value.string r35.1)) (w' := w6) rfl rfl rfl (x_assign (v := (Value.string r35.1)) rfl rfl) ?_
        refine wpR_val (v := (Value.int .i64 r35.2)) (w' := w6) rfl rfl rfl (x_assign (v := (Value.int .i64 r35.2)) rfl rfl) ?_
        refine wpR_nil ?_
        refine wpC_seq ?_
        refine wpC_cut (fun ρ => ρ 0 = (Value.string p0) ∧ ρ 1 = (Value.string p1) ∧ ρ 2 = (Value.int .i64 p2) ∧ ρ 3 = (Value.int .i64 p3) ∧ ρ 5 = (Value.int .i64 p5) ∧ ρ 13 = (Value.bool r9) ∧ ρ 14 = (Value.pointer r10) ∧ ρ 15 = (Value.int .i64 r23.1) ∧ ρ 16 = (Sl.v r23.2.1) ∧ ρ 18 = (Value.int .i64 r24.1) ∧ ρ 19 = (Sl.v r24.2.1) ∧ ρ 21 = (Value.string r34.1) ∧ ρ 22 = (Value.int .i64 r34.2) ∧ ρ 23 = (Value.string r35.1) ∧ ρ 24 = (Value.int .i64 r35.2) ∧ True) ⟨e0, e1, e2, e3, e5, e13, e14, e15, e16, e18, e19, e21, e22, rfl, rfl, trivial⟩ ?_
        rintro ρ ⟨e0, e1, e2, e3, e5, e13, e14, e15, e16, e18, e19, e21, e22, e23, e24, -⟩
        refine wpC_region ?_
        refine wpR_val (v := (Value.pointer r10)) (w' := w6) rfl rfl rfl (x_move (v := (Value.pointer r10)) rfl e14) ?_
        refine wpR_val (v := (Value.int .i64 r23.1)) (w' := w6) rfl rfl rfl (x_move (v := (Value.int .i64 r23.1)) rfl e15) ?_
        refine wpR_val (v := (Sl.v r23.2.1)) (w' := w6) rfl rfl rfl (x_move (v := (Sl.v r23.2.1)) rfl e16) ?_
        refine wpR_enter rfl rfl rfl (x_call (vs := [(Value.pointer r10), (Value.int .i64 r23.1), (Sl.v r23.2.1)]) rfl rfl (mapl_cons rfl (mapl_cons rfl (mapl_cons rfl mapl_nil))) Try.func10 NN_10 NB_10) (Calls.mono h ?_)
        rintro _ w7 ⟨r36, rfl, h⟩
        refine ⟨_, rfl, ?_⟩
        refine wpR_val (v := (Value.tuple #[(Value.string r36.1), (Value.int .i64 r36.2)])) (w' := w7) rfl rfl rfl (x_move (v := (Value.tuple #[(Value.string r36.1), (Value.int .i64 r36.2)])) rfl rfl) ?_
        refine wpR_val (v := (Value.string r36.1)) (w' := w7) rfl rfl rfl (x_extract rfl rfl rfl) ?_
        refine wpR_val (v := (Value.int .i64 r36.2)) (w' := w7) rfl rfl rfl (x_extract rfl rfl rfl) ?_
        refine wpR_val (v := (Value.string r36.1)) (w' := w7) rfl rfl rfl (x_assign (v := (Value.string r36.1)) rfl rfl) ?_
        refine wpR_val (v := (Value.int .i64 r36.2)) (w' := w7) rfl rfl rfl (x_assign (v := (Value.int .i64 r36.2)) rfl rfl) ?_
        refine wpR_nil ?_
        refine wpC_seq ?_
        refine wpC_cut (fun ρ => ρ 0 = (Value.string p0) ∧ ρ 1 = (Value.string p1) ∧ ρ 2 = (Value.int .i64 p2) ∧ ρ 3 = (Value.int .i64 p3) ∧ ρ 5 = (Value.int .i64 p5) ∧ ρ 13 = (Value.bool r9) ∧ ρ 14 = (Value.pointer r10) ∧ ρ 15 = (Value.int .i64 r23.1) ∧ ρ 16 = (Sl.v r23.2.1) ∧ ρ 18 = (Value.int .i64 r24.1) ∧ ρ 19 = (Sl.v r24.2.1) ∧ ρ 21 = (Value.string r34.1) ∧ ρ 22 = (Value.int .i64 r34.2) ∧ ρ 23 = (Value.string r35.1) ∧ ρ 24 = (Value.int .i64 r35.2) ∧ ρ 25 = (Value.string r36.1) ∧ ρ 26 = (Value.int .i64 r36.2) ∧ True) ⟨e0, e1, e2, e3, e5, e13, e14, e15, e16, e18, e19, e21, e22, e23, e24, rfl, rfl, trivial⟩ ?_
        rintro ρ ⟨e0, e1, e2, e3, e5, e13, e14, e15, e16, e18, e19, e21, e22, e23, e24, e25, e26, -⟩
        refine wpC_region ?_
        refine wpR_val (v := (Value.pointer r10)) (w' := w7) rfl rfl rfl (x_move (v := (Value.pointer r10)) rfl e14) ?_
        refine wpR_val (v := (Value.int .i64 r24.1)) (w' := w7) rfl rfl rfl (x_move (v := (Value.int .i64 r24.1)) rfl e18) ?_
        refine wpR_val (v := (Sl.v r24.2.1)) (w' := w7) rfl rfl rfl (x_move (v := (Sl.v r24.2.1)) rfl e19) ?_
        refine wpR_val (v := (Value.int .i64 p3)) (w' := w7) rfl rfl rfl (x_move (v := (Value.int .i64 p3)) rfl e3) ?_
        refine wpR_val (v := (Value.int .i64 p2)) (w' := w7) rfl rfl rfl (x_move (v := (Value.int .i64 p2)) rfl e2) ?_
        refine wpR_val (v := (Value.int .i64 (IntKind.i64.wrap (p3 - p2)))) (w' := w7) rfl rfl rfl (x_sub rfl rfl rfl) ?_
        obtain ⟨r37, w8, q37, h⟩ := h
        refine wpR_val (v := (Sl.v r37)) (w' := w8) rfl rfl rfl (x_sliceAt rfl rfl (congrArg some rfl) rfl rfl q37) ?_
        refine wpR_enter rfl rfl rfl (x_call (vs := [(Value.pointer r10), (Value.int .i64 r24.1), (Sl.v r37)]) rfl rfl (mapl_cons rfl (mapl_cons rfl (mapl_cons rfl mapl_nil))) Try.func10 NN_10 NB_10) (Calls.mono h ?_)
        rintro _ w9 ⟨r38, rfl, h⟩
        refine ⟨_, rfl, ?_⟩
        refine wpR_val (v := (Value.tuple #[(Value.string r38.1), (Value.int .i64 r38.2)])) (w' := w9) rfl rfl rfl (x_move (v := (Value.tuple #[(Value.string r38.1), (Value.int .i64 r38.2)])) rfl rfl) ?_
        refine wpR_val (v := (Value.string r38.1)) (w' := w9) rfl rfl rfl (x_extract rfl rfl rfl) ?_
        refine wpR_val (v := (Value.int .i64 r38.2)) (w' := w9) rfl rfl rfl (x_extract rfl rfl rfl) ?_
        refine wpR_val (v := (Value.string r38.1)) (w' := w9) rfl rfl rfl (x_assign (v := (Value.string r38.1)) rfl rfl) ?_
        refine wpR_val (v := (Value.int .i64 r38.2)) (w' := w9) rfl rfl rfl (x_assign (v := (Value.int .i64 r38.2)) rfl rfl) ?_
        refine wpR_nil ?_
        refine wpC_seq ?_
        refine wpC_cut (fun ρ => ρ 0 = (Value.string p0) ∧ ρ 1 = (Value.string p1) ∧ ρ 5 = (Value.int .i64 p5) ∧ ρ 13 = (Value.bool r9) ∧ ρ 14 = (Value.pointer r10) ∧ ρ 15 = (Value.int .i64 r23.1) ∧ ρ 16 = (Sl.v r23.2.1) ∧ ρ 18 = (Value.int .i64 r24.1) ∧ ρ 21 = (Value.string r34.1) ∧ ρ 22 = (Value.int .i64 r34.2) ∧ ρ 23 = (Value.string r35.1) ∧ ρ 24 = (Value.int .i64 r35.2) ∧ ρ 25 = (Value.string r36.1) ∧ ρ 26 = (Value.int .i64 r36.2) ∧ ρ 27 = (Value.string r38.1) ∧ ρ 28 = (Value.int .i64 r38.2) ∧ True) ⟨e0, e1, e5, e13, e14, e15, e16, e18, e21, e22, e23, e24, e25, e26, rfl, rfl, trivial⟩ ?_
        rintro ρ ⟨e0, e1, e5, e13, e14, e15, e16, e18, e21, e22, e23, e24, e25, e26, e27, e28, -⟩
        refine wpC_region ?_
        refine wpR_val (v := (Value.pointer r10)) (w' := w9) rfl rfl rfl (x_move (v := (Value.pointer r10)) rfl e14) ?_
        refine wpR_val (v := (Value.int .i64 p5)) (w' := w9) rfl rfl rfl (x_move (v := (Value.int .i64 p5)) rfl e5) ?_
        refine wpR_val (v := (Sl.v r23.2.1)) (w' := w9) rfl rfl rfl (x_move (v := (Sl.v r23.2.1)) rfl e16) ?_
        refine wpR_enter rfl rfl rfl (x_call (vs := [(Value.pointer r10), (Value.int .i64 p5), (Sl.v r23.2.1)]) rfl rfl (mapl_cons rfl (mapl_cons rfl (mapl_cons rfl mapl_nil))) Try.func10 NN_10 NB_10) (Calls.mono h ?_)
        rintro _ w10 ⟨r39, rfl, h⟩
        refine ⟨_, rfl, ?_⟩
        refine wpR_val (v := (Value.tuple #[(Value.string r39.1), (Value.int .i64 r39.2)])) (w' := w10) rfl rfl rfl (x_move (v := (Value.tuple #[(Value.string r39.1), (Value.int .i64 r39.2)])) rfl rfl) ?_
        refine wpR_val (v := (Value.string r39.1)) (w' := w10) rfl rfl rfl (x_extract rfl rfl rfl) ?_
        refine wpR_val (v := (Value.int .i64 r39.2)) (w' := w10) rfl rfl rfl (x_extract rfl rfl rfl) ?_
        refine wpR_val (v := (Value.string r39.1)) (w' := w10) rfl rfl rfl (x_assign (v := (Value.string r39.1)) rfl rfl) ?_
        refine wpR_val (v := (Value.int .i64 r39.2)) (w' := w10) rfl rfl rfl (x_assign (v := (Value.int .i64 r39.2)) rfl rfl) ?_
        refine wpR_nil ?_
        refine wpC_seq ?_
        refine wpC_cut (fun ρ => ρ 0 = (Value.string p0) ∧ ρ 1 = (Value.string p1) ∧ ρ 5 = (Value.int .i64 p5) ∧ ρ 13 = (Value.bool r9) ∧ ρ 15 = (Value.int .i64 r23.1) ∧ ρ 18 = (Value.int .i64 r24.1) ∧ ρ 21 = (Value.string r34.1) ∧ ρ 22 = (Value.int .i64 r34.2) ∧ ρ 23 = (Value.string r35.1) ∧ ρ 24 = (Value.int .i64 r35.2) ∧ ρ 25 = (Value.string r36.1) ∧ ρ 26 = (Value.int .i64 r36.2) ∧ ρ 27 = (Value.string r38.1) ∧ ρ 28 = (Value.int .i64 r38.2) ∧ ρ 30 = (Value.int .i64 r39.2) ∧ True) ⟨e0, e1, e5, e13, e15, e18, e21, e22, e23, e24, e25, e26, e27, e28, rfl, trivial⟩ ?_
        rintro ρ ⟨e0, e1, e5, e13, e15, e18, e21, e22, e23, e24, e25, e26, e27, e28, e30, -⟩
        refine wpC_region ?_
        refine wpR_val (v := (Value.bool r9)) (w' := w10) rfl rfl rfl (x_move (v := (Value.bool r9)) rfl e13) ?_
        refine wpR_val (v := (Value.bool r9)) (w' := w10) rfl rfl rfl (x_move (v := (Value.bool r9)) rfl rfl) ?_
        refine wpR_joinJ 3 (fun (_ : Unit) ρ => ρ 147 = Value.bool (r9 && (beqS r34.1 (ByteArray.mk #[]))) ∧ ρ 0 = (Value.string p0) ∧ ρ 1 = (Value.string p1) ∧ ρ 5 = (Value.int .i64 p5) ∧ ρ 15 = (Value.int .i64 r23.1) ∧ ρ 18 = (Value.int .i64 r24.1) ∧ ρ 22 = (Value.int .i64 r34.2) ∧ ρ 23 = (Value.string r35.1) ∧ ρ 24 = (Value.int .i64 r35.2) ∧ ρ 25 = (Value.string r36.1) ∧ ρ 26 = (Value.int .i64 r36.2) ∧ ρ 27 = (Value.string r38.1) ∧ ρ 28 = (Value.int .i64 r38.2) ∧ ρ 30 = (Value.int .i64 r39.2) ∧ True) (fun _ w => w10 = w) ?_ ?_
        · clear h
          rcases Bool.eq_false_or_eq_true (r9) with hc41 | hc41
          · skip
            refine wpR_val (v := (Value.string r34.1)) (w' := w10) (wantG rfl rfl rfl hc41) rfl rfl (x_move (v := (Value.string r34.1)) rfl e21) ?_
            refine wpR_val (v := (Value.bool (beqS r34.1 (ByteArray.mk #[])))) (w' := w10) (wantG rfl rfl rfl hc41) rfl rfl (x_eqlS rfl rfl rfl) ?_
            refine wpR_val (v := (Value.bool (beqS r34.1 (ByteArray.mk #[])))) (w' := w10) rfl rfl rfl (x_pickT (v := (Value.bool (beqS r34.1 (ByteArray.mk #[])))) rfl rfl hc41 rfl) ?_
            refine wpR_nil ?_
            exact ⟨(), ⟨(by rw [hc41]; rfl), e0, e1, e5, e15, e18, e22, e23, e24, e25, e26, e27, e28, e30, trivial⟩, rfl⟩
          · skip
            refine wpR_pass (wantN rfl rfl rfl hc41) rfl rfl ?_
            refine wpR_pass (wantN rfl rfl rfl hc41) rfl rfl ?_
            refine wpR_val (v := (Value.bool false)) (w' := w10) rfl rfl rfl (x_pickF (v := (Value.bool false)) rfl rfl hc41 rfl) ?_
            refine wpR_nil ?_
            exact ⟨(), ⟨(by rw [hc41]; rfl), e0, e1, e5, e15, e18, e22, e23, e24, e25, e26, e27, e28, e30, trivial⟩, rfl⟩
        rintro _ ρ wj ⟨e147, e0, e1, e5, e15, e18, e22, e23, e24, e25, e26, e27, e28, e30, -⟩ rfl
        refine wpR_val (v := (Value.bool (r9 && (beqS r34.1 (ByteArray.mk #[]))))) (w' := w10) rfl rfl rfl (x_move (v := (Value.bool (r9 && (beqS r34.1 (ByteArray.mk #[]))))) rfl e147) ?_
        refine wpR_joinJ 3 (fun (_ : Unit) ρ => ρ 151 = Value.bool ((r9 && (beqS r34.1 (ByteArray.mk #[]))) && (decide (r34.2 = 13))) ∧ ρ 0 = (Value.string p0) ∧ ρ 1 = (Value.string p1) ∧ ρ 5 = (Value.int .i64 p5) ∧ ρ 15 = (Value.int .i64 r23.1) ∧ ρ 18 = (Value.int .i64 r24.1) ∧ ρ 23 = (Value.string r35.1) ∧ ρ 24 = (Value.int .i64 r35.2) ∧ ρ 25 = (Value.string r36.1) ∧ ρ 26 = (Value.int .i64 r36.2) ∧ ρ 27 = (Value.string r38.1) ∧ ρ 28 = (Value.int .i64 r38.2) ∧ ρ 30 = (Value.int .i64 r39.2) ∧ True) (fun _ w => w10 = w) ?_ ?_
        · clear h
          rcases Bool.eq_false_or_eq_true (r9 && (beqS r34.1 (ByteArray.mk #[]))) with hc43 | hc43
          · skip
            refine wpR_val (v := (Value.int .i64 r34.2)) (w' := w10) (wantG rfl rfl rfl hc43) rfl rfl (x_move (v := (Value.int .i64 r34.2)) rfl e22) ?_
            refine wpR_val (v := (Value.bool (decide (r34.2 = 13)))) (w' := w10) (wantG rfl rfl rfl hc43) rfl rfl (x_eql rfl rfl rfl) ?_
            refine wpR_val (v := (Value.bool (decide (r34.2 = 13)))) (w' := w10) rfl rfl rfl (x_pickT (v := (Value.bool (decide (r34.2 = 13)))) rfl rfl hc43 rfl) ?_
            refine wpR_nil ?_
            exact ⟨(), ⟨(by rw [hc43]; rfl), e0, e1, e5, e15, e18, e23, e24, e25, e26, e27, e28, e30, trivial⟩, rfl⟩
          · skip
            refine wpR_pass (wantN rfl rfl rfl hc43) rfl rfl ?_
            refine wpR_pass (wantN rfl rfl rfl hc43) rfl rfl ?_
            refine wpR_val (v := (Value.bool false)) (w' := w10) rfl rfl rfl (x_pickF (v := (Value.bool false)) rfl rfl hc43 rfl) ?_
            refine wpR_nil ?_
            exact ⟨(), ⟨(by rw [hc43]; rfl), e0, e1, e5, e15, e18, e23, e24, e25, e26, e27, e28, e30, trivial⟩, rfl⟩
        rintro _ ρ wj ⟨e151, e0, e1, e5, e15, e18, e23, e24, e25, e26, e27, e28, e30, -⟩ rfl
        refine wpR_val (v := (Value.bool ((r9 && (beqS r34.1 (ByteArray.mk #[]))) && (decide (r34.2 = 13))))) (w' := w10) rfl rfl rfl (x_move (v := (Value.bool ((r9 && (beqS r34.1 (ByteArray.mk #[]))) && (decide (r34.2 = 13))))) rfl e151) ?_
        refine wpR_joinJ 3 (fun (_ : Unit) ρ => ρ 155 = Value.bool (((r9 && (beqS r34.1 (ByteArray.mk #[]))) && (decide (r34.2 = 13))) && (beqS r35.1 (ByteArray.mk #[]))) ∧ ρ 0 = (Value.string p0) ∧ ρ 1 = (Value.string p1) ∧ ρ 5 = (Value.int .i64 p5) ∧ ρ 15 = (Value.int .i64 r23.1) ∧ ρ 18 = (Value.int .i64 r24.1) ∧ ρ 24 = (Value.int .i64 r35.2) ∧ ρ 25 = (Value.string r36.1) ∧ ρ 26 = (Value.int .i64 r36.2) ∧ ρ 27 = (Value.string r38.1) ∧ ρ 28 = (Value.int .i64 r38.2) ∧ ρ 30 = (Value.int .i64 r39.2) ∧ True) (fun _ w => w10 = w) ?_ ?_
        · clear h
          rcases Bool.eq_false_or_eq_true ((r9 && (beqS r34.1 (ByteArray.mk #[]))) && (decide (r34.2 = 13))) with hc45 | hc45
          · skip
            refine wpR_val (v := (Value.string r35.1)) (w' := w10) (wantG rfl rfl rfl hc45) rfl rfl (x_move (v := (Value.string r35.1)) rfl e23) ?_
            refine wpR_val (v := (Value.bool (beqS r35.1 (ByteArray.mk #[])))) (w' := w10) (wantG rfl rfl rfl hc45) rfl rfl (x_eqlS rfl rfl rfl) ?_
            refine wpR_val (v := (Value.bool (beqS r35.1 (ByteArray.mk #[])))) (w' := w10) rfl rfl rfl (x_pickT (v := (Value.bool (beqS r35.1 (ByteArray.mk #[])))) rfl rfl hc45 rfl) ?_
            refine wpR_nil ?_
            exact ⟨(), ⟨(by rw [hc45]; rfl), e0, e1, e5, e15, e18, e24, e25, e26, e27, e28, e30, trivial⟩, rfl⟩
          · skip
            refine wpR_pass (wantN rfl rfl rfl hc45) rfl rfl ?_
            refine wpR_pass (wantN rfl rfl rfl hc45) rfl rfl ?_
            refine wpR_val (v := (Value.bool false)) (w' := w10) rfl rfl rfl (x_pickF (v := (Value.bool false)) rfl rfl hc45 rfl) ?_
            refine wpR_nil ?_
            exact ⟨(), ⟨(by rw [hc45]; rfl), e0, e1, e5, e15, e18, e24, e25, e26, e27, e28, e30, trivial⟩, rfl⟩
        rintro _ ρ wj ⟨e155, e0, e1, e5, e15, e18, e24, e25, e26, e27, e28, e30, -⟩ rfl
        refine wpR_val (v := (Value.bool (((r9 && (beqS r34.1 (ByteArray.mk #[]))) && (decide (r34.2 = 13))) && (beqS r35.1 (ByteArray.mk #[]))))) (w' := w10) rfl rfl rfl (x_move (v := (Value.bool (((r9 && (beqS r34.1 (ByteArray.mk #[]))) && (decide (r34.2 = 13))) && (beqS r35.1 (ByteArray.mk #[]))))) rfl e155) ?_
        refine wpR_joinJ 3 (fun (_ : Unit) ρ => ρ 159 = Value.bool ((((r9 && (beqS r34.1 (ByteArray.mk #[]))) && (decide (r34.2 = 13))) && (beqS r35.1 (ByteArray.mk #[]))) && (decide (r35.2 = 13))) ∧ ρ 0 = (Value.string p0) ∧ ρ 1 = (Value.string p1) ∧ ρ 5 = (Value.int .i64 p5) ∧ ρ 15 = (Value.int .i64 r23.1) ∧ ρ 18 = (Value.int .i64 r24.1) ∧ ρ 25 = (Value.string r36.1) ∧ ρ 26 = (Value.int .i64 r36.2) ∧ ρ 27 = (Value.string r38.1) ∧ ρ 28 = (Value.int .i64 r38.2) ∧ ρ 30 = (Value.int .i64 r39.2) ∧ True) (fun _ w => w10 = w) ?_ ?_
        · clear h
          rcases Bool.eq_false_or_eq_true (((r9 && (beqS r34.1 (ByteArray.mk #[]))) && (decide (r34.2 = 13))) && (beqS r35.1 (ByteArray.mk #[]))) with hc47 | hc47
          · skip
            refine wpR_val (v := (Value.int .i64 r35.2)) (w' := w10) (wantG rfl rfl rfl hc47) rfl rfl (x_move (v := (Value.int .i64 r35.2)) rfl e24) ?_
            refine wpR_val (v := (Value.bool (decide (r35.2 = 13)))) (w' := w10) (wantG rfl rfl rfl hc47) rfl rfl (x_eql rfl rfl rfl) ?_
            refine wpR_val (v := (Value.bool (decide (r35.2 = 13)))) (w' := w10) rfl rfl rfl (x_pickT (v := (Value.bool (decide (r35.2 = 13)))) rfl rfl hc47 rfl) ?_
            refine wpR_nil ?_
            exact ⟨(), ⟨(by rw [hc47]; rfl), e0, e1, e5, e15, e18, e25, e26, e27, e28, e30, trivial⟩, rfl⟩
          · skip
            refine wpR_pass (wantN rfl rfl rfl hc47) rfl rfl ?_
            refine wpR_pass (wantN rfl rfl rfl hc47) rfl rfl ?_
            refine wpR_val (v := (Value.bool false)) (w' := w10) rfl rfl rfl (x_pickF (v := (Value.bool false)) rfl rfl hc47 rfl) ?_
            refine wpR_nil ?_
            exact ⟨(), ⟨(by rw [hc47]; rfl), e0, e1, e5, e15, e18, e25, e26, e27, e28, e30, trivial⟩, rfl⟩
        rintro _ ρ wj ⟨e159, e0, e1, e5, e15, e18, e25, e26, e27, e28, e30, -⟩ rfl
        refine wpR_val (v := (Value.bool ((((r9 && (beqS r34.1 (ByteArray.mk #[]))) && (decide (r34.2 = 13))) && (beqS r35.1 (ByteArray.mk #[]))) && (decide (r35.2 = 13))))) (w' := w10) rfl rfl rfl (x_move (v := (Value.bool ((((r9 && (beqS r34.1 (ByteArray.mk #[]))) && (decide (r34.2 = 13))) && (beqS r35.1 (ByteArray.mk #[]))) && (decide (r35.2 = 13))))) rfl e159) ?_
        refine wpR_joinJ 4 (fun (_ : Unit) ρ => ρ 164 = Value.bool (((((r9 && (beqS r34.1 (ByteArray.mk #[]))) && (decide (r34.2 = 13))) && (beqS r35.1 (ByteArray.mk #[]))) && (decide (r35.2 = 13))) && (beqS r36.1 p0)) ∧ ρ 1 = (Value.string p1) ∧ ρ 5 = (Value.int .i64 p5) ∧ ρ 15 = (Value.int .i64 r23.1) ∧ ρ 18 = (Value.int .i64 r24.1) ∧ ρ 26 = (Value.int .i64 r36.2) ∧ ρ 27 = (Value.string r38.1) ∧ ρ 28 = (Value.int .i64 r38.2) ∧ ρ 30 = (Value.int .i64 r39.2) ∧ True) (fun _ w => w10 = w) ?_ ?_
        · clear h
          rcases Bool.eq_false_or_eq_true ((((r9 && (beqS r34.1 (ByteArray.mk #[]))) && (decide (r34.2 = 13))) && (beqS r35.1 (ByteArray.mk #[]))) && (decide (r35.2 = 13))) with hc49 | hc49
          · skip
            refine wpR_val (v := (Value.string r36.1)) (w' := w10) (wantG rfl rfl rfl hc49) rfl rfl (x_move (v := (Value.string r36.1)) rfl e25) ?_
            refine wpR_val (v := (Value.string p0)) (w' := w10) (wantG rfl rfl rfl hc49) rfl rfl (x_move (v := (Value.string p0)) rfl e0) ?_
            refine wpR_val (v := (Value.bool (beqS r36.1 p0))) (w' := w10) (wantG rfl rfl rfl hc49) rfl rfl (x_eqlS rfl rfl rfl) ?_
            refine wpR_val (v := (Value.bool (beqS r36.1 p0))) (w' := w10) rfl rfl rfl (x_pickT (v := (Value.bool (beqS r36.1 p0))) rfl rfl hc49 rfl) ?_
            refine wpR_nil ?_
            exact ⟨(), ⟨(by rw [hc49]; rfl), e1, e5, e15, e18, e26, e27, e28, e30, trivial⟩, rfl⟩
          · skip
            refine wpR_pass (wantN rfl rfl rfl hc49) rfl rfl ?_
            refine wpR_pass (wantN rfl rfl rfl hc49) rfl rfl ?_
            refine wpR_pass (wantN rfl rfl rfl hc49) rfl rfl ?_
            refine wpR_val (v := (Value.bool false)) (w' := w10) rfl rfl rfl (x_pickF (v := (Value.bool false)) rfl rfl hc49 rfl) ?_
            refine wpR_nil ?_
            exact ⟨(), ⟨(by rw [hc49]; rfl), e1, e5, e15, e18, e26, e27, e28, e30, trivial⟩, rfl⟩
        rintro _ ρ wj ⟨e164, e1, e5, e15, e18, e26, e27, e28, e30, -⟩ rfl
        refine wpR_val (v := (Value.bool (((((r9 && (beqS r34.1 (ByteArray.mk #[]))) && (decide (r34.2 = 13))) && (beqS r35.1 (ByteArray.mk #[]))) && (decide (r35.2 = 13))) && (beqS r36.1 p0)))) (w' := w10) rfl rfl rfl (x_move (v := (Value.bool (((((r9 && (beqS r34.1 (ByteArray.mk #[]))) && (decide (r34.2 = 13))) && (beqS r35.1 (ByteArray.mk #[]))) && (decide (r35.2 = 13))) && (beqS r36.1 p0)))) rfl e164) ?_
        refine wpR_joinJ 3 (fun (_ : Unit) ρ => ρ 168 = Value.bool ((((((r9 && (beqS r34.1 (ByteArray.mk #[]))) && (decide (r34.2 = 13))) && (beqS r35.1 (ByteArray.mk #[]))) && (decide (r35.2 = 13))) && (beqS r36.1 p0)) && (decide (r36.2 = 0))) ∧ ρ 1 = (Value.string p1) ∧ ρ 5 = (Value.int .i64 p5) ∧ ρ 15 = (Value.int .i64 r23.1) ∧ ρ 18 = (Value.int .i64 r24.1) ∧ ρ 27 = (Value.string r38.1) ∧ ρ 28 = (Value.int .i64 r38.2) ∧ ρ 30 = (Value.int .i64 r39.2) ∧ True) (fun _ w => w10 = w) ?_ ?_
        · clear h
          rcases Bool.eq_false_or_eq_true (((((r9 && (beqS r34.1 (ByteArray.mk #[]))) && (decide (r34.2 = 13))) && (beqS r35.1 (ByteArray.mk #[]))) && (decide (r35.2 = 13))) && (beqS r36.1 p0)) with hc51 | hc51
          · skip
            refine wpR_val (v := (Value.int .i64 r36.2)) (w' := w10) (wantG rfl rfl rfl hc51) rfl rfl (x_move (v := (Value.int .i64 r36.2)) rfl e26) ?_
            refine wpR_val (v := (Value.bool (decide (r36.2 = 0)))) (w' := w10) (wantG rfl rfl rfl hc51) rfl rfl (x_eql rfl rfl rfl) ?_
            refine wpR_val (v := (Value.bool (decide (r36.2 = 0)))) (w' := w10) rfl rfl rfl (x_pickT (v := (Value.bool (decide (r36.2 = 0)))) rfl rfl hc51 rfl) ?_
            refine wpR_nil ?_
            exact ⟨(), ⟨(by rw [hc51]; rfl), e1, e5, e15, e18, e27, e28, e30, trivial⟩, rfl⟩
          · skip
            refine wpR_pass (wantN rfl rfl rfl hc51) rfl rfl ?_
            refine wpR_pass (wantN rfl rfl rfl hc51) rfl rfl ?_
            refine wpR_val (v := (Value.bool false)) (w' := w10) rfl rfl rfl (x_pickF (v := (Value.bool false)) rfl rfl hc51 rfl) ?_
            refine wpR_nil ?_
            exact ⟨(), ⟨(by rw [hc51]; rfl), e1, e5, e15, e18, e27, e28, e30, trivial⟩, rfl⟩
        rintro _ ρ wj ⟨e168, e1, e5, e15, e18, e27, e28, e30, -⟩ rfl
        refine wpR_val (v := (Value.bool ((((((r9 && (beqS r34.1 (ByteArray.mk #[]))) && (decide (r34.2 = 13))) && (beqS r35.1 (ByteArray.mk #[]))) && (decide (r35.2 = 13))) && (beqS r36.1 p0)) && (decide (r36.2 = 0))))) (w' := w10) rfl rfl rfl (x_move (v := (Value.bool ((((((r9 && (beqS r34.1 (ByteArray.mk #[]))) && (decide (r34.2 = 13))) && (beqS r35.1 (ByteArray.mk #[]))) && (decide (r35.2 = 13))) && (beqS r36.1 p0)) && (decide (r36.2 = 0))))) rfl e168) ?_
        refine wpR_joinJ 4 (fun (_ : Unit) ρ => ρ 173 = Value.bool (((((((r9 && (beqS r34.1 (ByteArray.mk #[]))) && (decide (r34.2 = 13))) && (beqS r35.1 (ByteArray.mk #[]))) && (decide (r35.2 = 13))) && (beqS r36.1 p0)) && (decide (r36.2 = 0))) && (beqS r38.1 p1)) ∧ ρ 5 = (Value.int .i64 p5) ∧ ρ 15 = (Value.int .i64 r23.1) ∧ ρ 18 = (Value.int .i64 r24.1) ∧ ρ 28 = (Value.int .i64 r38.2) ∧ ρ 30 = (Value.int .i64 r39.2) ∧ True) (fun _ w => w10 = w) ?_ ?_
        · clear h
          rcases Bool.eq_false_or_eq_true ((((((r9 && (beqS r34.1 (ByteArray.mk #[]))) && (decide (r34.2 = 13))) && (beqS r35.1 (ByteArray.mk #[]))) && (decide (r35.2 = 13))) && (beqS r36.1 p0)) && (decide (r36.2 = 0))) with hc53 | hc53
          · skip
            refine wpR_val (v := (Value.string r38.1)) (w' := w10) (wantG rfl rfl rfl hc53) rfl rfl (x_move (v := (Value.string r38.1)) rfl e27) ?_
            refine wpR_val (v := (Value.string p1)) (w' := w10) (wantG rfl rfl rfl hc53) rfl rfl (x_move (v := (Value.string p1)) rfl e1) ?_
            refine wpR_val (v := (Value.bool (beqS r38.1 p1))) (w' := w10) (wantG rfl rfl rfl hc53) rfl rfl (x_eqlS rfl rfl rfl) ?_
            refine wpR_val (v := (Value.bool (beqS r38.1 p1))) (w' := w10) rfl rfl rfl (x_pickT (v := (Value.bool (beqS r38.1 p1))) rfl rfl hc53 rfl) ?_
            refine wpR_nil ?_
            exact ⟨(), ⟨(by rw [hc53]; rfl), e5, e15, e18, e28, e30, trivial⟩, rfl⟩
          · skip
            refine wpR_pass (wantN rfl rfl rfl hc53) rfl rfl ?_
            refine wpR_pass (wantN rfl rfl rfl hc53) rfl rfl ?_
            refine wpR_pass (wantN rfl rfl rfl hc53) rfl rfl ?_
            refine wpR_val (v := (Value.bool false)) (w' := w10) rfl rfl rfl (x_pickF (v := (Value.bool false)) rfl rfl hc53 rfl) ?_
            refine wpR_nil ?_
            exact ⟨(), ⟨(by rw [hc53]; rfl), e5, e15, e18, e28, e30, trivial⟩, rfl⟩
        rintro _ ρ wj ⟨e173, e5, e15, e18, e28, e30, -⟩ rfl
        refine wpR_val (v := (Value.bool (((((((r9 && (beqS r34.1 (ByteArray.mk #[]))) && (decide (r34.2 = 13))) && (beqS r35.1 (ByteArray.mk #[]))) && (decide (r35.2 = 13))) && (beqS r36.1 p0)) && (decide (r36.2 = 0))) && (beqS r38.1 p1)))) (w' := w10) rfl rfl rfl (x_move (v := (Value.bool (((((((r9 && (beqS r34.1 (ByteArray.mk #[]))) && (decide (r34.2 = 13))) && (beqS r35.1 (ByteArray.mk #[]))) && (decide (r35.2 = 13))) && (beqS r36.1 p0)) && (decide (r36.2 = 0))) && (beqS r38.1 p1)))) rfl e173) ?_
        refine wpR_joinJ 3 (fun (_ : Unit) ρ => ρ 177 = Value.bool ((((((((r9 && (beqS r34.1 (ByteArray.mk #[]))) && (decide (r34.2 = 13))) && (beqS r35.1 (ByteArray.mk #[]))) && (decide (r35.2 = 13))) && (beqS r36.1 p0)) && (decide (r36.2 = 0))) && (beqS r38.1 p1)) && (decide (r38.2 = 0))) ∧ ρ 5 = (Value.int .i64 p5) ∧ ρ 15 = (Value.int .i64 r23.1) ∧ ρ 18 = (Value.int .i64 r24.1) ∧ ρ 30 = (Value.int .i64 r39.2) ∧ True) (fun _ w => w10 = w) ?_ ?_
        · clear h
          rcases Bool.eq_false_or_eq_true (((((((r9 && (beqS r34.1 (ByteArray.mk #[]))) && (decide (r34.2 = 13))) && (beqS r35.1 (ByteArray.mk #[]))) && (decide (r35.2 = 13))) && (beqS r36.1 p0)) && (decide (r36.2 = 0))) && (beqS r38.1 p1)) with hc55 | hc55
          · skip
            refine wpR_val (v := (Value.int .i64 r38.2)) (w' := w10) (wantG rfl rfl rfl hc55) rfl rfl (x_move (v := (Value.int .i64 r38.2)) rfl e28) ?_
            refine wpR_val (v := (Value.bool (decide (r38.2 = 0)))) (w' := w10) (wantG rfl rfl rfl hc55) rfl rfl (x_eql rfl rfl rfl) ?_
            refine wpR_val (v := (Value.bool (decide (r38.2 = 0)))) (w' := w10) rfl rfl rfl (x_pickT (v := (Value.bool (decide (r38.2 = 0)))) rfl rfl hc55 rfl) ?_
            refine wpR_nil ?_
            exact ⟨(), ⟨(by rw [hc55]; rfl), e5, e15, e18, e30, trivial⟩, rfl⟩
          · skip
            refine wpR_pass (wantN rfl rfl rfl hc55) rfl rfl ?_
            refine wpR_pass (wantN rfl rfl rfl hc55) rfl rfl ?_
            refine wpR_val (v := (Value.bool false)) (w' := w10) rfl rfl rfl (x_pickF (v := (Value.bool false)) rfl rfl hc55 rfl) ?_
            refine wpR_nil ?_
            exact ⟨(), ⟨(by rw [hc55]; rfl), e5, e15, e18, e30, trivial⟩, rfl⟩
        rintro _ ρ wj ⟨e177, e5, e15, e18, e30, -⟩ rfl
        refine wpR_val (v := (Value.bool ((((((((r9 && (beqS r34.1 (ByteArray.mk #[]))) && (decide (r34.2 = 13))) && (beqS r35.1 (ByteArray.mk #[]))) && (decide (r35.2 = 13))) && (beqS r36.1 p0)) && (decide (r36.2 = 0))) && (beqS r38.1 p1)) && (decide (r38.2 = 0))))) (w' := w10) rfl rfl rfl (x_move (v := (Value.bool ((((((((r9 && (beqS r34.1 (ByteArray.mk #[]))) && (decide (r34.2 = 13))) && (beqS r35.1 (ByteArray.mk #[]))) && (decide (r35.2 = 13))) && (beqS r36.1 p0)) && (decide (r36.2 = 0))) && (beqS r38.1 p1)) && (decide (r38.2 = 0))))) rfl e177) ?_
        refine wpR_joinJ 13 (fun (_ : Unit) ρ => ρ 191 = Value.bool (((((((((r9 && (beqS r34.1 (ByteArray.mk #[]))) && (decide (r34.2 = 13))) && (beqS r35.1 (ByteArray.mk #[]))) && (decide (r35.2 = 13))) && (beqS r36.1 p0)) && (decide (r36.2 = 0))) && (beqS r38.1 p1)) && (decide (r38.2 = 0))) && (((decide (p5 = r23.1)) || (decide (p5 = r24.1))) || (decide (r39.2 = 4)))) ∧ True) (fun _ w => w10 = w) ?_ ?_
        · clear h
          rcases Bool.eq_false_or_eq_true ((((((((r9 && (beqS r34.1 (ByteArray.mk #[]))) && (decide (r34.2 = 13))) && (beqS r35.1 (ByteArray.mk #[]))) && (decide (r35.2 = 13))) && (beqS r36.1 p0)) && (decide (r36.2 = 0))) && (beqS r38.1 p1)) && (decide (r38.2 = 0))) with hc57 | hc57
          · skip
            refine wpR_val (v := (Value.int .i64 p5)) (w' := w10) (wantG rfl rfl rfl hc57) rfl rfl (x_move (v := (Value.int .i64 p5)) rfl e5) ?_
            refine wpR_val (v := (Value.int .i64 r23.1)) (w' := w10) (wantG rfl rfl rfl hc57) rfl rfl (x_move (v := (Value.int .i64 r23.1)) rfl e15) ?_
            refine wpR_val (v := (Value.bool (decide (p5 = r23.1)))) (w' := w10) (wantG rfl rfl rfl hc57) rfl rfl (x_eql rfl rfl rfl) ?_
            refine wpR_val (v := (Value.bool (decide (p5 = r23.1)))) (w' := w10) (wantG rfl rfl rfl hc57) rfl rfl (x_move (v := (Value.bool (decide (p5 = r23.1)))) rfl rfl) ?_
            refine wpR_joinJ 4 (fun (_ : Unit) ρ => ρ 186 = Value.bool ((decide (p5 = r23.1)) || (decide (p5 = r24.1))) ∧ ρ 30 = (Value.int .i64 r39.2) ∧ ρ 178 = (Value.bool ((((((((r9 && (beqS r34.1 (ByteArray.mk #[]))) && (decide (r34.2 = 13))) && (beqS r35.1 (ByteArray.mk #[]))) && (decide (r35.2 = 13))) && (beqS r36.1 p0)) && (decide (r36.2 = 0))) && (beqS r38.1 p1)) && (decide (r38.2 = 0)))) ∧ True) (fun _ w => w10 = w) ?_ ?_
            · clear h
              rcases Bool.eq_false_or_eq_true (decide (p5 = r23.1)) with hc67 | hc67
              · skip
                refine wpR_pass (wantN rfl rfl rfl hc67) rfl rfl ?_
                refine wpR_pass (wantN rfl rfl rfl hc67) rfl rfl ?_
                refine wpR_pass (wantN rfl rfl rfl hc67) rfl rfl ?_
                refine wpR_val (v := (Value.bool true)) (w' := w10) (wantG rfl rfl rfl hc57) rfl rfl (x_pickT (v := (Value.bool true)) rfl rfl hc67 rfl) ?_
                refine wpR_nil ?_
                exact ⟨(), ⟨(by rw [hc67]; rfl), e30, rfl, trivial⟩, rfl⟩
              · skip
                refine wpR_val (v := (Value.int .i64 p5)) (w' := w10) (wantG rfl rfl rfl hc67) rfl rfl (x_move (v := (Value.int .i64 p5)) rfl e5) ?_
                refine wpR_val (v := (Value.int .i64 r24.1)) (w' := w10) (wantG rfl rfl rfl hc67) rfl rfl (x_move (v := (Value.int .i64 r24.1)) rfl e18) ?_
                refine wpR_val (v := (Value.bool (decide (p5 = r24.1)))) (w' := w10) (wantG rfl rfl rfl hc67) rfl rfl (x_eql rfl rfl rfl) ?_
                refine wpR_val (v := (Value.bool (decide (p5 = r24.1)))) (w' := w10) (wantG rfl rfl rfl hc57) rfl rfl (x_pickF (v := (Value.bool (decide (p5 = r24.1)))) rfl rfl hc67 rfl) ?_
                refine wpR_nil ?_
                exact ⟨(), ⟨(by rw [hc67]; rfl), e30, rfl, trivial⟩, rfl⟩
            rintro _ ρ wj ⟨e186, e30, e178, -⟩ rfl
            refine wpR_val (v := (Value.bool ((decide (p5 = r23.1)) || (decide (p5 = r24.1))))) (w' := w10) (wantG rfl rfl e178 hc57) rfl rfl (x_move (v := (Value.bool ((decide (p5 = r23.1)) || (decide (p5 = r24.1))))) rfl e186) ?_
            refine wpR_joinJ 3 (fun (_ : Unit) ρ => ρ 190 = Value.bool (((decide (p5 = r23.1)) || (decide (p5 = r24.1))) || (decide (r39.2 = 4))) ∧ ρ 178 = (Value.bool ((((((((r9 && (beqS r34.1 (ByteArray.mk #[]))) && (decide (r34.2 = 13))) && (beqS r35.1 (ByteArray.mk #[]))) && (decide (r35.2 = 13))) && (beqS r36.1 p0)) && (decide (r36.2 = 0))) && (beqS r38.1 p1)) && (decide (r38.2 = 0)))) ∧ True) (fun _ w => w10 = w) ?_ ?_
            · clear h
              rcases Bool.eq_false_or_eq_true ((decide (p5 = r23.1)) || (decide (p5 = r24.1))) with hc69 | hc69
              · skip
                refine wpR_pass (wantN rfl rfl rfl hc69) rfl rfl ?_
                refine wpR_pass (wantN rfl rfl rfl hc69) rfl rfl ?_
                refine wpR_val (v := (Value.bool true)) (w' := w10) (wantG rfl rfl e178 hc57) rfl rfl (x_pickT (v := (Value.bool true)) rfl rfl hc69 rfl) ?_
                refine wpR_nil ?_
                exact ⟨(), ⟨(by rw [hc69]; rfl), e178, trivial⟩, rfl⟩
              · skip
                refine wpR_val (v := (Value.int .i64 r39.2)) (w' := w10) (wantG rfl rfl rfl hc69) rfl rfl (x_move (v := (Value.int .i64 r39.2)) rfl e30) ?_
                refine wpR_val (v := (Value.bool (decide (r39.2 = 4)))) (w' := w10) (wantG rfl rfl rfl hc69) rfl rfl (x_eql rfl rfl rfl) ?_
                refine wpR_val (v := (Value.bool (decide (r39.2 = 4)))) (w' := w10) (wantG rfl rfl e178 hc57) rfl rfl (x_pickF (v := (Value.bool (decide (r39.2 = 4)))) rfl rfl hc69 rfl) ?_
                refine wpR_nil ?_
                exact ⟨(), ⟨(by rw [hc69]; rfl), e178, trivial⟩, rfl⟩
            rintro _ ρ wj ⟨e190, e178, -⟩ rfl
            refine wpR_val (v := (Value.bool (((decide (p5 = r23.1)) || (decide (p5 = r24.1))) || (decide (r39.2 = 4))))) (w' := w10) rfl rfl rfl (x_pickT (v := (Value.bool (((decide (p5 = r23.1)) || (decide (p5 = r24.1))) || (decide (r39.2 = 4))))) rfl e178 hc57 e190) ?_
            refine wpR_nil ?_
            exact ⟨(), ⟨(by rw [hc57]; rfl), trivial⟩, rfl⟩
          · skip
            refine wpR_pass (wantN rfl rfl rfl hc57) rfl rfl ?_
            refine wpR_pass (wantN rfl rfl rfl hc57) rfl rfl ?_
            refine wpR_pass (wantN rfl rfl rfl hc57) rfl rfl ?_
            refine wpR_pass (wantN rfl rfl rfl hc57) rfl rfl ?_
            refine wpR_pass (wantU rfl rfl rfl) rfl rfl ?_
            refine wpR_pass (wantU rfl rfl rfl) rfl rfl ?_
            refine wpR_pass (wantU rfl rfl rfl) rfl rfl ?_
            refine wpR_pass (wantN rfl rfl rfl hc57) rfl rfl ?_
            refine wpR_pass (wantN rfl rfl rfl hc57) rfl rfl ?_
            refine wpR_pass (wantU rfl rfl rfl) rfl rfl ?_
            refine wpR_pass (wantU rfl rfl rfl) rfl rfl ?_
            refine wpR_pass (wantN rfl rfl rfl hc57) rfl rfl ?_
            refine wpR_val (v := (Value.bool false)) (w' := w10) rfl rfl rfl (x_pickF (v := (Value.bool false)) rfl rfl hc57 rfl) ?_
            refine wpR_nil ?_
            exact ⟨(), ⟨(by rw [hc57]; rfl), trivial⟩, rfl⟩
        rintro _ ρ wj ⟨e191, -⟩ rfl
        refine wpR_val (v := (Value.bool (((((((((r9 && (beqS r34.1 (ByteArray.mk #[]))) && (decide (r34.2 = 13))) && (beqS r35.1 (ByteArray.mk #[]))) && (decide (r35.2 = 13))) && (beqS r36.1 p0)) && (decide (r36.2 = 0))) && (beqS r38.1 p1)) && (decide (r38.2 = 0))) && (((decide (p5 = r23.1)) || (decide (p5 = r24.1))) || (decide (r39.2 = 4)))))) (w' := w10) rfl rfl rfl (x_assign (v := (Value.bool (((((((((r9 && (beqS r34.1 (ByteArray.mk #[]))) && (decide (r34.2 = 13))) && (beqS r35.1 (ByteArray.mk #[]))) && (decide (r35.2 = 13))) && (beqS r36.1 p0)) && (decide (r36.2 = 0))) && (beqS r38.1 p1)) && (decide (r38.2 = 0))) && (((decide (p5 = r23.1)) || (decide (p5 = r24.1))) || (decide (r39.2 = 4)))))) rfl e191) ?_
        refine wpR_nil ?_
        refine wpC_ret ?_
        exact ⟨.inl rfl, fun a ha => ⟨_, results_rep1 rfl ha rfl, ((((((((r9 && (beqS r34.1 (ByteArray.mk #[]))) && (decide (r34.2 = 13))) && (beqS r35.1 (ByteArray.mk #[]))) && (decide (r35.2 = 13))) && (beqS r36.1 p0)) && (decide (r36.2 = 0))) && (beqS r38.1 p1)) && (decide (r38.2 = 0))) && (((decide (p5 = r23.1)) || (decide (p5 = r24.1))) || (decide (r39.2 = 4))), rfl, h⟩⟩

/-- lingualaw45.SealedBlind -/
def F4 (p0 : Sl) (p1 : ByteArray) (w0 : World) (K : Bool → World → Prop) : Prop :=
  callC Try.prog 7 #[] (fun (r : Bool) => (Value.bool r)) w0 fun r9 w1 =>
  callC Try.prog 11 #[(Sl.v p0)] (fun (r : Bool) => (Value.bool r)) w1 fun r10 w2 =>
  cnd ((!r10) || (decide (200 < (p1.size : Int))))
    (
    K r9 w2
    )
    (
    callC Try.prog 8 #[] (fun (r : (Option Addr)) => (Value.pointer r)) w2 fun r14 w3 =>
    callC Try.prog 8 #[] (fun (r : (Option Addr)) => (Value.pointer r)) w3 fun r15 w4 =>
    cnd (r14.isNone || r15.isNone)
      (
      K false w4
      )
      (
      lp (fun (next19 : (Sl × Int) → World → Prop) l19 w5 =>
        cnd (decide (l19.2 < (p0.len : Int)))
          (
          ix p0 l19.2 9 fun p21 =>
          L36 p21 w5 fun x22 x23 x24 x25 x26 x27 x28 x29 x30 =>
          nw 37 (A36 0 0 0 0 0 0 0 (ByteArray.mk #[]) Sl.nil) w5 fun b31 w6 =>
          st (Addr.mk b31 0 none) (S36 x22 x23 x24 x25 x26 x27 x28 x29 x30) w6 fun w7 =>
          jn (fun (J33 : Sl → World → Prop) =>
            ld (Value.int .i64) ((Addr.mk b31 0 none).add 0) w7 fun x35 =>
            cnd (decide (x35 = 0))
              (
              ld Value.string ((Addr.mk b31 0 none).add 7) w7 fun x37 =>
              ld (Value.int .i64) ((Addr.mk b31 0 none).add 3) w7 fun x38 =>
              ld (Value.int .i64) ((Addr.mk b31 0 none).add 4) w7 fun x39 =>
              ld (Value.int .i64) ((Addr.mk b31 0 none).add 5) w7 fun x40 =>
              callC Try.prog 9 #[(Value.pointer r14), (Value.string x37), (Value.int .i64 x38), (Value.int .i64 x39), (Value.int .i64 x40)] (fun (r : Int × Sl × Int) => (Value.tuple #[(Value.int .i64 r.1), (Sl.v r.2.1), (Value.int .i64 r.2.2)])) w7 fun r41 w9 =>
              ld (Value.int .i64) ((Addr.mk b31 0 none).add 3) w9 fun x42 =>
              ld (Value.int .i64) ((Addr.mk b31 0 none).add 4) w9 fun x43 =>
              ld (Value.int .i64) ((Addr.mk b31 0 none).add 5) w9 fun x44 =>
              callC Try.prog 9 #[(Value.pointer r15), (Value.string p1), (Value.int .i64 x42), (Value.int .i64 x43), (Value.int .i64 x44)] (fun (r : Int × Sl × Int) => (Value.tuple #[(Value.int .i64 r.1), (Sl.v r.2.1), (Value.int .i64 r.2.2)])) w9 fun r45 w10 =>
              jn (fun J48 => cnd ((!decide (r41.1 = r45.1)) || (!decide (r41.2.2 = r45.2.2)))
                (
                J48 true w10
                )
                (
                callC Try.prog 12 #[(Sl.v r41.2.1), (Sl.v r45.2.1)] (fun (r : Bool) => (Value.bool r)) w10 fun r50 w11 =>
                J48 (!r50) w11
                ))
              fun c51 w12 =>
              cnd (c51)
                (
                K false w12
                )
                (
                cnd (decide (r41.2.2 = 0))
                  (
                  nw 25 #[(Sl.v r41.2.1)] w12 fun b54 w13 =>
                  rn Try.prog (Builtin.append_ #[34, 34] 34 #[Sl.v l19.1, Sl.v (⟨some ⟨b54, 0, none⟩, 1, 1⟩ : Sl)]) Sl.v w13 fun r55 w14 =>
                  J33 r55 w14
                  )
                  (
                  J33 l19.1 w12
                  )
                )
              )
              (
              cnd (decide (x35 = 1))
                (
                jn (fun (J58 : (ByteArray × Int) → World → Prop) => tk w7 fun w15 =>
                  ld (Value.int .i64) ((Addr.mk b31 0 none).add 1) w15 fun x59 =>
                  L36 (Addr.mk b31 0 none) w15 fun x60 x61 x62 x63 x64 x65 x66 x67 x68 =>
                  callC Try.prog 13 #[(Sl.v l19.1), (V36 x60 x61 x62 x63 x64 x65 x66 x67 x68)] (fun (r : Sl) => (Sl.v r)) w15 fun r69 w16 =>
                  (w16.cell? ((Addr.mk b31 0 none).add 1) = some (Value.int .i64 x59)) ∧
                  callC Try.prog 10 #[(Value.pointer r14), (Value.int .i64 x59), (Sl.v r69)] (fun (r : ByteArray × Int) => (Value.tuple #[(Value.string r.1), (Value.int .i64 r.2)])) w16 fun r70 w17 =>
                  J58 (r70.1, r70.2) w17
                )
                fun l71 w18 =>
                jn (fun (J73 : (ByteArray × Int) → World → Prop) => tk w18 fun w19 =>
                  ld (Value.int .i64) ((Addr.mk b31 0 none).add 1) w19 fun x74 =>
                  L36 (Addr.mk b31 0 none) w19 fun x75 x76 x77 x78 x79 x80 x81 x82 x83 =>
                  callC Try.prog 13 #[(Sl.v l19.1), (V36 x75 x76 x77 x78 x79 x80 x81 x82 x83)] (fun (r : Sl) => (Sl.v r)) w19 fun r84 w20 =>
                  (w20.cell? ((Addr.mk b31 0 none).add 1) = some (Value.int .i64 x74)) ∧
                  callC Try.prog 10 #[(Value.pointer r15), (Value.int .i64 x74), (Sl.v r84)] (fun (r : ByteArray × Int) => (Value.tuple #[(Value.string r.1), (Value.int .i64 r.2)])) w20 fun r85 w21 =>
                  J73 (r85.1, r85.2) w21
                )
                fun l86 w22 =>
                cnd (((!decide (l71.2 = l86.2)) || ((decide (l71.2 = 0)) && (!beqS l86.1 p1))) || ((!decide (l71.2 = 0)) && ((!beqS l71.1 (ByteArray.mk #[])) || (!beqS l86.1 (ByteArray.mk #[])))))
                  (
                  K false w22
                  )
                  (
                  J33 l19.1 w22
                  )
                )
                (
                cnd (decide (x35 = 2))
                  (
                  jn (fun (J124 : Bool → World → Prop) => tk w7 fun w23 =>
                    ld (Value.int .i64) ((Addr.mk b31 0 none).add 1) w23 fun x125 =>
                    ld (Value.int .i64) ((Addr.mk b31 0 none).add 1) w23 fun x126 =>
                    callC Try.prog 14 #[(Value.pointer r14), (Value.int .i64 x125)] (fun (r : Int) => (Value.int .i64 r)) w23 fun r127 w24 =>
                    (w24.cell? ((Addr.mk b31 0 none).add 1) = some (Value.int .i64 x126)) ∧
                    callC Try.prog 14 #[(Value.pointer r15), (Value.int .i64 x126)] (fun (r : Int) => (Value.int .i64 r)) w24 fun r128 w25 =>
                    J124 (!decide (r127 = r128)) w25
                  )
                  fun l129 w26 =>
                  cnd (l129)
                    (
                    K false w26
                    )
                    (
                    J33 l19.1 w26
                    )
                  )
                  (
                  J33 l19.1 w7
                  )
                )
              )
          )
          fun l34 w8 =>
          callC Try.prog 15 #[(Value.pointer r14)] (fun (r : Int) => (Value.int .i64 r)) w8 fun r131 w27 =>
          callC Try.prog 15 #[(Value.pointer r15)] (fun (r : Int) => (Value.int .i64 r)) w27 fun r132 w28 =>
          cnd (!decide (r131 = r132))
            (
            K false w28
            )
            (
            next19 (l34, IntKind.i64.wrap (l19.2 + 1)) w28
            )
          )
          (
          K r9 w5
          )
      ) (Sl.nil, 0) w4
      )
    )
set_option maxRecDepth 100000 in
theorem D4 (p0 : Sl) (p1 : ByteArray) (w0 : World) (K : Bool → World → Prop) (h : F4 p0 p1 w0 K) : callC Try.prog 4 #[(Sl.v p0), (Value.string p1)] (fun (r : Bool) => (Value.bool r)) w0 K := by
  unfold F4 at h
  refine calls_of_wpC Try.func4 rfl 163 rfl (by simp) ?_
  intro ρ hρ
  have e0 : ρ 0 = (Sl.v p0) := hρ 0
  have e1 : ρ 1 = (Value.string p1) := hρ 1
  clear hρ
  refine wpC_seq ?_
  refine wpC_region ?_
  refine wpR_val (v := (Value.bool false)) (w' := w0) rfl rfl rfl (x_assign (v := (Value.bool false)) rfl rfl) ?_
  refine wpR_nil ?_
  refine wpC_seq ?_
  refine wpC_cut (fun ρ => ρ 0 = (Sl.v p0) ∧ ρ 1 = (Value.string p1) ∧ True) ⟨e0, e1, trivial⟩ ?_
  rintro ρ ⟨e0, e1, -⟩
  refine wpC_region ?_
  refine wpR_enter rfl rfl rfl (x_call (vs := []) rfl rfl mapl_nil Try.func7 NN_7 NB_7) (Calls.mono h ?_)
  rintro _ w1 ⟨r9, rfl, h⟩
  refine ⟨_, rfl, ?_⟩
  refine wpR_val (v := (Value.bool r9)) (w' := w1) rfl rfl rfl (x_assign (v := (Value.bool r9)) rfl rfl) ?_
  refine wpR_nil ?_
  refine wpC_seq ?_
  refine wpC_seq ?_
  refine wpC_cut (fun ρ => ρ 0 = (Sl.v p0) ∧ ρ 1 = (Value.string p1) ∧ ρ 5 = (Value.bool r9) ∧ True) ⟨e0, e1, rfl, trivial⟩ ?_
  rintro ρ ⟨e0, e1, e5, -⟩
  refine wpC_region ?_
  refine wpR_val (v := (Sl.v p0)) (w' := w1) rfl rfl rfl (x_move (v := (Sl.v p0)) rfl e0) ?_
  refine wpR_enter rfl rfl rfl (x_call (vs := [(Sl.v p0)]) rfl rfl (mapl_cons rfl mapl_nil) Try.func11 NN_11 NB_11) (Calls.mono h ?_)
  rintro _ w2 ⟨r10, rfl, h⟩
  refine ⟨_, rfl, ?_⟩
  refine wpR_val (v := (Value.bool (!r10))) (w' := w2) rfl rfl rfl (x_not rfl rfl) ?_
  refine wpR_val (v := (Value.bool (!r10))) (w' := w2) rfl rfl rfl (x_move (v := (Value.bool (!r10))) rfl rfl) ?_
  refine wpR_joinJ 4 (fun (_ : Unit) ρ => ρ 29 = Value.bool ((!r10) || (decide (200 < (p1.size : Int)))) ∧ ρ 0 = (Sl.v p0) ∧ ρ 1 = (Value.string p1) ∧ ρ 5 = (Value.bool r9) ∧ True) (fun _ w => w2 = w) ?_ ?_
  · clear h
    rcases Bool.eq_false_or_eq_true (!r10) with hc12 | hc12
    · skip
      refine wpR_pass (wantN rfl rfl rfl hc12) rfl rfl ?_
      refine wpR_pass (wantN rfl rfl rfl hc12) rfl rfl ?_
      refine wpR_pass (wantN rfl rfl rfl hc12) rfl rfl ?_
      refine wpR_val (v := (Value.bool true)) (w' := w2) rfl rfl rfl (x_pickT (v := (Value.bool true)) rfl rfl hc12 rfl) ?_
      refine wpR_nil ?_
      exact ⟨(), ⟨(by rw [hc12]; rfl), e0, e1, e5, trivial⟩, rfl⟩
    · skip
      refine wpR_val (v := (Value.string p1)) (w' := w2) (wantG rfl rfl rfl hc12) rfl rfl (x_move (v := (Value.string p1)) rfl e1) ?_
      refine wpR_val (v := (Value.int .i64 (p1.size : Int))) (w' := w2) (wantG rfl rfl rfl hc12) rfl rfl (x_lenStr rfl rfl isStrT_9) ?_
      refine wpR_val (v := (Value.bool (decide (200 < (p1.size : Int))))) (w' := w2) (wantG rfl rfl rfl hc12) rfl rfl (x_gtr rfl rfl rfl) ?_
      refine wpR_val (v := (Value.bool (decide (200 < (p1.size : Int))))) (w' := w2) rfl rfl rfl (x_pickF (v := (Value.bool (decide (200 < (p1.size : Int))))) rfl rfl hc12 rfl) ?_
      refine wpR_nil ?_
      exact ⟨(), ⟨(by rw [hc12]; rfl), e0, e1, e5, trivial⟩, rfl⟩
  rintro _ ρ wj ⟨e29, e0, e1, e5, -⟩ rfl
  refine wpR_nil ?_
  refine wpC_cond (b := (!r10) || (decide (200 < (p1.size : Int)))) e29 (fun hc13 => ?_) (fun hc13 => ?_)
  · replace h := h.1 hc13
    refine wpC_seq ?_
    refine wpC_region ?_
    refine wpR_val (v := (Value.bool r9)) (w' := w2) rfl rfl rfl (x_move (v := (Value.bool r9)) rfl e5) ?_
    refine wpR_val (v := (Value.bool r9)) (w' := w2) rfl rfl rfl (x_assign (v := (Value.bool r9)) rfl rfl) ?_
    refine wpR_nil ?_
    refine wpC_ret ?_
    exact ⟨.inl rfl, fun a ha => ⟨_, results_rep1 rfl ha rfl, r9, rfl, h⟩⟩
  · replace h := h.2 hc13
    refine wpC_skip ?_
    refine wpC_seq ?_
    refine wpC_region ?_
    refine wpR_enter rfl rfl rfl (x_call (vs := []) rfl rfl mapl_nil Try.func8 NN_8 NB_8) (Calls.mono h ?_)
    rintro _ w3 ⟨r14, rfl, h⟩
    refine ⟨_, rfl, ?_⟩
    refine wpR_val (v := (Value.pointer r14)) (w' := w3) rfl rfl rfl (x_assign (v := (Value.pointer r14)) rfl rfl) ?_
    refine wpR_nil ?_
    refine wpC_seq ?_
    refine wpC_cut (fun ρ => ρ 0 = (Sl.v p0) ∧ ρ 1 = (Value.string p1) ∧ ρ 5 = (Value.bool r9) ∧ ρ 6 = (Value.pointer r14) ∧ True) ⟨e0, e1, e5, rfl, trivial⟩ ?_
    rintro ρ ⟨e0, e1, e5, e6, -⟩
    refine wpC_region ?_
    refine wpR_enter rfl rfl rfl (x_call (vs := []) rfl rfl mapl_nil Try.func8 NN_8 NB_8) (Calls.mono h ?_)
    rintro _ w4 ⟨r15, rfl, h⟩
    refine ⟨_, rfl, ?_⟩
    refine wpR_val (v := (Value.pointer r15)) (w' := w4) rfl rfl rfl (x_assign (v := (Value.pointer r15)) rfl rfl) ?_
    refine wpR_nil ?_
    refine wpC_seq ?_
    refine wpC_seq ?_
    refine wpC_cut (fun ρ => ρ 0 = (Sl.v p0) ∧ ρ 1 = (Value.string p1) ∧ ρ 5 = (Value.bool r9) ∧ ρ 6 = (Value.pointer r14) ∧ ρ 7 = (Value.pointer r15) ∧ True) ⟨e0, e1, e5, e6, rfl, trivial⟩ ?_
    rintro ρ ⟨e0, e1, e5, e6, e7, -⟩
    refine wpC_region ?_
    refine wpR_val (v := (Value.pointer r14)) (w' := w4) rfl rfl rfl (x_move (v := (Value.pointer r14)) rfl e6) ?_
    refine wpR_val (v := (Value.bool r14.isNone)) (w' := w4) rfl rfl rfl (x_eqlNil rfl rfl rfl isPtrT_23) ?_
    refine wpR_val (v := (Value.bool r14.isNone)) (w' := w4) rfl rfl rfl (x_move (v := (Value.bool r14.isNone)) rfl rfl) ?_
    refine wpR_joinJ 3 (fun (_ : Unit) ρ => ρ 38 = Value.bool (r14.isNone || r15.isNone) ∧ ρ 0 = (Sl.v p0) ∧ ρ 1 = (Value.string p1) ∧ ρ 5 = (Value.bool r9) ∧ ρ 6 = (Value.pointer r14) ∧ ρ 7 = (Value.pointer r15) ∧ True) (fun _ w => w4 = w) ?_ ?_
    · clear h
      rcases Bool.eq_false_or_eq_true (r14.isNone) with hc17 | hc17
      · skip
        refine wpR_pass (wantN rfl rfl rfl hc17) rfl rfl ?_
        refine wpR_pass (wantN rfl rfl rfl hc17) rfl rfl ?_
        refine wpR_val (v := (Value.bool true)) (w' := w4) rfl rfl rfl (x_pickT (v := (Value.bool true)) rfl rfl hc17 rfl) ?_
        refine wpR_nil ?_
        exact ⟨(), ⟨(by rw [hc17]; rfl), e0, e1, e5, e6, e7, trivial⟩, rfl⟩
      · skip
        refine wpR_val (v := (Value.pointer r15)) (w' := w4) (wantG rfl rfl rfl hc17) rfl rfl (x_move (v := (Value.pointer r15)) rfl e7) ?_
        refine wpR_val (v := (Value.bool r15.isNone)) (w' := w4) (wantG rfl rfl rfl hc17) rfl rfl (x_eqlNil rfl rfl rfl isPtrT_23) ?_
        refine wpR_val (v := (Value.bool r15.isNone)) (w' := w4) rfl rfl rfl (x_pickF (v := (Value.bool r15.isNone)) rfl rfl hc17 rfl) ?_
        refine wpR_nil ?_
        exact ⟨(), ⟨(by rw [hc17]; rfl), e0, e1, e5, e6, e7, trivial⟩, rfl⟩
    rintro _ ρ wj ⟨e38, e0, e1, e5, e6, e7, -⟩ rfl
    refine wpR_nil ?_
    refine wpC_cond (b := r14.isNone || r15.isNone) e38 (fun hc18 => ?_) (fun hc18 => ?_)
    · replace h := h.1 hc18
      refine wpC_seq ?_
      refine wpC_region ?_
      refine wpR_val (v := (Value.bool false)) (w' := w4) rfl rfl rfl (x_assign (v := (Value.bool false)) rfl rfl) ?_
      refine wpR_nil ?_
      refine wpC_ret ?_
      exact ⟨.inl rfl, fun a ha => ⟨_, results_rep1 rfl ha rfl, false, rfl, h⟩⟩
    · replace h := h.2 hc18
      refine wpC_skip ?_
      refine wpC_seq ?_
      refine wpC_region ?_
      refine wpR_val (v := (Sl.v Sl.nil)) (w' := w4) rfl rfl rfl (x_assign (v := (Sl.v Sl.nil)) rfl rfl) ?_
      refine wpR_nil ?_
      refine wpC_seq ?_
      refine wpC_seq ?_
      refine wpC_cut (fun ρ => ρ 0 = (Sl.v p0) ∧ ρ 1 = (Value.string p1) ∧ ρ 5 = (Value.bool r9) ∧ ρ 6 = (Value.pointer r14) ∧ ρ 7 = (Value.pointer r15) ∧ ρ 8 = (Sl.v Sl.nil) ∧ True) ⟨e0, e1, e5, e6, e7, rfl, trivial⟩ ?_
      rintro ρ ⟨e0, e1, e5, e6, e7, e8, -⟩
      refine wpC_region ?_
      refine wpR_val (v := (Value.int .i64 0)) (w' := w4) rfl rfl rfl (x_assign (v := (Value.int .i64 0)) rfl rfl) ?_
      refine wpR_nil ?_
      refine wpC_block ?_
      obtain ⟨I19, μ19, hI19, hr19⟩ := h
      refine wpC_loop (fun (x : Sl × Int) ρ => ρ 8 = (Sl.v x.1) ∧ ρ 9 = (Value.int .i64 x.2) ∧ ρ 0 = (Sl.v p0) ∧ ρ 1 = (Value.string p1) ∧ ρ 5 = (Value.bool r9) ∧ ρ 6 = (Value.pointer r14) ∧ ρ 7 = (Value.pointer r15) ∧ True) I19 μ19 (Sl.nil, 0) ⟨e8, rfl, e0, e1, e5, e6, e7, trivial⟩ hI19 ?_
      rintro l19 ρ w5 ⟨e8, e9, e0, e1, e5, e6, e7, -⟩ h
      replace h := hr19 l19 w5 h
      clear hr19 hI19
      refine wpC_seq ?_
      refine wpC_seq ?_
      refine wpC_region ?_
      refine wpR_val (v := (Value.int .i64 l19.2)) (w' := w5) rfl rfl rfl (x_move (v := (Value.int .i64 l19.2)) rfl e9) ?_
      refine wpR_val (v := (Sl.v p0)) (w' := w5) rfl rfl rfl (x_move (v := (Sl.v p0)) rfl e0) ?_
      refine wpR_val (v := (Value.int .i64 (p0.len : Int))) (w' := w5) rfl rfl rfl (x_lenS (s := p0) rfl rfl isSliceT_32) ?_
      refine wpR_val (v := (Value.bool (decide (l19.2 < (p0.len : Int))))) (w' := w5) rfl rfl rfl (x_lss rfl rfl rfl) ?_
      refine wpR_nil ?_
      refine wpC_cond (b := decide (l19.2 < (p0.len : Int))) rfl (fun hc20 => ?_) (fun hc20 => ?_)
      · replace h := h.1 hc20
        refine wpC_skip ?_
        refine wpC_seq ?_
        refine wpC_block ?_
        refine wpC_seq ?_
        refine wpC_cut (fun ρ => ρ 0 = (Sl.v p0) ∧ ρ 1 = (Value.string p1) ∧ ρ 5 = (Value.bool r9) ∧ ρ 6 = (Value.pointer r14) ∧ ρ 7 = (Value.pointer r15) ∧ ρ 8 = (Sl.v l19.1) ∧ ρ 9 = (Value.int .i64 l19.2) ∧ True) ⟨e0, e1, e5, e6, e7, e8, e9, trivial⟩ ?_
        rintro ρ ⟨e0, e1, e5, e6, e7, e8, e9, -⟩
        refine wpC_region ?_
        refine wpR_val (v := (Sl.v p0)) (w' := w5) rfl rfl rfl (x_move (v := (Sl.v p0)) rfl e0) ?_
        refine wpR_val (v := (Value.int .i64 l19.2)) (w' := w5) rfl rfl rfl (x_move (v := (Value.int .i64 l19.2)) rfl e9) ?_
        obtain ⟨q21, z21, r21, h⟩ := h
        generalize hp21 : z21.add ((l19.2 : Int).toNat * 9) = p21 at h
        refine wpR_val (v := (Value.pointer (some p21))) (w' := w5) rfl rfl rfl ((x_indexAddr (s := p0) rfl rfl rfl ES_32 q21 r21).trans (by rw [hp21])) ?_
        obtain ⟨x22, q22, x23, q23, x24, q24, x25, q25, x26, q26, x27, q27, x28, q28, x29, q29, x30, q30, h⟩ := h
        refine wpR_val (v := (V36 x22 x23 x24 x25 x26 x27 x28 x29 x30)) (w' := w5) rfl rfl rfl (x_loadN (S36 x22 x23 x24 x25 x26 x27 x28 x29 x30) rfl rfl SH_37 (K36 ⟨q22, q23, q24, q25, q26, q27, q28, q29, q30⟩)) ?_
        obtain ⟨b31, hb31⟩ : ∃ u, u = w5.heap.size := ⟨_, rfl⟩
        obtain ⟨w6, hw31⟩ : ∃ u, u = w5.alloc (.cells (A36 0 0 0 0 0 0 0 (ByteArray.mk #[]) Sl.nil) 37) := ⟨_, rfl⟩
        replace h := h b31 w6 hb31 hw31
        refine wpR_val (v := (Value.pointer (some (Addr.mk b31 0 none)))) (w' := w6) rfl rfl rfl ((x_alloc rfl ZV_37).trans (by rw [hb31, hw31]; rfl)) ?_
        obtain ⟨q32, h⟩ := h
        obtain ⟨w7, hw32⟩ : ∃ u, u = setAll w6 (Addr.mk b31 0 none) (S36 x22 x23 x24 x25 x26 x27 x28 x29 x30) 0 := ⟨_, rfl⟩
        replace h := h w7 hw32
        refine wpR_skp (w' := w7) rfl rfl ((x_store (v := (V36 x22 x23 x24 x25 x26 x27 x28 x29 x30)) rfl rfl rfl SZ_37 (ones (by rfl)) q32).trans (by rw [hw32]; rfl)) ?_
        refine wpR_nil ?_
        obtain ⟨J33, h, hk⟩ := h
        refine wpC_seqJ (fun (x : Sl) ρ => ρ 8 = (Sl.v x) ∧ ρ 0 = (Sl.v p0) ∧ ρ 1 = (Value.string p1) ∧ ρ 5 = (Value.bool r9) ∧ ρ 6 = (Value.pointer r14) ∧ ρ 7 = (Value.pointer r15) ∧ ρ 9 = (Value.int .i64 l19.2) ∧ True) J33 ?_ ?_
        · clear hk
          refine wpC_seq ?_
          refine wpC_cut (fun ρ => ρ 0 = (Sl.v p0) ∧ ρ 1 = (Value.string p1) ∧ ρ 5 = (Value.bool r9) ∧ ρ 6 = (Value.pointer r14) ∧ ρ 7 = (Value.pointer r15) ∧ ρ 8 = (Sl.v l19.1) ∧ ρ 9 = (Value.int .i64 l19.2) ∧ ρ 10 = (Value.pointer (some (Addr.mk b31 0 none))) ∧ True) ⟨e0, e1, e5, e6, e7, e8, e9, rfl, trivial⟩ ?_
          rintro ρ ⟨e0, e1, e5, e6, e7, e8, e9, e10, -⟩
          refine wpC_region ?_
          refine wpR_val (v := (Value.pointer (some ((Addr.mk b31 0 none).add 0)))) (w' := w7) rfl rfl rfl (x_fieldAddr rfl e10 FA_37_0) ?_
          obtain ⟨x35, q35, h⟩ := h
          refine wpR_val (v := (Value.int .i64 x35)) (w' := w7) rfl rfl rfl (x_load1 rfl rfl SH_3 q35) ?_
          refine wpR_nil ?_
          refine wpC_block ?_
          refine wpC_seq ?_
          refine wpC_cut (fun ρ => ρ 0 = (Sl.v p0) ∧ ρ 1 = (Value.string p1) ∧ ρ 5 = (Value.bool r9) ∧ ρ 6 = (Value.pointer r14) ∧ ρ 7 = (Value.pointer r15) ∧ ρ 8 = (Sl.v l19.1) ∧ ρ 9 = (Value.int .i64 l19.2) ∧ ρ 10 = (Value.pointer (some (Addr.mk b31 0 none))) ∧ ρ 50 = (Value.int .i64 x35) ∧ True) ⟨e0, e1, e5, e6, e7, e8, e9, e10, rfl, trivial⟩ ?_
          rintro ρ ⟨e0, e1, e5, e6, e7, e8, e9, e10, e50, -⟩
          refine wpC_region ?_
          refine wpR_val (v := (Value.bool (decide (x35 = 0)))) (w' := w7) rfl rfl rfl (x_eql rfl e50 rfl) ?_
          refine wpR_val (v := (Value.bool (decide (x35 = 0)))) (w' := w7) rfl rfl rfl (x_assign (v := (Value.bool (decide (x35 = 0)))) rfl rfl) ?_
          refine wpR_nil ?_
          refine wpC_cond (b := decide (x35 = 0)) rfl (fun hc36 => ?_) (fun hc36 => ?_)
          · replace h := h.1 hc36
            refine wpC_seq ?_
            refine wpC_cut (fun ρ => ρ 0 = (Sl.v p0) ∧ ρ 1 = (Value.string p1) ∧ ρ 5 = (Value.bool r9) ∧ ρ 6 = (Value.pointer r14) ∧ ρ 7 = (Value.pointer r15) ∧ ρ 8 = (Sl.v l19.1) ∧ ρ 9 = (Value.int .i64 l19.2) ∧ ρ 10 = (Value.pointer (some (Addr.mk b31 0 none))) ∧ True) ⟨e0, e1, e5, e6, e7, e8, e9, e10, trivial⟩ ?_
            rintro ρ ⟨e0, e1, e5, e6, e7, e8, e9, e10, -⟩
            refine wpC_region ?_
            refine wpR_val (v := (Value.pointer r14)) (w' := w7) rfl rfl rfl (x_move (v := (Value.pointer r14)) rfl e6) ?_
            refine wpR_val (v := (Value.pointer (some ((Addr.mk b31 0 none).add 7)))) (w' := w7) rfl rfl rfl (x_fieldAddr rfl e10 FA_37_7) ?_
            obtain ⟨x37, q37, h⟩ := h
            refine wpR_val (v := (Value.string x37)) (w' := w7) rfl rfl rfl (x_load1 rfl rfl SH_9 q37) ?_
            refine wpR_val (v := (Value.pointer (some ((Addr.mk b31 0 none).add 3)))) (w' := w7) rfl rfl rfl (x_fieldAddr rfl e10 FA_37_3) ?_
            obtain ⟨x38, q38, h⟩ := h
            refine wpR_val (v := (Value.int .i64 x38)) (w' := w7) rfl rfl rfl (x_load1 rfl rfl SH_3 q38) ?_
            refine wpR_val (v := (Value.pointer (some ((Addr.mk b31 0 none).add 4)))) (w' := w7) rfl rfl rfl (x_fieldAddr rfl e10 FA_37_4) ?_
            obtain ⟨x39, q39, h⟩ := h
            refine wpR_val (v := (Value.int .i64 x39)) (w' := w7) rfl rfl rfl (x_load1 rfl rfl SH_3 q39) ?_
            refine wpR_val (v := (Value.pointer (some ((Addr.mk b31 0 none).add 5)))) (w' := w7) rfl rfl rfl (x_fieldAddr rfl e10 FA_37_5) ?_
            obtain ⟨x40, q40, h⟩ := h
            refine wpR_val (v := (Value.int .i64 x40)) (w' := w7) rfl rfl rfl (x_load1 rfl rfl SH_3 q40) ?_
            refine wpR_enter rfl rfl rfl (x_call (vs := [(Value.pointer r14), (Value.string x37), (Value.int .i64 x38), (Value.int .i64 x39), (Value.int .i64 x40)]) rfl rfl (mapl_cons rfl (mapl_cons rfl (mapl_cons rfl (mapl_cons rfl (mapl_cons rfl mapl_nil))))) Try.func9 NN_9 NB_9) (Calls.mono h ?_)
            rintro _ w9 ⟨r41, rfl, h⟩
            refine ⟨_, rfl, ?_⟩
            refine wpR_val (v := (Value.tuple #[(Value.int .i64 r41.1), (Sl.v r41.2.1), (Value.int .i64 r41.2.2)])) (w' := w9) rfl rfl rfl (x_move (v := (Value.tuple #[(Value.int .i64 r41.1), (Sl.v r41.2.1), (Value.int .i64 r41.2.2)])) rfl rfl) ?_
            refine wpR_val (v := (Value.int .i64 r41.1)) (w' := w9) rfl rfl rfl (x_extract rfl rfl rfl) ?_
            refine wpR_val (v := (Sl.v r41.2.1)) (w' := w9) rfl rfl rfl (x_extract rfl rfl rfl) ?_
            refine wpR_val (v := (Value.int .i64 r41.2.2)) (w' := w9) rfl rfl rfl (x_extract rfl rfl rfl) ?_
            refine wpR_val (v := (Value.int .i64 r41.1)) (w' := w9) rfl rfl rfl (x_assign (v := (Value.int .i64 r41.1)) rfl rfl) ?_
            refine wpR_val (v := (Sl.v r41.2.1)) (w' := w9) rfl rfl rfl (x_assign (v := (Sl.v r41.2.1)) rfl rfl) ?_
            refine wpR_val (v := (Value.int .i64 r41.2.2)) (w' := w9) rfl rfl rfl (x_assign (v := (Value.int .i64 r41.2.2)) rfl rfl) ?_
            refine wpR_nil ?_
            refine wpC_seq ?_
            refine wpC_cut (fun ρ => ρ 0 = (Sl.v p0) ∧ ρ 1 = (Value.string p1) ∧ ρ 5 = (Value.bool r9) ∧ ρ 6 = (Value.pointer r14) ∧ ρ 7 = (Value.pointer r15) ∧ ρ 8 = (Sl.v l19.1) ∧ ρ 9 = (Value.int .i64 l19.2) ∧ ρ 10 = (Value.pointer (some (Addr.mk b31 0 none))) ∧ ρ 11 = (Value.int .i64 r41.1) ∧ ρ 12 = (Sl.v r41.2.1) ∧ ρ 13 = (Value.int .i64 r41.2.2) ∧ True) ⟨e0, e1, e5, e6, e7, e8, e9, e10, rfl, rfl, rfl, trivial⟩ ?_
            rintro ρ ⟨e0, e1, e5, e6, e7, e8, e9, e10, e11, e12, e13, -⟩
            refine wpC_region ?_
            refine wpR_val (v := (Value.pointer r15)) (w' := w9) rfl rfl rfl (x_move (v := (Value.pointer r15)) rfl e7) ?_
            refine wpR_val (v := (Value.string p1)) (w' := w9) rfl rfl rfl (x_move (v := (Value.string p1)) rfl e1) ?_
            refine wpR_val (v := (Value.pointer (some ((Addr.mk b31 0 none).add 3)))) (w' := w9) rfl rfl rfl (x_fieldAddr rfl e10 FA_37_3) ?_
            obtain ⟨x42, q42, h⟩ := h
            refine wpR_val (v := (Value.int .i64 x42)) (w' := w9) rfl rfl rfl (x_load1 rfl rfl SH_3 q42) ?_
            refine wpR_val (v := (Value.pointer (some ((Addr.mk b31 0 none).add 4)))) (w' := w9) rfl rfl rfl (x_fieldAddr rfl e10 FA_37_4) ?_
            obtain ⟨x43, q43, h⟩ := h
            refine wpR_val (v := (Value.int .i64 x43)) (w' := w9) rfl rfl rfl (x_load1 rfl rfl SH_3 q43) ?_
            refine wpR_val (v := (Value.pointer (some ((Addr.mk b31 0 none).add 5)))) (w' := w9) rfl rfl rfl (x_fieldAddr rfl e10 FA_37_5) ?_
            obtain ⟨x44, q44, h⟩ := h
            refine wpR_val (v := (Value.int .i64 x44)) (w' := w9) rfl rfl rfl (x_load1 rfl rfl SH_3 q44) ?_
            refine wpR_enter rfl rfl rfl (x_call (vs := [(Value.pointer r15), (Value.string p1), (Value.int .i64 x42), (Value.int .i64 x43), (Value.int .i64 x44)]) rfl rfl (mapl_cons rfl (mapl_cons rfl (mapl_cons rfl (mapl_cons rfl (mapl_cons rfl mapl_nil))))) Try.func9 NN_9 NB_9) (Calls.mono h ?_)
            rintro _ w10 ⟨r45, rfl, h⟩
            refine ⟨_, rfl, ?_⟩
            refine wpR_val (v := (Value.tuple #[(Value.int .i64 r45.1), (Sl.v r45.2.1), (Value.int .i64 r45.2.2)])) (w' := w10) rfl rfl rfl (x_move (v := (Value.tuple #[(Value.int .i64 r45.1), (Sl.v r45.2.1), (Value.int .i64 r45.2.2)])) rfl rfl) ?_
            refine wpR_val (v := (Value.int .i64 r45.1)) (w' := w10) rfl rfl rfl (x_extract rfl rfl rfl) ?_
            refine wpR_val (v := (Sl.v r45.2.1)) (w' := w10) rfl rfl rfl (x_extract rfl rfl rfl) ?_
            refine wpR_val (v := (Value.int .i64 r45.2.2)) (w' := w10) rfl rfl rfl (x_extract rfl rfl rfl) ?_
            refine wpR_val (v := (Value.int .i64 r45.1)) (w' := w10) rfl rfl rfl (x_assign (v := (Value.int .i64 r45.1)) rfl rfl) ?_
            refine wpR_val (v := (Sl.v r45.2.1)) (w' := w10) rfl rfl rfl (x_assign (v := (Sl.v r45.2.1)) rfl rfl) ?_
            refine wpR_val (v := (Value.int .i64 r45.2.2)) (w' := w10) rfl rfl rfl (x_assign (v := (Value.int .i64 r45.2.2)) rfl rfl) ?_
            refine wpR_nil ?_
            refine wpC_seq ?_
            refine wpC_seq ?_
            refine wpC_cut (fun ρ => ρ 0 = (Sl.v p0) ∧ ρ 1 = (Value.string p1) ∧ ρ 5 = (Value.bool r9) ∧ ρ 6 = (Value.pointer r14) ∧ ρ 7 = (Value.pointer r15) ∧ ρ 8 = (Sl.v l19.1) ∧ ρ 9 = (Value.int .i64 l19.2) ∧ ρ 11 = (Value.int .i64 r41.1) ∧ ρ 12 = (Sl.v r41.2.1) ∧ ρ 13 = (Value.int .i64 r41.2.2) ∧ ρ 14 = (Value.int .i64 r45.1) ∧ ρ 15 = (Sl.v r45.2.1) ∧ ρ 16 = (Value.int .i64 r45.2.2) ∧ True) ⟨e0, e1, e5, e6, e7, e8, e9, e11, e12, e13, rfl, rfl, rfl, trivial⟩ ?_
            rintro ρ ⟨e0, e1, e5, e6, e7, e8, e9, e11, e12, e13, e14, e15, e16, -⟩
            refine wpC_region ?_
            refine wpR_val (v := (Value.int .i64 r41.1)) (w' := w10) rfl rfl rfl (x_move (v := (Value.int .i64 r41.1)) rfl e11) ?_
            refine wpR_val (v := (Value.int .i64 r45.1)) (w' := w10) rfl rfl rfl (x_move (v := (Value.int .i64 r45.1)) rfl e14) ?_
            refine wpR_val (v := (Value.bool (!decide (r41.1 = r45.1)))) (w' := w10) rfl rfl rfl (x_neq rfl rfl rfl) ?_
            refine wpR_val (v := (Value.bool (!decide (r41.1 = r45.1)))) (w' := w10) rfl rfl rfl (x_move (v := (Value.bool (!decide (r41.1 = r45.1)))) rfl rfl) ?_
            refine wpR_joinJ 4 (fun (_ : Unit) ρ => ρ 87 = Value.bool ((!decide (r41.1 = r45.1)) || (!decide (r41.2.2 = r45.2.2))) ∧ ρ 0 = (Sl.v p0) ∧ ρ 1 = (Value.string p1) ∧ ρ 5 = (Value.bool r9) ∧ ρ 6 = (Value.pointer r14) ∧ ρ 7 = (Value.pointer r15) ∧ ρ 8 = (Sl.v l19.1) ∧ ρ 9 = (Value.int .i64 l19.2) ∧ ρ 12 = (Sl.v r41.2.1) ∧ ρ 13 = (Value.int .i64 r41.2.2) ∧ ρ 15 = (Sl.v r45.2.1) ∧ True) (fun _ w => w10 = w) ?_ ?_
            · clear h
              rcases Bool.eq_false_or_eq_true (!decide (r41.1 = r45.1)) with hc47 | hc47
              · skip
                refine wpR_pass (wantN rfl rfl rfl hc47) rfl rfl ?_
                refine wpR_pass (wantN rfl rfl rfl hc47) rfl rfl ?_
                refine wpR_pass (wantN rfl rfl rfl hc47) rfl rfl ?_
                refine wpR_val (v := (Value.bool true)) (w' := w10) rfl rfl rfl (x_pickT (v := (Value.bool true)) rfl rfl hc47 rfl) ?_
                refine wpR_nil ?_
                exact ⟨(), ⟨(by rw [hc47]; rfl), e0, e1, e5, e6, e7, e8, e9, e12, e13, e15, trivial⟩, rfl⟩
              · skip
                refine wpR_val (v := (Value.int .i64 r41.2.2)) (w' := w10) (wantG rfl rfl rfl hc47) rfl rfl (x_move (v := (Value.int .i64 r41.2.2)) rfl e13) ?_
                refine wpR_val (v := (Value.int .i64 r45.2.2)) (w' := w10) (wantG rfl rfl rfl hc47) rfl rfl (x_move (v := (Value.int .i64 r45.2.2)) rfl e16) ?_
                refine wpR_val (v := (Value.bool (!decide (r41.2.2 = r45.2.2)))) (w' := w10) (wantG rfl rfl rfl hc47) rfl rfl (x_neq rfl rfl rfl) ?_
                refine wpR_val (v := (Value.bool (!decide (r41.2.2 = r45.2.2)))) (w' := w10) rfl rfl rfl (x_pickF (v := (Value.bool (!decide (r41.2.2 = r45.2.2)))) rfl rfl hc47 rfl) ?_
                refine wpR_nil ?_
                exact ⟨(), ⟨(by rw [hc47]; rfl), e0, e1, e5, e6, e7, e8, e9, e12, e13, e15, trivial⟩, rfl⟩
            rintro _ ρ wj ⟨e87, e0, e1, e5, e6, e7, e8, e9, e12, e13, e15, -⟩ rfl
            refine wpR_val (v := (Value.bool ((!decide (r41.1 = r45.1)) || (!decide (r41.2.2 = r45.2.2))))) (w' := w10) rfl rfl rfl (x_move (v := (Value.bool ((!decide (r41.1 = r45.1)) || (!decide (r41.2.2 = r45.2.2))))) rfl e87) ?_
            obtain ⟨J48, h, hk⟩ := h
            refine wpR_joinJ 5 (fun x ρ => ρ 93 = Value.bool x ∧ ρ 0 = (Sl.v p0) ∧ ρ 1 = (Value.string p1) ∧ ρ 5 = (Value.bool r9) ∧ ρ 6 = (Value.pointer r14) ∧ ρ 7 = (Value.pointer r15) ∧ ρ 8 = (Sl.v l19.1) ∧ ρ 9 = (Value.int .i64 l19.2) ∧ ρ 12 = (Sl.v r41.2.1) ∧ ρ 13 = (Value.int .i64 r41.2.2) ∧ True) (J48) ?_ ?_
            · clear hk
              rcases Bool.eq_false_or_eq_true ((!decide (r41.1 = r45.1)) || (!decide (r41.2.2 = r45.2.2))) with hc49 | hc49
              · replace h := h.1 hc49
                refine wpR_pass (wantN rfl rfl rfl hc49) rfl rfl ?_
                refine wpR_pass (wantN rfl rfl rfl hc49) rfl rfl ?_
                refine wpR_pass (wantN rfl rfl rfl hc49) rfl rfl ?_
                refine wpR_pass (wantN rfl rfl rfl hc49) rfl rfl ?_
                refine wpR_val (v := (Value.bool true)) (w' := w10) rfl rfl rfl (x_pickT (v := (Value.bool true)) rfl rfl hc49 rfl) ?_
                refine wpR_nil ?_
                exact ⟨true, ⟨rfl, e0, e1, e5, e6, e7, e8, e9, e12, e13, trivial⟩, h⟩
              · replace h := h.2 hc49
                refine wpR_val (v := (Sl.v r41.2.1)) (w' := w10) (wantG rfl rfl rfl hc49) rfl rfl (x_move (v := (Sl.v r41.2.1)) rfl e12) ?_
                refine wpR_val (v := (Sl.v r45.2.1)) (w' := w10) (wantG rfl rfl rfl hc49) rfl rfl (x_move (v := (Sl.v r45.2.1)) rfl e15) ?_
                refine wpR_enter (wantG rfl rfl rfl hc49) rfl rfl (x_call (vs := [(Sl.v r41.2.1), (Sl.v r45.2.1)]) rfl rfl (mapl_cons rfl (mapl_cons rfl mapl_nil)) Try.func12 NN_12 NB_12) (Calls.mono h ?_)
                rintro _ w11 ⟨r50, rfl, h⟩
                refine ⟨_, rfl, ?_⟩
                refine wpR_val (v := (Value.bool (!r50))) (w' := w11) (wantG rfl rfl rfl hc49) rfl rfl (x_not rfl rfl) ?_
                refine wpR_val (v := (Value.bool (!r50))) (w' := w11) rfl rfl rfl (x_pickF (v := (Value.bool (!r50))) rfl rfl hc49 rfl) ?_
                refine wpR_nil ?_
                exact ⟨!r50, ⟨rfl, e0, e1, e5, e6, e7, e8, e9, e12, e13, trivial⟩, h⟩
            clear h
            rintro c51 ρ w12 ⟨e93, e0, e1, e5, e6, e7, e8, e9, e12, e13, -⟩ h
            replace h := hk c51 w12 h
            clear hk
            refine wpR_nil ?_
            refine wpC_cond (b := c51) e93 (fun hc52 => ?_) (fun hc52 => ?_)
            · replace h := h.1 hc52
              refine wpC_seq ?_
              refine wpC_region ?_
              refine wpR_val (v := (Value.bool false)) (w' := w12) rfl rfl rfl (x_assign (v := (Value.bool false)) rfl rfl) ?_
              refine wpR_nil ?_
              refine wpC_ret ?_
              exact ⟨.inl rfl, fun a ha => ⟨_, results_rep1 rfl ha rfl, false, rfl, h⟩⟩
            · replace h := h.2 hc52
              refine wpC_skip ?_
              refine wpC_seq ?_
              refine wpC_region ?_
              refine wpR_val (v := (Value.int .i64 r41.2.2)) (w' := w12) rfl rfl rfl (x_move (v := (Value.int .i64 r41.2.2)) rfl e13) ?_
              refine wpR_val (v := (Value.bool (decide (r41.2.2 = 0)))) (w' := w12) rfl rfl rfl (x_eql rfl rfl rfl) ?_
              refine wpR_nil ?_
              refine wpC_cond (b := decide (r41.2.2 = 0)) rfl (fun hc53 => ?_) (fun hc53 => ?_)
              · replace h := h.1 hc53
                refine wpC_cut (fun ρ => ρ 0 = (Sl.v p0) ∧ ρ 1 = (Value.string p1) ∧ ρ 5 = (Value.bool r9) ∧ ρ 6 = (Value.pointer r14) ∧ ρ 7 = (Value.pointer r15) ∧ ρ 8 = (Sl.v l19.1) ∧ ρ 9 = (Value.int .i64 l19.2) ∧ ρ 12 = (Sl.v r41.2.1) ∧ True) ⟨e0, e1, e5, e6, e7, e8, e9, e12, trivial⟩ ?_
                rintro ρ ⟨e0, e1, e5, e6, e7, e8, e9, e12, -⟩
                refine wpC_region ?_
                refine wpR_val (v := (Sl.v l19.1)) (w' := w12) rfl rfl rfl (x_move (v := (Sl.v l19.1)) rfl e8) ?_
                refine wpR_val (v := (Sl.v r41.2.1)) (w' := w12) rfl rfl rfl (x_move (v := (Sl.v r41.2.1)) rfl e12) ?_
                obtain ⟨b54, hb54⟩ : ∃ u, u = w12.heap.size := ⟨_, rfl⟩
                obtain ⟨w13, hw54⟩ : ∃ u, u = w12.alloc (.cells #[(Sl.v r41.2.1)] 25) := ⟨_, rfl⟩
                replace h := h b54 w13 hb54 hw54
                refine wpR_val (v := (Sl.v (⟨some ⟨b54, 0, none⟩, 1, 1⟩ : Sl))) (w' := w13) rfl rfl rfl ((x_buildSlice (qs := [(0, (Sl.v r41.2.1))]) rfl (by rfl) (BS_34_1_0 r41.2.1)).trans (by rw [← hb54, ← hw54])) ?_
                obtain ⟨r55, w14, q55, h⟩ := h
                refine wpR_val (v := (Sl.v r55)) (w' := w14) rfl rfl rfl (x_append (s := l19.1) (u := (⟨some ⟨b54, 0, none⟩, 1, 1⟩ : Sl)) rfl rfl rfl rfl q55) ?_
                refine wpR_val (v := (Sl.v r55)) (w' := w14) rfl rfl rfl (x_assign (v := (Sl.v r55)) rfl rfl) ?_
                refine wpR_nil ?_
                exact ⟨r55, ⟨rfl, e0, e1, e5, e6, e7, e9, trivial⟩, h⟩
              · replace h := h.2 hc53
                refine wpC_skip ?_
                exact ⟨l19.1, ⟨e8, e0, e1, e5, e6, e7, e9, trivial⟩, h⟩
          · replace h := h.2 hc36
            refine wpC_seq ?_
            refine wpC_cut (fun ρ => ρ 0 = (Sl.v p0) ∧ ρ 1 = (Value.string p1) ∧ ρ 5 = (Value.bool r9) ∧ ρ 6 = (Value.pointer r14) ∧ ρ 7 = (Value.pointer r15) ∧ ρ 8 = (Sl.v l19.1) ∧ ρ 9 = (Value.int .i64 l19.2) ∧ ρ 10 = (Value.pointer (some (Addr.mk b31 0 none))) ∧ ρ 50 = (Value.int .i64 x35) ∧ True) ⟨e0, e1, e5, e6, e7, e8, e9, e10, e50, trivial⟩ ?_
            rintro ρ ⟨e0, e1, e5, e6, e7, e8, e9, e10, e50, -⟩
            refine wpC_region ?_
            refine wpR_val (v := (Value.bool (decide (x35 = 1)))) (w' := w7) rfl rfl rfl (x_eql rfl e50 rfl) ?_
            refine wpR_val (v := (Value.bool (decide (x35 = 1)))) (w' := w7) rfl rfl rfl (x_assign (v := (Value.bool (decide (x35 = 1)))) rfl rfl) ?_
            refine wpR_nil ?_
            refine wpC_cond (b := decide (x35 = 1)) rfl (fun hc56 => ?_) (fun hc56 => ?_)
            · replace h := h.1 hc56
              refine wpC_seq ?_
              refine wpC_cut (fun ρ => ρ 0 = (Sl.v p0) ∧ ρ 1 = (Value.string p1) ∧ ρ 5 = (Value.bool r9) ∧ ρ 6 = (Value.pointer r14) ∧ ρ 7 = (Value.pointer r15) ∧ ρ 8 = (Sl.v l19.1) ∧ ρ 9 = (Value.int .i64 l19.2) ∧ ρ 10 = (Value.pointer (some (Addr.mk b31 0 none))) ∧ True) ⟨e0, e1, e5, e6, e7, e8, e9, e10, trivial⟩ ?_
              rintro ρ ⟨e0, e1, e5, e6, e7, e8, e9, e10, -⟩
              obtain ⟨J58, h, hk⟩ := h
              refine wpC_drawJ (by kernel_rfl) (fun (x : ByteArray × Int) ρ => ρ 17 = (Value.string x.1) ∧ ρ 18 = (Value.int .i64 x.2) ∧ ρ 0 = (Sl.v p0) ∧ ρ 1 = (Value.string p1) ∧ ρ 5 = (Value.bool r9) ∧ ρ 6 = (Value.pointer r14) ∧ ρ 7 = (Value.pointer r15) ∧ ρ 8 = (Sl.v l19.1) ∧ ρ 9 = (Value.int .i64 l19.2) ∧ ρ 10 = (Value.pointer (some (Addr.mk b31 0 none))) ∧ True) J58 ?_ ?_
              · clear hk
                unfold tk at h
                generalize w7.drew = w15 at h ⊢
                refine wpD_take (v := (Value.pointer r14)) 0 (fun _ => True) rfl (by kernel_rfl) (by kernel_rfl) (by kernel_rfl) rfl rfl rfl trivial (fun w _ => (x_move (v := (Value.pointer r14)) rfl e6)) ?_
                refine wpD_take (v := (Value.pointer (some ((Addr.mk b31 0 none).add 1)))) 1 (fun _ => True) rfl (by kernel_rfl) (by kernel_rfl) (by kernel_rfl) rfl rfl rfl trivial (fun w _ => (x_fieldAddr rfl e10 FA_37_1)) ?_
                obtain ⟨x59, q59, h⟩ := h
                refine wpD_take (v := (Value.int .i64 x59)) 2 (fun w => w.cell? ((Addr.mk b31 0 none).add 1) = some (Value.int .i64 x59)) rfl (by kernel_rfl) (by kernel_rfl) (by kernel_rfl) rfl rfl rfl q59 (fun w q59 => (x_load1 rfl rfl SH_3 q59)) ?_
                refine wpD_take (v := (Sl.v l19.1)) 3 (fun _ => True) rfl (by kernel_rfl) (by kernel_rfl) (by kernel_rfl) rfl rfl rfl trivial (fun w _ => (x_move (v := (Sl.v l19.1)) rfl e8)) ?_
                obtain ⟨x60, q60, x61, q61, x62, q62, x63, q63, x64, q64, x65, q65, x66, q66, x67, q67, x68, q68, h⟩ := h
                refine wpD_take (v := (V36 x60 x61 x62 x63 x64 x65 x66 x67 x68)) 4 (fun w => C36 (Addr.mk b31 0 none) x60 x61 x62 x63 x64 x65 x66 x67 x68 w) rfl (by kernel_rfl) (by kernel_rfl) (by kernel_rfl) rfl rfl rfl ⟨q60, q61, q62, q63, q64, q65, q66, q67, q68⟩ (fun w q => (x_loadN (S36 x60 x61 x62 x63 x64 x65 x66 x67 x68) rfl e10 SH_37 (K36 q))) ?_
                refine wpD_all (rs := [5]) (by kernel_rfl) (by simp) (allD_cons ?_ allD_nil)
                refine stepD_enterL (L' := [(2, fun w => w.cell? ((Addr.mk b31 0 none).add 1) = some (Value.int .i64 x59)), (1, fun _ => True), (0, fun _ => True)]) rfl rfl rfl rfl (x_call (vs := [(Sl.v l19.1), (V36 x60 x61 x62 x63 x64 x65 x66 x67 x68)]) rfl rfl (mapl_cons rfl (mapl_cons rfl mapl_nil)) Try.func13 NN_13 NB_13) (by kernel_rfl) (Calls.mono h ?_)
                rintro _ w16 ⟨r69, rfl, h⟩
                obtain ⟨o2, h⟩ := h
                refine ⟨_, rfl, (held_cons o2 (held_cons trivial (held_cons trivial held_nil))), ?_⟩
                refine wpD_all (rs := [6]) (by kernel_rfl) (by simp) (allD_cons ?_ allD_nil)
                refine stepD_enterL (L' := [(1, fun _ => True)]) rfl rfl rfl rfl (x_call (vs := [(Value.pointer r14), (Value.int .i64 x59), (Sl.v r69)]) rfl rfl (mapl_cons rfl (mapl_cons rfl (mapl_cons rfl mapl_nil))) Try.func10 NN_10 NB_10) (by kernel_rfl) (Calls.mono h ?_)
                rintro _ w17 ⟨r70, rfl, h⟩
                refine ⟨_, rfl, (held_cons trivial held_nil), ?_⟩
                refine wpD_take (v := (Value.tuple #[(Value.string r70.1), (Value.int .i64 r70.2)])) 7 (fun _ => True) rfl (by kernel_rfl) (by kernel_rfl) (by kernel_rfl) rfl rfl rfl trivial (fun w _ => (x_move (v := (Value.tuple #[(Value.string r70.1), (Value.int .i64 r70.2)])) rfl rfl)) ?_
                refine wpD_take (v := (Value.string r70.1)) 8 (fun _ => True) rfl (by kernel_rfl) (by kernel_rfl) (by kernel_rfl) rfl rfl rfl trivial (fun w _ => (x_extract rfl rfl rfl)) ?_
                refine wpD_take (v := (Value.int .i64 r70.2)) 9 (fun _ => True) rfl (by kernel_rfl) (by kernel_rfl) (by kernel_rfl) rfl rfl rfl trivial (fun w _ => (x_extract rfl rfl rfl)) ?_
                refine wpD_take (v := (Value.string r70.1)) 10 (fun _ => True) rfl (by kernel_rfl) (by kernel_rfl) (by kernel_rfl) rfl rfl rfl trivial (fun w _ => (x_assign (v := (Value.string r70.1)) rfl rfl)) ?_
                refine wpD_take (v := (Value.int .i64 r70.2)) 11 (fun _ => True) rfl (by kernel_rfl) (by kernel_rfl) (by kernel_rfl) rfl rfl rfl trivial (fun w _ => (x_assign (v := (Value.int .i64 r70.2)) rfl rfl)) ?_
                exact wpD_done (by kernel_rfl) ⟨(r70.1, r70.2), ⟨rfl, rfl, e0, e1, e5, e6, e7, e8, e9, e10, trivial⟩, h⟩
              clear h
              rintro l71 ρ w18 ⟨e17, e18, e0, e1, e5, e6, e7, e8, e9, e10, -⟩ h
              replace h := hk l71 w18 h
              clear hk
              refine wpC_seq ?_
              obtain ⟨J73, h, hk⟩ := h
              refine wpC_drawJ (by kernel_rfl) (fun (x : ByteArray × Int) ρ => ρ 19 = (Value.string x.1) ∧ ρ 20 = (Value.int .i64 x.2) ∧ ρ 0 = (Sl.v p0) ∧ ρ 1 = (Value.string p1) ∧ ρ 5 = (Value.bool r9) ∧ ρ 6 = (Value.pointer r14) ∧ ρ 7 = (Value.pointer r15) ∧ ρ 8 = (Sl.v l19.1) ∧ ρ 9 = (Value.int .i64 l19.2) ∧ ρ 17 = (Value.string l71.1) ∧ ρ 18 = (Value.int .i64 l71.2) ∧ True) J73 ?_ ?_
              · clear hk
                unfold tk at h
                generalize w18.drew = w19 at h ⊢
                refine wpD_take (v := (Value.pointer r15)) 0 (fun _ => True) rfl (by kernel_rfl) (by kernel_rfl) (by kernel_rfl) rfl rfl rfl trivial (fun w _ => (x_move (v := (Value.pointer r15)) rfl e7)) ?_
                refine wpD_take (v := (Value.pointer (some ((Addr.mk b31 0 none).add 1)))) 1 (fun _ => True) rfl (by kernel_rfl) (by kernel_rfl) (by kernel_rfl) rfl rfl rfl trivial (fun w _ => (x_fieldAddr rfl e10 FA_37_1)) ?_
                obtain ⟨x74, q74, h⟩ := h
                refine wpD_take (v := (Value.int .i64 x74)) 2 (fun w => w.cell? ((Addr.mk b31 0 none).add 1) = some (Value.int .i64 x74)) rfl (by kernel_rfl) (by kernel_rfl) (by kernel_rfl) rfl rfl rfl q74 (fun w q74 => (x_load1 rfl rfl SH_3 q74)) ?_
                refine wpD_take (v := (Sl.v l19.1)) 3 (fun _ => True) rfl (by kernel_rfl) (by kernel_rfl) (by kernel_rfl) rfl rfl rfl trivial (fun w _ => (x_move (v := (Sl.v l19.1)) rfl e8)) ?_
                obtain ⟨x75, q75, x76, q76, x77, q77, x78, q78, x79, q79, x80, q80, x81, q81, x82, q82, x83, q83, h⟩ := h
                refine wpD_take (v := (V36 x75 x76 x77 x78 x79 x80 x81 x82 x83)) 4 (fun w => C36 (Addr.mk b31 0 none) x75 x76 x77 x78 x79 x80 x81 x82 x83 w) rfl (by kernel_rfl) (by kernel_rfl) (by kernel_rfl) rfl rfl rfl ⟨q75, q76, q77, q78, q79, q80, q81, q82, q83⟩ (fun w q => (x_loadN (S36 x75 x76 x77 x78 x79 x80 x81 x82 x83) rfl e10 SH_37 (K36 q))) ?_
                refine wpD_all (rs := [5]) (by kernel_rfl) (by simp) (allD_cons ?_ allD_nil)
                refine stepD_enterL (L' := [(2, fun w => w.cell? ((Addr.mk b31 0 none).add 1) = some (Value.int .i64 x74)), (1, fun _ => True), (0, fun _ => True)]) rfl rfl rfl rfl (x_call (vs := [(Sl.v l19.1), (V36 x75 x76 x77 x78 x79 x80 x81 x82 x83)]) rfl rfl (mapl_cons rfl (mapl_cons rfl mapl_nil)) Try.func13 NN_13 NB_13) (by kernel_rfl) (Calls.mono h ?_)
                rintro _ w20 ⟨r84, rfl, h⟩
                obtain ⟨o2, h⟩ := h
                refine ⟨_, rfl, (held_cons o2 (held_cons trivial (held_cons trivial held_nil))), ?_⟩
                refine wpD_all (rs := [6]) (by kernel_rfl) (by simp) (allD_cons ?_ allD_nil)
                refine stepD_enterL (L' := [(1, fun _ => True)]) rfl rfl rfl rfl (x_call (vs := [(Value.pointer r15), (Value.int .i64 x74), (Sl.v r84)]) rfl rfl (mapl_cons rfl (mapl_cons rfl (mapl_cons rfl mapl_nil))) Try.func10 NN_10 NB_10) (by kernel_rfl) (Calls.mono h ?_)
                rintro _ w21 ⟨r85, rfl, h⟩
                refine ⟨_, rfl, (held_cons trivial held_nil), ?_⟩
                refine wpD_take (v := (Value.tuple #[(Value.string r85.1), (Value.int .i64 r85.2)])) 7 (fun _ => True) rfl (by kernel_rfl) (by kernel_rfl) (by kernel_rfl) rfl rfl rfl trivial (fun w _ => (x_move (v := (Value.tuple #[(Value.string r85.1), (Value.int .i64 r85.2)])) rfl rfl)) ?_
                refine wpD_take (v := (Value.string r85.1)) 8 (fun _ => True) rfl (by kernel_rfl) (by kernel_rfl) (by kernel_rfl) rfl rfl rfl trivial (fun w _ => (x_extract rfl rfl rfl)) ?_
                refine wpD_take (v := (Value.int .i64 r85.2)) 9 (fun _ => True) rfl (by kernel_rfl) (by kernel_rfl) (by kernel_rfl) rfl rfl rfl trivial (fun w _ => (x_extract rfl rfl rfl)) ?_
                refine wpD_take (v := (Value.string r85.1)) 10 (fun _ => True) rfl (by kernel_rfl) (by kernel_rfl) (by kernel_rfl) rfl rfl rfl trivial (fun w _ => (x_assign (v := (Value.string r85.1)) rfl rfl)) ?_
                refine wpD_take (v := (Value.int .i64 r85.2)) 11 (fun _ => True) rfl (by kernel_rfl) (by kernel_rfl) (by kernel_rfl) rfl rfl rfl trivial (fun w _ => (x_assign (v := (Value.int .i64 r85.2)) rfl rfl)) ?_
                exact wpD_done (by kernel_rfl) ⟨(r85.1, r85.2), ⟨rfl, rfl, e0, e1, e5, e6, e7, e8, e9, e17, e18, trivial⟩, h⟩
              clear h
              rintro l86 ρ w22 ⟨e19, e20, e0, e1, e5, e6, e7, e8, e9, e17, e18, -⟩ h
              replace h := hk l86 w22 h
              clear hk
              refine wpC_seq ?_
              refine wpC_region ?_
              refine wpR_val (v := (Value.int .i64 l71.2)) (w' := w22) rfl rfl rfl (x_move (v := (Value.int .i64 l71.2)) rfl e18) ?_
              refine wpR_val (v := (Value.int .i64 l86.2)) (w' := w22) rfl rfl rfl (x_move (v := (Value.int .i64 l86.2)) rfl e20) ?_
              refine wpR_val (v := (Value.bool (!decide (l71.2 = l86.2)))) (w' := w22) rfl rfl rfl (x_neq rfl rfl rfl) ?_
              refine wpR_val (v := (Value.bool (!decide (l71.2 = l86.2)))) (w' := w22) rfl rfl rfl (x_move (v := (Value.bool (!decide (l71.2 = l86.2)))) rfl rfl) ?_
              refine wpR_joinJ 8 (fun (_ : Unit) ρ => ρ 133 = Value.bool ((!decide (l71.2 = l86.2)) || ((decide (l71.2 = 0)) && (!beqS l86.1 p1))) ∧ ρ 0 = (Sl.v p0) ∧ ρ 1 = (Value.string p1) ∧ ρ 5 = (Value.bool r9) ∧ ρ 6 = (Value.pointer r14) ∧ ρ 7 = (Value.pointer r15) ∧ ρ 8 = (Sl.v l19.1) ∧ ρ 9 = (Value.int .i64 l19.2) ∧ ρ 17 = (Value.string l71.1) ∧ ρ 18 = (Value.int .i64 l71.2) ∧ ρ 19 = (Value.string l86.1) ∧ True) (fun _ w => w22 = w) ?_ ?_
              · clear h
                rcases Bool.eq_false_or_eq_true (!decide (l71.2 = l86.2)) with hc88 | hc88
                · skip
                  refine wpR_pass (wantN rfl rfl rfl hc88) rfl rfl ?_
                  refine wpR_pass (wantN rfl rfl rfl hc88) rfl rfl ?_
                  refine wpR_pass (wantN rfl rfl rfl hc88) rfl rfl ?_
                  refine wpR_pass (wantU rfl rfl rfl) rfl rfl ?_
                  refine wpR_pass (wantU rfl rfl rfl) rfl rfl ?_
                  refine wpR_pass (wantU rfl rfl rfl) rfl rfl ?_
                  refine wpR_pass (wantN rfl rfl rfl hc88) rfl rfl ?_
                  refine wpR_val (v := (Value.bool true)) (w' := w22) rfl rfl rfl (x_pickT (v := (Value.bool true)) rfl rfl hc88 rfl) ?_
                  refine wpR_nil ?_
                  exact ⟨(), ⟨(by rw [hc88]; rfl), e0, e1, e5, e6, e7, e8, e9, e17, e18, e19, trivial⟩, rfl⟩
                · skip
                  refine wpR_val (v := (Value.int .i64 l71.2)) (w' := w22) (wantG rfl rfl rfl hc88) rfl rfl (x_move (v := (Value.int .i64 l71.2)) rfl e18) ?_
                  refine wpR_val (v := (Value.bool (decide (l71.2 = 0)))) (w' := w22) (wantG rfl rfl rfl hc88) rfl rfl (x_eql rfl rfl rfl) ?_
                  refine wpR_val (v := (Value.bool (decide (l71.2 = 0)))) (w' := w22) (wantG rfl rfl rfl hc88) rfl rfl (x_move (v := (Value.bool (decide (l71.2 = 0)))) rfl rfl) ?_
                  refine wpR_joinJ 4 (fun (_ : Unit) ρ => ρ 132 = Value.bool ((decide (l71.2 = 0)) && (!beqS l86.1 p1)) ∧ ρ 0 = (Sl.v p0) ∧ ρ 1 = (Value.string p1) ∧ ρ 5 = (Value.bool r9) ∧ ρ 6 = (Value.pointer r14) ∧ ρ 7 = (Value.pointer r15) ∧ ρ 8 = (Sl.v l19.1) ∧ ρ 9 = (Value.int .i64 l19.2) ∧ ρ 17 = (Value.string l71.1) ∧ ρ 18 = (Value.int .i64 l71.2) ∧ ρ 19 = (Value.string l86.1) ∧ ρ 125 = (Value.bool (!decide (l71.2 = l86.2))) ∧ True) (fun _ w => w22 = w) ?_ ?_
                  · clear h
                    rcases Bool.eq_false_or_eq_true (decide (l71.2 = 0)) with hc94 | hc94
                    · skip
                      refine wpR_val (v := (Value.string l86.1)) (w' := w22) (wantG rfl rfl rfl hc94) rfl rfl (x_move (v := (Value.string l86.1)) rfl e19) ?_
                      refine wpR_val (v := (Value.string p1)) (w' := w22) (wantG rfl rfl rfl hc94) rfl rfl (x_move (v := (Value.string p1)) rfl e1) ?_
                      refine wpR_val (v := (Value.bool (!beqS l86.1 p1))) (w' := w22) (wantG rfl rfl rfl hc94) rfl rfl (x_neqS rfl rfl rfl) ?_
                      refine wpR_val (v := (Value.bool (!beqS l86.1 p1))) (w' := w22) (wantG rfl rfl rfl hc88) rfl rfl (x_pickT (v := (Value.bool (!beqS l86.1 p1))) rfl rfl hc94 rfl) ?_
                      refine wpR_nil ?_
                      exact ⟨(), ⟨(by rw [hc94]; rfl), e0, e1, e5, e6, e7, e8, e9, e17, e18, e19, rfl, trivial⟩, rfl⟩
                    · skip
                      refine wpR_pass (wantN rfl rfl rfl hc94) rfl rfl ?_
                      refine wpR_pass (wantN rfl rfl rfl hc94) rfl rfl ?_
                      refine wpR_pass (wantN rfl rfl rfl hc94) rfl rfl ?_
                      refine wpR_val (v := (Value.bool false)) (w' := w22) (wantG rfl rfl rfl hc88) rfl rfl (x_pickF (v := (Value.bool false)) rfl rfl hc94 rfl) ?_
                      refine wpR_nil ?_
                      exact ⟨(), ⟨(by rw [hc94]; rfl), e0, e1, e5, e6, e7, e8, e9, e17, e18, e19, rfl, trivial⟩, rfl⟩
                  rintro _ ρ wj ⟨e132, e0, e1, e5, e6, e7, e8, e9, e17, e18, e19, e125, -⟩ rfl
                  refine wpR_val (v := (Value.bool ((decide (l71.2 = 0)) && (!beqS l86.1 p1)))) (w' := w22) rfl rfl rfl (x_pickF (v := (Value.bool ((decide (l71.2 = 0)) && (!beqS l86.1 p1)))) rfl e125 hc88 e132) ?_
                  refine wpR_nil ?_
                  exact ⟨(), ⟨(by rw [hc88]; rfl), e0, e1, e5, e6, e7, e8, e9, e17, e18, e19, trivial⟩, rfl⟩
              rintro _ ρ wj ⟨e133, e0, e1, e5, e6, e7, e8, e9, e17, e18, e19, -⟩ rfl
              refine wpR_val (v := (Value.bool ((!decide (l71.2 = l86.2)) || ((decide (l71.2 = 0)) && (!beqS l86.1 p1))))) (w' := w22) rfl rfl rfl (x_move (v := (Value.bool ((!decide (l71.2 = l86.2)) || ((decide (l71.2 = 0)) && (!beqS l86.1 p1))))) rfl e133) ?_
              refine wpR_joinJ 11 (fun (_ : Unit) ρ => ρ 145 = Value.bool (((!decide (l71.2 = l86.2)) || ((decide (l71.2 = 0)) && (!beqS l86.1 p1))) || ((!decide (l71.2 = 0)) && ((!beqS l71.1 (ByteArray.mk #[])) || (!beqS l86.1 (ByteArray.mk #[]))))) ∧ ρ 0 = (Sl.v p0) ∧ ρ 1 = (Value.string p1) ∧ ρ 5 = (Value.bool r9) ∧ ρ 6 = (Value.pointer r14) ∧ ρ 7 = (Value.pointer r15) ∧ ρ 8 = (Sl.v l19.1) ∧ ρ 9 = (Value.int .i64 l19.2) ∧ True) (fun _ w => w22 = w) ?_ ?_
              · clear h
                rcases Bool.eq_false_or_eq_true ((!decide (l71.2 = l86.2)) || ((decide (l71.2 = 0)) && (!beqS l86.1 p1))) with hc96 | hc96
                · skip
                  refine wpR_pass (wantN rfl rfl rfl hc96) rfl rfl ?_
                  refine wpR_pass (wantN rfl rfl rfl hc96) rfl rfl ?_
                  refine wpR_pass (wantN rfl rfl rfl hc96) rfl rfl ?_
                  refine wpR_pass (wantU rfl rfl rfl) rfl rfl ?_
                  refine wpR_pass (wantU rfl rfl rfl) rfl rfl ?_
                  refine wpR_pass (wantU rfl rfl rfl) rfl rfl ?_
                  refine wpR_pass (wantU rfl rfl rfl) rfl rfl ?_
                  refine wpR_pass (wantU rfl rfl rfl) rfl rfl ?_
                  refine wpR_pass (wantU rfl rfl rfl) rfl rfl ?_
                  refine wpR_pass (wantN rfl rfl rfl hc96) rfl rfl ?_
                  refine wpR_val (v := (Value.bool true)) (w' := w22) rfl rfl rfl (x_pickT (v := (Value.bool true)) rfl rfl hc96 rfl) ?_
                  refine wpR_nil ?_
                  exact ⟨(), ⟨(by rw [hc96]; rfl), e0, e1, e5, e6, e7, e8, e9, trivial⟩, rfl⟩
                · skip
                  refine wpR_val (v := (Value.int .i64 l71.2)) (w' := w22) (wantG rfl rfl rfl hc96) rfl rfl (x_move (v := (Value.int .i64 l71.2)) rfl e18) ?_
                  refine wpR_val (v := (Value.bool (!decide (l71.2 = 0)))) (w' := w22) (wantG rfl rfl rfl hc96) rfl rfl (x_neq rfl rfl rfl) ?_
                  refine wpR_val (v := (Value.bool (!decide (l71.2 = 0)))) (w' := w22) (wantG rfl rfl rfl hc96) rfl rfl (x_move (v := (Value.bool (!decide (l71.2 = 0)))) rfl rfl) ?_
                  refine wpR_joinJ 7 (fun (_ : Unit) ρ => ρ 144 = Value.bool ((!decide (l71.2 = 0)) && ((!beqS l71.1 (ByteArray.mk #[])) || (!beqS l86.1 (ByteArray.mk #[])))) ∧ ρ 0 = (Sl.v p0) ∧ ρ 1 = (Value.string p1) ∧ ρ 5 = (Value.bool r9) ∧ ρ 6 = (Value.pointer r14) ∧ ρ 7 = (Value.pointer r15) ∧ ρ 8 = (Sl.v l19.1) ∧ ρ 9 = (Value.int .i64 l19.2) ∧ ρ 134 = (Value.bool ((!decide (l71.2 = l86.2)) || ((decide (l71.2 = 0)) && (!beqS l86.1 p1)))) ∧ True) (fun _ w => w22 = w) ?_ ?_
                  · clear h
                    rcases Bool.eq_false_or_eq_true (!decide (l71.2 = 0)) with hc114 | hc114
                    · skip
                      refine wpR_val (v := (Value.string l71.1)) (w' := w22) (wantG rfl rfl rfl hc114) rfl rfl (x_move (v := (Value.string l71.1)) rfl e17) ?_
                      refine wpR_val (v := (Value.bool (!beqS l71.1 (ByteArray.mk #[])))) (w' := w22) (wantG rfl rfl rfl hc114) rfl rfl (x_neqS rfl rfl rfl) ?_
                      refine wpR_val (v := (Value.bool (!beqS l71.1 (ByteArray.mk #[])))) (w' := w22) (wantG rfl rfl rfl hc114) rfl rfl (x_move (v := (Value.bool (!beqS l71.1 (ByteArray.mk #[])))) rfl rfl) ?_
                      refine wpR_joinJ 3 (fun (_ : Unit) ρ => ρ 143 = Value.bool ((!beqS l71.1 (ByteArray.mk #[])) || (!beqS l86.1 (ByteArray.mk #[]))) ∧ ρ 0 = (Sl.v p0) ∧ ρ 1 = (Value.string p1) ∧ ρ 5 = (Value.bool r9) ∧ ρ 6 = (Value.pointer r14) ∧ ρ 7 = (Value.pointer r15) ∧ ρ 8 = (Sl.v l19.1) ∧ ρ 9 = (Value.int .i64 l19.2) ∧ ρ 134 = (Value.bool ((!decide (l71.2 = l86.2)) || ((decide (l71.2 = 0)) && (!beqS l86.1 p1)))) ∧ ρ 137 = (Value.bool (!decide (l71.2 = 0))) ∧ True) (fun _ w => w22 = w) ?_ ?_
                      · clear h
                        rcases Bool.eq_false_or_eq_true (!beqS l71.1 (ByteArray.mk #[])) with hc120 | hc120
                        · skip
                          refine wpR_pass (wantN rfl rfl rfl hc120) rfl rfl ?_
                          refine wpR_pass (wantN rfl rfl rfl hc120) rfl rfl ?_
                          refine wpR_val (v := (Value.bool true)) (w' := w22) (wantG rfl rfl rfl hc114) rfl rfl (x_pickT (v := (Value.bool true)) rfl rfl hc120 rfl) ?_
                          refine wpR_nil ?_
                          exact ⟨(), ⟨(by rw [hc120]; rfl), e0, e1, e5, e6, e7, e8, e9, rfl, rfl, trivial⟩, rfl⟩
                        · skip
                          refine wpR_val (v := (Value.string l86.1)) (w' := w22) (wantG rfl rfl rfl hc120) rfl rfl (x_move (v := (Value.string l86.1)) rfl e19) ?_
                          refine wpR_val (v := (Value.bool (!beqS l86.1 (ByteArray.mk #[])))) (w' := w22) (wantG rfl rfl rfl hc120) rfl rfl (x_neqS rfl rfl rfl) ?_
                          refine wpR_val (v := (Value.bool (!beqS l86.1 (ByteArray.mk #[])))) (w' := w22) (wantG rfl rfl rfl hc114) rfl rfl (x_pickF (v := (Value.bool (!beqS l86.1 (ByteArray.mk #[])))) rfl rfl hc120 rfl) ?_
                          refine wpR_nil ?_
                          exact ⟨(), ⟨(by rw [hc120]; rfl), e0, e1, e5, e6, e7, e8, e9, rfl, rfl, trivial⟩, rfl⟩
                      rintro _ ρ wj ⟨e143, e0, e1, e5, e6, e7, e8, e9, e134, e137, -⟩ rfl
                      refine wpR_val (v := (Value.bool ((!beqS l71.1 (ByteArray.mk #[])) || (!beqS l86.1 (ByteArray.mk #[]))))) (w' := w22) (wantG rfl rfl e134 hc96) rfl rfl (x_pickT (v := (Value.bool ((!beqS l71.1 (ByteArray.mk #[])) || (!beqS l86.1 (ByteArray.mk #[]))))) rfl e137 hc114 e143) ?_
                      refine wpR_nil ?_
                      exact ⟨(), ⟨(by rw [hc114]; rfl), e0, e1, e5, e6, e7, e8, e9, e134, trivial⟩, rfl⟩
                    · skip
                      refine wpR_pass (wantN rfl rfl rfl hc114) rfl rfl ?_
                      refine wpR_pass (wantN rfl rfl rfl hc114) rfl rfl ?_
                      refine wpR_pass (wantN rfl rfl rfl hc114) rfl rfl ?_
                      refine wpR_pass (wantU rfl rfl rfl) rfl rfl ?_
                      refine wpR_pass (wantU rfl rfl rfl) rfl rfl ?_
                      refine wpR_pass (wantN rfl rfl rfl hc114) rfl rfl ?_
                      refine wpR_val (v := (Value.bool false)) (w' := w22) (wantG rfl rfl rfl hc96) rfl rfl (x_pickF (v := (Value.bool false)) rfl rfl hc114 rfl) ?_
                      refine wpR_nil ?_
                      exact ⟨(), ⟨(by rw [hc114]; rfl), e0, e1, e5, e6, e7, e8, e9, rfl, trivial⟩, rfl⟩
                  rintro _ ρ wj ⟨e144, e0, e1, e5, e6, e7, e8, e9, e134, -⟩ rfl
                  refine wpR_val (v := (Value.bool ((!decide (l71.2 = 0)) && ((!beqS l71.1 (ByteArray.mk #[])) || (!beqS l86.1 (ByteArray.mk #[])))))) (w' := w22) rfl rfl rfl (x_pickF (v := (Value.bool ((!decide (l71.2 = 0)) && ((!beqS l71.1 (ByteArray.mk #[])) || (!beqS l86.1 (ByteArray.mk #[])))))) rfl e134 hc96 e144) ?_
                  refine wpR_nil ?_
                  exact ⟨(), ⟨(by rw [hc96]; rfl), e0, e1, e5, e6, e7, e8, e9, trivial⟩, rfl⟩
              rintro _ ρ wj ⟨e145, e0, e1, e5, e6, e7, e8, e9, -⟩ rfl
              refine wpR_nil ?_
              refine wpC_cond (b := ((!decide (l71.2 = l86.2)) || ((decide (l71.2 = 0)) && (!beqS l86.1 p1))) || ((!decide (l71.2 = 0)) && ((!beqS l71.1 (ByteArray.mk #[])) || (!beqS l86.1 (ByteArray.mk #[]))))) e145 (fun hc121 => ?_) (fun hc121 => ?_)
              · replace h := h.1 hc121
                refine wpC_seq ?_
                refine wpC_region ?_
                refine wpR_val (v := (Value.bool false)) (w' := w22) rfl rfl rfl (x_assign (v := (Value.bool false)) rfl rfl) ?_
                refine wpR_nil ?_
                refine wpC_ret ?_
                exact ⟨.inl rfl, fun a ha => ⟨_, results_rep1 rfl ha rfl, false, rfl, h⟩⟩
              · replace h := h.2 hc121
                refine wpC_skip ?_
                exact ⟨l19.1, ⟨e8, e0, e1, e5, e6, e7, e9, trivial⟩, h⟩
            · replace h := h.2 hc56
              refine wpC_seq ?_
              refine wpC_cut (fun ρ => ρ 0 = (Sl.v p0) ∧ ρ 1 = (Value.string p1) ∧ ρ 5 = (Value.bool r9) ∧ ρ 6 = (Value.pointer r14) ∧ ρ 7 = (Value.pointer r15) ∧ ρ 8 = (Sl.v l19.1) ∧ ρ 9 = (Value.int .i64 l19.2) ∧ ρ 10 = (Value.pointer (some (Addr.mk b31 0 none))) ∧ ρ 50 = (Value.int .i64 x35) ∧ True) ⟨e0, e1, e5, e6, e7, e8, e9, e10, e50, trivial⟩ ?_
              rintro ρ ⟨e0, e1, e5, e6, e7, e8, e9, e10, e50, -⟩
              refine wpC_region ?_
              refine wpR_val (v := (Value.bool (decide (x35 = 2)))) (w' := w7) rfl rfl rfl (x_eql rfl e50 rfl) ?_
              refine wpR_val (v := (Value.bool (decide (x35 = 2)))) (w' := w7) rfl rfl rfl (x_assign (v := (Value.bool (decide (x35 = 2)))) rfl rfl) ?_
              refine wpR_nil ?_
              refine wpC_cond (b := decide (x35 = 2)) rfl (fun hc122 => ?_) (fun hc122 => ?_)
              · replace h := h.1 hc122
                refine wpC_seq ?_
                refine wpC_cut (fun ρ => ρ 0 = (Sl.v p0) ∧ ρ 1 = (Value.string p1) ∧ ρ 5 = (Value.bool r9) ∧ ρ 6 = (Value.pointer r14) ∧ ρ 7 = (Value.pointer r15) ∧ ρ 8 = (Sl.v l19.1) ∧ ρ 9 = (Value.int .i64 l19.2) ∧ ρ 10 = (Value.pointer (some (Addr.mk b31 0 none))) ∧ True) ⟨e0, e1, e5, e6, e7, e8, e9, e10, trivial⟩ ?_
                rintro ρ ⟨e0, e1, e5, e6, e7, e8, e9, e10, -⟩
                obtain ⟨J124, h, hk⟩ := h
                refine wpC_drawJ (by kernel_rfl) (fun (x : Bool) ρ => ρ 156 = (Value.bool x) ∧ ρ 0 = (Sl.v p0) ∧ ρ 1 = (Value.string p1) ∧ ρ 5 = (Value.bool r9) ∧ ρ 6 = (Value.pointer r14) ∧ ρ 7 = (Value.pointer r15) ∧ ρ 8 = (Sl.v l19.1) ∧ ρ 9 = (Value.int .i64 l19.2) ∧ True) J124 ?_ ?_
                · clear hk
                  unfold tk at h
                  generalize w7.drew = w23 at h ⊢
                  refine wpD_take (v := (Value.pointer r14)) 0 (fun _ => True) rfl (by kernel_rfl) (by kernel_rfl) (by kernel_rfl) rfl rfl rfl trivial (fun w _ => (x_move (v := (Value.pointer r14)) rfl e6)) ?_
                  refine wpD_take (v := (Value.pointer (some ((Addr.mk b31 0 none).add 1)))) 1 (fun _ => True) rfl (by kernel_rfl) (by kernel_rfl) (by kernel_rfl) rfl rfl rfl trivial (fun w _ => (x_fieldAddr rfl e10 FA_37_1)) ?_
                  obtain ⟨x125, q125, h⟩ := h
                  refine wpD_take (v := (Value.int .i64 x125)) 2 (fun w => w.cell? ((Addr.mk b31 0 none).add 1) = some (Value.int .i64 x125)) rfl (by kernel_rfl) (by kernel_rfl) (by kernel_rfl) rfl rfl rfl q125 (fun w q125 => (x_load1 rfl rfl SH_3 q125)) ?_
                  refine wpD_take (v := (Value.pointer r15)) 4 (fun _ => True) rfl (by kernel_rfl) (by kernel_rfl) (by kernel_rfl) rfl rfl rfl trivial (fun w _ => (x_move (v := (Value.pointer r15)) rfl e7)) ?_
                  refine wpD_take (v := (Value.pointer (some ((Addr.mk b31 0 none).add 1)))) 5 (fun _ => True) rfl (by kernel_rfl) (by kernel_rfl) (by kernel_rfl) rfl rfl rfl trivial (fun w _ => (x_fieldAddr rfl e10 FA_37_1)) ?_
                  obtain ⟨x126, q126, h⟩ := h
                  refine wpD_take (v := (Value.int .i64 x126)) 6 (fun w => w.cell? ((Addr.mk b31 0 none).add 1) = some (Value.int .i64 x126)) rfl (by kernel_rfl) (by kernel_rfl) (by kernel_rfl) rfl rfl rfl q126 (fun w q126 => (x_load1 rfl rfl SH_3 q126)) ?_
                  refine wpD_all (rs := [3]) (by kernel_rfl) (by simp) (allD_cons ?_ allD_nil)
                  refine stepD_enterL (L' := [(6, fun w => w.cell? ((Addr.mk b31 0 none).add 1) = some (Value.int .i64 x126)), (5, fun _ => True), (4, fun _ => True), (1, fun _ => True)]) rfl rfl rfl rfl (x_call (vs := [(Value.pointer r14), (Value.int .i64 x125)]) rfl rfl (mapl_cons rfl (mapl_cons rfl mapl_nil)) Try.func14 NN_14 NB_14) (by kernel_rfl) (Calls.mono h ?_)
                  rintro _ w24 ⟨r127, rfl, h⟩
                  obtain ⟨o6, h⟩ := h
                  refine ⟨_, rfl, (held_cons o6 (held_cons trivial (held_cons trivial (held_cons trivial held_nil)))), ?_⟩
                  refine wpD_all (rs := [7]) (by kernel_rfl) (by simp) (allD_cons ?_ allD_nil)
                  refine stepD_enterL (L' := [(5, fun _ => True), (1, fun _ => True)]) rfl rfl rfl rfl (x_call (vs := [(Value.pointer r15), (Value.int .i64 x126)]) rfl rfl (mapl_cons rfl (mapl_cons rfl mapl_nil)) Try.func14 NN_14 NB_14) (by kernel_rfl) (Calls.mono h ?_)
                  rintro _ w25 ⟨r128, rfl, h⟩
                  refine ⟨_, rfl, (held_cons trivial (held_cons trivial held_nil)), ?_⟩
                  refine wpD_take (v := (Value.bool (!decide (r127 = r128)))) 8 (fun _ => True) rfl (by kernel_rfl) (by kernel_rfl) (by kernel_rfl) rfl rfl rfl trivial (fun w _ => (x_neq rfl rfl rfl)) ?_
                  exact wpD_done (by kernel_rfl) ⟨!decide (r127 = r128), ⟨rfl, e0, e1, e5, e6, e7, e8, e9, trivial⟩, h⟩
                clear h
                rintro l129 ρ w26 ⟨e156, e0, e1, e5, e6, e7, e8, e9, -⟩ h
                replace h := hk l129 w26 h
                clear hk
                refine wpC_cond (b := l129) e156 (fun hc130 => ?_) (fun hc130 => ?_)
                · replace h := h.1 hc130
                  refine wpC_seq ?_
                  refine wpC_region ?_
                  refine wpR_val (v := (Value.bool false)) (w' := w26) rfl rfl rfl (x_assign (v := (Value.bool false)) rfl rfl) ?_
                  refine wpR_nil ?_
                  refine wpC_ret ?_
                  exact ⟨.inl rfl, fun a ha => ⟨_, results_rep1 rfl ha rfl, false, rfl, h⟩⟩
                · replace h := h.2 hc130
                  refine wpC_skip ?_
                  exact ⟨l19.1, ⟨e8, e0, e1, e5, e6, e7, e9, trivial⟩, h⟩
              · replace h := h.2 hc122
                refine wpC_skip ?_
                exact ⟨l19.1, ⟨e8, e0, e1, e5, e6, e7, e9, trivial⟩, h⟩
        clear h
        rintro l34 ρ w8 ⟨e8, e0, e1, e5, e6, e7, e9, -⟩ h
        replace h := hk l34 w8 h
        clear hk
        refine wpC_seq ?_
        refine wpC_region ?_
        refine wpR_val (v := (Value.pointer r14)) (w' := w8) rfl rfl rfl (x_move (v := (Value.pointer r14)) rfl e6) ?_
        refine wpR_enter rfl rfl rfl (x_call (vs := [(Value.pointer r14)]) rfl rfl (mapl_cons rfl mapl_nil) Try.func15 NN_15 NB_15) (Calls.mono h ?_)
        rintro _ w27 ⟨r131, rfl, h⟩
        refine ⟨_, rfl, ?_⟩
        refine wpR_val (v := (Value.pointer r15)) (w' := w27) rfl rfl rfl (x_move (v := (Value.pointer r15)) rfl e7) ?_
        refine wpR_enter rfl rfl rfl (x_call (vs := [(Value.pointer r15)]) rfl rfl (mapl_cons rfl mapl_nil) Try.func15 NN_15 NB_15) (Calls.mono h ?_)
        rintro _ w28 ⟨r132, rfl, h⟩
        refine ⟨_, rfl, ?_⟩
        refine wpR_val (v := (Value.bool (!decide (r131 = r132)))) (w' := w28) rfl rfl rfl (x_neq rfl rfl rfl) ?_
        refine wpR_nil ?_
        refine wpC_cond (b := !decide (r131 = r132)) rfl (fun hc133 => ?_) (fun hc133 => ?_)
        · replace h := h.1 hc133
          refine wpC_seq ?_
          refine wpC_cut (fun ρ => True) trivial ?_
          rintro ρ -
          refine wpC_region ?_
          refine wpR_val (v := (Value.bool false)) (w' := w28) rfl rfl rfl (x_assign (v := (Value.bool false)) rfl rfl) ?_
          refine wpR_nil ?_
          refine wpC_ret ?_
          exact ⟨.inl rfl, fun a ha => ⟨_, results_rep1 rfl ha rfl, false, rfl, h⟩⟩
        · replace h := h.2 hc133
          refine wpC_skip ?_
          refine wpC_cut (fun ρ => ρ 0 = (Sl.v p0) ∧ ρ 1 = (Value.string p1) ∧ ρ 5 = (Value.bool r9) ∧ ρ 6 = (Value.pointer r14) ∧ ρ 7 = (Value.pointer r15) ∧ ρ 8 = (Sl.v l34) ∧ ρ 9 = (Value.int .i64 l19.2) ∧ True) ⟨e0, e1, e5, e6, e7, e8, e9, trivial⟩ ?_
          rintro ρ ⟨e0, e1, e5, e6, e7, e8, e9, -⟩
          refine wpC_region ?_
          refine wpR_val (v := (Value.int .i64 l19.2)) (w' := w28) rfl rfl rfl (x_move (v := (Value.int .i64 l19.2)) rfl e9) ?_
          refine wpR_val (v := (Value.int .i64 (IntKind.i64.wrap (l19.2 + 1)))) (w' := w28) rfl rfl rfl (x_add rfl rfl rfl) ?_
          refine wpR_val (v := (Value.int .i64 (IntKind.i64.wrap (l19.2 + 1)))) (w' := w28) rfl rfl rfl (x_assign (v := (Value.int .i64 (IntKind.i64.wrap (l19.2 + 1)))) rfl rfl) ?_
          refine wpR_nil ?_
          exact ⟨(l34, IntKind.i64.wrap (l19.2 + 1)), ⟨e8, rfl, e0, e1, e5, e6, e7, trivial⟩, h⟩
      · replace h := h.2 hc20
        refine wpC_exit ?_
        refine wpC_seq ?_
        refine wpC_cut (fun ρ => ρ 5 = (Value.bool r9) ∧ True) ⟨e5, trivial⟩ ?_
        rintro ρ ⟨e5, -⟩
        refine wpC_region ?_
        refine wpR_val (v := (Value.bool r9)) (w' := w5) rfl rfl rfl (x_move (v := (Value.bool r9)) rfl e5) ?_
        refine wpR_val (v := (Value.bool r9)) (w' := w5) rfl rfl rfl (x_assign (v := (Value.bool r9)) rfl rfl) ?_
        refine wpR_nil ?_
        refine wpC_ret ?_
        exact ⟨.inl rfl, fun a ha => ⟨_, results_rep1 rfl ha rfl, r9, rfl, h⟩⟩


end Go.Proofs.Ytmnhehklhelpeaa
