import Derived.Test.YtkacfhhpmpmhkaaRows
import Derived.Test.YtkacfhhpmpmhkaaDecRaw
namespace Go.Proofs.Ytkacfhhpmpmhkaa
open Go.Dec
set_option maxHeartbeats 400000
set_option maxRecDepth 100000

@[reducible] def T38 : Type := ByteArray × Int × Int × Int × Bool × Int × Bool × Bool × Int × Int × Int × Int × Sl × Int × Int × Int × Int × Bool × Int × Int × Int × Int
@[reducible] def V38 (x0 : ByteArray) (x1 : Int) (x2 : Int) (x3 : Int) (x4 : Bool) (x5 : Int) (x6 : Bool) (x7 : Bool) (x8 : Int) (x9 : Int) (x10 : Int) (x11 : Int) (x12 : Sl) (x13 : Int) (x14 : Int) (x15 : Int) (x16 : Int) (x17 : Bool) (x18 : Int) (x19 : Int) (x20 : Int) (x21 : Int) : Value := .agg #[.string x0, .int .i64 x1, .int .i64 x2, .int .i64 x3, .bool x4, .int .i64 x5, .bool x6, .bool x7, .int .i64 x8, .int .i64 x9, .int .i64 x10, .int .i64 x11, Sl.v x12, .int .i64 x13, .int .i64 x14, .int .i64 x15, .int .i64 x16, .bool x17, .int .i64 x18, .int .i64 x19, .int .i64 x20, .int .i64 x21]
@[reducible] def A38 (x0 : ByteArray) (x1 : Int) (x2 : Int) (x3 : Int) (x4 : Bool) (x5 : Int) (x6 : Bool) (x7 : Bool) (x8 : Int) (x9 : Int) (x10 : Int) (x11 : Int) (x12 : Sl) (x13 : Int) (x14 : Int) (x15 : Int) (x16 : Int) (x17 : Bool) (x18 : Int) (x19 : Int) (x20 : Int) (x21 : Int) : Array Value := #[.string x0, .int .i64 x1, .int .i64 x2, .int .i64 x3, .bool x4, .int .i64 x5, .bool x6, .bool x7, .int .i64 x8, .int .i64 x9, .int .i64 x10, .int .i64 x11, Sl.v x12, .int .i64 x13, .int .i64 x14, .int .i64 x15, .int .i64 x16, .bool x17, .int .i64 x18, .int .i64 x19, .int .i64 x20, .int .i64 x21]
@[reducible] def S38 (x0 : ByteArray) (x1 : Int) (x2 : Int) (x3 : Int) (x4 : Bool) (x5 : Int) (x6 : Bool) (x7 : Bool) (x8 : Int) (x9 : Int) (x10 : Int) (x11 : Int) (x12 : Sl) (x13 : Int) (x14 : Int) (x15 : Int) (x16 : Int) (x17 : Bool) (x18 : Int) (x19 : Int) (x20 : Int) (x21 : Int) : List Value := [.string x0, .int .i64 x1, .int .i64 x2, .int .i64 x3, .bool x4, .int .i64 x5, .bool x6, .bool x7, .int .i64 x8, .int .i64 x9, .int .i64 x10, .int .i64 x11, Sl.v x12, .int .i64 x13, .int .i64 x14, .int .i64 x15, .int .i64 x16, .bool x17, .int .i64 x18, .int .i64 x19, .int .i64 x20, .int .i64 x21]
@[reducible] def E38 (r : T38) : Value := V38 r.1 r.2.1 r.2.2.1 r.2.2.2.1 r.2.2.2.2.1 r.2.2.2.2.2.1 r.2.2.2.2.2.2.1 r.2.2.2.2.2.2.2.1 r.2.2.2.2.2.2.2.2.1 r.2.2.2.2.2.2.2.2.2.1 r.2.2.2.2.2.2.2.2.2.2.1 r.2.2.2.2.2.2.2.2.2.2.2.1 r.2.2.2.2.2.2.2.2.2.2.2.2.1 r.2.2.2.2.2.2.2.2.2.2.2.2.2.1 r.2.2.2.2.2.2.2.2.2.2.2.2.2.2.1 r.2.2.2.2.2.2.2.2.2.2.2.2.2.2.2.1 r.2.2.2.2.2.2.2.2.2.2.2.2.2.2.2.2.1 r.2.2.2.2.2.2.2.2.2.2.2.2.2.2.2.2.2.1 r.2.2.2.2.2.2.2.2.2.2.2.2.2.2.2.2.2.2.1 r.2.2.2.2.2.2.2.2.2.2.2.2.2.2.2.2.2.2.2.1 r.2.2.2.2.2.2.2.2.2.2.2.2.2.2.2.2.2.2.2.2.1 r.2.2.2.2.2.2.2.2.2.2.2.2.2.2.2.2.2.2.2.2.2
@[reducible] def C38 (p : Addr) (x0 : ByteArray) (x1 : Int) (x2 : Int) (x3 : Int) (x4 : Bool) (x5 : Int) (x6 : Bool) (x7 : Bool) (x8 : Int) (x9 : Int) (x10 : Int) (x11 : Int) (x12 : Sl) (x13 : Int) (x14 : Int) (x15 : Int) (x16 : Int) (x17 : Bool) (x18 : Int) (x19 : Int) (x20 : Int) (x21 : Int) (w : World) : Prop := w.cell? (p.add 0) = some (.string x0) ∧ w.cell? (p.add 1) = some (.int .i64 x1) ∧ w.cell? (p.add 2) = some (.int .i64 x2) ∧ w.cell? (p.add 3) = some (.int .i64 x3) ∧ w.cell? (p.add 4) = some (.bool x4) ∧ w.cell? (p.add 5) = some (.int .i64 x5) ∧ w.cell? (p.add 6) = some (.bool x6) ∧ w.cell? (p.add 7) = some (.bool x7) ∧ w.cell? (p.add 8) = some (.int .i64 x8) ∧ w.cell? (p.add 9) = some (.int .i64 x9) ∧ w.cell? (p.add 10) = some (.int .i64 x10) ∧ w.cell? (p.add 11) = some (.int .i64 x11) ∧ w.cell? (p.add 12) = some (Sl.v x12) ∧ w.cell? (p.add 13) = some (.int .i64 x13) ∧ w.cell? (p.add 14) = some (.int .i64 x14) ∧ w.cell? (p.add 15) = some (.int .i64 x15) ∧ w.cell? (p.add 16) = some (.int .i64 x16) ∧ w.cell? (p.add 17) = some (.bool x17) ∧ w.cell? (p.add 18) = some (.int .i64 x18) ∧ w.cell? (p.add 19) = some (.int .i64 x19) ∧ w.cell? (p.add 20) = some (.int .i64 x20) ∧ w.cell? (p.add 21) = some (.int .i64 x21)
@[reducible] def L38 (p : Addr) (w : World) (K : ByteArray → Int → Int → Int → Bool → Int → Bool → Bool → Int → Int → Int → Int → Sl → Int → Int → Int → Int → Bool → Int → Int → Int → Int → Prop) : Prop := ld Value.string (p.add 0) w fun x0 => ld (Value.int .i64) (p.add 1) w fun x1 => ld (Value.int .i64) (p.add 2) w fun x2 => ld (Value.int .i64) (p.add 3) w fun x3 => ld Value.bool (p.add 4) w fun x4 => ld (Value.int .i64) (p.add 5) w fun x5 => ld Value.bool (p.add 6) w fun x6 => ld Value.bool (p.add 7) w fun x7 => ld (Value.int .i64) (p.add 8) w fun x8 => ld (Value.int .i64) (p.add 9) w fun x9 => ld (Value.int .i64) (p.add 10) w fun x10 => ld (Value.int .i64) (p.add 11) w fun x11 => ld Sl.v (p.add 12) w fun x12 => ld (Value.int .i64) (p.add 13) w fun x13 => ld (Value.int .i64) (p.add 14) w fun x14 => ld (Value.int .i64) (p.add 15) w fun x15 => ld (Value.int .i64) (p.add 16) w fun x16 => ld Value.bool (p.add 17) w fun x17 => ld (Value.int .i64) (p.add 18) w fun x18 => ld (Value.int .i64) (p.add 19) w fun x19 => ld (Value.int .i64) (p.add 20) w fun x20 => ld (Value.int .i64) (p.add 21) w fun x21 => K x0 x1 x2 x3 x4 x5 x6 x7 x8 x9 x10 x11 x12 x13 x14 x15 x16 x17 x18 x19 x20 x21
theorem K38 {w : World} {p : Addr} {x0 : ByteArray} {x1 : Int} {x2 : Int} {x3 : Int} {x4 : Bool} {x5 : Int} {x6 : Bool} {x7 : Bool} {x8 : Int} {x9 : Int} {x10 : Int} {x11 : Int} {x12 : Sl} {x13 : Int} {x14 : Int} {x15 : Int} {x16 : Int} {x17 : Bool} {x18 : Int} {x19 : Int} {x20 : Int} {x21 : Int} (h : C38 p x0 x1 x2 x3 x4 x5 x6 x7 x8 x9 x10 x11 x12 x13 x14 x15 x16 x17 x18 x19 x20 x21 w) : ∀ (j : Nat) (u : Value), (S38 x0 x1 x2 x3 x4 x5 x6 x7 x8 x9 x10 x11 x12 x13 x14 x15 x16 x17 x18 x19 x20 x21)[j]? = some u → w.cell? (p.add j) = some u := by
  obtain ⟨q0, q1, q2, q3, q4, q5, q6, q7, q8, q9, q10, q11, q12, q13, q14, q15, q16, q17, q18, q19, q20, q21⟩ := h
  exact CellsAt.out (CellsAt.cons q0 (CellsAt.cons q1 (CellsAt.cons q2 (CellsAt.cons q3 (CellsAt.cons q4 (CellsAt.cons q5 (CellsAt.cons q6 (CellsAt.cons q7 (CellsAt.cons q8 (CellsAt.cons q9 (CellsAt.cons q10 (CellsAt.cons q11 (CellsAt.cons q12 (CellsAt.cons q13 (CellsAt.cons q14 (CellsAt.cons q15 (CellsAt.cons q16 (CellsAt.cons q17 (CellsAt.cons q18 (CellsAt.cons q19 (CellsAt.cons q20 (CellsAt.cons q21 CellsAt.nil))))))))))))))))))))))

theorem BD_36_0_1_2 (y0 : ByteArray) (y1 : ByteArray) (y2 : Int) : ∀ w, (Instr.build 36 #[(0, (Value.string y0)), (1, (Value.string y1)), (2, (Value.int .i64 y2))]).run Try.prog w = .ok (Value.agg #[(Value.string y0), (Value.string y1), (Value.int .i64 y2)]) w := fun w => by kernel_rfl
theorem BD_55_0_1 (y0 : Int) (y1 : Int) : ∀ w, (Instr.build 55 #[(0, (Value.int .i64 y0)), (1, (Value.int .i64 y1))]).run Try.prog w = .ok (Value.agg #[(Value.int .i64 y0), (Value.int .i64 y1)]) w := fun w => by kernel_rfl
theorem BS_22_0_ : ∀ w, (Instr.buildSlice 22 0 #[]).run Try.prog w = .ok (.slice (some ⟨w.heap.size, 0, none⟩) 0 0) (w.alloc (.cells #[] 36)) := fun w => by kernel_rfl
theorem BS_22_1_0 (y0 : ByteArray) (y1 : ByteArray) (y2 : Int) : ∀ w, (Instr.buildSlice 22 1 #[(0, (Value.agg #[(Value.string y0), (Value.string y1), (Value.int .i64 y2)]))]).run Try.prog w = .ok (.slice (some ⟨w.heap.size, 0, none⟩) 1 1) (w.alloc (.cells #[(Value.string y0), (Value.string y1), (Value.int .i64 y2)] 36)) := fun w => by kernel_rfl
theorem BS_22_4_0_1_2_3 (y0 : ByteArray) (y1 : ByteArray) (y2 : Int) (y3 : ByteArray) (y4 : ByteArray) (y5 : Int) (y6 : ByteArray) (y7 : ByteArray) (y8 : Int) (y9 : ByteArray) (y10 : ByteArray) (y11 : Int) : ∀ w, (Instr.buildSlice 22 4 #[(0, (Value.agg #[(Value.string y0), (Value.string y1), (Value.int .i64 y2)])), (1, (Value.agg #[(Value.string y3), (Value.string y4), (Value.int .i64 y5)])), (2, (Value.agg #[(Value.string y6), (Value.string y7), (Value.int .i64 y8)])), (3, (Value.agg #[(Value.string y9), (Value.string y10), (Value.int .i64 y11)]))]).run Try.prog w = .ok (.slice (some ⟨w.heap.size, 0, none⟩) 4 4) (w.alloc (.cells #[(Value.string y0), (Value.string y1), (Value.int .i64 y2), (Value.string y3), (Value.string y4), (Value.int .i64 y5), (Value.string y6), (Value.string y7), (Value.int .i64 y8), (Value.string y9), (Value.string y10), (Value.int .i64 y11)] 36)) := fun w => by kernel_rfl
theorem BS_23_0_ : ∀ w, (Instr.buildSlice 23 0 #[]).run Try.prog w = .ok (.slice (some ⟨w.heap.size, 0, none⟩) 0 0) (w.alloc (.cells #[] 9)) := fun w => by kernel_rfl
theorem BS_23_1_0 (y0 : ByteArray) : ∀ w, (Instr.buildSlice 23 1 #[(0, (Value.string y0))]).run Try.prog w = .ok (.slice (some ⟨w.heap.size, 0, none⟩) 1 1) (w.alloc (.cells #[(Value.string y0)] 9)) := fun w => by kernel_rfl
theorem BS_23_2_0_1 (y0 : ByteArray) (y1 : ByteArray) : ∀ w, (Instr.buildSlice 23 2 #[(0, (Value.string y0)), (1, (Value.string y1))]).run Try.prog w = .ok (.slice (some ⟨w.heap.size, 0, none⟩) 2 2) (w.alloc (.cells #[(Value.string y0), (Value.string y1)] 9)) := fun w => by kernel_rfl
theorem BS_24_0_ : ∀ w, (Instr.buildSlice 24 0 #[]).run Try.prog w = .ok (.slice (some ⟨w.heap.size, 0, none⟩) 0 0) (w.alloc (.cells #[] 3)) := fun w => by kernel_rfl
theorem BS_24_1_0 (y0 : Int) : ∀ w, (Instr.buildSlice 24 1 #[(0, (Value.int .i64 y0))]).run Try.prog w = .ok (.slice (some ⟨w.heap.size, 0, none⟩) 1 1) (w.alloc (.cells #[(Value.int .i64 y0)] 3)) := fun w => by kernel_rfl
theorem BS_24_2_0_1 (y0 : Int) (y1 : Int) : ∀ w, (Instr.buildSlice 24 2 #[(0, (Value.int .i64 y0)), (1, (Value.int .i64 y1))]).run Try.prog w = .ok (.slice (some ⟨w.heap.size, 0, none⟩) 2 2) (w.alloc (.cells #[(Value.int .i64 y0), (Value.int .i64 y1)] 3)) := fun w => by kernel_rfl
theorem BS_24_9_0_1_2_3_4_5_6_7_8 (y0 : Int) (y1 : Int) (y2 : Int) (y3 : Int) (y4 : Int) (y5 : Int) (y6 : Int) (y7 : Int) (y8 : Int) : ∀ w, (Instr.buildSlice 24 9 #[(0, (Value.int .i64 y0)), (1, (Value.int .i64 y1)), (2, (Value.int .i64 y2)), (3, (Value.int .i64 y3)), (4, (Value.int .i64 y4)), (5, (Value.int .i64 y5)), (6, (Value.int .i64 y6)), (7, (Value.int .i64 y7)), (8, (Value.int .i64 y8))]).run Try.prog w = .ok (.slice (some ⟨w.heap.size, 0, none⟩) 9 9) (w.alloc (.cells #[(Value.int .i64 y0), (Value.int .i64 y1), (Value.int .i64 y2), (Value.int .i64 y3), (Value.int .i64 y4), (Value.int .i64 y5), (Value.int .i64 y6), (Value.int .i64 y7), (Value.int .i64 y8)] 3)) := fun w => by kernel_rfl
theorem BS_56_6_0_1_2_3_4_5 (y0 : Int) (y1 : Int) (y2 : Int) (y3 : Int) (y4 : Int) (y5 : Int) (y6 : Int) (y7 : Int) (y8 : Int) (y9 : Int) (y10 : Int) (y11 : Int) : ∀ w, (Instr.buildSlice 56 6 #[(0, (Value.agg #[(Value.int .i64 y0), (Value.int .i64 y1)])), (1, (Value.agg #[(Value.int .i64 y2), (Value.int .i64 y3)])), (2, (Value.agg #[(Value.int .i64 y4), (Value.int .i64 y5)])), (3, (Value.agg #[(Value.int .i64 y6), (Value.int .i64 y7)])), (4, (Value.agg #[(Value.int .i64 y8), (Value.int .i64 y9)])), (5, (Value.agg #[(Value.int .i64 y10), (Value.int .i64 y11)]))]).run Try.prog w = .ok (.slice (some ⟨w.heap.size, 0, none⟩) 6 6) (w.alloc (.cells #[(Value.int .i64 y0), (Value.int .i64 y1), (Value.int .i64 y2), (Value.int .i64 y3), (Value.int .i64 y4), (Value.int .i64 y5), (Value.int .i64 y6), (Value.int .i64 y7), (Value.int .i64 y8), (Value.int .i64 y9), (Value.int .i64 y10), (Value.int .i64 y11)] 55)) := fun w => by kernel_rfl
theorem ES_22 : elemSize Try.prog 22 = some 3 := by kernel_rfl
theorem ES_23 : elemSize Try.prog 23 = some 1 := by kernel_rfl
theorem ES_24 : elemSize Try.prog 24 = some 1 := by kernel_rfl
theorem ES_56 : elemSize Try.prog 56 = some 2 := by kernel_rfl
theorem FA_36_0 : fieldOff Try.prog 36 0 = some 0 := by kernel_rfl
theorem FA_36_1 : fieldOff Try.prog 36 1 = some 1 := by kernel_rfl
theorem FA_36_2 : fieldOff Try.prog 36 2 = some 2 := by kernel_rfl
theorem FA_39_0 : fieldOff Try.prog 39 0 = some 0 := by kernel_rfl
theorem FA_39_1 : fieldOff Try.prog 39 1 = some 1 := by kernel_rfl
theorem FA_39_10 : fieldOff Try.prog 39 10 = some 10 := by kernel_rfl
theorem FA_39_11 : fieldOff Try.prog 39 11 = some 11 := by kernel_rfl
theorem FA_39_12 : fieldOff Try.prog 39 12 = some 12 := by kernel_rfl
theorem FA_39_13 : fieldOff Try.prog 39 13 = some 13 := by kernel_rfl
theorem FA_39_14 : fieldOff Try.prog 39 14 = some 14 := by kernel_rfl
theorem FA_39_15 : fieldOff Try.prog 39 15 = some 15 := by kernel_rfl
theorem FA_39_16 : fieldOff Try.prog 39 16 = some 16 := by kernel_rfl
theorem FA_39_18 : fieldOff Try.prog 39 18 = some 18 := by kernel_rfl
theorem FA_39_19 : fieldOff Try.prog 39 19 = some 19 := by kernel_rfl
theorem FA_39_2 : fieldOff Try.prog 39 2 = some 2 := by kernel_rfl
theorem FA_39_20 : fieldOff Try.prog 39 20 = some 20 := by kernel_rfl
theorem FA_39_21 : fieldOff Try.prog 39 21 = some 21 := by kernel_rfl
theorem FA_39_3 : fieldOff Try.prog 39 3 = some 3 := by kernel_rfl
theorem FA_39_4 : fieldOff Try.prog 39 4 = some 4 := by kernel_rfl
theorem FA_39_5 : fieldOff Try.prog 39 5 = some 5 := by kernel_rfl
theorem FA_39_6 : fieldOff Try.prog 39 6 = some 6 := by kernel_rfl
theorem FA_39_7 : fieldOff Try.prog 39 7 = some 7 := by kernel_rfl
theorem FA_39_8 : fieldOff Try.prog 39 8 = some 8 := by kernel_rfl
theorem FA_39_9 : fieldOff Try.prog 39 9 = some 9 := by kernel_rfl
theorem NB_10 : Try.f10.body.isNone = false := by kernel_rfl
theorem NN_10 : (Try.f10.name == "runtime.NumGoroutine") = false := by kernel_rfl
theorem NB_11 : Try.f11.body.isNone = false := by kernel_rfl
theorem NN_11 : (Try.f11.name == "runtime.NumGoroutine") = false := by kernel_rfl
theorem NB_12 : Try.f12.body.isNone = false := by kernel_rfl
theorem NN_12 : (Try.f12.name == "runtime.NumGoroutine") = false := by kernel_rfl
theorem NB_13 : Try.f13.body.isNone = false := by kernel_rfl
theorem NN_13 : (Try.f13.name == "runtime.NumGoroutine") = false := by kernel_rfl
theorem NB_14 : Try.f14.body.isNone = false := by kernel_rfl
theorem NN_14 : (Try.f14.name == "runtime.NumGoroutine") = false := by kernel_rfl
theorem NB_15 : Try.f15.body.isNone = false := by kernel_rfl
theorem NN_15 : (Try.f15.name == "runtime.NumGoroutine") = false := by kernel_rfl
theorem NB_16 : Try.f16.body.isNone = false := by kernel_rfl
theorem NN_16 : (Try.f16.name == "runtime.NumGoroutine") = false := by kernel_rfl
theorem NB_17 : Try.f17.body.isNone = false := by kernel_rfl
theorem NN_17 : (Try.f17.name == "runtime.NumGoroutine") = false := by kernel_rfl
theorem NB_18 : Try.f18.body.isNone = false := by kernel_rfl
theorem NN_18 : (Try.f18.name == "runtime.NumGoroutine") = false := by kernel_rfl
theorem NB_19 : Try.f19.body.isNone = false := by kernel_rfl
theorem NN_19 : (Try.f19.name == "runtime.NumGoroutine") = false := by kernel_rfl
theorem NB_20 : Try.f20.body.isNone = false := by kernel_rfl
theorem NN_20 : (Try.f20.name == "runtime.NumGoroutine") = false := by kernel_rfl
theorem NB_21 : Try.f21.body.isNone = false := by kernel_rfl
theorem NN_21 : (Try.f21.name == "runtime.NumGoroutine") = false := by kernel_rfl
theorem NB_22 : Try.f22.body.isNone = false := by kernel_rfl
theorem NN_22 : (Try.f22.name == "runtime.NumGoroutine") = false := by kernel_rfl
theorem NB_23 : Try.f23.body.isNone = false := by kernel_rfl
theorem NN_23 : (Try.f23.name == "runtime.NumGoroutine") = false := by kernel_rfl
theorem NB_24 : Try.f24.body.isNone = false := by kernel_rfl
theorem NN_24 : (Try.f24.name == "runtime.NumGoroutine") = false := by kernel_rfl
theorem NB_25 : Try.f25.body.isNone = false := by kernel_rfl
theorem NN_25 : (Try.f25.name == "runtime.NumGoroutine") = false := by kernel_rfl
theorem NB_26 : Try.f26.body.isNone = false := by kernel_rfl
theorem NN_26 : (Try.f26.name == "runtime.NumGoroutine") = false := by kernel_rfl
theorem NB_27 : Try.f27.body.isNone = false := by kernel_rfl
theorem NN_27 : (Try.f27.name == "runtime.NumGoroutine") = false := by kernel_rfl
theorem NB_28 : Try.f28.body.isNone = false := by kernel_rfl
theorem NN_28 : (Try.f28.name == "runtime.NumGoroutine") = false := by kernel_rfl
theorem NB_29 : Try.f29.body.isNone = false := by kernel_rfl
theorem NN_29 : (Try.f29.name == "runtime.NumGoroutine") = false := by kernel_rfl
theorem NB_30 : Try.f30.body.isNone = false := by kernel_rfl
theorem NN_30 : (Try.f30.name == "runtime.NumGoroutine") = false := by kernel_rfl
theorem NB_31 : Try.f31.body.isNone = false := by kernel_rfl
theorem NN_31 : (Try.f31.name == "runtime.NumGoroutine") = false := by kernel_rfl
theorem NB_32 : Try.f32.body.isNone = false := by kernel_rfl
theorem NN_32 : (Try.f32.name == "runtime.NumGoroutine") = false := by kernel_rfl
theorem NB_33 : Try.f33.body.isNone = false := by kernel_rfl
theorem NN_33 : (Try.f33.name == "runtime.NumGoroutine") = false := by kernel_rfl
theorem NB_34 : Try.f34.body.isNone = false := by kernel_rfl
theorem NN_34 : (Try.f34.name == "runtime.NumGoroutine") = false := by kernel_rfl
theorem NB_35 : Try.f35.body.isNone = false := by kernel_rfl
theorem NN_35 : (Try.f35.name == "runtime.NumGoroutine") = false := by kernel_rfl
theorem NB_36 : Try.f36.body.isNone = false := by kernel_rfl
theorem NN_36 : (Try.f36.name == "runtime.NumGoroutine") = false := by kernel_rfl
theorem NB_8 : Try.f8.body.isNone = false := by kernel_rfl
theorem NN_8 : (Try.f8.name == "runtime.NumGoroutine") = false := by kernel_rfl
theorem NB_9 : Try.f9.body.isNone = false := by kernel_rfl
theorem NN_9 : (Try.f9.name == "runtime.NumGoroutine") = false := by kernel_rfl
theorem SH_23 : shapeT Try.prog 23 = some 0 := by kernel_rfl
theorem SH_3 : shapeT Try.prog 3 = some 0 := by kernel_rfl
theorem SH_36 : shapeT Try.prog 36 = some 4 := by kernel_rfl
theorem SH_39 : shapeT Try.prog 39 = some 23 := by kernel_rfl
theorem SH_4 : shapeT Try.prog 4 = some 0 := by kernel_rfl
theorem SH_55 : shapeT Try.prog 55 = some 3 := by kernel_rfl
theorem SH_9 : shapeT Try.prog 9 = some 0 := by kernel_rfl
theorem SZ_36 : sizeT Try.prog 36 = some 3 := by kernel_rfl
theorem SZ_55 : sizeT Try.prog 55 = some 2 := by kernel_rfl
theorem ZV_36 : (Try.prog.info? 36).bind (·.zero) = some (Value.agg #[(Value.string (ByteArray.mk #[])), (Value.string (ByteArray.mk #[])), (Value.int .i64 0)]) := by kernel_rfl
theorem ZV_55 : (Try.prog.info? 55).bind (·.zero) = some (Value.agg #[(Value.int .i64 0), (Value.int .i64 0)]) := by kernel_rfl
theorem isBoolT_4 : isBoolT Try.prog 4 = true := by kernel_rfl
theorem isSliceT_22 : isSliceT Try.prog 22 = true := by kernel_rfl
theorem isSliceT_23 : isSliceT Try.prog 23 = true := by kernel_rfl
theorem isSliceT_24 : isSliceT Try.prog 24 = true := by kernel_rfl
theorem isSliceT_56 : isSliceT Try.prog 56 = true := by kernel_rfl
theorem isStrT_9 : isStrT Try.prog 9 = true := by kernel_rfl

/-- lingualaw39.ConvertBest -/
def F3 (p0 : Sl) (p1 : ByteArray) (p2 : Sl) (p3 : Int) (p4 : Sl) (w0 : World) (K : Bool → World → Prop) : Prop :=
  callC Try.prog 8 #[] (fun (r : Bool) => (Value.bool r)) w0 fun r9 w1 =>
  callC Try.prog 9 #[(Sl.v p0), (Value.string p1), (Sl.v p2)] (fun (r : Bool) => (Value.bool r)) w1 fun r10 w2 =>
  cnd ((!r10) || (decide (14 < (p4.len : Int))))
    (
    K r9 w2
    )
    (
    callC Try.prog 10 #[(Sl.v p0), (Value.string p1), (Sl.v p2), (Value.int .i64 p3)] (fun (r : Sl × Bool) => (Value.tuple #[(Sl.v r.1), (Value.bool r.2)])) w2 fun r14 w3 =>
    jn (fun (J15 : Unit → World → Prop) =>
      cnd (r14.2)
        (
        callC Try.prog 11 #[(Sl.v p0), (Value.string p1), (Sl.v r14.1), (Value.int .i64 p3)] (fun (r : ByteArray × Bool) => (Value.tuple #[(Value.string r.1), (Value.bool r.2)])) w3 fun r18 w5 =>
        jn (fun J19 => cnd (!r18.2)
          (
          J19 true w5
          )
          (
          callC Try.prog 12 #[(Sl.v p2), (Value.string r18.1)] (fun (r : Bool) => (Value.bool r)) w5 fun r21 w6 =>
          J19 (!r21) w6
          ))
        fun c22 w7 =>
        cnd (c22)
          (
          K false w7
          )
          (
          J15 () w7
          )
        )
        (
        cnd (decide (0 < (r14.1.len : Int)))
          (
          K false w3
          )
          (
          J15 () w3
          )
        )
    )
    fun _l16 w4 =>
    callC Try.prog 11 #[(Sl.v p0), (Value.string p1), (Sl.v p4), (Value.int .i64 p3)] (fun (r : ByteArray × Bool) => (Value.tuple #[(Value.string r.1), (Value.bool r.2)])) w4 fun r25 w8 =>
    jn (fun J26 => cnd (!r25.2)
      (
      J26 true w8
      )
      (
      callC Try.prog 12 #[(Sl.v p2), (Value.string r25.1)] (fun (r : Bool) => (Value.bool r)) w8 fun r28 w9 =>
      J26 (!r28) w9
      ))
    fun c29 w10 =>
    cnd (c29)
      (
      K r9 w10
      )
      (
      cnd ((!r14.2) || (decide ((p4.len : Int) < (r14.1.len : Int))))
        (
        K false w10
        )
        (
        lp (fun (next34 : Int → World → Prop) l34 w11 =>
          cnd ((decide (l34 < (r14.1.len : Int))) && (decide ((r14.1.len : Int) = (p4.len : Int))))
            (
            jn (fun (J39 : Bool → World → Prop) => tk w11 fun w12 =>
              ix r14.1 l34 1 fun p40 =>
              ld (Value.int .i64) p40 w12 fun x41 =>
              ix p4 l34 1 fun p42 =>
              ld (Value.int .i64) p42 w12 fun x43 =>
              J39 (decide (x43 < x41)) w12
            )
            fun l44 w13 =>
            cnd (l44)
              (
              K false w13
              )
              (
              jn (fun (J47 : Bool → World → Prop) => tk w13 fun w14 =>
                ix r14.1 l34 1 fun p48 =>
                ld (Value.int .i64) p48 w14 fun x49 =>
                ix p4 l34 1 fun p50 =>
                ld (Value.int .i64) p50 w14 fun x51 =>
                J47 (decide (x49 < x51)) w14
              )
              fun l52 w15 =>
              cnd (l52)
                (
                K r9 w15
                )
                (
                next34 (IntKind.i64.wrap (l34 + 1)) w15
                )
              )
            )
            (
            K r9 w11
            )
        ) 0 w10
        )
      )
    )
set_option maxRecDepth 100000 in
theorem D3 (p0 : Sl) (p1 : ByteArray) (p2 : Sl) (p3 : Int) (p4 : Sl) (w0 : World) (K : Bool → World → Prop) (h : F3 p0 p1 p2 p3 p4 w0 K) : callC Try.prog 3 #[(Sl.v p0), (Value.string p1), (Sl.v p2), (Value.int .i64 p3), (Sl.v p4)] (fun (r : Bool) => (Value.bool r)) w0 K := by
  unfold F3 at h
  refine calls_of_wpC Try.func3 rfl 118 rfl (by simp) ?_
  intro ρ hρ
  have e0 : ρ 0 = (Sl.v p0) := hρ 0
  have e1 : ρ 1 = (Value.string p1) := hρ 1
  have e2 : ρ 2 = (Sl.v p2) := hρ 2
  have e3 : ρ 3 = (Value.int .i64 p3) := hρ 3
  have e4 : ρ 4 = (Sl.v p4) := hρ 4
  clear hρ
  refine wpC_seq ?_
  refine wpC_region ?_
  refine wpR_val (v := (Value.bool false)) (w' := w0) rfl rfl rfl (x_assign (v := (Value.bool false)) rfl rfl) ?_
  refine wpR_nil ?_
  refine wpC_seq ?_
  refine wpC_cut (fun ρ => ρ 0 = (Sl.v p0) ∧ ρ 1 = (Value.string p1) ∧ ρ 2 = (Sl.v p2) ∧ ρ 3 = (Value.int .i64 p3) ∧ ρ 4 = (Sl.v p4) ∧ True) ⟨e0, e1, e2, e3, e4, trivial⟩ ?_
  rintro ρ ⟨e0, e1, e2, e3, e4, -⟩
  refine wpC_region ?_
  refine wpR_enter rfl rfl rfl (x_call (vs := []) rfl rfl mapl_nil Try.func8 NN_8 NB_8) (Calls.mono h ?_)
  rintro _ w1 ⟨r9, rfl, h⟩
  refine ⟨_, rfl, ?_⟩
  refine wpR_val (v := (Value.bool r9)) (w' := w1) rfl rfl rfl (x_assign (v := (Value.bool r9)) rfl rfl) ?_
  refine wpR_nil ?_
  refine wpC_seq ?_
  refine wpC_seq ?_
  refine wpC_cut (fun ρ => ρ 0 = (Sl.v p0) ∧ ρ 1 = (Value.string p1) ∧ ρ 2 = (Sl.v p2) ∧ ρ 3 = (Value.int .i64 p3) ∧ ρ 4 = (Sl.v p4) ∧ ρ 11 = (Value.bool r9) ∧ True) ⟨e0, e1, e2, e3, e4, rfl, trivial⟩ ?_
  rintro ρ ⟨e0, e1, e2, e3, e4, e11, -⟩
  refine wpC_region ?_
  refine wpR_val (v := (Sl.v p0)) (w' := w1) rfl rfl rfl (x_move (v := (Sl.v p0)) rfl e0) ?_
  refine wpR_val (v := (Value.string p1)) (w' := w1) rfl rfl rfl (x_move (v := (Value.string p1)) rfl e1) ?_
  refine wpR_val (v := (Sl.v p2)) (w' := w1) rfl rfl rfl (x_move (v := (Sl.v p2)) rfl e2) ?_
  refine wpR_enter rfl rfl rfl (x_call (vs := [(Sl.v p0), (Value.string p1), (Sl.v p2)]) rfl rfl (mapl_cons rfl (mapl_cons rfl (mapl_cons rfl mapl_nil))) Try.func9 NN_9 NB_9) (Calls.mono h ?_)
  rintro _ w2 ⟨r10, rfl, h⟩
  refine ⟨_, rfl, ?_⟩
  refine wpR_val (v := (Value.bool (!r10))) (w' := w2) rfl rfl rfl (x_not rfl rfl) ?_
  refine wpR_val (v := (Value.bool (!r10))) (w' := w2) rfl rfl rfl (x_move (v := (Value.bool (!r10))) rfl rfl) ?_
  refine wpR_joinJ 4 (fun (_ : Unit) ρ => ρ 29 = Value.bool ((!r10) || (decide (14 < (p4.len : Int)))) ∧ ρ 0 = (Sl.v p0) ∧ ρ 1 = (Value.string p1) ∧ ρ 2 = (Sl.v p2) ∧ ρ 3 = (Value.int .i64 p3) ∧ ρ 4 = (Sl.v p4) ∧ ρ 11 = (Value.bool r9) ∧ True) (fun _ w => w2 = w) ?_ ?_
  · clear h
    rcases Bool.eq_false_or_eq_true (!r10) with hc12 | hc12
    · skip
      refine wpR_pass (wantN rfl rfl rfl hc12) rfl rfl ?_
      refine wpR_pass (wantN rfl rfl rfl hc12) rfl rfl ?_
      refine wpR_pass (wantN rfl rfl rfl hc12) rfl rfl ?_
      refine wpR_val (v := (Value.bool true)) (w' := w2) rfl rfl rfl (x_pickT (v := (Value.bool true)) rfl rfl hc12 rfl) ?_
      refine wpR_nil ?_
      exact ⟨(), ⟨(by rw [hc12]; rfl), e0, e1, e2, e3, e4, e11, trivial⟩, rfl⟩
    · skip
      refine wpR_val (v := (Sl.v p4)) (w' := w2) (wantG rfl rfl rfl hc12) rfl rfl (x_move (v := (Sl.v p4)) rfl e4) ?_
      refine wpR_val (v := (Value.int .i64 (p4.len : Int))) (w' := w2) (wantG rfl rfl rfl hc12) rfl rfl (x_lenS (s := p4) rfl rfl isSliceT_24) ?_
      refine wpR_val (v := (Value.bool (decide (14 < (p4.len : Int))))) (w' := w2) (wantG rfl rfl rfl hc12) rfl rfl (x_gtr rfl rfl rfl) ?_
      refine wpR_val (v := (Value.bool (decide (14 < (p4.len : Int))))) (w' := w2) rfl rfl rfl (x_pickF (v := (Value.bool (decide (14 < (p4.len : Int))))) rfl rfl hc12 rfl) ?_
      refine wpR_nil ?_
      exact ⟨(), ⟨(by rw [hc12]; rfl), e0, e1, e2, e3, e4, e11, trivial⟩, rfl⟩
  rintro _ ρ wj ⟨e29, e0, e1, e2, e3, e4, e11, -⟩ rfl
  refine wpR_nil ?_
  refine wpC_cond (b := (!r10) || (decide (14 < (p4.len : Int)))) e29 (fun hc13 => ?_) (fun hc13 => ?_)
  · replace h := h.1 hc13
    refine wpC_seq ?_
    refine wpC_region ?_
    refine wpR_val (v := (Value.bool r9)) (w' := w2) rfl rfl rfl (x_move (v := (Value.bool r9)) rfl e11) ?_
    refine wpR_val (v := (Value.bool r9)) (w' := w2) rfl rfl rfl (x_assign (v := (Value.bool r9)) rfl rfl) ?_
    refine wpR_nil ?_
    refine wpC_ret ?_
    exact ⟨.inl rfl, fun a ha => ⟨_, results_rep1 rfl ha rfl, r9, rfl, h⟩⟩
  · replace h := h.2 hc13
    refine wpC_skip ?_
    refine wpC_seq ?_
    refine wpC_region ?_
    refine wpR_val (v := (Sl.v p0)) (w' := w2) rfl rfl rfl (x_move (v := (Sl.v p0)) rfl e0) ?_
    refine wpR_val (v := (Value.string p1)) (w' := w2) rfl rfl rfl (x_move (v := (Value.string p1)) rfl e1) ?_
    refine wpR_val (v := (Sl.v p2)) (w' := w2) rfl rfl rfl (x_move (v := (Sl.v p2)) rfl e2) ?_
    refine wpR_val (v := (Value.int .i64 p3)) (w' := w2) rfl rfl rfl (x_move (v := (Value.int .i64 p3)) rfl e3) ?_
    refine wpR_enter rfl rfl rfl (x_call (vs := [(Sl.v p0), (Value.string p1), (Sl.v p2), (Value.int .i64 p3)]) rfl rfl (mapl_cons rfl (mapl_cons rfl (mapl_cons rfl (mapl_cons rfl mapl_nil)))) Try.func10 NN_10 NB_10) (Calls.mono h ?_)
    rintro _ w3 ⟨r14, rfl, h⟩
    refine ⟨_, rfl, ?_⟩
    refine wpR_val (v := (Value.tuple #[(Sl.v r14.1), (Value.bool r14.2)])) (w' := w3) rfl rfl rfl (x_move (v := (Value.tuple #[(Sl.v r14.1), (Value.bool r14.2)])) rfl rfl) ?_
    refine wpR_val (v := (Sl.v r14.1)) (w' := w3) rfl rfl rfl (x_extract rfl rfl rfl) ?_
    refine wpR_val (v := (Value.bool r14.2)) (w' := w3) rfl rfl rfl (x_extract rfl rfl rfl) ?_
    refine wpR_val (v := (Sl.v r14.1)) (w' := w3) rfl rfl rfl (x_assign (v := (Sl.v r14.1)) rfl rfl) ?_
    refine wpR_val (v := (Value.bool r14.2)) (w' := w3) rfl rfl rfl (x_assign (v := (Value.bool r14.2)) rfl rfl) ?_
    refine wpR_nil ?_
    obtain ⟨J15, h, hk⟩ := h
    refine wpC_seqJ (fun (x : Unit) ρ => ρ 0 = (Sl.v p0) ∧ ρ 1 = (Value.string p1) ∧ ρ 2 = (Sl.v p2) ∧ ρ 3 = (Value.int .i64 p3) ∧ ρ 4 = (Sl.v p4) ∧ ρ 11 = (Value.bool r9) ∧ ρ 12 = (Sl.v r14.1) ∧ ρ 13 = (Value.bool r14.2) ∧ True) J15 ?_ ?_
    · clear hk
      refine wpC_seq ?_
      refine wpC_cut (fun ρ => ρ 0 = (Sl.v p0) ∧ ρ 1 = (Value.string p1) ∧ ρ 2 = (Sl.v p2) ∧ ρ 3 = (Value.int .i64 p3) ∧ ρ 4 = (Sl.v p4) ∧ ρ 11 = (Value.bool r9) ∧ ρ 12 = (Sl.v r14.1) ∧ ρ 13 = (Value.bool r14.2) ∧ True) ⟨e0, e1, e2, e3, e4, e11, rfl, rfl, trivial⟩ ?_
      rintro ρ ⟨e0, e1, e2, e3, e4, e11, e12, e13, -⟩
      refine wpC_region ?_
      refine wpR_val (v := (Value.bool r14.2)) (w' := w3) rfl rfl rfl (x_move (v := (Value.bool r14.2)) rfl e13) ?_
      refine wpR_nil ?_
      refine wpC_cond (b := r14.2) rfl (fun hc17 => ?_) (fun hc17 => ?_)
      · replace h := h.1 hc17
        refine wpC_seq ?_
        refine wpC_cut (fun ρ => ρ 0 = (Sl.v p0) ∧ ρ 1 = (Value.string p1) ∧ ρ 2 = (Sl.v p2) ∧ ρ 3 = (Value.int .i64 p3) ∧ ρ 4 = (Sl.v p4) ∧ ρ 11 = (Value.bool r9) ∧ ρ 12 = (Sl.v r14.1) ∧ ρ 13 = (Value.bool r14.2) ∧ True) ⟨e0, e1, e2, e3, e4, e11, e12, e13, trivial⟩ ?_
        rintro ρ ⟨e0, e1, e2, e3, e4, e11, e12, e13, -⟩
        refine wpC_region ?_
        refine wpR_val (v := (Sl.v p0)) (w' := w3) rfl rfl rfl (x_move (v := (Sl.v p0)) rfl e0) ?_
        refine wpR_val (v := (Value.string p1)) (w' := w3) rfl rfl rfl (x_move (v := (Value.string p1)) rfl e1) ?_
        refine wpR_val (v := (Sl.v r14.1)) (w' := w3) rfl rfl rfl (x_move (v := (Sl.v r14.1)) rfl e12) ?_
        refine wpR_val (v := (Value.int .i64 p3)) (w' := w3) rfl rfl rfl (x_move (v := (Value.int .i64 p3)) rfl e3) ?_
        refine wpR_enter rfl rfl rfl (x_call (vs := [(Sl.v p0), (Value.string p1), (Sl.v r14.1), (Value.int .i64 p3)]) rfl rfl (mapl_cons rfl (mapl_cons rfl (mapl_cons rfl (mapl_cons rfl mapl_nil)))) Try.func11 NN_11 NB_11) (Calls.mono h ?_)
        rintro _ w5 ⟨r18, rfl, h⟩
        refine ⟨_, rfl, ?_⟩
        refine wpR_val (v := (Value.tuple #[(Value.string r18.1), (Value.bool r18.2)])) (w' := w5) rfl rfl rfl (x_move (v := (Value.tuple #[(Value.string r18.1), (Value.bool r18.2)])) rfl rfl) ?_
        refine wpR_val (v := (Value.string r18.1)) (w' := w5) rfl rfl rfl (x_extract rfl rfl rfl) ?_
        refine wpR_val (v := (Value.bool r18.2)) (w' := w5) rfl rfl rfl (x_extract rfl rfl rfl) ?_
        refine wpR_val (v := (Value.string r18.1)) (w' := w5) rfl rfl rfl (x_assign (v := (Value.string r18.1)) rfl rfl) ?_
        refine wpR_val (v := (Value.bool r18.2)) (w' := w5) rfl rfl rfl (x_assign (v := (Value.bool r18.2)) rfl rfl) ?_
        refine wpR_nil ?_
        refine wpC_seq ?_
        refine wpC_cut (fun ρ => ρ 0 = (Sl.v p0) ∧ ρ 1 = (Value.string p1) ∧ ρ 2 = (Sl.v p2) ∧ ρ 3 = (Value.int .i64 p3) ∧ ρ 4 = (Sl.v p4) ∧ ρ 11 = (Value.bool r9) ∧ ρ 12 = (Sl.v r14.1) ∧ ρ 13 = (Value.bool r14.2) ∧ ρ 14 = (Value.string r18.1) ∧ ρ 15 = (Value.bool r18.2) ∧ True) ⟨e0, e1, e2, e3, e4, e11, e12, e13, rfl, rfl, trivial⟩ ?_
        rintro ρ ⟨e0, e1, e2, e3, e4, e11, e12, e13, e14, e15, -⟩
        refine wpC_region ?_
        refine wpR_val (v := (Value.bool r18.2)) (w' := w5) rfl rfl rfl (x_move (v := (Value.bool r18.2)) rfl e15) ?_
        refine wpR_val (v := (Value.bool (!r18.2))) (w' := w5) rfl rfl rfl (x_not rfl rfl) ?_
        refine wpR_val (v := (Value.bool (!r18.2))) (w' := w5) rfl rfl rfl (x_move (v := (Value.bool (!r18.2))) rfl rfl) ?_
        obtain ⟨J19, h, hk⟩ := h
        refine wpR_joinJ 5 (fun x ρ => ρ 55 = Value.bool x ∧ ρ 0 = (Sl.v p0) ∧ ρ 1 = (Value.string p1) ∧ ρ 2 = (Sl.v p2) ∧ ρ 3 = (Value.int .i64 p3) ∧ ρ 4 = (Sl.v p4) ∧ ρ 11 = (Value.bool r9) ∧ ρ 12 = (Sl.v r14.1) ∧ ρ 13 = (Value.bool r14.2) ∧ True) (J19) ?_ ?_
        · clear hk
          rcases Bool.eq_false_or_eq_true (!r18.2) with hc20 | hc20
          · replace h := h.1 hc20
            refine wpR_pass (wantN rfl rfl rfl hc20) rfl rfl ?_
            refine wpR_pass (wantN rfl rfl rfl hc20) rfl rfl ?_
            refine wpR_pass (wantN rfl rfl rfl hc20) rfl rfl ?_
            refine wpR_pass (wantN rfl rfl rfl hc20) rfl rfl ?_
            refine wpR_val (v := (Value.bool true)) (w' := w5) rfl rfl rfl (x_pickT (v := (Value.bool true)) rfl rfl hc20 rfl) ?_
            refine wpR_nil ?_
            exact ⟨true, ⟨rfl, e0, e1, e2, e3, e4, e11, e12, e13, trivial⟩, h⟩
          · replace h := h.2 hc20
            refine wpR_val (v := (Sl.v p2)) (w' := w5) (wantG rfl rfl rfl hc20) rfl rfl (x_move (v := (Sl.v p2)) rfl e2) ?_
            refine wpR_val (v := (Value.string r18.1)) (w' := w5) (wantG rfl rfl rfl hc20) rfl rfl (x_move (v := (Value.string r18.1)) rfl e14) ?_
            refine wpR_enter (wantG rfl rfl rfl hc20) rfl rfl (x_call (vs := [(Sl.v p2), (Value.string r18.1)]) rfl rfl (mapl_cons rfl (mapl_cons rfl mapl_nil)) Try.func12 NN_12 NB_12) (Calls.mono h ?_)
            rintro _ w6 ⟨r21, rfl, h⟩
            refine ⟨_, rfl, ?_⟩
            refine wpR_val (v := (Value.bool (!r21))) (w' := w6) (wantG rfl rfl rfl hc20) rfl rfl (x_not rfl rfl) ?_
            refine wpR_val (v := (Value.bool (!r21))) (w' := w6) rfl rfl rfl (x_pickF (v := (Value.bool (!r21))) rfl rfl hc20 rfl) ?_
            refine wpR_nil ?_
            exact ⟨!r21, ⟨rfl, e0, e1, e2, e3, e4, e11, e12, e13, trivial⟩, h⟩
        clear h
        rintro c22 ρ w7 ⟨e55, e0, e1, e2, e3, e4, e11, e12, e13, -⟩ h
        replace h := hk c22 w7 h
        clear hk
        refine wpR_nil ?_
        refine wpC_cond (b := c22) e55 (fun hc23 => ?_) (fun hc23 => ?_)
        · replace h := h.1 hc23
          refine wpC_seq ?_
          refine wpC_region ?_
          refine wpR_val (v := (Value.bool false)) (w' := w7) rfl rfl rfl (x_assign (v := (Value.bool false)) rfl rfl) ?_
          refine wpR_nil ?_
          refine wpC_ret ?_
          exact ⟨.inl rfl, fun a ha => ⟨_, results_rep1 rfl ha rfl, false, rfl, h⟩⟩
        · replace h := h.2 hc23
          refine wpC_skip ?_
          exact ⟨(), ⟨e0, e1, e2, e3, e4, e11, e12, e13, trivial⟩, h⟩
      · replace h := h.2 hc17
        refine wpC_seq ?_
        refine wpC_cut (fun ρ => ρ 0 = (Sl.v p0) ∧ ρ 1 = (Value.string p1) ∧ ρ 2 = (Sl.v p2) ∧ ρ 3 = (Value.int .i64 p3) ∧ ρ 4 = (Sl.v p4) ∧ ρ 11 = (Value.bool r9) ∧ ρ 12 = (Sl.v r14.1) ∧ ρ 13 = (Value.bool r14.2) ∧ True) ⟨e0, e1, e2, e3, e4, e11, e12, e13, trivial⟩ ?_
        rintro ρ ⟨e0, e1, e2, e3, e4, e11, e12, e13, -⟩
        refine wpC_region ?_
        refine wpR_val (v := (Sl.v r14.1)) (w' := w3) rfl rfl rfl (x_move (v := (Sl.v r14.1)) rfl e12) ?_
        refine wpR_val (v := (Value.int .i64 (r14.1.len : Int))) (w' := w3) rfl rfl rfl (x_lenS (s := r14.1) rfl rfl isSliceT_24) ?_
        refine wpR_val (v := (Value.bool (decide (0 < (r14.1.len : Int))))) (w' := w3) rfl rfl rfl (x_gtr rfl rfl rfl) ?_
        refine wpR_nil ?_
        refine wpC_cond (b := decide (0 < (r14.1.len : Int))) rfl (fun hc24 => ?_) (fun hc24 => ?_)
        · replace h := h.1 hc24
          refine wpC_seq ?_
          refine wpC_cut (fun ρ => True) trivial ?_
          rintro ρ -
          refine wpC_region ?_
          refine wpR_val (v := (Value.bool false)) (w' := w3) rfl rfl rfl (x_assign (v := (Value.bool false)) rfl rfl) ?_
          refine wpR_nil ?_
          refine wpC_ret ?_
          exact ⟨.inl rfl, fun a ha => ⟨_, results_rep1 rfl ha rfl, false, rfl, h⟩⟩
        · replace h := h.2 hc24
          refine wpC_skip ?_
          exact ⟨(), ⟨e0, e1, e2, e3, e4, e11, e12, e13, trivial⟩, h⟩
    clear h
    rintro l16 ρ w4 ⟨e0, e1, e2, e3, e4, e11, e12, e13, -⟩ h
    replace h := hk l16 w4 h
    clear hk
    refine wpC_seq ?_
    refine wpC_region ?_
    refine wpR_val (v := (Sl.v p0)) (w' := w4) rfl rfl rfl (x_move (v := (Sl.v p0)) rfl e0) ?_
    refine wpR_val (v := (Value.string p1)) (w' := w4) rfl rfl rfl (x_move (v := (Value.string p1)) rfl e1) ?_
    refine wpR_val (v := (Sl.v p4)) (w' := w4) rfl rfl rfl (x_move (v := (Sl.v p4)) rfl e4) ?_
    refine wpR_val (v := (Value.int .i64 p3)) (w' := w4) rfl rfl rfl (x_move (v := (Value.int .i64 p3)) rfl e3) ?_
    refine wpR_enter rfl rfl rfl (x_call (vs := [(Sl.v p0), (Value.string p1), (Sl.v p4), (Value.int .i64 p3)]) rfl rfl (mapl_cons rfl (mapl_cons rfl (mapl_cons rfl (mapl_cons rfl mapl_nil)))) Try.func11 NN_11 NB_11) (Calls.mono h ?_)
    rintro _ w8 ⟨r25, rfl, h⟩
    refine ⟨_, rfl, ?_⟩
    refine wpR_val (v := (Value.tuple #[(Value.string r25.1), (Value.bool r25.2)])) (w' := w8) rfl rfl rfl (x_move (v := (Value.tuple #[(Value.string r25.1), (Value.bool r25.2)])) rfl rfl) ?_
    refine wpR_val (v := (Value.string r25.1)) (w' := w8) rfl rfl rfl (x_extract rfl rfl rfl) ?_
    refine wpR_val (v := (Value.bool r25.2)) (w' := w8) rfl rfl rfl (x_extract rfl rfl rfl) ?_
    refine wpR_val (v := (Value.string r25.1)) (w' := w8) rfl rfl rfl (x_assign (v := (Value.string r25.1)) rfl rfl) ?_
    refine wpR_val (v := (Value.bool r25.2)) (w' := w8) rfl rfl rfl (x_assign (v := (Value.bool r25.2)) rfl rfl) ?_
    refine wpR_nil ?_
    refine wpC_seq ?_
    refine wpC_seq ?_
    refine wpC_cut (fun ρ => ρ 2 = (Sl.v p2) ∧ ρ 4 = (Sl.v p4) ∧ ρ 11 = (Value.bool r9) ∧ ρ 12 = (Sl.v r14.1) ∧ ρ 13 = (Value.bool r14.2) ∧ ρ 16 = (Value.string r25.1) ∧ ρ 17 = (Value.bool r25.2) ∧ True) ⟨e2, e4, e11, e12, e13, rfl, rfl, trivial⟩ ?_
    rintro ρ ⟨e2, e4, e11, e12, e13, e16, e17, -⟩
    refine wpC_region ?_
    refine wpR_val (v := (Value.bool r25.2)) (w' := w8) rfl rfl rfl (x_move (v := (Value.bool r25.2)) rfl e17) ?_
    refine wpR_val (v := (Value.bool (!r25.2))) (w' := w8) rfl rfl rfl (x_not rfl rfl) ?_
    refine wpR_val (v := (Value.bool (!r25.2))) (w' := w8) rfl rfl rfl (x_move (v := (Value.bool (!r25.2))) rfl rfl) ?_
    obtain ⟨J26, h, hk⟩ := h
    refine wpR_joinJ 5 (fun x ρ => ρ 74 = Value.bool x ∧ ρ 4 = (Sl.v p4) ∧ ρ 11 = (Value.bool r9) ∧ ρ 12 = (Sl.v r14.1) ∧ ρ 13 = (Value.bool r14.2) ∧ True) (J26) ?_ ?_
    · clear hk
      rcases Bool.eq_false_or_eq_true (!r25.2) with hc27 | hc27
      · replace h := h.1 hc27
        refine wpR_pass (wantN rfl rfl rfl hc27) rfl rfl ?_
        refine wpR_pass (wantN rfl rfl rfl hc27) rfl rfl ?_
        refine wpR_pass (wantN rfl rfl rfl hc27) rfl rfl ?_
        refine wpR_pass (wantN rfl rfl rfl hc27) rfl rfl ?_
        refine wpR_val (v := (Value.bool true)) (w' := w8) rfl rfl rfl (x_pickT (v := (Value.bool true)) rfl rfl hc27 rfl) ?_
        refine wpR_nil ?_
        exact ⟨true, ⟨rfl, e4, e11, e12, e13, trivial⟩, h⟩
      · replace h := h.2 hc27
        refine wpR_val (v := (Sl.v p2)) (w' := w8) (wantG rfl rfl rfl hc27) rfl rfl (x_move (v := (Sl.v p2)) rfl e2) ?_
        refine wpR_val (v := (Value.string r25.1)) (w' := w8) (wantG rfl rfl rfl hc27) rfl rfl (x_move (v := (Value.string r25.1)) rfl e16) ?_
        refine wpR_enter (wantG rfl rfl rfl hc27) rfl rfl (x_call (vs := [(Sl.v p2), (Value.string r25.1)]) rfl rfl (mapl_cons rfl (mapl_cons rfl mapl_nil)) Try.func12 NN_12 NB_12) (Calls.mono h ?_)
        rintro _ w9 ⟨r28, rfl, h⟩
        refine ⟨_, rfl, ?_⟩
        refine wpR_val (v := (Value.bool (!r28))) (w' := w9) (wantG rfl rfl rfl hc27) rfl rfl (x_not rfl rfl) ?_
        refine wpR_val (v := (Value.bool (!r28))) (w' := w9) rfl rfl rfl (x_pickF (v := (Value.bool (!r28))) rfl rfl hc27 rfl) ?_
        refine wpR_nil ?_
        exact ⟨!r28, ⟨rfl, e4, e11, e12, e13, trivial⟩, h⟩
    clear h
    rintro c29 ρ w10 ⟨e74, e4, e11, e12, e13, -⟩ h
    replace h := hk c29 w10 h
    clear hk
    refine wpR_nil ?_
    refine wpC_cond (b := c29) e74 (fun hc30 => ?_) (fun hc30 => ?_)
    · replace h := h.1 hc30
      refine wpC_seq ?_
      refine wpC_region ?_
      refine wpR_val (v := (Value.bool r9)) (w' := w10) rfl rfl rfl (x_move (v := (Value.bool r9)) rfl e11) ?_
      refine wpR_val (v := (Value.bool r9)) (w' := w10) rfl rfl rfl (x_assign (v := (Value.bool r9)) rfl rfl) ?_
      refine wpR_nil ?_
      refine wpC_ret ?_
      exact ⟨.inl rfl, fun a ha => ⟨_, results_rep1 rfl ha rfl, r9, rfl, h⟩⟩
    · replace h := h.2 hc30
      refine wpC_skip ?_
      refine wpC_seq ?_
      refine wpC_seq ?_
      refine wpC_region ?_
      refine wpR_val (v := (Value.bool r14.2)) (w' := w10) rfl rfl rfl (x_move (v := (Value.bool r14.2)) rfl e13) ?_
      refine wpR_val (v := (Value.bool (!r14.2))) (w' := w10) rfl rfl rfl (x_not rfl rfl) ?_
      refine wpR_val (v := (Value.bool (!r14.2))) (w' := w10) rfl rfl rfl (x_move (v := (Value.bool (!r14.2))) rfl rfl) ?_
      refine wpR_joinJ 6 (fun (_ : Unit) ρ => ρ 84 = Value.bool ((!r14.2) || (decide ((p4.len : Int) < (r14.1.len : Int)))) ∧ ρ 4 = (Sl.v p4) ∧ ρ 11 = (Value.bool r9) ∧ ρ 12 = (Sl.v r14.1) ∧ True) (fun _ w => w10 = w) ?_ ?_
      · clear h
        rcases Bool.eq_false_or_eq_true (!r14.2) with hc32 | hc32
        · skip
          refine wpR_pass (wantN rfl rfl rfl hc32) rfl rfl ?_
          refine wpR_pass (wantN rfl rfl rfl hc32) rfl rfl ?_
          refine wpR_pass (wantN rfl rfl rfl hc32) rfl rfl ?_
          refine wpR_pass (wantN rfl rfl rfl hc32) rfl rfl ?_
          refine wpR_pass (wantN rfl rfl rfl hc32) rfl rfl ?_
          refine wpR_val (v := (Value.bool true)) (w' := w10) rfl rfl rfl (x_pickT (v := (Value.bool true)) rfl rfl hc32 rfl) ?_
          refine wpR_nil ?_
          exact ⟨(), ⟨(by rw [hc32]; rfl), e4, e11, e12, trivial⟩, rfl⟩
        · skip
          refine wpR_val (v := (Sl.v r14.1)) (w' := w10) (wantG rfl rfl rfl hc32) rfl rfl (x_move (v := (Sl.v r14.1)) rfl e12) ?_
          refine wpR_val (v := (Value.int .i64 (r14.1.len : Int))) (w' := w10) (wantG rfl rfl rfl hc32) rfl rfl (x_lenS (s := r14.1) rfl rfl isSliceT_24) ?_
          refine wpR_val (v := (Sl.v p4)) (w' := w10) (wantG rfl rfl rfl hc32) rfl rfl (x_move (v := (Sl.v p4)) rfl e4) ?_
          refine wpR_val (v := (Value.int .i64 (p4.len : Int))) (w' := w10) (wantG rfl rfl rfl hc32) rfl rfl (x_lenS (s := p4) rfl rfl isSliceT_24) ?_
          refine wpR_val (v := (Value.bool (decide ((p4.len : Int) < (r14.1.len : Int))))) (w' := w10) (wantG rfl rfl rfl hc32) rfl rfl (x_gtr rfl rfl rfl) ?_
          refine wpR_val (v := (Value.bool (decide ((p4.len : Int) < (r14.1.len : Int))))) (w' := w10) rfl rfl rfl (x_pickF (v := (Value.bool (decide ((p4.len : Int) < (r14.1.len : Int))))) rfl rfl hc32 rfl) ?_
          refine wpR_nil ?_
          exact ⟨(), ⟨(by rw [hc32]; rfl), e4, e11, e12, trivial⟩, rfl⟩
      rintro _ ρ wj ⟨e84, e4, e11, e12, -⟩ rfl
      refine wpR_nil ?_
      refine wpC_cond (b := (!r14.2) || (decide ((p4.len : Int) < (r14.1.len : Int)))) e84 (fun hc33 => ?_) (fun hc33 => ?_)
      · replace h := h.1 hc33
        refine wpC_seq ?_
        refine wpC_region ?_
        refine wpR_val (v := (Value.bool false)) (w' := w10) rfl rfl rfl (x_assign (v := (Value.bool false)) rfl rfl) ?_
        refine wpR_nil ?_
        refine wpC_ret ?_
        exact ⟨.inl rfl, fun a ha => ⟨_, results_rep1 rfl ha rfl, false, rfl, h⟩⟩
      · replace h := h.2 hc33
        refine wpC_skip ?_
        refine wpC_seq ?_
        refine wpC_seq ?_
        refine wpC_region ?_
        refine wpR_val (v := (Value.int .i64 0)) (w' := w10) rfl rfl rfl (x_assign (v := (Value.int .i64 0)) rfl rfl) ?_
        refine wpR_nil ?_
        refine wpC_block ?_
        obtain ⟨I34, μ34, hI34, hr34⟩ := h
        refine wpC_loop (fun (x : Int) ρ => ρ 18 = (Value.int .i64 x) ∧ ρ 4 = (Sl.v p4) ∧ ρ 11 = (Value.bool r9) ∧ ρ 12 = (Sl.v r14.1) ∧ True) I34 μ34 0 ⟨rfl, e4, e11, e12, trivial⟩ hI34 ?_
        rintro l34 ρ w11 ⟨e18, e4, e11, e12, -⟩ h
        replace h := hr34 l34 w11 h
        clear hr34 hI34
        refine wpC_seq ?_
        refine wpC_seq ?_
        refine wpC_region ?_
        refine wpR_val (v := (Value.int .i64 l34)) (w' := w11) rfl rfl rfl (x_move (v := (Value.int .i64 l34)) rfl e18) ?_
        refine wpR_val (v := (Sl.v r14.1)) (w' := w11) rfl rfl rfl (x_move (v := (Sl.v r14.1)) rfl e12) ?_
        refine wpR_val (v := (Value.int .i64 (r14.1.len : Int))) (w' := w11) rfl rfl rfl (x_lenS (s := r14.1) rfl rfl isSliceT_24) ?_
        refine wpR_val (v := (Value.bool (decide (l34 < (r14.1.len : Int))))) (w' := w11) rfl rfl rfl (x_lss rfl rfl rfl) ?_
        refine wpR_val (v := (Value.bool (decide (l34 < (r14.1.len : Int))))) (w' := w11) rfl rfl rfl (x_move (v := (Value.bool (decide (l34 < (r14.1.len : Int))))) rfl rfl) ?_
        refine wpR_joinJ 6 (fun (_ : Unit) ρ => ρ 95 = Value.bool ((decide (l34 < (r14.1.len : Int))) && (decide ((r14.1.len : Int) = (p4.len : Int)))) ∧ ρ 4 = (Sl.v p4) ∧ ρ 11 = (Value.bool r9) ∧ ρ 12 = (Sl.v r14.1) ∧ ρ 18 = (Value.int .i64 l34) ∧ True) (fun _ w => w11 = w) ?_ ?_
        · clear h
          rcases Bool.eq_false_or_eq_true (decide (l34 < (r14.1.len : Int))) with hc36 | hc36
          · skip
            refine wpR_val (v := (Sl.v r14.1)) (w' := w11) (wantG rfl rfl rfl hc36) rfl rfl (x_move (v := (Sl.v r14.1)) rfl e12) ?_
            refine wpR_val (v := (Value.int .i64 (r14.1.len : Int))) (w' := w11) (wantG rfl rfl rfl hc36) rfl rfl (x_lenS (s := r14.1) rfl rfl isSliceT_24) ?_
            refine wpR_val (v := (Sl.v p4)) (w' := w11) (wantG rfl rfl rfl hc36) rfl rfl (x_move (v := (Sl.v p4)) rfl e4) ?_
            refine wpR_val (v := (Value.int .i64 (p4.len : Int))) (w' := w11) (wantG rfl rfl rfl hc36) rfl rfl (x_lenS (s := p4) rfl rfl isSliceT_24) ?_
            refine wpR_val (v := (Value.bool (decide ((r14.1.len : Int) = (p4.len : Int))))) (w' := w11) (wantG rfl rfl rfl hc36) rfl rfl (x_eql rfl rfl rfl) ?_
            refine wpR_val (v := (Value.bool (decide ((r14.1.len : Int) = (p4.len : Int))))) (w' := w11) rfl rfl rfl (x_pickT (v := (Value.bool (decide ((r14.1.len : Int) = (p4.len : Int))))) rfl rfl hc36 rfl) ?_
            refine wpR_nil ?_
            exact ⟨(), ⟨(by rw [hc36]; rfl), e4, e11, e12, e18, trivial⟩, rfl⟩
          · skip
            refine wpR_pass (wantN rfl rfl rfl hc36) rfl rfl ?_
            refine wpR_pass (wantN rfl rfl rfl hc36) rfl rfl ?_
            refine wpR_pass (wantN rfl rfl rfl hc36) rfl rfl ?_
            refine wpR_pass (wantN rfl rfl rfl hc36) rfl rfl ?_
            refine wpR_pass (wantN rfl rfl rfl hc36) rfl rfl ?_
            refine wpR_val (v := (Value.bool false)) (w' := w11) rfl rfl rfl (x_pickF (v := (Value.bool false)) rfl rfl hc36 rfl) ?_
            refine wpR_nil ?_
            exact ⟨(), ⟨(by rw [hc36]; rfl), e4, e11, e12, e18, trivial⟩, rfl⟩
        rintro _ ρ wj ⟨e95, e4, e11, e12, e18, -⟩ rfl
        refine wpR_nil ?_
        refine wpC_cond (b := (decide (l34 < (r14.1.len : Int))) && (decide ((r14.1.len : Int) = (p4.len : Int)))) e95 (fun hc37 => ?_) (fun hc37 => ?_)
        · replace h := h.1 hc37
          refine wpC_skip ?_
          refine wpC_seq ?_
          refine wpC_block ?_
          refine wpC_seq ?_
          refine wpC_seq ?_
          obtain ⟨J39, h, hk⟩ := h
          refine wpC_drawJ (by kernel_rfl) (fun (x : Bool) ρ => ρ 106 = (Value.bool x) ∧ ρ 4 = (Sl.v p4) ∧ ρ 11 = (Value.bool r9) ∧ ρ 12 = (Sl.v r14.1) ∧ ρ 18 = (Value.int .i64 l34) ∧ True) J39 ?_ ?_
          · clear hk
            unfold tk at h
            generalize w11.drew = w12 at h ⊢
            refine wpD_take (v := (Sl.v r14.1)) 0 (fun _ => True) rfl (by kernel_rfl) (by kernel_rfl) (by kernel_rfl) rfl rfl rfl trivial (fun w _ => (x_move (v := (Sl.v r14.1)) rfl e12)) ?_
            refine wpD_take (v := (Value.int .i64 l34)) 1 (fun _ => True) rfl (by kernel_rfl) (by kernel_rfl) (by kernel_rfl) rfl rfl rfl trivial (fun w _ => (x_move (v := (Value.int .i64 l34)) rfl e18)) ?_
            obtain ⟨q40, z40, r40, h⟩ := h
            generalize hp40 : z40.add ((l34 : Int).toNat * 1) = p40 at h
            refine wpD_take (v := (Value.pointer (some p40))) 2 (fun _ => True) rfl (by kernel_rfl) (by kernel_rfl) (by kernel_rfl) rfl rfl rfl trivial (fun w _ => ((x_indexAddr (s := r14.1) rfl rfl rfl ES_24 q40 r40).trans (by rw [hp40]))) ?_
            obtain ⟨x41, q41, h⟩ := h
            refine wpD_take (v := (Value.int .i64 x41)) 3 (fun w => w.cell? p40 = some (Value.int .i64 x41)) rfl (by kernel_rfl) (by kernel_rfl) (by kernel_rfl) rfl rfl rfl q41 (fun w q41 => (x_load1 rfl rfl SH_3 q41)) ?_
            refine wpD_take (v := (Sl.v p4)) 4 (fun _ => True) rfl (by kernel_rfl) (by kernel_rfl) (by kernel_rfl) rfl rfl rfl trivial (fun w _ => (x_move (v := (Sl.v p4)) rfl e4)) ?_
            refine wpD_take (v := (Value.int .i64 l34)) 5 (fun _ => True) rfl (by kernel_rfl) (by kernel_rfl) (by kernel_rfl) rfl rfl rfl trivial (fun w _ => (x_move (v := (Value.int .i64 l34)) rfl e18)) ?_
            obtain ⟨q42, z42, r42, h⟩ := h
            generalize hp42 : z42.add ((l34 : Int).toNat * 1) = p42 at h
            refine wpD_take (v := (Value.pointer (some p42))) 6 (fun _ => True) rfl (by kernel_rfl) (by kernel_rfl) (by kernel_rfl) rfl rfl rfl trivial (fun w _ => ((x_indexAddr (s := p4) rfl rfl rfl ES_24 q42 r42).trans (by rw [hp42]))) ?_
            obtain ⟨x43, q43, h⟩ := h
            refine wpD_take (v := (Value.int .i64 x43)) 7 (fun w => w.cell? p42 = some (Value.int .i64 x43)) rfl (by kernel_rfl) (by kernel_rfl) (by kernel_rfl) rfl rfl rfl q43 (fun w q43 => (x_load1 rfl rfl SH_3 q43)) ?_
            refine wpD_take (v := (Value.bool (decide (x43 < x41)))) 8 (fun _ => True) rfl (by kernel_rfl) (by kernel_rfl) (by kernel_rfl) rfl rfl rfl trivial (fun w _ => (x_gtr rfl rfl rfl)) ?_
            exact wpD_done (by kernel_rfl) ⟨decide (x43 < x41), ⟨rfl, e4, e11, e12, e18, trivial⟩, h⟩
          clear h
          rintro l44 ρ w13 ⟨e106, e4, e11, e12, e18, -⟩ h
          replace h := hk l44 w13 h
          clear hk
          refine wpC_cond (b := l44) e106 (fun hc45 => ?_) (fun hc45 => ?_)
          · replace h := h.1 hc45
            refine wpC_seq ?_
            refine wpC_region ?_
            refine wpR_val (v := (Value.bool false)) (w' := w13) rfl rfl rfl (x_assign (v := (Value.bool false)) rfl rfl) ?_
            refine wpR_nil ?_
            refine wpC_ret ?_
            exact ⟨.inl rfl, fun a ha => ⟨_, results_rep1 rfl ha rfl, false, rfl, h⟩⟩
          · replace h := h.2 hc45
            refine wpC_skip ?_
            refine wpC_seq ?_
            obtain ⟨J47, h, hk⟩ := h
            refine wpC_drawJ (by kernel_rfl) (fun (x : Bool) ρ => ρ 115 = (Value.bool x) ∧ ρ 4 = (Sl.v p4) ∧ ρ 11 = (Value.bool r9) ∧ ρ 12 = (Sl.v r14.1) ∧ ρ 18 = (Value.int .i64 l34) ∧ True) J47 ?_ ?_
            · clear hk
              unfold tk at h
              generalize w13.drew = w14 at h ⊢
              refine wpD_take (v := (Sl.v r14.1)) 0 (fun _ => True) rfl (by kernel_rfl) (by kernel_rfl) (by kernel_rfl) rfl rfl rfl trivial (fun w _ => (x_move (v := (Sl.v r14.1)) rfl e12)) ?_
              refine wpD_take (v := (Value.int .i64 l34)) 1 (fun _ => True) rfl (by kernel_rfl) (by kernel_rfl) (by kernel_rfl) rfl rfl rfl trivial (fun w _ => (x_move (v := (Value.int .i64 l34)) rfl e18)) ?_
              obtain ⟨q48, z48, r48, h⟩ := h
              generalize hp48 : z48.add ((l34 : Int).toNat * 1) = p48 at h
              refine wpD_take (v := (Value.pointer (some p48))) 2 (fun _ => True) rfl (by kernel_rfl) (by kernel_rfl) (by kernel_rfl) rfl rfl rfl trivial (fun w _ => ((x_indexAddr (s := r14.1) rfl rfl rfl ES_24 q48 r48).trans (by rw [hp48]))) ?_
              obtain ⟨x49, q49, h⟩ := h
              refine wpD_take (v := (Value.int .i64 x49)) 3 (fun w => w.cell? p48 = some (Value.int .i64 x49)) rfl (by kernel_rfl) (by kernel_rfl) (by kernel_rfl) rfl rfl rfl q49 (fun w q49 => (x_load1 rfl rfl SH_3 q49)) ?_
              refine wpD_take (v := (Sl.v p4)) 4 (fun _ => True) rfl (by kernel_rfl) (by kernel_rfl) (by kernel_rfl) rfl rfl rfl trivial (fun w _ => (x_move (v := (Sl.v p4)) rfl e4)) ?_
              refine wpD_take (v := (Value.int .i64 l34)) 5 (fun _ => True) rfl (by kernel_rfl) (by kernel_rfl) (by kernel_rfl) rfl rfl rfl trivial (fun w _ => (x_move (v := (Value.int .i64 l34)) rfl e18)) ?_
              obtain ⟨q50, z50, r50, h⟩ := h
              generalize hp50 : z50.add ((l34 : Int).toNat * 1) = p50 at h
              refine wpD_take (v := (Value.pointer (some p50))) 6 (fun _ => True) rfl (by kernel_rfl) (by kernel_rfl) (by kernel_rfl) rfl rfl rfl trivial (fun w _ => ((x_indexAddr (s := p4) rfl rfl rfl ES_24 q50 r50).trans (by rw [hp50]))) ?_
              obtain ⟨x51, q51, h⟩ := h
              refine wpD_take (v := (Value.int .i64 x51)) 7 (fun w => w.cell? p50 = some (Value.int .i64 x51)) rfl (by kernel_rfl) (by kernel_rfl) (by kernel_rfl) rfl rfl rfl q51 (fun w q51 => (x_load1 rfl rfl SH_3 q51)) ?_
              refine wpD_take (v := (Value.bool (decide (x49 < x51)))) 8 (fun _ => True) rfl (by kernel_rfl) (by kernel_rfl) (by kernel_rfl) rfl rfl rfl trivial (fun w _ => (x_lss rfl rfl rfl)) ?_
              exact wpD_done (by kernel_rfl) ⟨decide (x49 < x51), ⟨rfl, e4, e11, e12, e18, trivial⟩, h⟩
            clear h
            rintro l52 ρ w15 ⟨e115, e4, e11, e12, e18, -⟩ h
            replace h := hk l52 w15 h
            clear hk
            refine wpC_cond (b := l52) e115 (fun hc53 => ?_) (fun hc53 => ?_)
            · replace h := h.1 hc53
              refine wpC_seq ?_
              refine wpC_region ?_
              refine wpR_val (v := (Value.bool r9)) (w' := w15) rfl rfl rfl (x_move (v := (Value.bool r9)) rfl e11) ?_
              refine wpR_val (v := (Value.bool r9)) (w' := w15) rfl rfl rfl (x_assign (v := (Value.bool r9)) rfl rfl) ?_
              refine wpR_nil ?_
              refine wpC_ret ?_
              exact ⟨.inl rfl, fun a ha => ⟨_, results_rep1 rfl ha rfl, r9, rfl, h⟩⟩
            · replace h := h.2 hc53
              refine wpC_skip ?_
              refine wpC_region ?_
              refine wpR_val (v := (Value.int .i64 l34)) (w' := w15) rfl rfl rfl (x_move (v := (Value.int .i64 l34)) rfl e18) ?_
              refine wpR_val (v := (Value.int .i64 (IntKind.i64.wrap (l34 + 1)))) (w' := w15) rfl rfl rfl (x_add rfl rfl rfl) ?_
              refine wpR_val (v := (Value.int .i64 (IntKind.i64.wrap (l34 + 1)))) (w' := w15) rfl rfl rfl (x_assign (v := (Value.int .i64 (IntKind.i64.wrap (l34 + 1)))) rfl rfl) ?_
              refine wpR_nil ?_
              exact ⟨IntKind.i64.wrap (l34 + 1), ⟨rfl, e4, e11, e12, trivial⟩, h⟩
        · replace h := h.2 hc37
          refine wpC_exit ?_
          refine wpC_seq ?_
          refine wpC_region ?_
          refine wpR_val (v := (Value.bool r9)) (w' := w11) rfl rfl rfl (x_move (v := (Value.bool r9)) rfl e11) ?_
          refine wpR_val (v := (Value.bool r9)) (w' := w11) rfl rfl rfl (x_assign (v := (Value.bool r9)) rfl rfl) ?_
          refine wpR_nil ?_
          refine wpC_ret ?_
          exact ⟨.inl rfl, fun a ha => ⟨_, results_rep1 rfl ha rfl, r9, rfl, h⟩⟩

/-- lingualaw39.ConvertOnce -/
def F4 (p0 : Sl) (p1 : ByteArray) (p2 : Sl) (p3 : Int) (w0 : World) (K : Bool → World → Prop) : Prop :=
  callC Try.prog 8 #[] (fun (r : Bool) => (Value.bool r)) w0 fun r9 w1 =>
  callC Try.prog 9 #[(Sl.v p0), (Value.string p1), (Sl.v p2)] (fun (r : Bool) => (Value.bool r)) w1 fun r10 w2 =>
  cnd (!r10)
    (
    K r9 w2
    )
    (
    callC Try.prog 10 #[(Sl.v p0), (Value.string p1), (Sl.v p2), (Value.int .i64 p3)] (fun (r : Sl × Bool) => (Value.tuple #[(Sl.v r.1), (Value.bool r.2)])) w2 fun r12 w3 =>
    cnd (!r12.2)
      (
      K r9 w3
      )
      (
      lp (fun (next14 : (Sl × Int) → World → Prop) l14 w4 =>
        cnd (decide (l14.2 ≤ (r12.1.len : Int)))
          (
          rn Try.prog (Instr.sliceAt 24 (Sl.v r12.1) none (some (Value.int .i64 l14.2)) none) (fun (r : Sl) => (Sl.v r)) w4 fun r16 w5 =>
          callC Try.prog 11 #[(Sl.v p0), (Value.string p1), (Sl.v r16), (Value.int .i64 p3)] (fun (r : ByteArray × Bool) => (Value.tuple #[(Value.string r.1), (Value.bool r.2)])) w5 fun r17 w6 =>
          jn (fun J18 => cnd (!r17.2)
            (
            J18 true w6
            )
            (
            callC Try.prog 12 #[(Sl.v l14.1), (Value.string r17.1)] (fun (r : Bool) => (Value.bool r)) w6 fun r20 w7 =>
            J18 r20 w7
            ))
          fun c21 w8 =>
          jn (fun J22 => cnd (c21)
            (
            J22 true w8
            )
            (
            callC Try.prog 12 #[(Sl.v p2), (Value.string r17.1)] (fun (r : Bool) => (Value.bool r)) w8 fun r24 w9 =>
            J22 (!(r24 == (decide (l14.2 = (r12.1.len : Int))))) w9
            ))
          fun c25 w10 =>
          cnd (c25)
            (
            K false w10
            )
            (
            nw 9 #[(Value.string r17.1)] w10 fun b27 w11 =>
            rn Try.prog (Builtin.append_ #[23, 23] 23 #[Sl.v l14.1, Sl.v (⟨some ⟨b27, 0, none⟩, 1, 1⟩ : Sl)]) Sl.v w11 fun r28 w12 =>
            callC Try.prog 10 #[(Sl.v p0), (Value.string r17.1), (Sl.v p2), (Value.int .i64 p3)] (fun (r : Sl × Bool) => (Value.tuple #[(Sl.v r.1), (Value.bool r.2)])) w12 fun r29 w13 =>
            jn (fun J30 => cnd (!r29.2)
              (
              J30 true w13
              )
              (
              rn Try.prog (Instr.sliceAt 24 (Sl.v r12.1) (some (Value.int .i64 l14.2)) none none) (fun (r : Sl) => (Sl.v r)) w13 fun r32 w14 =>
              callC Try.prog 13 #[(Sl.v r29.1), (Sl.v r32)] (fun (r : Bool) => (Value.bool r)) w14 fun r33 w15 =>
              J30 (!r33) w15
              ))
            fun c34 w16 =>
            cnd (c34)
              (
              K false w16
              )
              (
              next14 (r28, IntKind.i64.wrap (l14.2 + 1)) w16
              )
            )
          )
          (
          K r9 w4
          )
      ) (Sl.nil, 0) w3
      )
    )
set_option maxRecDepth 100000 in
theorem D4 (p0 : Sl) (p1 : ByteArray) (p2 : Sl) (p3 : Int) (w0 : World) (K : Bool → World → Prop) (h : F4 p0 p1 p2 p3 w0 K) : callC Try.prog 4 #[(Sl.v p0), (Value.string p1), (Sl.v p2), (Value.int .i64 p3)] (fun (r : Bool) => (Value.bool r)) w0 K := by
  unfold F4 at h
  refine calls_of_wpC Try.func4 rfl 92 rfl (by simp) ?_
  intro ρ hρ
  have e0 : ρ 0 = (Sl.v p0) := hρ 0
  have e1 : ρ 1 = (Value.string p1) := hρ 1
  have e2 : ρ 2 = (Sl.v p2) := hρ 2
  have e3 : ρ 3 = (Value.int .i64 p3) := hρ 3
  clear hρ
  refine wpC_seq ?_
  refine wpC_region ?_
  refine wpR_val (v := (Value.bool false)) (w' := w0) rfl rfl rfl (x_assign (v := (Value.bool false)) rfl rfl) ?_
  refine wpR_nil ?_
  refine wpC_seq ?_
  refine wpC_cut (fun ρ => ρ 0 = (Sl.v p0) ∧ ρ 1 = (Value.string p1) ∧ ρ 2 = (Sl.v p2) ∧ ρ 3 = (Value.int .i64 p3) ∧ True) ⟨e0, e1, e2, e3, trivial⟩ ?_
  rintro ρ ⟨e0, e1, e2, e3, -⟩
  refine wpC_region ?_
  refine wpR_enter rfl rfl rfl (x_call (vs := []) rfl rfl mapl_nil Try.func8 NN_8 NB_8) (Calls.mono h ?_)
  rintro _ w1 ⟨r9, rfl, h⟩
  refine ⟨_, rfl, ?_⟩
  refine wpR_val (v := (Value.bool r9)) (w' := w1) rfl rfl rfl (x_assign (v := (Value.bool r9)) rfl rfl) ?_
  refine wpR_nil ?_
  refine wpC_seq ?_
  refine wpC_seq ?_
  refine wpC_cut (fun ρ => ρ 0 = (Sl.v p0) ∧ ρ 1 = (Value.string p1) ∧ ρ 2 = (Sl.v p2) ∧ ρ 3 = (Value.int .i64 p3) ∧ ρ 9 = (Value.bool r9) ∧ True) ⟨e0, e1, e2, e3, rfl, trivial⟩ ?_
  rintro ρ ⟨e0, e1, e2, e3, e9, -⟩
  refine wpC_region ?_
  refine wpR_val (v := (Sl.v p0)) (w' := w1) rfl rfl rfl (x_move (v := (Sl.v p0)) rfl e0) ?_
  refine wpR_val (v := (Value.string p1)) (w' := w1) rfl rfl rfl (x_move (v := (Value.string p1)) rfl e1) ?_
  refine wpR_val (v := (Sl.v p2)) (w' := w1) rfl rfl rfl (x_move (v := (Sl.v p2)) rfl e2) ?_
  refine wpR_enter rfl rfl rfl (x_call (vs := [(Sl.v p0), (Value.string p1), (Sl.v p2)]) rfl rfl (mapl_cons rfl (mapl_cons rfl (mapl_cons rfl mapl_nil))) Try.func9 NN_9 NB_9) (Calls.mono h ?_)
  rintro _ w2 ⟨r10, rfl, h⟩
  refine ⟨_, rfl, ?_⟩
  refine wpR_val (v := (Value.bool (!r10))) (w' := w2) rfl rfl rfl (x_not rfl rfl) ?_
  refine wpR_nil ?_
  refine wpC_cond (b := !r10) rfl (fun hc11 => ?_) (fun hc11 => ?_)
  · replace h := h.1 hc11
    refine wpC_seq ?_
    refine wpC_cut (fun ρ => ρ 9 = (Value.bool r9) ∧ True) ⟨e9, trivial⟩ ?_
    rintro ρ ⟨e9, -⟩
    refine wpC_region ?_
    refine wpR_val (v := (Value.bool r9)) (w' := w2) rfl rfl rfl (x_move (v := (Value.bool r9)) rfl e9) ?_
    refine wpR_val (v := (Value.bool r9)) (w' := w2) rfl rfl rfl (x_assign (v := (Value.bool r9)) rfl rfl) ?_
    refine wpR_nil ?_
    refine wpC_ret ?_
    exact ⟨.inl rfl, fun a ha => ⟨_, results_rep1 rfl ha rfl, r9, rfl, h⟩⟩
  · replace h := h.2 hc11
    refine wpC_skip ?_
    refine wpC_seq ?_
    refine wpC_cut (fun ρ => ρ 0 = (Sl.v p0) ∧ ρ 1 = (Value.string p1) ∧ ρ 2 = (Sl.v p2) ∧ ρ 3 = (Value.int .i64 p3) ∧ ρ 9 = (Value.bool r9) ∧ True) ⟨e0, e1, e2, e3, e9, trivial⟩ ?_
    rintro ρ ⟨e0, e1, e2, e3, e9, -⟩
    refine wpC_region ?_
    refine wpR_val (v := (Sl.v p0)) (w' := w2) rfl rfl rfl (x_move (v := (Sl.v p0)) rfl e0) ?_
    refine wpR_val (v := (Value.string p1)) (w' := w2) rfl rfl rfl (x_move (v := (Value.string p1)) rfl e1) ?_
    refine wpR_val (v := (Sl.v p2)) (w' := w2) rfl rfl rfl (x_move (v := (Sl.v p2)) rfl e2) ?_
    refine wpR_val (v := (Value.int .i64 p3)) (w' := w2) rfl rfl rfl (x_move (v := (Value.int .i64 p3)) rfl e3) ?_
    refine wpR_enter rfl rfl rfl (x_call (vs := [(Sl.v p0), (Value.string p1), (Sl.v p2), (Value.int .i64 p3)]) rfl rfl (mapl_cons rfl (mapl_cons rfl (mapl_cons rfl (mapl_cons rfl mapl_nil)))) Try.func10 NN_10 NB_10) (Calls.mono h ?_)
    rintro _ w3 ⟨r12, rfl, h⟩
    refine ⟨_, rfl, ?_⟩
    refine wpR_val (v := (Value.tuple #[(Sl.v r12.1), (Value.bool r12.2)])) (w' := w3) rfl rfl rfl (x_move (v := (Value.tuple #[(Sl.v r12.1), (Value.bool r12.2)])) rfl rfl) ?_
    refine wpR_val (v := (Sl.v r12.1)) (w' := w3) rfl rfl rfl (x_extract rfl rfl rfl) ?_
    refine wpR_val (v := (Value.bool r12.2)) (w' := w3) rfl rfl rfl (x_extract rfl rfl rfl) ?_
    refine wpR_val (v := (Sl.v r12.1)) (w' := w3) rfl rfl rfl (x_assign (v := (Sl.v r12.1)) rfl rfl) ?_
    refine wpR_val (v := (Value.bool r12.2)) (w' := w3) rfl rfl rfl (x_assign (v := (Value.bool r12.2)) rfl rfl) ?_
    refine wpR_nil ?_
    refine wpC_seq ?_
    refine wpC_seq ?_
    refine wpC_cut (fun ρ => ρ 0 = (Sl.v p0) ∧ ρ 1 = (Value.string p1) ∧ ρ 2 = (Sl.v p2) ∧ ρ 3 = (Value.int .i64 p3) ∧ ρ 9 = (Value.bool r9) ∧ ρ 10 = (Sl.v r12.1) ∧ ρ 11 = (Value.bool r12.2) ∧ True) ⟨e0, e1, e2, e3, e9, rfl, rfl, trivial⟩ ?_
    rintro ρ ⟨e0, e1, e2, e3, e9, e10, e11, -⟩
    refine wpC_region ?_
    refine wpR_val (v := (Value.bool r12.2)) (w' := w3) rfl rfl rfl (x_move (v := (Value.bool r12.2)) rfl e11) ?_
    refine wpR_val (v := (Value.bool (!r12.2))) (w' := w3) rfl rfl rfl (x_not rfl rfl) ?_
    refine wpR_nil ?_
    refine wpC_cond (b := !r12.2) rfl (fun hc13 => ?_) (fun hc13 => ?_)
    · replace h := h.1 hc13
      refine wpC_seq ?_
      refine wpC_cut (fun ρ => ρ 9 = (Value.bool r9) ∧ True) ⟨e9, trivial⟩ ?_
      rintro ρ ⟨e9, -⟩
      refine wpC_region ?_
      refine wpR_val (v := (Value.bool r9)) (w' := w3) rfl rfl rfl (x_move (v := (Value.bool r9)) rfl e9) ?_
      refine wpR_val (v := (Value.bool r9)) (w' := w3) rfl rfl rfl (x_assign (v := (Value.bool r9)) rfl rfl) ?_
      refine wpR_nil ?_
      refine wpC_ret ?_
      exact ⟨.inl rfl, fun a ha => ⟨_, results_rep1 rfl ha rfl, r9, rfl, h⟩⟩
    · replace h := h.2 hc13
      refine wpC_skip ?_
      refine wpC_seq ?_
      refine wpC_cut (fun ρ => ρ 0 = (Sl.v p0) ∧ ρ 1 = (Value.string p1) ∧ ρ 2 = (Sl.v p2) ∧ ρ 3 = (Value.int .i64 p3) ∧ ρ 9 = (Value.bool r9) ∧ ρ 10 = (Sl.v r12.1) ∧ True) ⟨e0, e1, e2, e3, e9, e10, trivial⟩ ?_
      rintro ρ ⟨e0, e1, e2, e3, e9, e10, -⟩
      refine wpC_region ?_
      refine wpR_val (v := (Sl.v Sl.nil)) (w' := w3) rfl rfl rfl (x_assign (v := (Sl.v Sl.nil)) rfl rfl) ?_
      refine wpR_nil ?_
      refine wpC_seq ?_
      refine wpC_seq ?_
      refine wpC_cut (fun ρ => ρ 0 = (Sl.v p0) ∧ ρ 1 = (Value.string p1) ∧ ρ 2 = (Sl.v p2) ∧ ρ 3 = (Value.int .i64 p3) ∧ ρ 9 = (Value.bool r9) ∧ ρ 10 = (Sl.v r12.1) ∧ ρ 12 = (Sl.v Sl.nil) ∧ True) ⟨e0, e1, e2, e3, e9, e10, rfl, trivial⟩ ?_
      rintro ρ ⟨e0, e1, e2, e3, e9, e10, e12, -⟩
      refine wpC_region ?_
      refine wpR_val (v := (Value.int .i64 0)) (w' := w3) rfl rfl rfl (x_assign (v := (Value.int .i64 0)) rfl rfl) ?_
      refine wpR_nil ?_
      refine wpC_block ?_
      obtain ⟨I14, μ14, hI14, hr14⟩ := h
      refine wpC_loop (fun (x : Sl × Int) ρ => ρ 12 = (Sl.v x.1) ∧ ρ 13 = (Value.int .i64 x.2) ∧ ρ 0 = (Sl.v p0) ∧ ρ 1 = (Value.string p1) ∧ ρ 2 = (Sl.v p2) ∧ ρ 3 = (Value.int .i64 p3) ∧ ρ 9 = (Value.bool r9) ∧ ρ 10 = (Sl.v r12.1) ∧ True) I14 μ14 (Sl.nil, 0) ⟨e12, rfl, e0, e1, e2, e3, e9, e10, trivial⟩ hI14 ?_
      rintro l14 ρ w4 ⟨e12, e13, e0, e1, e2, e3, e9, e10, -⟩ h
      replace h := hr14 l14 w4 h
      clear hr14 hI14
      refine wpC_seq ?_
      refine wpC_seq ?_
      refine wpC_region ?_
      refine wpR_val (v := (Value.int .i64 l14.2)) (w' := w4) rfl rfl rfl (x_move (v := (Value.int .i64 l14.2)) rfl e13) ?_
      refine wpR_val (v := (Sl.v r12.1)) (w' := w4) rfl rfl rfl (x_move (v := (Sl.v r12.1)) rfl e10) ?_
      refine wpR_val (v := (Value.int .i64 (r12.1.len : Int))) (w' := w4) rfl rfl rfl (x_lenS (s := r12.1) rfl rfl isSliceT_24) ?_
      refine wpR_val (v := (Value.bool (decide (l14.2 ≤ (r12.1.len : Int))))) (w' := w4) rfl rfl rfl (x_leq rfl rfl rfl) ?_
      refine wpR_nil ?_
      refine wpC_cond (b := decide (l14.2 ≤ (r12.1.len : Int))) rfl (fun hc15 => ?_) (fun hc15 => ?_)
      · replace h := h.1 hc15
        refine wpC_skip ?_
        refine wpC_seq ?_
        refine wpC_block ?_
        refine wpC_seq ?_
        refine wpC_cut (fun ρ => ρ 0 = (Sl.v p0) ∧ ρ 1 = (Value.string p1) ∧ ρ 2 = (Sl.v p2) ∧ ρ 3 = (Value.int .i64 p3) ∧ ρ 9 = (Value.bool r9) ∧ ρ 10 = (Sl.v r12.1) ∧ ρ 12 = (Sl.v l14.1) ∧ ρ 13 = (Value.int .i64 l14.2) ∧ True) ⟨e0, e1, e2, e3, e9, e10, e12, e13, trivial⟩ ?_
        rintro ρ ⟨e0, e1, e2, e3, e9, e10, e12, e13, -⟩
        refine wpC_region ?_
        refine wpR_val (v := (Sl.v p0)) (w' := w4) rfl rfl rfl (x_move (v := (Sl.v p0)) rfl e0) ?_
        refine wpR_val (v := (Value.string p1)) (w' := w4) rfl rfl rfl (x_move (v := (Value.string p1)) rfl e1) ?_
        refine wpR_val (v := (Sl.v r12.1)) (w' := w4) rfl rfl rfl (x_move (v := (Sl.v r12.1)) rfl e10) ?_
        refine wpR_val (v := (Value.int .i64 l14.2)) (w' := w4) rfl rfl rfl (x_move (v := (Value.int .i64 l14.2)) rfl e13) ?_
        obtain ⟨r16, w5, q16, h⟩ := h
        refine wpR_val (v := (Sl.v r16)) (w' := w5) rfl rfl rfl (x_sliceAt rfl rfl rfl (congrArg some rfl) rfl q16) ?_
        refine wpR_val (v := (Value.int .i64 p3)) (w' := w5) rfl rfl rfl (x_move (v := (Value.int .i64 p3)) rfl e3) ?_
        refine wpR_enter rfl rfl rfl (x_call (vs := [(Sl.v p0), (Value.string p1), (Sl.v r16), (Value.int .i64 p3)]) rfl rfl (mapl_cons rfl (mapl_cons rfl (mapl_cons rfl (mapl_cons rfl mapl_nil)))) Try.func11 NN_11 NB_11) (Calls.mono h ?_)
        rintro _ w6 ⟨r17, rfl, h⟩
        refine ⟨_, rfl, ?_⟩
        refine wpR_val (v := (Value.tuple #[(Value.string r17.1), (Value.bool r17.2)])) (w' := w6) rfl rfl rfl (x_move (v := (Value.tuple #[(Value.string r17.1), (Value.bool r17.2)])) rfl rfl) ?_
        refine wpR_val (v := (Value.string r17.1)) (w' := w6) rfl rfl rfl (x_extract rfl rfl rfl) ?_
        refine wpR_val (v := (Value.bool r17.2)) (w' := w6) rfl rfl rfl (x_extract rfl rfl rfl) ?_
        refine wpR_val (v := (Value.string r17.1)) (w' := w6) rfl rfl rfl (x_assign (v := (Value.string r17.1)) rfl rfl) ?_
        refine wpR_val (v := (Value.bool r17.2)) (w' := w6) rfl rfl rfl (x_assign (v := (Value.bool r17.2)) rfl rfl) ?_
        refine wpR_nil ?_
        refine wpC_seq ?_
        refine wpC_seq ?_
        refine wpC_cut (fun ρ => ρ 0 = (Sl.v p0) ∧ ρ 1 = (Value.string p1) ∧ ρ 2 = (Sl.v p2) ∧ ρ 3 = (Value.int .i64 p3) ∧ ρ 9 = (Value.bool r9) ∧ ρ 10 = (Sl.v r12.1) ∧ ρ 12 = (Sl.v l14.1) ∧ ρ 13 = (Value.int .i64 l14.2) ∧ ρ 14 = (Value.string r17.1) ∧ ρ 15 = (Value.bool r17.2) ∧ True) ⟨e0, e1, e2, e3, e9, e10, e12, e13, rfl, rfl, trivial⟩ ?_
        rintro ρ ⟨e0, e1, e2, e3, e9, e10, e12, e13, e14, e15, -⟩
        refine wpC_region ?_
        refine wpR_val (v := (Value.bool r17.2)) (w' := w6) rfl rfl rfl (x_move (v := (Value.bool r17.2)) rfl e15) ?_
        refine wpR_val (v := (Value.bool (!r17.2))) (w' := w6) rfl rfl rfl (x_not rfl rfl) ?_
        refine wpR_val (v := (Value.bool (!r17.2))) (w' := w6) rfl rfl rfl (x_move (v := (Value.bool (!r17.2))) rfl rfl) ?_
        obtain ⟨J18, h, hk⟩ := h
        refine wpR_joinJ 4 (fun x ρ => ρ 58 = Value.bool x ∧ ρ 0 = (Sl.v p0) ∧ ρ 1 = (Value.string p1) ∧ ρ 2 = (Sl.v p2) ∧ ρ 3 = (Value.int .i64 p3) ∧ ρ 9 = (Value.bool r9) ∧ ρ 10 = (Sl.v r12.1) ∧ ρ 12 = (Sl.v l14.1) ∧ ρ 13 = (Value.int .i64 l14.2) ∧ ρ 14 = (Value.string r17.1) ∧ True) (J18) ?_ ?_
        · clear hk
          rcases Bool.eq_false_or_eq_true (!r17.2) with hc19 | hc19
          · replace h := h.1 hc19
            refine wpR_pass (wantN rfl rfl rfl hc19) rfl rfl ?_
            refine wpR_pass (wantN rfl rfl rfl hc19) rfl rfl ?_
            refine wpR_pass (wantN rfl rfl rfl hc19) rfl rfl ?_
            refine wpR_val (v := (Value.bool true)) (w' := w6) rfl rfl rfl (x_pickT (v := (Value.bool true)) rfl rfl hc19 rfl) ?_
            refine wpR_nil ?_
            exact ⟨true, ⟨rfl, e0, e1, e2, e3, e9, e10, e12, e13, e14, trivial⟩, h⟩
          · replace h := h.2 hc19
            refine wpR_val (v := (Sl.v l14.1)) (w' := w6) (wantG rfl rfl rfl hc19) rfl rfl (x_move (v := (Sl.v l14.1)) rfl e12) ?_
            refine wpR_val (v := (Value.string r17.1)) (w' := w6) (wantG rfl rfl rfl hc19) rfl rfl (x_move (v := (Value.string r17.1)) rfl e14) ?_
            refine wpR_enter (wantG rfl rfl rfl hc19) rfl rfl (x_call (vs := [(Sl.v l14.1), (Value.string r17.1)]) rfl rfl (mapl_cons rfl (mapl_cons rfl mapl_nil)) Try.func12 NN_12 NB_12) (Calls.mono h ?_)
            rintro _ w7 ⟨r20, rfl, h⟩
            refine ⟨_, rfl, ?_⟩
            refine wpR_val (v := (Value.bool r20)) (w' := w7) rfl rfl rfl (x_pickF (v := (Value.bool r20)) rfl rfl hc19 rfl) ?_
            refine wpR_nil ?_
            exact ⟨r20, ⟨rfl, e0, e1, e2, e3, e9, e10, e12, e13, e14, trivial⟩, h⟩
        clear h
        rintro c21 ρ w8 ⟨e58, e0, e1, e2, e3, e9, e10, e12, e13, e14, -⟩ h
        replace h := hk c21 w8 h
        clear hk
        refine wpR_val (v := (Value.bool c21)) (w' := w8) rfl rfl rfl (x_move (v := (Value.bool c21)) rfl e58) ?_
        obtain ⟨J22, h, hk⟩ := h
        refine wpR_joinJ 9 (fun x ρ => ρ 68 = Value.bool x ∧ ρ 0 = (Sl.v p0) ∧ ρ 1 = (Value.string p1) ∧ ρ 2 = (Sl.v p2) ∧ ρ 3 = (Value.int .i64 p3) ∧ ρ 9 = (Value.bool r9) ∧ ρ 10 = (Sl.v r12.1) ∧ ρ 12 = (Sl.v l14.1) ∧ ρ 13 = (Value.int .i64 l14.2) ∧ ρ 14 = (Value.string r17.1) ∧ True) (J22) ?_ ?_
        · clear hk
          rcases Bool.eq_false_or_eq_true (c21) with hc23 | hc23
          · replace h := h.1 hc23
            refine wpR_pass (wantN rfl rfl rfl hc23) rfl rfl ?_
            refine wpR_pass (wantN rfl rfl rfl hc23) rfl rfl ?_
            refine wpR_pass (wantN rfl rfl rfl hc23) rfl rfl ?_
            refine wpR_pass (wantN rfl rfl rfl hc23) rfl rfl ?_
            refine wpR_pass (wantN rfl rfl rfl hc23) rfl rfl ?_
            refine wpR_pass (wantN rfl rfl rfl hc23) rfl rfl ?_
            refine wpR_pass (wantN rfl rfl rfl hc23) rfl rfl ?_
            refine wpR_pass (wantN rfl rfl rfl hc23) rfl rfl ?_
            refine wpR_val (v := (Value.bool true)) (w' := w8) rfl rfl rfl (x_pickT (v := (Value.bool true)) rfl rfl hc23 rfl) ?_
            refine wpR_nil ?_
            exact ⟨true, ⟨rfl, e0, e1, e2, e3, e9, e10, e12, e13, e14, trivial⟩, h⟩
          · replace h := h.2 hc23
            refine wpR_val (v := (Sl.v p2)) (w' := w8) (wantG rfl rfl rfl hc23) rfl rfl (x_move (v := (Sl.v p2)) rfl e2) ?_
            refine wpR_val (v := (Value.string r17.1)) (w' := w8) (wantG rfl rfl rfl hc23) rfl rfl (x_move (v := (Value.string r17.1)) rfl e14) ?_
            refine wpR_enter (wantG rfl rfl rfl hc23) rfl rfl (x_call (vs := [(Sl.v p2), (Value.string r17.1)]) rfl rfl (mapl_cons rfl (mapl_cons rfl mapl_nil)) Try.func12 NN_12 NB_12) (Calls.mono h ?_)
            rintro _ w9 ⟨r24, rfl, h⟩
            refine ⟨_, rfl, ?_⟩
            refine wpR_val (v := (Value.int .i64 l14.2)) (w' := w9) (wantG rfl rfl rfl hc23) rfl rfl (x_move (v := (Value.int .i64 l14.2)) rfl e13) ?_
            refine wpR_val (v := (Sl.v r12.1)) (w' := w9) (wantG rfl rfl rfl hc23) rfl rfl (x_move (v := (Sl.v r12.1)) rfl e10) ?_
            refine wpR_val (v := (Value.int .i64 (r12.1.len : Int))) (w' := w9) (wantG rfl rfl rfl hc23) rfl rfl (x_lenS (s := r12.1) rfl rfl isSliceT_24) ?_
            refine wpR_val (v := (Value.bool (decide (l14.2 = (r12.1.len : Int))))) (w' := w9) (wantG rfl rfl rfl hc23) rfl rfl (x_eql rfl rfl rfl) ?_
            refine wpR_val (v := (Value.bool (!(r24 == (decide (l14.2 = (r12.1.len : Int))))))) (w' := w9) (wantG rfl rfl rfl hc23) rfl rfl (x_neqB rfl rfl rfl isBoolT_4) ?_
            refine wpR_val (v := (Value.bool (!(r24 == (decide (l14.2 = (r12.1.len : Int))))))) (w' := w9) rfl rfl rfl (x_pickF (v := (Value.bool (!(r24 == (decide (l14.2 = (r12.1.len : Int))))))) rfl rfl hc23 rfl) ?_
            refine wpR_nil ?_
            exact ⟨!(r24 == (decide (l14.2 = (r12.1.len : Int)))), ⟨rfl, e0, e1, e2, e3, e9, e10, e12, e13, e14, trivial⟩, h⟩
        clear h
        rintro c25 ρ w10 ⟨e68, e0, e1, e2, e3, e9, e10, e12, e13, e14, -⟩ h
        replace h := hk c25 w10 h
        clear hk
        refine wpR_nil ?_
        refine wpC_cond (b := c25) e68 (fun hc26 => ?_) (fun hc26 => ?_)
        · replace h := h.1 hc26
          refine wpC_seq ?_
          refine wpC_region ?_
          refine wpR_val (v := (Value.bool false)) (w' := w10) rfl rfl rfl (x_assign (v := (Value.bool false)) rfl rfl) ?_
          refine wpR_nil ?_
          refine wpC_ret ?_
          exact ⟨.inl rfl, fun a ha => ⟨_, results_rep1 rfl ha rfl, false, rfl, h⟩⟩
        · replace h := h.2 hc26
          refine wpC_skip ?_
          refine wpC_seq ?_
          refine wpC_region ?_
          refine wpR_val (v := (Sl.v l14.1)) (w' := w10) rfl rfl rfl (x_move (v := (Sl.v l14.1)) rfl e12) ?_
          refine wpR_val (v := (Value.string r17.1)) (w' := w10) rfl rfl rfl (x_move (v := (Value.string r17.1)) rfl e14) ?_
          obtain ⟨b27, hb27⟩ : ∃ u, u = w10.heap.size := ⟨_, rfl⟩
          obtain ⟨w11, hw27⟩ : ∃ u, u = w10.alloc (.cells #[(Value.string r17.1)] 9) := ⟨_, rfl⟩
          replace h := h b27 w11 hb27 hw27
          refine wpR_val (v := (Sl.v (⟨some ⟨b27, 0, none⟩, 1, 1⟩ : Sl))) (w' := w11) rfl rfl rfl ((x_buildSlice (qs := [(0, (Value.string r17.1))]) rfl (by rfl) (BS_23_1_0 r17.1)).trans (by rw [← hb27, ← hw27])) ?_
          obtain ⟨r28, w12, q28, h⟩ := h
          refine wpR_val (v := (Sl.v r28)) (w' := w12) rfl rfl rfl (x_append (s := l14.1) (u := (⟨some ⟨b27, 0, none⟩, 1, 1⟩ : Sl)) rfl rfl rfl rfl q28) ?_
          refine wpR_val (v := (Sl.v r28)) (w' := w12) rfl rfl rfl (x_assign (v := (Sl.v r28)) rfl rfl) ?_
          refine wpR_nil ?_
          refine wpC_seq ?_
          refine wpC_cut (fun ρ => ρ 0 = (Sl.v p0) ∧ ρ 1 = (Value.string p1) ∧ ρ 2 = (Sl.v p2) ∧ ρ 3 = (Value.int .i64 p3) ∧ ρ 9 = (Value.bool r9) ∧ ρ 10 = (Sl.v r12.1) ∧ ρ 12 = (Sl.v r28) ∧ ρ 13 = (Value.int .i64 l14.2) ∧ ρ 14 = (Value.string r17.1) ∧ True) ⟨e0, e1, e2, e3, e9, e10, rfl, e13, e14, trivial⟩ ?_
          rintro ρ ⟨e0, e1, e2, e3, e9, e10, e12, e13, e14, -⟩
          refine wpC_region ?_
          refine wpR_val (v := (Sl.v p0)) (w' := w12) rfl rfl rfl (x_move (v := (Sl.v p0)) rfl e0) ?_
          refine wpR_val (v := (Value.string r17.1)) (w' := w12) rfl rfl rfl (x_move (v := (Value.string r17.1)) rfl e14) ?_
          refine wpR_val (v := (Sl.v p2)) (w' := w12) rfl rfl rfl (x_move (v := (Sl.v p2)) rfl e2) ?_
          refine wpR_val (v := (Value.int .i64 p3)) (w' := w12) rfl rfl rfl (x_move (v := (Value.int .i64 p3)) rfl e3) ?_
          refine wpR_enter rfl rfl rfl (x_call (vs := [(Sl.v p0), (Value.string r17.1), (Sl.v p2), (Value.int .i64 p3)]) rfl rfl (mapl_cons rfl (mapl_cons rfl (mapl_cons rfl (mapl_cons rfl mapl_nil)))) Try.func10 NN_10 NB_10) (Calls.mono h ?_)
          rintro _ w13 ⟨r29, rfl, h⟩
          refine ⟨_, rfl, ?_⟩
          refine wpR_val (v := (Value.tuple #[(Sl.v r29.1), (Value.bool r29.2)])) (w' := w13) rfl rfl rfl (x_move (v := (Value.tuple #[(Sl.v r29.1), (Value.bool r29.2)])) rfl rfl) ?_
          refine wpR_val (v := (Sl.v r29.1)) (w' := w13) rfl rfl rfl (x_extract rfl rfl rfl) ?_
          refine wpR_val (v := (Value.bool r29.2)) (w' := w13) rfl rfl rfl (x_extract rfl rfl rfl) ?_
          refine wpR_val (v := (Sl.v r29.1)) (w' := w13) rfl rfl rfl (x_assign (v := (Sl.v r29.1)) rfl rfl) ?_
          refine wpR_val (v := (Value.bool r29.2)) (w' := w13) rfl rfl rfl (x_assign (v := (Value.bool r29.2)) rfl rfl) ?_
          refine wpR_nil ?_
          refine wpC_seq ?_
          refine wpC_cut (fun ρ => ρ 0 = (Sl.v p0) ∧ ρ 1 = (Value.string p1) ∧ ρ 2 = (Sl.v p2) ∧ ρ 3 = (Value.int .i64 p3) ∧ ρ 9 = (Value.bool r9) ∧ ρ 10 = (Sl.v r12.1) ∧ ρ 12 = (Sl.v r28) ∧ ρ 13 = (Value.int .i64 l14.2) ∧ ρ 16 = (Sl.v r29.1) ∧ ρ 17 = (Value.bool r29.2) ∧ True) ⟨e0, e1, e2, e3, e9, e10, e12, e13, rfl, rfl, trivial⟩ ?_
          rintro ρ ⟨e0, e1, e2, e3, e9, e10, e12, e13, e16, e17, -⟩
          refine wpC_region ?_
          refine wpR_val (v := (Value.bool r29.2)) (w' := w13) rfl rfl rfl (x_move (v := (Value.bool r29.2)) rfl e17) ?_
          refine wpR_val (v := (Value.bool (!r29.2))) (w' := w13) rfl rfl rfl (x_not rfl rfl) ?_
          refine wpR_val (v := (Value.bool (!r29.2))) (w' := w13) rfl rfl rfl (x_move (v := (Value.bool (!r29.2))) rfl rfl) ?_
          obtain ⟨J30, h, hk⟩ := h
          refine wpR_joinJ 7 (fun x ρ => ρ 90 = Value.bool x ∧ ρ 0 = (Sl.v p0) ∧ ρ 1 = (Value.string p1) ∧ ρ 2 = (Sl.v p2) ∧ ρ 3 = (Value.int .i64 p3) ∧ ρ 9 = (Value.bool r9) ∧ ρ 10 = (Sl.v r12.1) ∧ ρ 12 = (Sl.v r28) ∧ ρ 13 = (Value.int .i64 l14.2) ∧ True) (J30) ?_ ?_
          · clear hk
            rcases Bool.eq_false_or_eq_true (!r29.2) with hc31 | hc31
            · replace h := h.1 hc31
              refine wpR_pass (wantN rfl rfl rfl hc31) rfl rfl ?_
              refine wpR_pass (wantN rfl rfl rfl hc31) rfl rfl ?_
              refine wpR_pass (wantN rfl rfl rfl hc31) rfl rfl ?_
              refine wpR_pass (wantN rfl rfl rfl hc31) rfl rfl ?_
              refine wpR_pass (wantN rfl rfl rfl hc31) rfl rfl ?_
              refine wpR_pass (wantN rfl rfl rfl hc31) rfl rfl ?_
              refine wpR_val (v := (Value.bool true)) (w' := w13) rfl rfl rfl (x_pickT (v := (Value.bool true)) rfl rfl hc31 rfl) ?_
              refine wpR_nil ?_
              exact ⟨true, ⟨rfl, e0, e1, e2, e3, e9, e10, e12, e13, trivial⟩, h⟩
            · replace h := h.2 hc31
              refine wpR_val (v := (Sl.v r29.1)) (w' := w13) (wantG rfl rfl rfl hc31) rfl rfl (x_move (v := (Sl.v r29.1)) rfl e16) ?_
              refine wpR_val (v := (Sl.v r12.1)) (w' := w13) (wantG rfl rfl rfl hc31) rfl rfl (x_move (v := (Sl.v r12.1)) rfl e10) ?_
              refine wpR_val (v := (Value.int .i64 l14.2)) (w' := w13) (wantG rfl rfl rfl hc31) rfl rfl (x_move (v := (Value.int .i64 l14.2)) rfl e13) ?_
              obtain ⟨r32, w14, q32, h⟩ := h
              refine wpR_val (v := (Sl.v r32)) (w' := w14) (wantG rfl rfl rfl hc31) rfl rfl (x_sliceAt rfl rfl (congrArg some rfl) rfl rfl q32) ?_
              refine wpR_enter (wantG rfl rfl rfl hc31) rfl rfl (x_call (vs := [(Sl.v r29.1), (Sl.v r32)]) rfl rfl (mapl_cons rfl (mapl_cons rfl mapl_nil)) Try.func13 NN_13 NB_13) (Calls.mono h ?_)
              rintro _ w15 ⟨r33, rfl, h⟩
              refine ⟨_, rfl, ?_⟩
              refine wpR_val (v := (Value.bool (!r33))) (w' := w15) (wantG rfl rfl rfl hc31) rfl rfl (x_not rfl rfl) ?_
              refine wpR_val (v := (Value.bool (!r33))) (w' := w15) rfl rfl rfl (x_pickF (v := (Value.bool (!r33))) rfl rfl hc31 rfl) ?_
              refine wpR_nil ?_
              exact ⟨!r33, ⟨rfl, e0, e1, e2, e3, e9, e10, e12, e13, trivial⟩, h⟩
          clear h
          rintro c34 ρ w16 ⟨e90, e0, e1, e2, e3, e9, e10, e12, e13, -⟩ h
          replace h := hk c34 w16 h
          clear hk
          refine wpR_nil ?_
          refine wpC_cond (b := c34) e90 (fun hc35 => ?_) (fun hc35 => ?_)
          · replace h := h.1 hc35
            refine wpC_seq ?_
            refine wpC_region ?_
            refine wpR_val (v := (Value.bool false)) (w' := w16) rfl rfl rfl (x_assign (v := (Value.bool false)) rfl rfl) ?_
            refine wpR_nil ?_
            refine wpC_ret ?_
            exact ⟨.inl rfl, fun a ha => ⟨_, results_rep1 rfl ha rfl, false, rfl, h⟩⟩
          · replace h := h.2 hc35
            refine wpC_skip ?_
            refine wpC_region ?_
            refine wpR_val (v := (Value.int .i64 l14.2)) (w' := w16) rfl rfl rfl (x_move (v := (Value.int .i64 l14.2)) rfl e13) ?_
            refine wpR_val (v := (Value.int .i64 (IntKind.i64.wrap (l14.2 + 1)))) (w' := w16) rfl rfl rfl (x_add rfl rfl rfl) ?_
            refine wpR_val (v := (Value.int .i64 (IntKind.i64.wrap (l14.2 + 1)))) (w' := w16) rfl rfl rfl (x_assign (v := (Value.int .i64 (IntKind.i64.wrap (l14.2 + 1)))) rfl rfl) ?_
            refine wpR_nil ?_
            exact ⟨(r28, IntKind.i64.wrap (l14.2 + 1)), ⟨e12, rfl, e0, e1, e2, e3, e9, e10, trivial⟩, h⟩
      · replace h := h.2 hc15
        refine wpC_exit ?_
        refine wpC_seq ?_
        refine wpC_cut (fun ρ => ρ 9 = (Value.bool r9) ∧ True) ⟨e9, trivial⟩ ?_
        rintro ρ ⟨e9, -⟩
        refine wpC_region ?_
        refine wpR_val (v := (Value.bool r9)) (w' := w4) rfl rfl rfl (x_move (v := (Value.bool r9)) rfl e9) ?_
        refine wpR_val (v := (Value.bool r9)) (w' := w4) rfl rfl rfl (x_assign (v := (Value.bool r9)) rfl rfl) ?_
        refine wpR_nil ?_
        refine wpC_ret ?_
        exact ⟨.inl rfl, fun a ha => ⟨_, results_rep1 rfl ha rfl, r9, rfl, h⟩⟩

/-- lingualaw39.ConvertMore -/
def F5 (p0 : Sl) (p1 : ByteArray) (p2 : Sl) (p3 : Int) (p4_0 : ByteArray) (p4_1 : ByteArray) (p4_2 : Int) (p5 : ByteArray) (p6 : Int) (w0 : World) (K : Bool → World → Prop) : Prop :=
  nw 36 #[(Value.string p4_0), (Value.string p4_1), (Value.int .i64 p4_2)] w0 fun b9 w1 =>
  callC Try.prog 8 #[] (fun (r : Bool) => (Value.bool r)) w1 fun r10 w2 =>
  callC Try.prog 9 #[(Sl.v p0), (Value.string p1), (Sl.v p2)] (fun (r : Bool) => (Value.bool r)) w2 fun r11 w3 =>
  jp (fun J16 => cnd (((!r11) || (decide (11 < (p0.len : Int)))) || (decide (19 < (p2.len : Int))))
    (
    J16 true
    )
    (
    ld Value.string ((Addr.mk b9 0 none).add 0) w3 fun x18 =>
    J16 (decide (20 < (x18.size : Int)))
    ))
  fun c19 =>
  jp (fun J20 => cnd (c19)
    (
    J20 true
    )
    (
    ld Value.string ((Addr.mk b9 0 none).add 1) w3 fun x22 =>
    J20 (decide (20 < (x22.size : Int)))
    ))
  fun c23 =>
  cnd (c23 || (decide (20 < (p5.size : Int))))
    (
    K r10 w3
    )
    (
    callC Try.prog 10 #[(Sl.v p0), (Value.string p1), (Sl.v p2), (Value.int .i64 p3)] (fun (r : Sl × Bool) => (Value.tuple #[(Sl.v r.1), (Value.bool r.2)])) w3 fun r27 w4 =>
    jn (fun (J29 : (Sl × Bool) → World → Prop) => tk w4 fun w5 =>
      ld Value.string ((Addr.mk b9 0 none).add 0) w5 fun x30 =>
      ld Value.string ((Addr.mk b9 0 none).add 1) w5 fun x31 =>
      ld (Value.int .i64) ((Addr.mk b9 0 none).add 2) w5 fun x32 =>
      (
        nw 36 #[] w5 fun b33 w6 =>
        (w6.cell? ((Addr.mk b9 0 none).add 0) = some (Value.string x30) ∧ w6.cell? ((Addr.mk b9 0 none).add 1) = some (Value.string x31) ∧ w6.cell? ((Addr.mk b9 0 none).add 2) = some (Value.int .i64 x32)) ∧
        (
          rn Try.prog (Builtin.append_ #[22, 22] 22 #[Sl.v (⟨some ⟨b33, 0, none⟩, 0, 0⟩ : Sl), Sl.v p0]) Sl.v w6 fun r34 w7 =>
          (w7.cell? ((Addr.mk b9 0 none).add 0) = some (Value.string x30) ∧ w7.cell? ((Addr.mk b9 0 none).add 1) = some (Value.string x31) ∧ w7.cell? ((Addr.mk b9 0 none).add 2) = some (Value.int .i64 x32)) ∧
          nw 36 #[(Value.string x30), (Value.string x31), (Value.int .i64 x32)] w7 fun b35 w8 =>
          rn Try.prog (Builtin.append_ #[22, 22] 22 #[Sl.v r34, Sl.v (⟨some ⟨b35, 0, none⟩, 1, 1⟩ : Sl)]) Sl.v w8 fun r36 w9 =>
          callC Try.prog 10 #[(Sl.v r36), (Value.string p1), (Sl.v p2), (Value.int .i64 p3)] (fun (r : Sl × Bool) => (Value.tuple #[(Sl.v r.1), (Value.bool r.2)])) w9 fun r37 w10 =>
          J29 (r37.1, r37.2) w10
        )
        ∧
        (
          nw 36 #[(Value.string x30), (Value.string x31), (Value.int .i64 x32)] w6 fun b38 w11 =>
          rn Try.prog (Builtin.append_ #[22, 22] 22 #[Sl.v (⟨some ⟨b33, 0, none⟩, 0, 0⟩ : Sl), Sl.v p0]) Sl.v w11 fun r39 w12 =>
          rn Try.prog (Builtin.append_ #[22, 22] 22 #[Sl.v r39, Sl.v (⟨some ⟨b38, 0, none⟩, 1, 1⟩ : Sl)]) Sl.v w12 fun r40 w13 =>
          callC Try.prog 10 #[(Sl.v r40), (Value.string p1), (Sl.v p2), (Value.int .i64 p3)] (fun (r : Sl × Bool) => (Value.tuple #[(Sl.v r.1), (Value.bool r.2)])) w13 fun r41 w14 =>
          J29 (r41.1, r41.2) w14
        )
      )
      ∧
      (
        nw 36 #[(Value.string x30), (Value.string x31), (Value.int .i64 x32)] w5 fun b42 w15 =>
        nw 36 #[] w15 fun b43 w16 =>
        rn Try.prog (Builtin.append_ #[22, 22] 22 #[Sl.v (⟨some ⟨b43, 0, none⟩, 0, 0⟩ : Sl), Sl.v p0]) Sl.v w16 fun r44 w17 =>
        rn Try.prog (Builtin.append_ #[22, 22] 22 #[Sl.v r44, Sl.v (⟨some ⟨b42, 0, none⟩, 1, 1⟩ : Sl)]) Sl.v w17 fun r45 w18 =>
        callC Try.prog 10 #[(Sl.v r45), (Value.string p1), (Sl.v p2), (Value.int .i64 p3)] (fun (r : Sl × Bool) => (Value.tuple #[(Sl.v r.1), (Value.bool r.2)])) w18 fun r46 w19 =>
        J29 (r46.1, r46.2) w19
      )
    )
    fun l47 w20 =>
    nw 9 #[] w20 fun b48 w21 =>
    rn Try.prog (Builtin.append_ #[23, 23] 23 #[Sl.v (⟨some ⟨b48, 0, none⟩, 0, 0⟩ : Sl), Sl.v p2]) Sl.v w21 fun r49 w22 =>
    nw 9 #[(Value.string p5)] w22 fun b50 w23 =>
    rn Try.prog (Builtin.append_ #[23, 23] 23 #[Sl.v r49, Sl.v (⟨some ⟨b50, 0, none⟩, 1, 1⟩ : Sl)]) Sl.v w23 fun r51 w24 =>
    callC Try.prog 10 #[(Sl.v p0), (Value.string p1), (Sl.v r51), (Value.int .i64 p3)] (fun (r : Sl × Bool) => (Value.tuple #[(Sl.v r.1), (Value.bool r.2)])) w24 fun r52 w25 =>
    cnd (r27.2 && ((((!l47.2) || (!r52.2)) || (decide ((r27.1.len : Int) < (l47.1.len : Int)))) || (decide ((r27.1.len : Int) < (r52.1.len : Int)))))
      (
      K false w25
      )
      (
      callC Try.prog 10 #[(Sl.v p0), (Value.string p1), (Sl.v p2), (Value.int .i64 p6)] (fun (r : Sl × Bool) => (Value.tuple #[(Sl.v r.1), (Value.bool r.2)])) w25 fun r74 w26 =>
      K (r10 && (!((((decide (p3 ≤ p6)) && (decide (0 ≤ p3))) && r74.2) && (!r27.2)))) w26
      )
    )
set_option maxRecDepth 100000 in
theorem D5 (p0 : Sl) (p1 : ByteArray) (p2 : Sl) (p3 : Int) (p4_0 : ByteArray) (p4_1 : ByteArray) (p4_2 : Int) (p5 : ByteArray) (p6 : Int) (w0 : World) (K : Bool → World → Prop) (h : F5 p0 p1 p2 p3 p4_0 p4_1 p4_2 p5 p6 w0 K) : callC Try.prog 5 #[(Sl.v p0), (Value.string p1), (Sl.v p2), (Value.int .i64 p3), (Value.agg #[(Value.string p4_0), (Value.string p4_1), (Value.int .i64 p4_2)]), (Value.string p5), (Value.int .i64 p6)] (fun (r : Bool) => (Value.bool r)) w0 K := by
  unfold F5 at h
  refine calls_of_wpC Try.func5 rfl 141 rfl (by simp) ?_
  intro ρ hρ
  have e0 : ρ 0 = (Sl.v p0) := hρ 0
  have e1 : ρ 1 = (Value.string p1) := hρ 1
  have e2 : ρ 2 = (Sl.v p2) := hρ 2
  have e3 : ρ 3 = (Value.int .i64 p3) := hρ 3
  have e4 : ρ 4 = (Value.agg #[(Value.string p4_0), (Value.string p4_1), (Value.int .i64 p4_2)]) := hρ 4
  have e5 : ρ 5 = (Value.string p5) := hρ 5
  have e6 : ρ 6 = (Value.int .i64 p6) := hρ 6
  clear hρ
  refine wpC_seq ?_
  refine wpC_region ?_
  obtain ⟨b9, hb9⟩ : ∃ u, u = w0.heap.size := ⟨_, rfl⟩
  obtain ⟨w1, hw9⟩ : ∃ u, u = w0.alloc (.cells #[(Value.string p4_0), (Value.string p4_1), (Value.int .i64 p4_2)] 36) := ⟨_, rfl⟩
  replace h := h b9 w1 hb9 hw9
  refine wpR_val (v := (Value.pointer (some (Addr.mk b9 0 none)))) (w' := w1) rfl rfl rfl ((x_box (v := (Value.agg #[(Value.string p4_0), (Value.string p4_1), (Value.int .i64 p4_2)])) rfl e4).trans (by rw [hb9, hw9]; rfl)) ?_
  refine wpR_val (v := (Value.bool false)) (w' := w1) rfl rfl rfl (x_assign (v := (Value.bool false)) rfl rfl) ?_
  refine wpR_nil ?_
  refine wpC_seq ?_
  refine wpC_cut (fun ρ => ρ 0 = (Sl.v p0) ∧ ρ 1 = (Value.string p1) ∧ ρ 2 = (Sl.v p2) ∧ ρ 3 = (Value.int .i64 p3) ∧ ρ 5 = (Value.string p5) ∧ ρ 6 = (Value.int .i64 p6) ∧ ρ 11 = (Value.pointer (some (Addr.mk b9 0 none))) ∧ True) ⟨e0, e1, e2, e3, e5, e6, rfl, trivial⟩ ?_
  rintro ρ ⟨e0, e1, e2, e3, e5, e6, e11, -⟩
  refine wpC_region ?_
  refine wpR_enter rfl rfl rfl (x_call (vs := []) rfl rfl mapl_nil Try.func8 NN_8 NB_8) (Calls.mono h ?_)
  rintro _ w2 ⟨r10, rfl, h⟩
  refine ⟨_, rfl, ?_⟩
  refine wpR_val (v := (Value.bool r10)) (w' := w2) rfl rfl rfl (x_assign (v := (Value.bool r10)) rfl rfl) ?_
  refine wpR_nil ?_
  refine wpC_seq ?_
  refine wpC_seq ?_
  refine wpC_cut (fun ρ => ρ 0 = (Sl.v p0) ∧ ρ 1 = (Value.string p1) ∧ ρ 2 = (Sl.v p2) ∧ ρ 3 = (Value.int .i64 p3) ∧ ρ 5 = (Value.string p5) ∧ ρ 6 = (Value.int .i64 p6) ∧ ρ 11 = (Value.pointer (some (Addr.mk b9 0 none))) ∧ ρ 15 = (Value.bool r10) ∧ True) ⟨e0, e1, e2, e3, e5, e6, e11, rfl, trivial⟩ ?_
  rintro ρ ⟨e0, e1, e2, e3, e5, e6, e11, e15, -⟩
  refine wpC_region ?_
  refine wpR_val (v := (Sl.v p0)) (w' := w2) rfl rfl rfl (x_move (v := (Sl.v p0)) rfl e0) ?_
  refine wpR_val (v := (Value.string p1)) (w' := w2) rfl rfl rfl (x_move (v := (Value.string p1)) rfl e1) ?_
  refine wpR_val (v := (Sl.v p2)) (w' := w2) rfl rfl rfl (x_move (v := (Sl.v p2)) rfl e2) ?_
  refine wpR_enter rfl rfl rfl (x_call (vs := [(Sl.v p0), (Value.string p1), (Sl.v p2)]) rfl rfl (mapl_cons rfl (mapl_cons rfl (mapl_cons rfl mapl_nil))) Try.func9 NN_9 NB_9) (Calls.mono h ?_)
  rintro _ w3 ⟨r11, rfl, h⟩
  refine ⟨_, rfl, ?_⟩
  refine wpR_val (v := (Value.bool (!r11))) (w' := w3) rfl rfl rfl (x_not rfl rfl) ?_
  refine wpR_val (v := (Value.bool (!r11))) (w' := w3) rfl rfl rfl (x_move (v := (Value.bool (!r11))) rfl rfl) ?_
  refine wpR_joinJ 4 (fun (_ : Unit) ρ => ρ 34 = Value.bool ((!r11) || (decide (11 < (p0.len : Int)))) ∧ ρ 0 = (Sl.v p0) ∧ ρ 1 = (Value.string p1) ∧ ρ 2 = (Sl.v p2) ∧ ρ 3 = (Value.int .i64 p3) ∧ ρ 5 = (Value.string p5) ∧ ρ 6 = (Value.int .i64 p6) ∧ ρ 11 = (Value.pointer (some (Addr.mk b9 0 none))) ∧ ρ 15 = (Value.bool r10) ∧ True) (fun _ w => w3 = w) ?_ ?_
  · clear h
    rcases Bool.eq_false_or_eq_true (!r11) with hc13 | hc13
    · skip
      refine wpR_pass (wantN rfl rfl rfl hc13) rfl rfl ?_
      refine wpR_pass (wantN rfl rfl rfl hc13) rfl rfl ?_
      refine wpR_pass (wantN rfl rfl rfl hc13) rfl rfl ?_
      refine wpR_val (v := (Value.bool true)) (w' := w3) rfl rfl rfl (x_pickT (v := (Value.bool true)) rfl rfl hc13 rfl) ?_
      refine wpR_nil ?_
      exact ⟨(), ⟨(by rw [hc13]; rfl), e0, e1, e2, e3, e5, e6, e11, e15, trivial⟩, rfl⟩
    · skip
      refine wpR_val (v := (Sl.v p0)) (w' := w3) (wantG rfl rfl rfl hc13) rfl rfl (x_move (v := (Sl.v p0)) rfl e0) ?_
      refine wpR_val (v := (Value.int .i64 (p0.len : Int))) (w' := w3) (wantG rfl rfl rfl hc13) rfl rfl (x_lenS (s := p0) rfl rfl isSliceT_22) ?_
      refine wpR_val (v := (Value.bool (decide (11 < (p0.len : Int))))) (w' := w3) (wantG rfl rfl rfl hc13) rfl rfl (x_gtr rfl rfl rfl) ?_
      refine wpR_val (v := (Value.bool (decide (11 < (p0.len : Int))))) (w' := w3) rfl rfl rfl (x_pickF (v := (Value.bool (decide (11 < (p0.len : Int))))) rfl rfl hc13 rfl) ?_
      refine wpR_nil ?_
      exact ⟨(), ⟨(by rw [hc13]; rfl), e0, e1, e2, e3, e5, e6, e11, e15, trivial⟩, rfl⟩
  rintro _ ρ wj ⟨e34, e0, e1, e2, e3, e5, e6, e11, e15, -⟩ rfl
  refine wpR_val (v := (Value.bool ((!r11) || (decide (11 < (p0.len : Int)))))) (w' := w3) rfl rfl rfl (x_move (v := (Value.bool ((!r11) || (decide (11 < (p0.len : Int)))))) rfl e34) ?_
  refine wpR_joinJ 4 (fun (_ : Unit) ρ => ρ 39 = Value.bool (((!r11) || (decide (11 < (p0.len : Int)))) || (decide (19 < (p2.len : Int)))) ∧ ρ 0 = (Sl.v p0) ∧ ρ 1 = (Value.string p1) ∧ ρ 2 = (Sl.v p2) ∧ ρ 3 = (Value.int .i64 p3) ∧ ρ 5 = (Value.string p5) ∧ ρ 6 = (Value.int .i64 p6) ∧ ρ 11 = (Value.pointer (some (Addr.mk b9 0 none))) ∧ ρ 15 = (Value.bool r10) ∧ True) (fun _ w => w3 = w) ?_ ?_
  · clear h
    rcases Bool.eq_false_or_eq_true ((!r11) || (decide (11 < (p0.len : Int)))) with hc15 | hc15
    · skip
      refine wpR_pass (wantN rfl rfl rfl hc15) rfl rfl ?_
      refine wpR_pass (wantN rfl rfl rfl hc15) rfl rfl ?_
      refine wpR_pass (wantN rfl rfl rfl hc15) rfl rfl ?_
      refine wpR_val (v := (Value.bool true)) (w' := w3) rfl rfl rfl (x_pickT (v := (Value.bool true)) rfl rfl hc15 rfl) ?_
      refine wpR_nil ?_
      exact ⟨(), ⟨(by rw [hc15]; rfl), e0, e1, e2, e3, e5, e6, e11, e15, trivial⟩, rfl⟩
    · skip
      refine wpR_val (v := (Sl.v p2)) (w' := w3) (wantG rfl rfl rfl hc15) rfl rfl (x_move (v := (Sl.v p2)) rfl e2) ?_
      refine wpR_val (v := (Value.int .i64 (p2.len : Int))) (w' := w3) (wantG rfl rfl rfl hc15) rfl rfl (x_lenS (s := p2) rfl rfl isSliceT_23) ?_
      refine wpR_val (v := (Value.bool (decide (19 < (p2.len : Int))))) (w' := w3) (wantG rfl rfl rfl hc15) rfl rfl (x_gtr rfl rfl rfl) ?_
      refine wpR_val (v := (Value.bool (decide (19 < (p2.len : Int))))) (w' := w3) rfl rfl rfl (x_pickF (v := (Value.bool (decide (19 < (p2.len : Int))))) rfl rfl hc15 rfl) ?_
      refine wpR_nil ?_
      exact ⟨(), ⟨(by rw [hc15]; rfl), e0, e1, e2, e3, e5, e6, e11, e15, trivial⟩, rfl⟩
  rintro _ ρ wj ⟨e39, e0, e1, e2, e3, e5, e6, e11, e15, -⟩ rfl
  refine wpR_val (v := (Value.bool (((!r11) || (decide (11 < (p0.len : Int)))) || (decide (19 < (p2.len : Int)))))) (w' := w3) rfl rfl rfl (x_move (v := (Value.bool (((!r11) || (decide (11 < (p0.len : Int)))) || (decide (19 < (p2.len : Int)))))) rfl e39) ?_
  obtain ⟨J16, h, hk⟩ := h
  refine wpR_joinJ 5 (fun x ρ => ρ 45 = Value.bool x ∧ ρ 0 = (Sl.v p0) ∧ ρ 1 = (Value.string p1) ∧ ρ 2 = (Sl.v p2) ∧ ρ 3 = (Value.int .i64 p3) ∧ ρ 5 = (Value.string p5) ∧ ρ 6 = (Value.int .i64 p6) ∧ ρ 11 = (Value.pointer (some (Addr.mk b9 0 none))) ∧ ρ 15 = (Value.bool r10) ∧ True) (fun x w => J16 x ∧ w3 = w) ?_ ?_
  · clear hk
    rcases Bool.eq_false_or_eq_true (((!r11) || (decide (11 < (p0.len : Int)))) || (decide (19 < (p2.len : Int)))) with hc17 | hc17
    · replace h := h.1 hc17
      refine wpR_pass (wantN rfl rfl rfl hc17) rfl rfl ?_
      refine wpR_pass (wantN rfl rfl rfl hc17) rfl rfl ?_
      refine wpR_pass (wantN rfl rfl rfl hc17) rfl rfl ?_
      refine wpR_pass (wantN rfl rfl rfl hc17) rfl rfl ?_
      refine wpR_val (v := (Value.bool true)) (w' := w3) rfl rfl rfl (x_pickT (v := (Value.bool true)) rfl rfl hc17 rfl) ?_
      refine wpR_nil ?_
      exact ⟨true, ⟨rfl, e0, e1, e2, e3, e5, e6, e11, e15, trivial⟩, h, rfl⟩
    · replace h := h.2 hc17
      refine wpR_val (v := (Value.pointer (some ((Addr.mk b9 0 none).add 0)))) (w' := w3) (wantG rfl rfl rfl hc17) rfl rfl (x_fieldAddr rfl e11 FA_36_0) ?_
      obtain ⟨x18, q18, h⟩ := h
      refine wpR_val (v := (Value.string x18)) (w' := w3) (wantG rfl rfl rfl hc17) rfl rfl (x_load1 rfl rfl SH_9 q18) ?_
      refine wpR_val (v := (Value.int .i64 (x18.size : Int))) (w' := w3) (wantG rfl rfl rfl hc17) rfl rfl (x_lenStr rfl rfl isStrT_9) ?_
      refine wpR_val (v := (Value.bool (decide (20 < (x18.size : Int))))) (w' := w3) (wantG rfl rfl rfl hc17) rfl rfl (x_gtr rfl rfl rfl) ?_
      refine wpR_val (v := (Value.bool (decide (20 < (x18.size : Int))))) (w' := w3) rfl rfl rfl (x_pickF (v := (Value.bool (decide (20 < (x18.size : Int))))) rfl rfl hc17 rfl) ?_
      refine wpR_nil ?_
      exact ⟨decide (20 < (x18.size : Int)), ⟨rfl, e0, e1, e2, e3, e5, e6, e11, e15, trivial⟩, h, rfl⟩
  clear h
  rintro c19 ρ wj ⟨e45, e0, e1, e2, e3, e5, e6, e11, e15, -⟩ ⟨h, rfl⟩
  replace h := hk c19 h
  clear hk
  refine wpR_val (v := (Value.bool c19)) (w' := w3) rfl rfl rfl (x_move (v := (Value.bool c19)) rfl e45) ?_
  obtain ⟨J20, h, hk⟩ := h
  refine wpR_joinJ 5 (fun x ρ => ρ 51 = Value.bool x ∧ ρ 0 = (Sl.v p0) ∧ ρ 1 = (Value.string p1) ∧ ρ 2 = (Sl.v p2) ∧ ρ 3 = (Value.int .i64 p3) ∧ ρ 5 = (Value.string p5) ∧ ρ 6 = (Value.int .i64 p6) ∧ ρ 11 = (Value.pointer (some (Addr.mk b9 0 none))) ∧ ρ 15 = (Value.bool r10) ∧ True) (fun x w => J20 x ∧ w3 = w) ?_ ?_
  · clear hk
    rcases Bool.eq_false_or_eq_true (c19) with hc21 | hc21
    · replace h := h.1 hc21
      refine wpR_pass (wantN rfl rfl rfl hc21) rfl rfl ?_
      refine wpR_pass (wantN rfl rfl rfl hc21) rfl rfl ?_
      refine wpR_pass (wantN rfl rfl rfl hc21) rfl rfl ?_
      refine wpR_pass (wantN rfl rfl rfl hc21) rfl rfl ?_
      refine wpR_val (v := (Value.bool true)) (w' := w3) rfl rfl rfl (x_pickT (v := (Value.bool true)) rfl rfl hc21 rfl) ?_
      refine wpR_nil ?_
      exact ⟨true, ⟨rfl, e0, e1, e2, e3, e5, e6, e11, e15, trivial⟩, h, rfl⟩
    · replace h := h.2 hc21
      refine wpR_val (v := (Value.pointer (some ((Addr.mk b9 0 none).add 1)))) (w' := w3) (wantG rfl rfl rfl hc21) rfl rfl (x_fieldAddr rfl e11 FA_36_1) ?_
      obtain ⟨x22, q22, h⟩ := h
      refine wpR_val (v := (Value.string x22)) (w' := w3) (wantG rfl rfl rfl hc21) rfl rfl (x_load1 rfl rfl SH_9 q22) ?_
      refine wpR_val (v := (Value.int .i64 (x22.size : Int))) (w' := w3) (wantG rfl rfl rfl hc21) rfl rfl (x_lenStr rfl rfl isStrT_9) ?_
      refine wpR_val (v := (Value.bool (decide (20 < (x22.size : Int))))) (w' := w3) (wantG rfl rfl rfl hc21) rfl rfl (x_gtr rfl rfl rfl) ?_
      refine wpR_val (v := (Value.bool (decide (20 < (x22.size : Int))))) (w' := w3) rfl rfl rfl (x_pickF (v := (Value.bool (decide (20 < (x22.size : Int))))) rfl rfl hc21 rfl) ?_
      refine wpR_nil ?_
      exact ⟨decide (20 < (x22.size : Int)), ⟨rfl, e0, e1, e2, e3, e5, e6, e11, e15, trivial⟩, h, rfl⟩
  clear h
  rintro c23 ρ wj ⟨e51, e0, e1, e2, e3, e5, e6, e11, e15, -⟩ ⟨h, rfl⟩
  replace h := hk c23 h
  clear hk
  refine wpR_val (v := (Value.bool c23)) (w' := w3) rfl rfl rfl (x_move (v := (Value.bool c23)) rfl e51) ?_
  refine wpR_joinJ 4 (fun (_ : Unit) ρ => ρ 56 = Value.bool (c23 || (decide (20 < (p5.size : Int)))) ∧ ρ 0 = (Sl.v p0) ∧ ρ 1 = (Value.string p1) ∧ ρ 2 = (Sl.v p2) ∧ ρ 3 = (Value.int .i64 p3) ∧ ρ 5 = (Value.string p5) ∧ ρ 6 = (Value.int .i64 p6) ∧ ρ 11 = (Value.pointer (some (Addr.mk b9 0 none))) ∧ ρ 15 = (Value.bool r10) ∧ True) (fun _ w => w3 = w) ?_ ?_
  · clear h
    rcases Bool.eq_false_or_eq_true (c23) with hc25 | hc25
    · skip
      refine wpR_pass (wantN rfl rfl rfl hc25) rfl rfl ?_
      refine wpR_pass (wantN rfl rfl rfl hc25) rfl rfl ?_
      refine wpR_pass (wantN rfl rfl rfl hc25) rfl rfl ?_
      refine wpR_val (v := (Value.bool true)) (w' := w3) rfl rfl rfl (x_pickT (v := (Value.bool true)) rfl rfl hc25 rfl) ?_
      refine wpR_nil ?_
      exact ⟨(), ⟨(by rw [hc25]; rfl), e0, e1, e2, e3, e5, e6, e11, e15, trivial⟩, rfl⟩
    · skip
      refine wpR_val (v := (Value.string p5)) (w' := w3) (wantG rfl rfl rfl hc25) rfl rfl (x_move (v := (Value.string p5)) rfl e5) ?_
      refine wpR_val (v := (Value.int .i64 (p5.size : Int))) (w' := w3) (wantG rfl rfl rfl hc25) rfl rfl (x_lenStr rfl rfl isStrT_9) ?_
      refine wpR_val (v := (Value.bool (decide (20 < (p5.size : Int))))) (w' := w3) (wantG rfl rfl rfl hc25) rfl rfl (x_gtr rfl rfl rfl) ?_
      refine wpR_val (v := (Value.bool (decide (20 < (p5.size : Int))))) (w' := w3) rfl rfl rfl (x_pickF (v := (Value.bool (decide (20 < (p5.size : Int))))) rfl rfl hc25 rfl) ?_
      refine wpR_nil ?_
      exact ⟨(), ⟨(by rw [hc25]; rfl), e0, e1, e2, e3, e5, e6, e11, e15, trivial⟩, rfl⟩
  rintro _ ρ wj ⟨e56, e0, e1, e2, e3, e5, e6, e11, e15, -⟩ rfl
  refine wpR_nil ?_
  refine wpC_cond (b := c23 || (decide (20 < (p5.size : Int)))) e56 (fun hc26 => ?_) (fun hc26 => ?_)
  · replace h := h.1 hc26
    refine wpC_seq ?_
    refine wpC_region ?_
    refine wpR_val (v := (Value.bool r10)) (w' := w3) rfl rfl rfl (x_move (v := (Value.bool r10)) rfl e15) ?_
    refine wpR_val (v := (Value.bool r10)) (w' := w3) rfl rfl rfl (x_assign (v := (Value.bool r10)) rfl rfl) ?_
    refine wpR_nil ?_
    refine wpC_ret ?_
    exact ⟨.inl rfl, fun a ha => ⟨_, results_rep1 rfl ha rfl, r10, rfl, h⟩⟩
  · replace h := h.2 hc26
    refine wpC_skip ?_
    refine wpC_seq ?_
    refine wpC_region ?_
    refine wpR_val (v := (Sl.v p0)) (w' := w3) rfl rfl rfl (x_move (v := (Sl.v p0)) rfl e0) ?_
    refine wpR_val (v := (Value.string p1)) (w' := w3) rfl rfl rfl (x_move (v := (Value.string p1)) rfl e1) ?_
    refine wpR_val (v := (Sl.v p2)) (w' := w3) rfl rfl rfl (x_move (v := (Sl.v p2)) rfl e2) ?_
    refine wpR_val (v := (Value.int .i64 p3)) (w' := w3) rfl rfl rfl (x_move (v := (Value.int .i64 p3)) rfl e3) ?_
    refine wpR_enter rfl rfl rfl (x_call (vs := [(Sl.v p0), (Value.string p1), (Sl.v p2), (Value.int .i64 p3)]) rfl rfl (mapl_cons rfl (mapl_cons rfl (mapl_cons rfl (mapl_cons rfl mapl_nil)))) Try.func10 NN_10 NB_10) (Calls.mono h ?_)
    rintro _ w4 ⟨r27, rfl, h⟩
    refine ⟨_, rfl, ?_⟩
    refine wpR_val (v := (Value.tuple #[(Sl.v r27.1), (Value.bool r27.2)])) (w' := w4) rfl rfl rfl (x_move (v := (Value.tuple #[(Sl.v r27.1), (Value.bool r27.2)])) rfl rfl) ?_
    refine wpR_val (v := (Sl.v r27.1)) (w' := w4) rfl rfl rfl (x_extract rfl rfl rfl) ?_
    refine wpR_val (v := (Value.bool r27.2)) (w' := w4) rfl rfl rfl (x_extract rfl rfl rfl) ?_
    refine wpR_val (v := (Sl.v r27.1)) (w' := w4) rfl rfl rfl (x_assign (v := (Sl.v r27.1)) rfl rfl) ?_
    refine wpR_val (v := (Value.bool r27.2)) (w' := w4) rfl rfl rfl (x_assign (v := (Value.bool r27.2)) rfl rfl) ?_
    refine wpR_nil ?_
    refine wpC_seq ?_
    refine wpC_cut (fun ρ => ρ 0 = (Sl.v p0) ∧ ρ 1 = (Value.string p1) ∧ ρ 2 = (Sl.v p2) ∧ ρ 3 = (Value.int .i64 p3) ∧ ρ 5 = (Value.string p5) ∧ ρ 6 = (Value.int .i64 p6) ∧ ρ 11 = (Value.pointer (some (Addr.mk b9 0 none))) ∧ ρ 15 = (Value.bool r10) ∧ ρ 16 = (Sl.v r27.1) ∧ ρ 17 = (Value.bool r27.2) ∧ True) ⟨e0, e1, e2, e3, e5, e6, e11, e15, rfl, rfl, trivial⟩ ?_
    rintro ρ ⟨e0, e1, e2, e3, e5, e6, e11, e15, e16, e17, -⟩
    obtain ⟨J29, h, hk⟩ := h
    refine wpC_drawJ (by kernel_rfl) (fun (x : Sl × Bool) ρ => ρ 18 = (Sl.v x.1) ∧ ρ 19 = (Value.bool x.2) ∧ ρ 0 = (Sl.v p0) ∧ ρ 1 = (Value.string p1) ∧ ρ 2 = (Sl.v p2) ∧ ρ 3 = (Value.int .i64 p3) ∧ ρ 5 = (Value.string p5) ∧ ρ 6 = (Value.int .i64 p6) ∧ ρ 15 = (Value.bool r10) ∧ ρ 16 = (Sl.v r27.1) ∧ ρ 17 = (Value.bool r27.2) ∧ True) J29 ?_ ?_
    · clear hk
      unfold tk at h
      generalize w4.drew = w5 at h ⊢
      refine wpD_take (v := (Sl.v p0)) 1 (fun _ => True) rfl (by kernel_rfl) (by kernel_rfl) (by kernel_rfl) rfl rfl rfl trivial (fun w _ => (x_move (v := (Sl.v p0)) rfl e0)) ?_
      obtain ⟨x30, q30, x31, q31, x32, q32, h⟩ := h
      refine wpD_take (v := (Value.agg #[(Value.string x30), (Value.string x31), (Value.int .i64 x32)])) 3 (fun w => w.cell? ((Addr.mk b9 0 none).add 0) = some (Value.string x30) ∧ w.cell? ((Addr.mk b9 0 none).add 1) = some (Value.string x31) ∧ w.cell? ((Addr.mk b9 0 none).add 2) = some (Value.int .i64 x32)) rfl (by kernel_rfl) (by kernel_rfl) (by kernel_rfl) rfl rfl rfl ⟨q30, q31, q32⟩ (fun w ⟨q30, q31, q32⟩ => (x_loadN [(Value.string x30), (Value.string x31), (Value.int .i64 x32)] rfl e11 SH_36 (CellsAt.out (CellsAt.cons q30 (CellsAt.cons q31 (CellsAt.cons q32 CellsAt.nil)))))) ?_
      refine wpD_take (v := (Value.string p1)) 6 (fun _ => True) rfl (by kernel_rfl) (by kernel_rfl) (by kernel_rfl) rfl rfl rfl trivial (fun w _ => (x_move (v := (Value.string p1)) rfl e1)) ?_
      refine wpD_take (v := (Sl.v p2)) 7 (fun _ => True) rfl (by kernel_rfl) (by kernel_rfl) (by kernel_rfl) rfl rfl rfl trivial (fun w _ => (x_move (v := (Sl.v p2)) rfl e2)) ?_
      refine wpD_take (v := (Value.int .i64 p3)) 8 (fun _ => True) rfl (by kernel_rfl) (by kernel_rfl) (by kernel_rfl) rfl rfl rfl trivial (fun w _ => (x_move (v := (Value.int .i64 p3)) rfl e3)) ?_
      refine wpD_all (rs := [0, 4]) (by kernel_rfl) (by simp) (allD_cons ?_ (allD_cons ?_ allD_nil))
      · replace h := h.1
        obtain ⟨b33, hb33⟩ : ∃ u, u = w5.heap.size := ⟨_, rfl⟩
        obtain ⟨w6, hw33⟩ : ∃ u, u = w5.alloc (.cells #[] 36) := ⟨_, rfl⟩
        replace h := h b33 w6 hb33 hw33
        obtain ⟨o3, h⟩ := h
        refine stepD_valL (L' := [(8, fun _ => True), (7, fun _ => True), (6, fun _ => True), (3, fun w => w.cell? ((Addr.mk b9 0 none).add 0) = some (Value.string x30) ∧ w.cell? ((Addr.mk b9 0 none).add 1) = some (Value.string x31) ∧ w.cell? ((Addr.mk b9 0 none).add 2) = some (Value.int .i64 x32)), (1, fun _ => True)]) (v := (Sl.v (⟨some ⟨b33, 0, none⟩, 0, 0⟩ : Sl))) (w' := w6) rfl rfl rfl rfl ((x_buildSlice (qs := []) rfl (by rfl) (BS_22_0_ )).trans (by rw [← hb33, ← hw33])) (by kernel_rfl) (held_cons trivial (held_cons trivial (held_cons trivial (held_cons o3 (held_cons trivial held_nil))))) ?_
        refine wpD_all (rs := [2, 4]) (by kernel_rfl) (by simp) (allD_cons ?_ (allD_cons ?_ allD_nil))
        · replace h := h.1
          obtain ⟨r34, w7, q34, h⟩ := h
          obtain ⟨o3, h⟩ := h
          refine stepD_valL (L' := [(8, fun _ => True), (7, fun _ => True), (6, fun _ => True), (3, fun w => w.cell? ((Addr.mk b9 0 none).add 0) = some (Value.string x30) ∧ w.cell? ((Addr.mk b9 0 none).add 1) = some (Value.string x31) ∧ w.cell? ((Addr.mk b9 0 none).add 2) = some (Value.int .i64 x32))]) (v := (Sl.v r34)) (w' := w7) rfl rfl rfl rfl (x_append (s := (⟨some ⟨b33, 0, none⟩, 0, 0⟩ : Sl)) (u := p0) rfl rfl rfl rfl q34) (by kernel_rfl) (held_cons trivial (held_cons trivial (held_cons trivial (held_cons o3 held_nil)))) ?_
          refine wpD_all (rs := [4]) (by kernel_rfl) (by simp) (allD_cons ?_ allD_nil)
          obtain ⟨b35, hb35⟩ : ∃ u, u = w7.heap.size := ⟨_, rfl⟩
          obtain ⟨w8, hw35⟩ : ∃ u, u = w7.alloc (.cells #[(Value.string x30), (Value.string x31), (Value.int .i64 x32)] 36) := ⟨_, rfl⟩
          replace h := h b35 w8 hb35 hw35
          refine stepD_valL (L' := [(8, fun _ => True), (7, fun _ => True), (6, fun _ => True)]) (v := (Sl.v (⟨some ⟨b35, 0, none⟩, 1, 1⟩ : Sl))) (w' := w8) rfl rfl rfl rfl ((x_buildSlice (qs := [(0, (Value.agg #[(Value.string x30), (Value.string x31), (Value.int .i64 x32)]))]) rfl (by rfl) (BS_22_1_0 x30 x31 x32)).trans (by rw [← hb35, ← hw35])) (by kernel_rfl) (held_cons trivial (held_cons trivial (held_cons trivial held_nil))) ?_
          refine wpD_all (rs := [5]) (by kernel_rfl) (by simp) (allD_cons ?_ allD_nil)
          obtain ⟨r36, w9, q36, h⟩ := h
          refine stepD_valL (L' := [(8, fun _ => True), (7, fun _ => True), (6, fun _ => True)]) (v := (Sl.v r36)) (w' := w9) rfl rfl rfl rfl (x_append (s := r34) (u := (⟨some ⟨b35, 0, none⟩, 1, 1⟩ : Sl)) rfl rfl rfl rfl q36) (by kernel_rfl) (held_cons trivial (held_cons trivial (held_cons trivial held_nil))) ?_
          refine wpD_all (rs := [9]) (by kernel_rfl) (by simp) (allD_cons ?_ allD_nil)
          refine stepD_enterL (L' := []) rfl rfl rfl rfl (x_call (vs := [(Sl.v r36), (Value.string p1), (Sl.v p2), (Value.int .i64 p3)]) rfl rfl (mapl_cons rfl (mapl_cons rfl (mapl_cons rfl (mapl_cons rfl mapl_nil)))) Try.func10 NN_10 NB_10) (by kernel_rfl) (Calls.mono h ?_)
          rintro _ w10 ⟨r37, rfl, h⟩
          refine ⟨_, rfl, held_nil, ?_⟩
          refine wpD_take (v := (Value.tuple #[(Sl.v r37.1), (Value.bool r37.2)])) 10 (fun _ => True) rfl (by kernel_rfl) (by kernel_rfl) (by kernel_rfl) rfl rfl rfl trivial (fun w _ => (x_move (v := (Value.tuple #[(Sl.v r37.1), (Value.bool r37.2)])) rfl rfl)) ?_
          refine wpD_take (v := (Sl.v r37.1)) 11 (fun _ => True) rfl (by kernel_rfl) (by kernel_rfl) (by kernel_rfl) rfl rfl rfl trivial (fun w _ => (x_extract rfl rfl rfl)) ?_
          refine wpD_take (v := (Value.bool r37.2)) 12 (fun _ => True) rfl (by kernel_rfl) (by kernel_rfl) (by kernel_rfl) rfl rfl rfl trivial (fun w _ => (x_extract rfl rfl rfl)) ?_
          refine wpD_take (v := (Sl.v r37.1)) 13 (fun _ => True) rfl (by kernel_rfl) (by kernel_rfl) (by kernel_rfl) rfl rfl rfl trivial (fun w _ => (x_assign (v := (Sl.v r37.1)) rfl rfl)) ?_
          refine wpD_take (v := (Value.bool r37.2)) 14 (fun _ => True) rfl (by kernel_rfl) (by kernel_rfl) (by kernel_rfl) rfl rfl rfl trivial (fun w _ => (x_assign (v := (Value.bool r37.2)) rfl rfl)) ?_
          exact wpD_done (by kernel_rfl) ⟨(r37.1, r37.2), ⟨rfl, rfl, e0, e1, e2, e3, e5, e6, e15, e16, e17, trivial⟩, h⟩
        · replace h := h.2
          obtain ⟨b38, hb38⟩ : ∃ u, u = w6.heap.size := ⟨_, rfl⟩
          obtain ⟨w11, hw38⟩ : ∃ u, u = w6.alloc (.cells #[(Value.string x30), (Value.string x31), (Value.int .i64 x32)] 36) := ⟨_, rfl⟩
          replace h := h b38 w11 hb38 hw38
          refine stepD_valL (L' := [(8, fun _ => True), (7, fun _ => True), (6, fun _ => True), (1, fun _ => True)]) (v := (Sl.v (⟨some ⟨b38, 0, none⟩, 1, 1⟩ : Sl))) (w' := w11) rfl rfl rfl rfl ((x_buildSlice (qs := [(0, (Value.agg #[(Value.string x30), (Value.string x31), (Value.int .i64 x32)]))]) rfl (by rfl) (BS_22_1_0 x30 x31 x32)).trans (by rw [← hb38, ← hw38])) (by kernel_rfl) (held_cons trivial (held_cons trivial (held_cons trivial (held_cons trivial held_nil)))) ?_
          refine wpD_all (rs := [2]) (by kernel_rfl) (by simp) (allD_cons ?_ allD_nil)
          obtain ⟨r39, w12, q39, h⟩ := h
          refine stepD_valL (L' := [(8, fun _ => True), (7, fun _ => True), (6, fun _ => True)]) (v := (Sl.v r39)) (w' := w12) rfl rfl rfl rfl (x_append (s := (⟨some ⟨b33, 0, none⟩, 0, 0⟩ : Sl)) (u := p0) rfl rfl rfl rfl q39) (by kernel_rfl) (held_cons trivial (held_cons trivial (held_cons trivial held_nil))) ?_
          refine wpD_all (rs := [5]) (by kernel_rfl) (by simp) (allD_cons ?_ allD_nil)
          obtain ⟨r40, w13, q40, h⟩ := h
          refine stepD_valL (L' := [(8, fun _ => True), (7, fun _ => True), (6, fun _ => True)]) (v := (Sl.v r40)) (w' := w13) rfl rfl rfl rfl (x_append (s := r39) (u := (⟨some ⟨b38, 0, none⟩, 1, 1⟩ : Sl)) rfl rfl rfl rfl q40) (by kernel_rfl) (held_cons trivial (held_cons trivial (held_cons trivial held_nil))) ?_
          refine wpD_all (rs := [9]) (by kernel_rfl) (by simp) (allD_cons ?_ allD_nil)
          refine stepD_enterL (L' := []) rfl rfl rfl rfl (x_call (vs := [(Sl.v r40), (Value.string p1), (Sl.v p2), (Value.int .i64 p3)]) rfl rfl (mapl_cons rfl (mapl_cons rfl (mapl_cons rfl (mapl_cons rfl mapl_nil)))) Try.func10 NN_10 NB_10) (by kernel_rfl) (Calls.mono h ?_)
          rintro _ w14 ⟨r41, rfl, h⟩
          refine ⟨_, rfl, held_nil, ?_⟩
          refine wpD_take (v := (Value.tuple #[(Sl.v r41.1), (Value.bool r41.2)])) 10 (fun _ => True) rfl (by kernel_rfl) (by kernel_rfl) (by kernel_rfl) rfl rfl rfl trivial (fun w _ => (x_move (v := (Value.tuple #[(Sl.v r41.1), (Value.bool r41.2)])) rfl rfl)) ?_
          refine wpD_take (v := (Sl.v r41.1)) 11 (fun _ => True) rfl (by kernel_rfl) (by kernel_rfl) (by kernel_rfl) rfl rfl rfl trivial (fun w _ => (x_extract rfl rfl rfl)) ?_
          refine wpD_take (v := (Value.bool r41.2)) 12 (fun _ => True) rfl (by kernel_rfl) (by kernel_rfl) (by kernel_rfl) rfl rfl rfl trivial (fun w _ => (x_extract rfl rfl rfl)) ?_
          refine wpD_take (v := (Sl.v r41.1)) 13 (fun _ => True) rfl (by kernel_rfl) (by kernel_rfl) (by kernel_rfl) rfl rfl rfl trivial (fun w _ => (x_assign (v := (Sl.v r41.1)) rfl rfl)) ?_
          refine wpD_take (v := (Value.bool r41.2)) 14 (fun _ => True) rfl (by kernel_rfl) (by kernel_rfl) (by kernel_rfl) rfl rfl rfl trivial (fun w _ => (x_assign (v := (Value.bool r41.2)) rfl rfl)) ?_
          exact wpD_done (by kernel_rfl) ⟨(r41.1, r41.2), ⟨rfl, rfl, e0, e1, e2, e3, e5, e6, e15, e16, e17, trivial⟩, h⟩
      · replace h := h.2
        obtain ⟨b42, hb42⟩ : ∃ u, u = w5.heap.size := ⟨_, rfl⟩
        obtain ⟨w15, hw42⟩ : ∃ u, u = w5.alloc (.cells #[(Value.string x30), (Value.string x31), (Value.int .i64 x32)] 36) := ⟨_, rfl⟩
        replace h := h b42 w15 hb42 hw42
        refine stepD_valL (L' := [(8, fun _ => True), (7, fun _ => True), (6, fun _ => True), (1, fun _ => True)]) (v := (Sl.v (⟨some ⟨b42, 0, none⟩, 1, 1⟩ : Sl))) (w' := w15) rfl rfl rfl rfl ((x_buildSlice (qs := [(0, (Value.agg #[(Value.string x30), (Value.string x31), (Value.int .i64 x32)]))]) rfl (by rfl) (BS_22_1_0 x30 x31 x32)).trans (by rw [← hb42, ← hw42])) (by kernel_rfl) (held_cons trivial (held_cons trivial (held_cons trivial (held_cons trivial held_nil)))) ?_
        refine wpD_all (rs := [0]) (by kernel_rfl) (by simp) (allD_cons ?_ allD_nil)
        obtain ⟨b43, hb43⟩ : ∃ u, u = w15.heap.size := ⟨_, rfl⟩
        obtain ⟨w16, hw43⟩ : ∃ u, u = w15.alloc (.cells #[] 36) := ⟨_, rfl⟩
        replace h := h b43 w16 hb43 hw43
        refine stepD_valL (L' := [(8, fun _ => True), (7, fun _ => True), (6, fun _ => True), (1, fun _ => True)]) (v := (Sl.v (⟨some ⟨b43, 0, none⟩, 0, 0⟩ : Sl))) (w' := w16) rfl rfl rfl rfl ((x_buildSlice (qs := []) rfl (by rfl) (BS_22_0_ )).trans (by rw [← hb43, ← hw43])) (by kernel_rfl) (held_cons trivial (held_cons trivial (held_cons trivial (held_cons trivial held_nil)))) ?_
        refine wpD_all (rs := [2]) (by kernel_rfl) (by simp) (allD_cons ?_ allD_nil)
        obtain ⟨r44, w17, q44, h⟩ := h
        refine stepD_valL (L' := [(8, fun _ => True), (7, fun _ => True), (6, fun _ => True)]) (v := (Sl.v r44)) (w' := w17) rfl rfl rfl rfl (x_append (s := (⟨some ⟨b43, 0, none⟩, 0, 0⟩ : Sl)) (u := p0) rfl rfl rfl rfl q44) (by kernel_rfl) (held_cons trivial (held_cons trivial (held_cons trivial held_nil))) ?_
        refine wpD_all (rs := [5]) (by kernel_rfl) (by simp) (allD_cons ?_ allD_nil)
        obtain ⟨r45, w18, q45, h⟩ := h
        refine stepD_valL (L' := [(8, fun _ => True), (7, fun _ => True), (6, fun _ => True)]) (v := (Sl.v r45)) (w' := w18) rfl rfl rfl rfl (x_append (s := r44) (u := (⟨some ⟨b42, 0, none⟩, 1, 1⟩ : Sl)) rfl rfl rfl rfl q45) (by kernel_rfl) (held_cons trivial (held_cons trivial (held_cons trivial held_nil))) ?_
        refine wpD_all (rs := [9]) (by kernel_rfl) (by simp) (allD_cons ?_ allD_nil)
        refine stepD_enterL (L' := []) rfl rfl rfl rfl (x_call (vs := [(Sl.v r45), (Value.string p1), (Sl.v p2), (Value.int .i64 p3)]) rfl rfl (mapl_cons rfl (mapl_cons rfl (mapl_cons rfl (mapl_cons rfl mapl_nil)))) Try.func10 NN_10 NB_10) (by kernel_rfl) (Calls.mono h ?_)
        rintro _ w19 ⟨r46, rfl, h⟩
        refine ⟨_, rfl, held_nil, ?_⟩
        refine wpD_take (v := (Value.tuple #[(Sl.v r46.1), (Value.bool r46.2)])) 10 (fun _ => True) rfl (by kernel_rfl) (by kernel_rfl) (by kernel_rfl) rfl rfl rfl trivial (fun w _ => (x_move (v := (Value.tuple #[(Sl.v r46.1), (Value.bool r46.2)])) rfl rfl)) ?_
        refine wpD_take (v := (Sl.v r46.1)) 11 (fun _ => True) rfl (by kernel_rfl) (by kernel_rfl) (by kernel_rfl) rfl rfl rfl trivial (fun w _ => (x_extract rfl rfl rfl)) ?_
        refine wpD_take (v := (Value.bool r46.2)) 12 (fun _ => True) rfl (by kernel_rfl) (by kernel_rfl) (by kernel_rfl) rfl rfl rfl trivial (fun w _ => (x_extract rfl rfl rfl)) ?_
        refine wpD_take (v := (Sl.v r46.1)) 13 (fun _ => True) rfl (by kernel_rfl) (by kernel_rfl) (by kernel_rfl) rfl rfl rfl trivial (fun w _ => (x_assign (v := (Sl.v r46.1)) rfl rfl)) ?_
        refine wpD_take (v := (Value.bool r46.2)) 14 (fun _ => True) rfl (by kernel_rfl) (by kernel_rfl) (by kernel_rfl) rfl rfl rfl trivial (fun w _ => (x_assign (v := (Value.bool r46.2)) rfl rfl)) ?_
        exact wpD_done (by kernel_rfl) ⟨(r46.1, r46.2), ⟨rfl, rfl, e0, e1, e2, e3, e5, e6, e15, e16, e17, trivial⟩, h⟩
    clear h
    rintro l47 ρ w20 ⟨e18, e19, e0, e1, e2, e3, e5, e6, e15, e16, e17, -⟩ h
    replace h := hk l47 w20 h
    clear hk
    refine wpC_seq ?_
    refine wpC_region ?_
    refine wpR_val (v := (Sl.v p0)) (w' := w20) rfl rfl rfl (x_move (v := (Sl.v p0)) rfl e0) ?_
    refine wpR_val (v := (Value.string p1)) (w' := w20) rfl rfl rfl (x_move (v := (Value.string p1)) rfl e1) ?_
    obtain ⟨b48, hb48⟩ : ∃ u, u = w20.heap.size := ⟨_, rfl⟩
    obtain ⟨w21, hw48⟩ : ∃ u, u = w20.alloc (.cells #[] 9) := ⟨_, rfl⟩
    replace h := h b48 w21 hb48 hw48
    refine wpR_val (v := (Sl.v (⟨some ⟨b48, 0, none⟩, 0, 0⟩ : Sl))) (w' := w21) rfl rfl rfl ((x_buildSlice (qs := []) rfl (by rfl) (BS_23_0_ )).trans (by rw [← hb48, ← hw48])) ?_
    refine wpR_val (v := (Sl.v p2)) (w' := w21) rfl rfl rfl (x_move (v := (Sl.v p2)) rfl e2) ?_
    obtain ⟨r49, w22, q49, h⟩ := h
    refine wpR_val (v := (Sl.v r49)) (w' := w22) rfl rfl rfl (x_append (s := (⟨some ⟨b48, 0, none⟩, 0, 0⟩ : Sl)) (u := p2) rfl rfl rfl rfl q49) ?_
    refine wpR_val (v := (Value.string p5)) (w' := w22) rfl rfl rfl (x_move (v := (Value.string p5)) rfl e5) ?_
    obtain ⟨b50, hb50⟩ : ∃ u, u = w22.heap.size := ⟨_, rfl⟩
    obtain ⟨w23, hw50⟩ : ∃ u, u = w22.alloc (.cells #[(Value.string p5)] 9) := ⟨_, rfl⟩
    replace h := h b50 w23 hb50 hw50
    refine wpR_val (v := (Sl.v (⟨some ⟨b50, 0, none⟩, 1, 1⟩ : Sl))) (w' := w23) rfl rfl rfl ((x_buildSlice (qs := [(0, (Value.string p5))]) rfl (by rfl) (BS_23_1_0 p5)).trans (by rw [← hb50, ← hw50])) ?_
    obtain ⟨r51, w24, q51, h⟩ := h
    refine wpR_val (v := (Sl.v r51)) (w' := w24) rfl rfl rfl (x_append (s := r49) (u := (⟨some ⟨b50, 0, none⟩, 1, 1⟩ : Sl)) rfl rfl rfl rfl q51) ?_
    refine wpR_val (v := (Value.int .i64 p3)) (w' := w24) rfl rfl rfl (x_move (v := (Value.int .i64 p3)) rfl e3) ?_
    refine wpR_enter rfl rfl rfl (x_call (vs := [(Sl.v p0), (Value.string p1), (Sl.v r51), (Value.int .i64 p3)]) rfl rfl (mapl_cons rfl (mapl_cons rfl (mapl_cons rfl (mapl_cons rfl mapl_nil)))) Try.func10 NN_10 NB_10) (Calls.mono h ?_)
    rintro _ w25 ⟨r52, rfl, h⟩
    refine ⟨_, rfl, ?_⟩
    refine wpR_val (v := (Value.tuple #[(Sl.v r52.1), (Value.bool r52.2)])) (w' := w25) rfl rfl rfl (x_move (v := (Value.tuple #[(Sl.v r52.1), (Value.bool r52.2)])) rfl rfl) ?_
    refine wpR_val (v := (Sl.v r52.1)) (w' := w25) rfl rfl rfl (x_extract rfl rfl rfl) ?_
    refine wpR_val (v := (Value.bool r52.2)) (w' := w25) rfl rfl rfl (x_extract rfl rfl rfl) ?_
    refine wpR_val (v := (Sl.v r52.1)) (w' := w25) rfl rfl rfl (x_assign (v := (Sl.v r52.1)) rfl rfl) ?_
    refine wpR_val (v := (Value.bool r52.2)) (w' := w25) rfl rfl rfl (x_assign (v := (Value.bool r52.2)) rfl rfl) ?_
    refine wpR_nil ?_
    refine wpC_seq ?_
    refine wpC_seq ?_
    refine wpC_cut (fun ρ => ρ 0 = (Sl.v p0) ∧ ρ 1 = (Value.string p1) ∧ ρ 2 = (Sl.v p2) ∧ ρ 3 = (Value.int .i64 p3) ∧ ρ 6 = (Value.int .i64 p6) ∧ ρ 15 = (Value.bool r10) ∧ ρ 16 = (Sl.v r27.1) ∧ ρ 17 = (Value.bool r27.2) ∧ ρ 18 = (Sl.v l47.1) ∧ ρ 19 = (Value.bool l47.2) ∧ ρ 20 = (Sl.v r52.1) ∧ ρ 21 = (Value.bool r52.2) ∧ True) ⟨e0, e1, e2, e3, e6, e15, e16, e17, e18, e19, rfl, rfl, trivial⟩ ?_
    rintro ρ ⟨e0, e1, e2, e3, e6, e15, e16, e17, e18, e19, e20, e21, -⟩
    refine wpC_region ?_
    refine wpR_val (v := (Value.bool r27.2)) (w' := w25) rfl rfl rfl (x_move (v := (Value.bool r27.2)) rfl e17) ?_
    refine wpR_val (v := (Value.bool r27.2)) (w' := w25) rfl rfl rfl (x_move (v := (Value.bool r27.2)) rfl rfl) ?_
    refine wpR_joinJ 21 (fun (_ : Unit) ρ => ρ 114 = Value.bool (r27.2 && ((((!l47.2) || (!r52.2)) || (decide ((r27.1.len : Int) < (l47.1.len : Int)))) || (decide ((r27.1.len : Int) < (r52.1.len : Int))))) ∧ ρ 0 = (Sl.v p0) ∧ ρ 1 = (Value.string p1) ∧ ρ 2 = (Sl.v p2) ∧ ρ 3 = (Value.int .i64 p3) ∧ ρ 6 = (Value.int .i64 p6) ∧ ρ 15 = (Value.bool r10) ∧ ρ 17 = (Value.bool r27.2) ∧ True) (fun _ w => w25 = w) ?_ ?_
    · clear h
      rcases Bool.eq_false_or_eq_true (r27.2) with hc54 | hc54
      · skip
        refine wpR_val (v := (Value.bool l47.2)) (w' := w25) (wantG rfl rfl rfl hc54) rfl rfl (x_move (v := (Value.bool l47.2)) rfl e19) ?_
        refine wpR_val (v := (Value.bool (!l47.2))) (w' := w25) (wantG rfl rfl rfl hc54) rfl rfl (x_not rfl rfl) ?_
        refine wpR_val (v := (Value.bool (!l47.2))) (w' := w25) (wantG rfl rfl rfl hc54) rfl rfl (x_move (v := (Value.bool (!l47.2))) rfl rfl) ?_
        refine wpR_joinJ 3 (fun (_ : Unit) ρ => ρ 99 = Value.bool ((!l47.2) || (!r52.2)) ∧ ρ 0 = (Sl.v p0) ∧ ρ 1 = (Value.string p1) ∧ ρ 2 = (Sl.v p2) ∧ ρ 3 = (Value.int .i64 p3) ∧ ρ 6 = (Value.int .i64 p6) ∧ ρ 15 = (Value.bool r10) ∧ ρ 16 = (Sl.v r27.1) ∧ ρ 17 = (Value.bool r27.2) ∧ ρ 18 = (Sl.v l47.1) ∧ ρ 20 = (Sl.v r52.1) ∧ ρ 93 = (Value.bool r27.2) ∧ True) (fun _ w => w25 = w) ?_ ?_
        · clear h
          rcases Bool.eq_false_or_eq_true (!l47.2) with hc68 | hc68
          · skip
            refine wpR_pass (wantN rfl rfl rfl hc68) rfl rfl ?_
            refine wpR_pass (wantN rfl rfl rfl hc68) rfl rfl ?_
            refine wpR_val (v := (Value.bool true)) (w' := w25) (wantG rfl rfl rfl hc54) rfl rfl (x_pickT (v := (Value.bool true)) rfl rfl hc68 rfl) ?_
            refine wpR_nil ?_
            exact ⟨(), ⟨(by rw [hc68]; rfl), e0, e1, e2, e3, e6, e15, e16, e17, e18, e20, rfl, trivial⟩, rfl⟩
          · skip
            refine wpR_val (v := (Value.bool r52.2)) (w' := w25) (wantG rfl rfl rfl hc68) rfl rfl (x_move (v := (Value.bool r52.2)) rfl e21) ?_
            refine wpR_val (v := (Value.bool (!r52.2))) (w' := w25) (wantG rfl rfl rfl hc68) rfl rfl (x_not rfl rfl) ?_
            refine wpR_val (v := (Value.bool (!r52.2))) (w' := w25) (wantG rfl rfl rfl hc54) rfl rfl (x_pickF (v := (Value.bool (!r52.2))) rfl rfl hc68 rfl) ?_
            refine wpR_nil ?_
            exact ⟨(), ⟨(by rw [hc68]; rfl), e0, e1, e2, e3, e6, e15, e16, e17, e18, e20, rfl, trivial⟩, rfl⟩
        rintro _ ρ wj ⟨e99, e0, e1, e2, e3, e6, e15, e16, e17, e18, e20, e93, -⟩ rfl
        refine wpR_val (v := (Value.bool ((!l47.2) || (!r52.2)))) (w' := w25) (wantG rfl rfl e93 hc54) rfl rfl (x_move (v := (Value.bool ((!l47.2) || (!r52.2)))) rfl e99) ?_
        refine wpR_joinJ 6 (fun (_ : Unit) ρ => ρ 106 = Value.bool (((!l47.2) || (!r52.2)) || (decide ((r27.1.len : Int) < (l47.1.len : Int)))) ∧ ρ 0 = (Sl.v p0) ∧ ρ 1 = (Value.string p1) ∧ ρ 2 = (Sl.v p2) ∧ ρ 3 = (Value.int .i64 p3) ∧ ρ 6 = (Value.int .i64 p6) ∧ ρ 15 = (Value.bool r10) ∧ ρ 16 = (Sl.v r27.1) ∧ ρ 17 = (Value.bool r27.2) ∧ ρ 20 = (Sl.v r52.1) ∧ ρ 93 = (Value.bool r27.2) ∧ True) (fun _ w => w25 = w) ?_ ?_
        · clear h
          rcases Bool.eq_false_or_eq_true ((!l47.2) || (!r52.2)) with hc70 | hc70
          · skip
            refine wpR_pass (wantN rfl rfl rfl hc70) rfl rfl ?_
            refine wpR_pass (wantN rfl rfl rfl hc70) rfl rfl ?_
            refine wpR_pass (wantN rfl rfl rfl hc70) rfl rfl ?_
            refine wpR_pass (wantN rfl rfl rfl hc70) rfl rfl ?_
            refine wpR_pass (wantN rfl rfl rfl hc70) rfl rfl ?_
            refine wpR_val (v := (Value.bool true)) (w' := w25) (wantG rfl rfl e93 hc54) rfl rfl (x_pickT (v := (Value.bool true)) rfl rfl hc70 rfl) ?_
            refine wpR_nil ?_
            exact ⟨(), ⟨(by rw [hc70]; rfl), e0, e1, e2, e3, e6, e15, e16, e17, e20, e93, trivial⟩, rfl⟩
          · skip
            refine wpR_val (v := (Sl.v l47.1)) (w' := w25) (wantG rfl rfl rfl hc70) rfl rfl (x_move (v := (Sl.v l47.1)) rfl e18) ?_
            refine wpR_val (v := (Value.int .i64 (l47.1.len : Int))) (w' := w25) (wantG rfl rfl rfl hc70) rfl rfl (x_lenS (s := l47.1) rfl rfl isSliceT_24) ?_
            refine wpR_val (v := (Sl.v r27.1)) (w' := w25) (wantG rfl rfl rfl hc70) rfl rfl (x_move (v := (Sl.v r27.1)) rfl e16) ?_
            refine wpR_val (v := (Value.int .i64 (r27.1.len : Int))) (w' := w25) (wantG rfl rfl rfl hc70) rfl rfl (x_lenS (s := r27.1) rfl rfl isSliceT_24) ?_
            refine wpR_val (v := (Value.bool (decide ((r27.1.len : Int) < (l47.1.len : Int))))) (w' := w25) (wantG rfl rfl rfl hc70) rfl rfl (x_gtr rfl rfl rfl) ?_
            refine wpR_val (v := (Value.bool (decide ((r27.1.len : Int) < (l47.1.len : Int))))) (w' := w25) (wantG rfl rfl e93 hc54) rfl rfl (x_pickF (v := (Value.bool (decide ((r27.1.len : Int) < (l47.1.len : Int))))) rfl rfl hc70 rfl) ?_
            refine wpR_nil ?_
            exact ⟨(), ⟨(by rw [hc70]; rfl), e0, e1, e2, e3, e6, e15, e16, e17, e20, e93, trivial⟩, rfl⟩
        rintro _ ρ wj ⟨e106, e0, e1, e2, e3, e6, e15, e16, e17, e20, e93, -⟩ rfl
        refine wpR_val (v := (Value.bool (((!l47.2) || (!r52.2)) || (decide ((r27.1.len : Int) < (l47.1.len : Int)))))) (w' := w25) (wantG rfl rfl e93 hc54) rfl rfl (x_move (v := (Value.bool (((!l47.2) || (!r52.2)) || (decide ((r27.1.len : Int) < (l47.1.len : Int)))))) rfl e106) ?_
        refine wpR_joinJ 6 (fun (_ : Unit) ρ => ρ 113 = Value.bool ((((!l47.2) || (!r52.2)) || (decide ((r27.1.len : Int) < (l47.1.len : Int)))) || (decide ((r27.1.len : Int) < (r52.1.len : Int)))) ∧ ρ 0 = (Sl.v p0) ∧ ρ 1 = (Value.string p1) ∧ ρ 2 = (Sl.v p2) ∧ ρ 3 = (Value.int .i64 p3) ∧ ρ 6 = (Value.int .i64 p6) ∧ ρ 15 = (Value.bool r10) ∧ ρ 17 = (Value.bool r27.2) ∧ ρ 93 = (Value.bool r27.2) ∧ True) (fun _ w => w25 = w) ?_ ?_
        · clear h
          rcases Bool.eq_false_or_eq_true (((!l47.2) || (!r52.2)) || (decide ((r27.1.len : Int) < (l47.1.len : Int)))) with hc72 | hc72
          · skip
            refine wpR_pass (wantN rfl rfl rfl hc72) rfl rfl ?_
            refine wpR_pass (wantN rfl rfl rfl hc72) rfl rfl ?_
            refine wpR_pass (wantN rfl rfl rfl hc72) rfl rfl ?_
            refine wpR_pass (wantN rfl rfl rfl hc72) rfl rfl ?_
            refine wpR_pass (wantN rfl rfl rfl hc72) rfl rfl ?_
            refine wpR_val (v := (Value.bool true)) (w' := w25) (wantG rfl rfl e93 hc54) rfl rfl (x_pickT (v := (Value.bool true)) rfl rfl hc72 rfl) ?_
            refine wpR_nil ?_
            exact ⟨(), ⟨(by rw [hc72]; rfl), e0, e1, e2, e3, e6, e15, e17, e93, trivial⟩, rfl⟩
          · skip
            refine wpR_val (v := (Sl.v r52.1)) (w' := w25) (wantG rfl rfl rfl hc72) rfl rfl (x_move (v := (Sl.v r52.1)) rfl e20) ?_
            refine wpR_val (v := (Value.int .i64 (r52.1.len : Int))) (w' := w25) (wantG rfl rfl rfl hc72) rfl rfl (x_lenS (s := r52.1) rfl rfl isSliceT_24) ?_
            refine wpR_val (v := (Sl.v r27.1)) (w' := w25) (wantG rfl rfl rfl hc72) rfl rfl (x_move (v := (Sl.v r27.1)) rfl e16) ?_
            refine wpR_val (v := (Value.int .i64 (r27.1.len : Int))) (w' := w25) (wantG rfl rfl rfl hc72) rfl rfl (x_lenS (s := r27.1) rfl rfl isSliceT_24) ?_
            refine wpR_val (v := (Value.bool (decide ((r27.1.len : Int) < (r52.1.len : Int))))) (w' := w25) (wantG rfl rfl rfl hc72) rfl rfl (x_gtr rfl rfl rfl) ?_
            refine wpR_val (v := (Value.bool (decide ((r27.1.len : Int) < (r52.1.len : Int))))) (w' := w25) (wantG rfl rfl e93 hc54) rfl rfl (x_pickF (v := (Value.bool (decide ((r27.1.len : Int) < (r52.1.len : Int))))) rfl rfl hc72 rfl) ?_
            refine wpR_nil ?_
            exact ⟨(), ⟨(by rw [hc72]; rfl), e0, e1, e2, e3, e6, e15, e17, e93, trivial⟩, rfl⟩
        rintro _ ρ wj ⟨e113, e0, e1, e2, e3, e6, e15, e17, e93, -⟩ rfl
        refine wpR_val (v := (Value.bool ((((!l47.2) || (!r52.2)) || (decide ((r27.1.len : Int) < (l47.1.len : Int)))) || (decide ((r27.1.len : Int) < (r52.1.len : Int)))))) (w' := w25) rfl rfl rfl (x_pickT (v := (Value.bool ((((!l47.2) || (!r52.2)) || (decide ((r27.1.len : Int) < (l47.1.len : Int)))) || (decide ((r27.1.len : Int) < (r52.1.len : Int)))))) rfl e93 hc54 e113) ?_
        refine wpR_nil ?_
        exact ⟨(), ⟨(by rw [hc54]; rfl), e0, e1, e2, e3, e6, e15, e17, trivial⟩, rfl⟩
      · skip
        refine wpR_pass (wantN rfl rfl rfl hc54) rfl rfl ?_
        refine wpR_pass (wantN rfl rfl rfl hc54) rfl rfl ?_
        refine wpR_pass (wantN rfl rfl rfl hc54) rfl rfl ?_
        refine wpR_pass (wantU rfl rfl rfl) rfl rfl ?_
        refine wpR_pass (wantU rfl rfl rfl) rfl rfl ?_
        refine wpR_pass (wantN rfl rfl rfl hc54) rfl rfl ?_
        refine wpR_pass (wantN rfl rfl rfl hc54) rfl rfl ?_
        refine wpR_pass (wantU rfl rfl rfl) rfl rfl ?_
        refine wpR_pass (wantU rfl rfl rfl) rfl rfl ?_
        refine wpR_pass (wantU rfl rfl rfl) rfl rfl ?_
        refine wpR_pass (wantU rfl rfl rfl) rfl rfl ?_
        refine wpR_pass (wantU rfl rfl rfl) rfl rfl ?_
        refine wpR_pass (wantN rfl rfl rfl hc54) rfl rfl ?_
        refine wpR_pass (wantN rfl rfl rfl hc54) rfl rfl ?_
        refine wpR_pass (wantU rfl rfl rfl) rfl rfl ?_
        refine wpR_pass (wantU rfl rfl rfl) rfl rfl ?_
        refine wpR_pass (wantU rfl rfl rfl) rfl rfl ?_
        refine wpR_pass (wantU rfl rfl rfl) rfl rfl ?_
        refine wpR_pass (wantU rfl rfl rfl) rfl rfl ?_
        refine wpR_pass (wantN rfl rfl rfl hc54) rfl rfl ?_
        refine wpR_val (v := (Value.bool false)) (w' := w25) rfl rfl rfl (x_pickF (v := (Value.bool false)) rfl rfl hc54 rfl) ?_
        refine wpR_nil ?_
        exact ⟨(), ⟨(by rw [hc54]; rfl), e0, e1, e2, e3, e6, e15, e17, trivial⟩, rfl⟩
    rintro _ ρ wj ⟨e114, e0, e1, e2, e3, e6, e15, e17, -⟩ rfl
    refine wpR_nil ?_
    refine wpC_cond (b := r27.2 && ((((!l47.2) || (!r52.2)) || (decide ((r27.1.len : Int) < (l47.1.len : Int)))) || (decide ((r27.1.len : Int) < (r52.1.len : Int))))) e114 (fun hc73 => ?_) (fun hc73 => ?_)
    · replace h := h.1 hc73
      refine wpC_seq ?_
      refine wpC_region ?_
      refine wpR_val (v := (Value.bool false)) (w' := w25) rfl rfl rfl (x_assign (v := (Value.bool false)) rfl rfl) ?_
      refine wpR_nil ?_
      refine wpC_ret ?_
      exact ⟨.inl rfl, fun a ha => ⟨_, results_rep1 rfl ha rfl, false, rfl, h⟩⟩
    · replace h := h.2 hc73
      refine wpC_skip ?_
      refine wpC_seq ?_
      refine wpC_region ?_
      refine wpR_val (v := (Sl.v p0)) (w' := w25) rfl rfl rfl (x_move (v := (Sl.v p0)) rfl e0) ?_
      refine wpR_val (v := (Value.string p1)) (w' := w25) rfl rfl rfl (x_move (v := (Value.string p1)) rfl e1) ?_
      refine wpR_val (v := (Sl.v p2)) (w' := w25) rfl rfl rfl (x_move (v := (Sl.v p2)) rfl e2) ?_
      refine wpR_val (v := (Value.int .i64 p6)) (w' := w25) rfl rfl rfl (x_move (v := (Value.int .i64 p6)) rfl e6) ?_
      refine wpR_enter rfl rfl rfl (x_call (vs := [(Sl.v p0), (Value.string p1), (Sl.v p2), (Value.int .i64 p6)]) rfl rfl (mapl_cons rfl (mapl_cons rfl (mapl_cons rfl (mapl_cons rfl mapl_nil)))) Try.func10 NN_10 NB_10) (Calls.mono h ?_)
      rintro _ w26 ⟨r74, rfl, h⟩
      refine ⟨_, rfl, ?_⟩
      refine wpR_val (v := (Value.tuple #[(Sl.v r74.1), (Value.bool r74.2)])) (w' := w26) rfl rfl rfl (x_move (v := (Value.tuple #[(Sl.v r74.1), (Value.bool r74.2)])) rfl rfl) ?_
      refine wpR_val (v := (Sl.v r74.1)) (w' := w26) rfl rfl rfl (x_extract rfl rfl rfl) ?_
      refine wpR_val (v := (Value.bool r74.2)) (w' := w26) rfl rfl rfl (x_extract rfl rfl rfl) ?_
      refine wpR_val (v := (Sl.v r74.1)) (w' := w26) rfl rfl rfl (x_assign (v := (Sl.v r74.1)) rfl rfl) ?_
      refine wpR_val (v := (Value.bool r74.2)) (w' := w26) rfl rfl rfl (x_assign (v := (Value.bool r74.2)) rfl rfl) ?_
      refine wpR_nil ?_
      refine wpC_seq ?_
      refine wpC_cut (fun ρ => ρ 3 = (Value.int .i64 p3) ∧ ρ 6 = (Value.int .i64 p6) ∧ ρ 15 = (Value.bool r10) ∧ ρ 17 = (Value.bool r27.2) ∧ ρ 23 = (Value.bool r74.2) ∧ True) ⟨e3, e6, e15, e17, rfl, trivial⟩ ?_
      rintro ρ ⟨e3, e6, e15, e17, e23, -⟩
      refine wpC_region ?_
      refine wpR_val (v := (Value.bool r10)) (w' := w26) rfl rfl rfl (x_move (v := (Value.bool r10)) rfl e15) ?_
      refine wpR_val (v := (Value.bool r10)) (w' := w26) rfl rfl rfl (x_move (v := (Value.bool r10)) rfl rfl) ?_
      refine wpR_joinJ 16 (fun (_ : Unit) ρ => ρ 140 = Value.bool (r10 && (!((((decide (p3 ≤ p6)) && (decide (0 ≤ p3))) && r74.2) && (!r27.2)))) ∧ True) (fun _ w => w26 = w) ?_ ?_
      · clear h
        rcases Bool.eq_false_or_eq_true (r10) with hc76 | hc76
        · skip
          refine wpR_val (v := (Value.int .i64 p6)) (w' := w26) (wantG rfl rfl rfl hc76) rfl rfl (x_move (v := (Value.int .i64 p6)) rfl e6) ?_
          refine wpR_val (v := (Value.int .i64 p3)) (w' := w26) (wantG rfl rfl rfl hc76) rfl rfl (x_move (v := (Value.int .i64 p3)) rfl e3) ?_
          refine wpR_val (v := (Value.bool (decide (p3 ≤ p6)))) (w' := w26) (wantG rfl rfl rfl hc76) rfl rfl (x_geq rfl rfl rfl) ?_
          refine wpR_val (v := (Value.bool (decide (p3 ≤ p6)))) (w' := w26) (wantG rfl rfl rfl hc76) rfl rfl (x_move (v := (Value.bool (decide (p3 ≤ p6)))) rfl rfl) ?_
          refine wpR_joinJ 3 (fun (_ : Unit) ρ => ρ 131 = Value.bool ((decide (p3 ≤ p6)) && (decide (0 ≤ p3))) ∧ ρ 17 = (Value.bool r27.2) ∧ ρ 23 = (Value.bool r74.2) ∧ ρ 124 = (Value.bool r10) ∧ True) (fun _ w => w26 = w) ?_ ?_
          · clear h
            rcases Bool.eq_false_or_eq_true (decide (p3 ≤ p6)) with hc90 | hc90
            · skip
              refine wpR_val (v := (Value.int .i64 p3)) (w' := w26) (wantG rfl rfl rfl hc90) rfl rfl (x_move (v := (Value.int .i64 p3)) rfl e3) ?_
              refine wpR_val (v := (Value.bool (decide (0 ≤ p3)))) (w' := w26) (wantG rfl rfl rfl hc90) rfl rfl (x_geq rfl rfl rfl) ?_
              refine wpR_val (v := (Value.bool (decide (0 ≤ p3)))) (w' := w26) (wantG rfl rfl rfl hc76) rfl rfl (x_pickT (v := (Value.bool (decide (0 ≤ p3)))) rfl rfl hc90 rfl) ?_
              refine wpR_nil ?_
              exact ⟨(), ⟨(by rw [hc90]; rfl), e17, e23, rfl, trivial⟩, rfl⟩
            · skip
              refine wpR_pass (wantN rfl rfl rfl hc90) rfl rfl ?_
              refine wpR_pass (wantN rfl rfl rfl hc90) rfl rfl ?_
              refine wpR_val (v := (Value.bool false)) (w' := w26) (wantG rfl rfl rfl hc76) rfl rfl (x_pickF (v := (Value.bool false)) rfl rfl hc90 rfl) ?_
              refine wpR_nil ?_
              exact ⟨(), ⟨(by rw [hc90]; rfl), e17, e23, rfl, trivial⟩, rfl⟩
          rintro _ ρ wj ⟨e131, e17, e23, e124, -⟩ rfl
          refine wpR_val (v := (Value.bool ((decide (p3 ≤ p6)) && (decide (0 ≤ p3))))) (w' := w26) (wantG rfl rfl e124 hc76) rfl rfl (x_move (v := (Value.bool ((decide (p3 ≤ p6)) && (decide (0 ≤ p3))))) rfl e131) ?_
          refine wpR_joinJ 2 (fun (_ : Unit) ρ => ρ 134 = Value.bool (((decide (p3 ≤ p6)) && (decide (0 ≤ p3))) && r74.2) ∧ ρ 17 = (Value.bool r27.2) ∧ ρ 124 = (Value.bool r10) ∧ True) (fun _ w => w26 = w) ?_ ?_
          · clear h
            rcases Bool.eq_false_or_eq_true ((decide (p3 ≤ p6)) && (decide (0 ≤ p3))) with hc92 | hc92
            · skip
              refine wpR_val (v := (Value.bool r74.2)) (w' := w26) (wantG rfl rfl rfl hc92) rfl rfl (x_move (v := (Value.bool r74.2)) rfl e23) ?_
              refine wpR_val (v := (Value.bool r74.2)) (w' := w26) (wantG rfl rfl e124 hc76) rfl rfl (x_pickT (v := (Value.bool r74.2)) rfl rfl hc92 rfl) ?_
              refine wpR_nil ?_
              exact ⟨(), ⟨(by rw [hc92]; rfl), e17, e124, trivial⟩, rfl⟩
            · skip
              refine wpR_pass (wantN rfl rfl rfl hc92) rfl rfl ?_
              refine wpR_val (v := (Value.bool false)) (w' := w26) (wantG rfl rfl e124 hc76) rfl rfl (x_pickF (v := (Value.bool false)) rfl rfl hc92 rfl) ?_
              refine wpR_nil ?_
              exact ⟨(), ⟨(by rw [hc92]; rfl), e17, e124, trivial⟩, rfl⟩
          rintro _ ρ wj ⟨e134, e17, e124, -⟩ rfl
          refine wpR_val (v := (Value.bool (((decide (p3 ≤ p6)) && (decide (0 ≤ p3))) && r74.2))) (w' := w26) (wantG rfl rfl e124 hc76) rfl rfl (x_move (v := (Value.bool (((decide (p3 ≤ p6)) && (decide (0 ≤ p3))) && r74.2))) rfl e134) ?_
          refine wpR_joinJ 3 (fun (_ : Unit) ρ => ρ 138 = Value.bool ((((decide (p3 ≤ p6)) && (decide (0 ≤ p3))) && r74.2) && (!r27.2)) ∧ ρ 124 = (Value.bool r10) ∧ True) (fun _ w => w26 = w) ?_ ?_
          · clear h
            rcases Bool.eq_false_or_eq_true (((decide (p3 ≤ p6)) && (decide (0 ≤ p3))) && r74.2) with hc94 | hc94
            · skip
              refine wpR_val (v := (Value.bool r27.2)) (w' := w26) (wantG rfl rfl rfl hc94) rfl rfl (x_move (v := (Value.bool r27.2)) rfl e17) ?_
              refine wpR_val (v := (Value.bool (!r27.2))) (w' := w26) (wantG rfl rfl rfl hc94) rfl rfl (x_not rfl rfl) ?_
              refine wpR_val (v := (Value.bool (!r27.2))) (w' := w26) (wantG rfl rfl e124 hc76) rfl rfl (x_pickT (v := (Value.bool (!r27.2))) rfl rfl hc94 rfl) ?_
              refine wpR_nil ?_
              exact ⟨(), ⟨(by rw [hc94]; rfl), e124, trivial⟩, rfl⟩
            · skip
              refine wpR_pass (wantN rfl rfl rfl hc94) rfl rfl ?_
              refine wpR_pass (wantN rfl rfl rfl hc94) rfl rfl ?_
              refine wpR_val (v := (Value.bool false)) (w' := w26) (wantG rfl rfl e124 hc76) rfl rfl (x_pickF (v := (Value.bool false)) rfl rfl hc94 rfl) ?_
              refine wpR_nil ?_
              exact ⟨(), ⟨(by rw [hc94]; rfl), e124, trivial⟩, rfl⟩
          rintro _ ρ wj ⟨e138, e124, -⟩ rfl
          refine wpR_val (v := (Value.bool (!((((decide (p3 ≤ p6)) && (decide (0 ≤ p3))) && r74.2) && (!r27.2))))) (w' := w26) (wantG rfl rfl e124 hc76) rfl rfl (x_not rfl e138) ?_
          refine wpR_val (v := (Value.bool (!((((decide (p3 ≤ p6)) && (decide (0 ≤ p3))) && r74.2) && (!r27.2))))) (w' := w26) rfl rfl rfl (x_pickT (v := (Value.bool (!((((decide (p3 ≤ p6)) && (decide (0 ≤ p3))) && r74.2) && (!r27.2))))) rfl e124 hc76 rfl) ?_
          refine wpR_nil ?_
          exact ⟨(), ⟨(by rw [hc76]; rfl), trivial⟩, rfl⟩
        · skip
          refine wpR_pass (wantN rfl rfl rfl hc76) rfl rfl ?_
          refine wpR_pass (wantN rfl rfl rfl hc76) rfl rfl ?_
          refine wpR_pass (wantN rfl rfl rfl hc76) rfl rfl ?_
          refine wpR_pass (wantN rfl rfl rfl hc76) rfl rfl ?_
          refine wpR_pass (wantU rfl rfl rfl) rfl rfl ?_
          refine wpR_pass (wantU rfl rfl rfl) rfl rfl ?_
          refine wpR_pass (wantN rfl rfl rfl hc76) rfl rfl ?_
          refine wpR_pass (wantN rfl rfl rfl hc76) rfl rfl ?_
          refine wpR_pass (wantU rfl rfl rfl) rfl rfl ?_
          refine wpR_pass (wantN rfl rfl rfl hc76) rfl rfl ?_
          refine wpR_pass (wantN rfl rfl rfl hc76) rfl rfl ?_
          refine wpR_pass (wantU rfl rfl rfl) rfl rfl ?_
          refine wpR_pass (wantU rfl rfl rfl) rfl rfl ?_
          refine wpR_pass (wantN rfl rfl rfl hc76) rfl rfl ?_
          refine wpR_pass (wantN rfl rfl rfl hc76) rfl rfl ?_
          refine wpR_val (v := (Value.bool false)) (w' := w26) rfl rfl rfl (x_pickF (v := (Value.bool false)) rfl rfl hc76 rfl) ?_
          refine wpR_nil ?_
          exact ⟨(), ⟨(by rw [hc76]; rfl), trivial⟩, rfl⟩
      rintro _ ρ wj ⟨e140, -⟩ rfl
      refine wpR_val (v := (Value.bool (r10 && (!((((decide (p3 ≤ p6)) && (decide (0 ≤ p3))) && r74.2) && (!r27.2)))))) (w' := w26) rfl rfl rfl (x_assign (v := (Value.bool (r10 && (!((((decide (p3 ≤ p6)) && (decide (0 ≤ p3))) && r74.2) && (!r27.2)))))) rfl e140) ?_
      refine wpR_nil ?_
      refine wpC_ret ?_
      exact ⟨.inl rfl, fun a ha => ⟨_, results_rep1 rfl ha rfl, r10 && (!((((decide (p3 ≤ p6)) && (decide (0 ≤ p3))) && r74.2) && (!r27.2))), rfl, h⟩⟩

/-- lingualaw39.ConvertTells -/
def F6 (p0 : Sl) (p1 : ByteArray) (p2 : Sl) (p3 : Int) (p4_0 : ByteArray) (p4_1 : Int) (p4_2 : Int) (p4_3 : Int) (p4_4 : Bool) (p4_5 : Int) (p4_6 : Bool) (p4_7 : Bool) (p4_8 : Int) (p4_9 : Int) (p4_10 : Int) (p4_11 : Int) (p4_12 : Sl) (p4_13 : Int) (p4_14 : Int) (p4_15 : Int) (p4_16 : Int) (p4_17 : Bool) (p4_18 : Int) (p4_19 : Int) (p4_20 : Int) (p4_21 : Int) (w0 : World) (K : Bool → World → Prop) : Prop :=
  nw 39 (A38 p4_0 p4_1 p4_2 p4_3 p4_4 p4_5 p4_6 p4_7 p4_8 p4_9 p4_10 p4_11 p4_12 p4_13 p4_14 p4_15 p4_16 p4_17 p4_18 p4_19 p4_20 p4_21) w0 fun b9 w1 =>
  callC Try.prog 8 #[] (fun (r : Bool) => (Value.bool r)) w1 fun r10 w2 =>
  callC Try.prog 9 #[(Sl.v p0), (Value.string p1), (Sl.v p2)] (fun (r : Bool) => (Value.bool r)) w2 fun r11 w3 =>
  jn (fun J12 => cnd (!r11)
    (
    J12 true w3
    )
    (
    L38 (Addr.mk b9 0 none) w3 fun x14 x15 x16 x17 x18 x19 x20 x21 x22 x23 x24 x25 x26 x27 x28 x29 x30 x31 x32 x33 x34 x35 =>
    callC Try.prog 14 #[(V38 x14 x15 x16 x17 x18 x19 x20 x21 x22 x23 x24 x25 x26 x27 x28 x29 x30 x31 x32 x33 x34 x35)] (fun (r : Bool) => (Value.bool r)) w3 fun r36 w4 =>
    J12 (!r36) w4
    ))
  fun c37 w5 =>
  cnd (c37)
    (
    K r10 w5
    )
    (
    callC Try.prog 10 #[(Sl.v p0), (Value.string p1), (Sl.v p2), (Value.int .i64 p3)] (fun (r : Sl × Bool) => (Value.tuple #[(Sl.v r.1), (Value.bool r.2)])) w5 fun r39 w6 =>
    callC Try.prog 15 #[(Sl.v p0), (Value.string p1), (Sl.v p2), (Value.int .i64 p3)] (fun (r : Sl × Bool) => (Value.tuple #[(Sl.v r.1), (Value.bool r.2)])) w6 fun r40 w7 =>
    jn (fun (J42 : Bool → World → Prop) => tk w7 fun w8 =>
      cnd (r10)
        (
        cnd (r39.2 == r40.2)
          (
          callC Try.prog 13 #[(Sl.v r39.1), (Sl.v r40.1)] (fun (r : Bool) => (Value.bool r)) w8 fun r45 w9 =>
          cnd (r45)
            (
            L38 (Addr.mk b9 0 none) w9 fun x47 x48 x49 x50 x51 x52 x53 x54 x55 x56 x57 x58 x59 x60 x61 x62 x63 x64 x65 x66 x67 x68 =>
            L38 (Addr.mk b9 0 none) w9 fun x69 x70 x71 x72 x73 x74 x75 x76 x77 x78 x79 x80 x81 x82 x83 x84 x85 x86 x87 x88 x89 x90 =>
            callC Try.prog 16 #[(V38 x47 x48 x49 x50 x51 x52 x53 x54 x55 x56 x57 x58 x59 x60 x61 x62 x63 x64 x65 x66 x67 x68), (Value.string p1), (Value.int .i64 p3)] (fun (r : Bool) => (Value.bool r)) w9 fun r91 w10 =>
            (C38 (Addr.mk b9 0 none) x69 x70 x71 x72 x73 x74 x75 x76 x77 x78 x79 x80 x81 x82 x83 x84 x85 x86 x87 x88 x89 x90 w10) ∧
            callC Try.prog 17 #[(V38 x69 x70 x71 x72 x73 x74 x75 x76 x77 x78 x79 x80 x81 x82 x83 x84 x85 x86 x87 x88 x89 x90), (Value.string p1), (Value.int .i64 p3)] (fun (r : Bool) => (Value.bool r)) w10 fun r92 w11 =>
            J42 (r91 == r92) w11
            )
            (
            J42 false w9
            )
          )
          (
          J42 false w8
          )
        )
        (
        J42 false w8
        )
    )
    fun l93 w12 =>
    K l93 w12
    )
set_option maxRecDepth 100000 in
theorem D6 (p0 : Sl) (p1 : ByteArray) (p2 : Sl) (p3 : Int) (p4_0 : ByteArray) (p4_1 : Int) (p4_2 : Int) (p4_3 : Int) (p4_4 : Bool) (p4_5 : Int) (p4_6 : Bool) (p4_7 : Bool) (p4_8 : Int) (p4_9 : Int) (p4_10 : Int) (p4_11 : Int) (p4_12 : Sl) (p4_13 : Int) (p4_14 : Int) (p4_15 : Int) (p4_16 : Int) (p4_17 : Bool) (p4_18 : Int) (p4_19 : Int) (p4_20 : Int) (p4_21 : Int) (w0 : World) (K : Bool → World → Prop) (h : F6 p0 p1 p2 p3 p4_0 p4_1 p4_2 p4_3 p4_4 p4_5 p4_6 p4_7 p4_8 p4_9 p4_10 p4_11 p4_12 p4_13 p4_14 p4_15 p4_16 p4_17 p4_18 p4_19 p4_20 p4_21 w0 K) : callC Try.prog 6 #[(Sl.v p0), (Value.string p1), (Sl.v p2), (Value.int .i64 p3), (V38 p4_0 p4_1 p4_2 p4_3 p4_4 p4_5 p4_6 p4_7 p4_8 p4_9 p4_10 p4_11 p4_12 p4_13 p4_14 p4_15 p4_16 p4_17 p4_18 p4_19 p4_20 p4_21)] (fun (r : Bool) => (Value.bool r)) w0 K := by
  unfold F6 at h
  refine calls_of_wpC Try.func6 rfl 66 rfl (by simp) ?_
  intro ρ hρ
  have e0 : ρ 0 = (Sl.v p0) := hρ 0
  have e1 : ρ 1 = (Value.string p1) := hρ 1
  have e2 : ρ 2 = (Sl.v p2) := hρ 2
  have e3 : ρ 3 = (Value.int .i64 p3) := hρ 3
  have e4 : ρ 4 = (V38 p4_0 p4_1 p4_2 p4_3 p4_4 p4_5 p4_6 p4_7 p4_8 p4_9 p4_10 p4_11 p4_12 p4_13 p4_14 p4_15 p4_16 p4_17 p4_18 p4_19 p4_20 p4_21) := hρ 4
  clear hρ
  refine wpC_seq ?_
  refine wpC_region ?_
  obtain ⟨b9, hb9⟩ : ∃ u, u = w0.heap.size := ⟨_, rfl⟩
  obtain ⟨w1, hw9⟩ : ∃ u, u = w0.alloc (.cells (A38 p4_0 p4_1 p4_2 p4_3 p4_4 p4_5 p4_6 p4_7 p4_8 p4_9 p4_10 p4_11 p4_12 p4_13 p4_14 p4_15 p4_16 p4_17 p4_18 p4_19 p4_20 p4_21) 39) := ⟨_, rfl⟩
  replace h := h b9 w1 hb9 hw9
  refine wpR_val (v := (Value.pointer (some (Addr.mk b9 0 none)))) (w' := w1) rfl rfl rfl ((x_box (v := (V38 p4_0 p4_1 p4_2 p4_3 p4_4 p4_5 p4_6 p4_7 p4_8 p4_9 p4_10 p4_11 p4_12 p4_13 p4_14 p4_15 p4_16 p4_17 p4_18 p4_19 p4_20 p4_21)) rfl e4).trans (by rw [hb9, hw9]; rfl)) ?_
  refine wpR_val (v := (Value.bool false)) (w' := w1) rfl rfl rfl (x_assign (v := (Value.bool false)) rfl rfl) ?_
  refine wpR_nil ?_
  refine wpC_seq ?_
  refine wpC_cut (fun ρ => ρ 0 = (Sl.v p0) ∧ ρ 1 = (Value.string p1) ∧ ρ 2 = (Sl.v p2) ∧ ρ 3 = (Value.int .i64 p3) ∧ ρ 9 = (Value.pointer (some (Addr.mk b9 0 none))) ∧ True) ⟨e0, e1, e2, e3, rfl, trivial⟩ ?_
  rintro ρ ⟨e0, e1, e2, e3, e9, -⟩
  refine wpC_region ?_
  refine wpR_enter rfl rfl rfl (x_call (vs := []) rfl rfl mapl_nil Try.func8 NN_8 NB_8) (Calls.mono h ?_)
  rintro _ w2 ⟨r10, rfl, h⟩
  refine ⟨_, rfl, ?_⟩
  refine wpR_val (v := (Value.bool r10)) (w' := w2) rfl rfl rfl (x_assign (v := (Value.bool r10)) rfl rfl) ?_
  refine wpR_nil ?_
  refine wpC_seq ?_
  refine wpC_seq ?_
  refine wpC_cut (fun ρ => ρ 0 = (Sl.v p0) ∧ ρ 1 = (Value.string p1) ∧ ρ 2 = (Sl.v p2) ∧ ρ 3 = (Value.int .i64 p3) ∧ ρ 9 = (Value.pointer (some (Addr.mk b9 0 none))) ∧ ρ 11 = (Value.bool r10) ∧ True) ⟨e0, e1, e2, e3, e9, rfl, trivial⟩ ?_
  rintro ρ ⟨e0, e1, e2, e3, e9, e11, -⟩
  refine wpC_region ?_
  refine wpR_val (v := (Sl.v p0)) (w' := w2) rfl rfl rfl (x_move (v := (Sl.v p0)) rfl e0) ?_
  refine wpR_val (v := (Value.string p1)) (w' := w2) rfl rfl rfl (x_move (v := (Value.string p1)) rfl e1) ?_
  refine wpR_val (v := (Sl.v p2)) (w' := w2) rfl rfl rfl (x_move (v := (Sl.v p2)) rfl e2) ?_
  refine wpR_enter rfl rfl rfl (x_call (vs := [(Sl.v p0), (Value.string p1), (Sl.v p2)]) rfl rfl (mapl_cons rfl (mapl_cons rfl (mapl_cons rfl mapl_nil))) Try.func9 NN_9 NB_9) (Calls.mono h ?_)
  rintro _ w3 ⟨r11, rfl, h⟩
  refine ⟨_, rfl, ?_⟩
  refine wpR_val (v := (Value.bool (!r11))) (w' := w3) rfl rfl rfl (x_not rfl rfl) ?_
  refine wpR_val (v := (Value.bool (!r11))) (w' := w3) rfl rfl rfl (x_move (v := (Value.bool (!r11))) rfl rfl) ?_
  obtain ⟨J12, h, hk⟩ := h
  refine wpR_joinJ 4 (fun x ρ => ρ 26 = Value.bool x ∧ ρ 0 = (Sl.v p0) ∧ ρ 1 = (Value.string p1) ∧ ρ 2 = (Sl.v p2) ∧ ρ 3 = (Value.int .i64 p3) ∧ ρ 9 = (Value.pointer (some (Addr.mk b9 0 none))) ∧ ρ 11 = (Value.bool r10) ∧ True) (J12) ?_ ?_
  · clear hk
    rcases Bool.eq_false_or_eq_true (!r11) with hc13 | hc13
    · replace h := h.1 hc13
      refine wpR_pass (wantN rfl rfl rfl hc13) rfl rfl ?_
      refine wpR_pass (wantN rfl rfl rfl hc13) rfl rfl ?_
      refine wpR_pass (wantN rfl rfl rfl hc13) rfl rfl ?_
      refine wpR_val (v := (Value.bool true)) (w' := w3) rfl rfl rfl (x_pickT (v := (Value.bool true)) rfl rfl hc13 rfl) ?_
      refine wpR_nil ?_
      exact ⟨true, ⟨rfl, e0, e1, e2, e3, e9, e11, trivial⟩, h⟩
    · replace h := h.2 hc13
      obtain ⟨x14, q14, x15, q15, x16, q16, x17, q17, x18, q18, x19, q19, x20, q20, x21, q21, x22, q22, x23, q23, x24, q24, x25, q25, x26, q26, x27, q27, x28, q28, x29, q29, x30, q30, x31, q31, x32, q32, x33, q33, x34, q34, x35, q35, h⟩ := h
      refine wpR_val (v := (V38 x14 x15 x16 x17 x18 x19 x20 x21 x22 x23 x24 x25 x26 x27 x28 x29 x30 x31 x32 x33 x34 x35)) (w' := w3) (wantG rfl rfl rfl hc13) rfl rfl (x_loadN (S38 x14 x15 x16 x17 x18 x19 x20 x21 x22 x23 x24 x25 x26 x27 x28 x29 x30 x31 x32 x33 x34 x35) rfl e9 SH_39 (K38 ⟨q14, q15, q16, q17, q18, q19, q20, q21, q22, q23, q24, q25, q26, q27, q28, q29, q30, q31, q32, q33, q34, q35⟩)) ?_
      refine wpR_enter (wantG rfl rfl rfl hc13) rfl rfl (x_call (vs := [(V38 x14 x15 x16 x17 x18 x19 x20 x21 x22 x23 x24 x25 x26 x27 x28 x29 x30 x31 x32 x33 x34 x35)]) rfl rfl (mapl_cons rfl mapl_nil) Try.func14 NN_14 NB_14) (Calls.mono h ?_)
      rintro _ w4 ⟨r36, rfl, h⟩
      refine ⟨_, rfl, ?_⟩
      refine wpR_val (v := (Value.bool (!r36))) (w' := w4) (wantG rfl rfl rfl hc13) rfl rfl (x_not rfl rfl) ?_
      refine wpR_val (v := (Value.bool (!r36))) (w' := w4) rfl rfl rfl (x_pickF (v := (Value.bool (!r36))) rfl rfl hc13 rfl) ?_
      refine wpR_nil ?_
      exact ⟨!r36, ⟨rfl, e0, e1, e2, e3, e9, e11, trivial⟩, h⟩
  clear h
  rintro c37 ρ w5 ⟨e26, e0, e1, e2, e3, e9, e11, -⟩ h
  replace h := hk c37 w5 h
  clear hk
  refine wpR_nil ?_
  refine wpC_cond (b := c37) e26 (fun hc38 => ?_) (fun hc38 => ?_)
  · replace h := h.1 hc38
    refine wpC_seq ?_
    refine wpC_region ?_
    refine wpR_val (v := (Value.bool r10)) (w' := w5) rfl rfl rfl (x_move (v := (Value.bool r10)) rfl e11) ?_
    refine wpR_val (v := (Value.bool r10)) (w' := w5) rfl rfl rfl (x_assign (v := (Value.bool r10)) rfl rfl) ?_
    refine wpR_nil ?_
    refine wpC_ret ?_
    exact ⟨.inl rfl, fun a ha => ⟨_, results_rep1 rfl ha rfl, r10, rfl, h⟩⟩
  · replace h := h.2 hc38
    refine wpC_skip ?_
    refine wpC_seq ?_
    refine wpC_region ?_
    refine wpR_val (v := (Sl.v p0)) (w' := w5) rfl rfl rfl (x_move (v := (Sl.v p0)) rfl e0) ?_
    refine wpR_val (v := (Value.string p1)) (w' := w5) rfl rfl rfl (x_move (v := (Value.string p1)) rfl e1) ?_
    refine wpR_val (v := (Sl.v p2)) (w' := w5) rfl rfl rfl (x_move (v := (Sl.v p2)) rfl e2) ?_
    refine wpR_val (v := (Value.int .i64 p3)) (w' := w5) rfl rfl rfl (x_move (v := (Value.int .i64 p3)) rfl e3) ?_
    refine wpR_enter rfl rfl rfl (x_call (vs := [(Sl.v p0), (Value.string p1), (Sl.v p2), (Value.int .i64 p3)]) rfl rfl (mapl_cons rfl (mapl_cons rfl (mapl_cons rfl (mapl_cons rfl mapl_nil)))) Try.func10 NN_10 NB_10) (Calls.mono h ?_)
    rintro _ w6 ⟨r39, rfl, h⟩
    refine ⟨_, rfl, ?_⟩
    refine wpR_val (v := (Value.tuple #[(Sl.v r39.1), (Value.bool r39.2)])) (w' := w6) rfl rfl rfl (x_move (v := (Value.tuple #[(Sl.v r39.1), (Value.bool r39.2)])) rfl rfl) ?_
    refine wpR_val (v := (Sl.v r39.1)) (w' := w6) rfl rfl rfl (x_extract rfl rfl rfl) ?_
    refine wpR_val (v := (Value.bool r39.2)) (w' := w6) rfl rfl rfl (x_extract rfl rfl rfl) ?_
    refine wpR_val (v := (Sl.v r39.1)) (w' := w6) rfl rfl rfl (x_assign (v := (Sl.v r39.1)) rfl rfl) ?_
    refine wpR_val (v := (Value.bool r39.2)) (w' := w6) rfl rfl rfl (x_assign (v := (Value.bool r39.2)) rfl rfl) ?_
    refine wpR_nil ?_
    refine wpC_seq ?_
    refine wpC_cut (fun ρ => ρ 0 = (Sl.v p0) ∧ ρ 1 = (Value.string p1) ∧ ρ 2 = (Sl.v p2) ∧ ρ 3 = (Value.int .i64 p3) ∧ ρ 9 = (Value.pointer (some (Addr.mk b9 0 none))) ∧ ρ 11 = (Value.bool r10) ∧ ρ 12 = (Sl.v r39.1) ∧ ρ 13 = (Value.bool r39.2) ∧ True) ⟨e0, e1, e2, e3, e9, e11, rfl, rfl, trivial⟩ ?_
    rintro ρ ⟨e0, e1, e2, e3, e9, e11, e12, e13, -⟩
    refine wpC_region ?_
    refine wpR_val (v := (Sl.v p0)) (w' := w6) rfl rfl rfl (x_move (v := (Sl.v p0)) rfl e0) ?_
    refine wpR_val (v := (Value.string p1)) (w' := w6) rfl rfl rfl (x_move (v := (Value.string p1)) rfl e1) ?_
    refine wpR_val (v := (Sl.v p2)) (w' := w6) rfl rfl rfl (x_move (v := (Sl.v p2)) rfl e2) ?_
    refine wpR_val (v := (Value.int .i64 p3)) (w' := w6) rfl rfl rfl (x_move (v := (Value.int .i64 p3)) rfl e3) ?_
    refine wpR_enter rfl rfl rfl (x_call (vs := [(Sl.v p0), (Value.string p1), (Sl.v p2), (Value.int .i64 p3)]) rfl rfl (mapl_cons rfl (mapl_cons rfl (mapl_cons rfl (mapl_cons rfl mapl_nil)))) Try.func15 NN_15 NB_15) (Calls.mono h ?_)
    rintro _ w7 ⟨r40, rfl, h⟩
    refine ⟨_, rfl, ?_⟩
    refine wpR_val (v := (Value.tuple #[(Sl.v r40.1), (Value.bool r40.2)])) (w' := w7) rfl rfl rfl (x_move (v := (Value.tuple #[(Sl.v r40.1), (Value.bool r40.2)])) rfl rfl) ?_
    refine wpR_val (v := (Sl.v r40.1)) (w' := w7) rfl rfl rfl (x_extract rfl rfl rfl) ?_
    refine wpR_val (v := (Value.bool r40.2)) (w' := w7) rfl rfl rfl (x_extract rfl rfl rfl) ?_
    refine wpR_val (v := (Sl.v r40.1)) (w' := w7) rfl rfl rfl (x_assign (v := (Sl.v r40.1)) rfl rfl) ?_
    refine wpR_val (v := (Value.bool r40.2)) (w' := w7) rfl rfl rfl (x_assign (v := (Value.bool r40.2)) rfl rfl) ?_
    refine wpR_nil ?_
    refine wpC_seq ?_
    refine wpC_cut (fun ρ => ρ 1 = (Value.string p1) ∧ ρ 3 = (Value.int .i64 p3) ∧ ρ 9 = (Value.pointer (some (Addr.mk b9 0 none))) ∧ ρ 11 = (Value.bool r10) ∧ ρ 12 = (Sl.v r39.1) ∧ ρ 13 = (Value.bool r39.2) ∧ ρ 14 = (Sl.v r40.1) ∧ ρ 15 = (Value.bool r40.2) ∧ True) ⟨e1, e3, e9, e11, e12, e13, rfl, rfl, trivial⟩ ?_
    rintro ρ ⟨e1, e3, e9, e11, e12, e13, e14, e15, -⟩
    obtain ⟨J42, h, hk⟩ := h
    refine wpC_drawJ (by kernel_rfl) (fun (x : Bool) ρ => ρ 10 = (Value.bool x) ∧ True) J42 ?_ ?_
    · clear hk
      unfold tk at h
      generalize w7.drew = w8 at h ⊢
      refine wpD_take (v := (Value.bool r10)) 0 (fun _ => True) rfl (by kernel_rfl) (by kernel_rfl) (by kernel_rfl) rfl rfl rfl trivial (fun w _ => (x_move (v := (Value.bool r10)) rfl e11)) ?_
      refine wpD_take (v := (Value.bool r10)) 1 (fun _ => True) rfl (by kernel_rfl) (by kernel_rfl) (by kernel_rfl) rfl rfl rfl trivial (fun w _ => (x_move (v := (Value.bool r10)) rfl rfl)) ?_
      rcases Bool.eq_false_or_eq_true (r10) with hc43 | hc43
      · replace h := h.1 hc43
        refine wpD_take (v := (Value.bool r39.2)) 2 (fun _ => True) rfl (by kernel_rfl) (by kernel_rfl) (by kernel_rfl) (wantG rfl rfl rfl hc43) rfl rfl trivial (fun w _ => (x_move (v := (Value.bool r39.2)) rfl e13)) ?_
        refine wpD_take (v := (Value.bool r40.2)) 3 (fun _ => True) rfl (by kernel_rfl) (by kernel_rfl) (by kernel_rfl) (wantG rfl rfl rfl hc43) rfl rfl trivial (fun w _ => (x_move (v := (Value.bool r40.2)) rfl e15)) ?_
        refine wpD_take (v := (Value.bool (r39.2 == r40.2))) 4 (fun _ => True) rfl (by kernel_rfl) (by kernel_rfl) (by kernel_rfl) (wantG rfl rfl rfl hc43) rfl rfl trivial (fun w _ => (x_eqlB rfl rfl rfl isBoolT_4)) ?_
        refine wpD_take (v := (Value.bool (r39.2 == r40.2))) 5 (fun _ => True) rfl (by kernel_rfl) (by kernel_rfl) (by kernel_rfl) rfl rfl rfl trivial (fun w _ => (x_pickT (v := (Value.bool (r39.2 == r40.2))) rfl rfl hc43 rfl)) ?_
        refine wpD_take (v := (Value.bool (r39.2 == r40.2))) 6 (fun _ => True) rfl (by kernel_rfl) (by kernel_rfl) (by kernel_rfl) rfl rfl rfl trivial (fun w _ => (x_move (v := (Value.bool (r39.2 == r40.2))) rfl rfl)) ?_
        rcases Bool.eq_false_or_eq_true (r39.2 == r40.2) with hc44 | hc44
        · replace h := h.1 hc44
          refine wpD_take (v := (Sl.v r39.1)) 7 (fun _ => True) rfl (by kernel_rfl) (by kernel_rfl) (by kernel_rfl) (wantG rfl rfl rfl hc44) rfl rfl trivial (fun w _ => (x_move (v := (Sl.v r39.1)) rfl e12)) ?_
          refine wpD_take (v := (Sl.v r40.1)) 8 (fun _ => True) rfl (by kernel_rfl) (by kernel_rfl) (by kernel_rfl) (wantG rfl rfl rfl hc44) rfl rfl trivial (fun w _ => (x_move (v := (Sl.v r40.1)) rfl e14)) ?_
          refine wpD_all (rs := [9]) (by kernel_rfl) (by simp) (allD_cons ?_ allD_nil)
          refine stepD_enterL (L' := [(5, fun _ => True), (4, fun _ => True), (3, fun _ => True), (2, fun _ => True), (1, fun _ => True), (0, fun _ => True)]) rfl (wantG rfl rfl rfl hc44) rfl rfl (x_call (vs := [(Sl.v r39.1), (Sl.v r40.1)]) rfl rfl (mapl_cons rfl (mapl_cons rfl mapl_nil)) Try.func13 NN_13 NB_13) (by kernel_rfl) (Calls.mono h ?_)
          rintro _ w9 ⟨r45, rfl, h⟩
          refine ⟨_, rfl, (held_cons trivial (held_cons trivial (held_cons trivial (held_cons trivial (held_cons trivial (held_cons trivial held_nil)))))), ?_⟩
          refine wpD_take (v := (Value.bool r45)) 10 (fun _ => True) rfl (by kernel_rfl) (by kernel_rfl) (by kernel_rfl) rfl rfl rfl trivial (fun w _ => (x_pickT (v := (Value.bool r45)) rfl rfl hc44 rfl)) ?_
          refine wpD_take (v := (Value.bool r45)) 11 (fun _ => True) rfl (by kernel_rfl) (by kernel_rfl) (by kernel_rfl) rfl rfl rfl trivial (fun w _ => (x_move (v := (Value.bool r45)) rfl rfl)) ?_
          rcases Bool.eq_false_or_eq_true (r45) with hc46 | hc46
          · replace h := h.1 hc46
            obtain ⟨x47, q47, x48, q48, x49, q49, x50, q50, x51, q51, x52, q52, x53, q53, x54, q54, x55, q55, x56, q56, x57, q57, x58, q58, x59, q59, x60, q60, x61, q61, x62, q62, x63, q63, x64, q64, x65, q65, x66, q66, x67, q67, x68, q68, h⟩ := h
            refine wpD_take (v := (V38 x47 x48 x49 x50 x51 x52 x53 x54 x55 x56 x57 x58 x59 x60 x61 x62 x63 x64 x65 x66 x67 x68)) 12 (fun w => C38 (Addr.mk b9 0 none) x47 x48 x49 x50 x51 x52 x53 x54 x55 x56 x57 x58 x59 x60 x61 x62 x63 x64 x65 x66 x67 x68 w) rfl (by kernel_rfl) (by kernel_rfl) (by kernel_rfl) (wantG rfl rfl rfl hc46) rfl rfl ⟨q47, q48, q49, q50, q51, q52, q53, q54, q55, q56, q57, q58, q59, q60, q61, q62, q63, q64, q65, q66, q67, q68⟩ (fun w q => (x_loadN (S38 x47 x48 x49 x50 x51 x52 x53 x54 x55 x56 x57 x58 x59 x60 x61 x62 x63 x64 x65 x66 x67 x68) rfl e9 SH_39 (K38 q))) ?_
            refine wpD_take (v := (Value.string p1)) 13 (fun _ => True) rfl (by kernel_rfl) (by kernel_rfl) (by kernel_rfl) (wantG rfl rfl rfl hc46) rfl rfl trivial (fun w _ => (x_move (v := (Value.string p1)) rfl e1)) ?_
            refine wpD_take (v := (Value.int .i64 p3)) 14 (fun _ => True) rfl (by kernel_rfl) (by kernel_rfl) (by kernel_rfl) (wantG rfl rfl rfl hc46) rfl rfl trivial (fun w _ => (x_move (v := (Value.int .i64 p3)) rfl e3)) ?_
            obtain ⟨x69, q69, x70, q70, x71, q71, x72, q72, x73, q73, x74, q74, x75, q75, x76, q76, x77, q77, x78, q78, x79, q79, x80, q80, x81, q81, x82, q82, x83, q83, x84, q84, x85, q85, x86, q86, x87, q87, x88, q88, x89, q89, x90, q90, h⟩ := h
            refine wpD_take (v := (V38 x69 x70 x71 x72 x73 x74 x75 x76 x77 x78 x79 x80 x81 x82 x83 x84 x85 x86 x87 x88 x89 x90)) 16 (fun w => C38 (Addr.mk b9 0 none) x69 x70 x71 x72 x73 x74 x75 x76 x77 x78 x79 x80 x81 x82 x83 x84 x85 x86 x87 x88 x89 x90 w) rfl (by kernel_rfl) (by kernel_rfl) (by kernel_rfl) (wantG rfl rfl rfl hc46) rfl rfl ⟨q69, q70, q71, q72, q73, q74, q75, q76, q77, q78, q79, q80, q81, q82, q83, q84, q85, q86, q87, q88, q89, q90⟩ (fun w q => (x_loadN (S38 x69 x70 x71 x72 x73 x74 x75 x76 x77 x78 x79 x80 x81 x82 x83 x84 x85 x86 x87 x88 x89 x90) rfl e9 SH_39 (K38 q))) ?_
            refine wpD_take (v := (Value.string p1)) 17 (fun _ => True) rfl (by kernel_rfl) (by kernel_rfl) (by kernel_rfl) (wantG rfl rfl rfl hc46) rfl rfl trivial (fun w _ => (x_move (v := (Value.string p1)) rfl e1)) ?_
            refine wpD_take (v := (Value.int .i64 p3)) 18 (fun _ => True) rfl (by kernel_rfl) (by kernel_rfl) (by kernel_rfl) (wantG rfl rfl rfl hc46) rfl rfl trivial (fun w _ => (x_move (v := (Value.int .i64 p3)) rfl e3)) ?_
            refine wpD_all (rs := [15]) (by kernel_rfl) (by simp) (allD_cons ?_ allD_nil)
            refine stepD_enterL (L' := [(18, fun _ => True), (17, fun _ => True), (16, fun w => C38 (Addr.mk b9 0 none) x69 x70 x71 x72 x73 x74 x75 x76 x77 x78 x79 x80 x81 x82 x83 x84 x85 x86 x87 x88 x89 x90 w), (10, fun _ => True), (5, fun _ => True), (4, fun _ => True), (3, fun _ => True), (2, fun _ => True), (1, fun _ => True), (0, fun _ => True)]) rfl (wantG rfl rfl rfl hc46) rfl rfl (x_call (vs := [(V38 x47 x48 x49 x50 x51 x52 x53 x54 x55 x56 x57 x58 x59 x60 x61 x62 x63 x64 x65 x66 x67 x68), (Value.string p1), (Value.int .i64 p3)]) rfl rfl (mapl_cons rfl (mapl_cons rfl (mapl_cons rfl mapl_nil))) Try.func16 NN_16 NB_16) (by kernel_rfl) (Calls.mono h ?_)
            rintro _ w10 ⟨r91, rfl, h⟩
            obtain ⟨o16, h⟩ := h
            refine ⟨_, rfl, (held_cons trivial (held_cons trivial (held_cons o16 (held_cons trivial (held_cons trivial (held_cons trivial (held_cons trivial (held_cons trivial (held_cons trivial (held_cons trivial held_nil)))))))))), ?_⟩
            refine wpD_all (rs := [19]) (by kernel_rfl) (by simp) (allD_cons ?_ allD_nil)
            refine stepD_enterL (L' := [(10, fun _ => True), (5, fun _ => True), (4, fun _ => True), (3, fun _ => True), (2, fun _ => True), (1, fun _ => True), (0, fun _ => True)]) rfl (wantG rfl rfl rfl hc46) rfl rfl (x_call (vs := [(V38 x69 x70 x71 x72 x73 x74 x75 x76 x77 x78 x79 x80 x81 x82 x83 x84 x85 x86 x87 x88 x89 x90), (Value.string p1), (Value.int .i64 p3)]) rfl rfl (mapl_cons rfl (mapl_cons rfl (mapl_cons rfl mapl_nil))) Try.func17 NN_17 NB_17) (by kernel_rfl) (Calls.mono h ?_)
            rintro _ w11 ⟨r92, rfl, h⟩
            refine ⟨_, rfl, (held_cons trivial (held_cons trivial (held_cons trivial (held_cons trivial (held_cons trivial (held_cons trivial (held_cons trivial held_nil))))))), ?_⟩
            refine wpD_take (v := (Value.bool (r91 == r92))) 20 (fun _ => True) rfl (by kernel_rfl) (by kernel_rfl) (by kernel_rfl) (wantG rfl rfl rfl hc46) rfl rfl trivial (fun w _ => (x_eqlB rfl rfl rfl isBoolT_4)) ?_
            refine wpD_take (v := (Value.bool (r91 == r92))) 21 (fun _ => True) rfl (by kernel_rfl) (by kernel_rfl) (by kernel_rfl) rfl rfl rfl trivial (fun w _ => (x_pickT (v := (Value.bool (r91 == r92))) rfl rfl hc46 rfl)) ?_
            refine wpD_take (v := (Value.bool (r91 == r92))) 22 (fun _ => True) rfl (by kernel_rfl) (by kernel_rfl) (by kernel_rfl) rfl rfl rfl trivial (fun w _ => (x_assign (v := (Value.bool (r91 == r92))) rfl rfl)) ?_
            exact wpD_done (by kernel_rfl) ⟨r91 == r92, ⟨rfl, trivial⟩, h⟩
          · replace h := h.2 hc46
            refine wpD_pass 12 rfl (by kernel_rfl) (by kernel_rfl) (by kernel_rfl) (wantN rfl rfl rfl hc46) rfl rfl ?_
            refine wpD_pass 13 rfl (by kernel_rfl) (by kernel_rfl) (by kernel_rfl) (wantN rfl rfl rfl hc46) rfl rfl ?_
            refine wpD_pass 14 rfl (by kernel_rfl) (by kernel_rfl) (by kernel_rfl) (wantN rfl rfl rfl hc46) rfl rfl ?_
            refine wpD_pass 15 rfl (by kernel_rfl) (by kernel_rfl) (by kernel_rfl) (wantN rfl rfl rfl hc46) rfl rfl ?_
            refine wpD_pass 16 rfl (by kernel_rfl) (by kernel_rfl) (by kernel_rfl) (wantN rfl rfl rfl hc46) rfl rfl ?_
            refine wpD_pass 17 rfl (by kernel_rfl) (by kernel_rfl) (by kernel_rfl) (wantN rfl rfl rfl hc46) rfl rfl ?_
            refine wpD_pass 18 rfl (by kernel_rfl) (by kernel_rfl) (by kernel_rfl) (wantN rfl rfl rfl hc46) rfl rfl ?_
            refine wpD_pass 19 rfl (by kernel_rfl) (by kernel_rfl) (by kernel_rfl) (wantN rfl rfl rfl hc46) rfl rfl ?_
            refine wpD_pass 20 rfl (by kernel_rfl) (by kernel_rfl) (by kernel_rfl) (wantN rfl rfl rfl hc46) rfl rfl ?_
            refine wpD_take (v := (Value.bool false)) 21 (fun _ => True) rfl (by kernel_rfl) (by kernel_rfl) (by kernel_rfl) rfl rfl rfl trivial (fun w _ => (x_pickF (v := (Value.bool false)) rfl rfl hc46 rfl)) ?_
            refine wpD_take (v := (Value.bool false)) 22 (fun _ => True) rfl (by kernel_rfl) (by kernel_rfl) (by kernel_rfl) rfl rfl rfl trivial (fun w _ => (x_assign (v := (Value.bool false)) rfl rfl)) ?_
            exact wpD_done (by kernel_rfl) ⟨false, ⟨rfl, trivial⟩, h⟩
        · replace h := h.2 hc44
          refine wpD_pass 7 rfl (by kernel_rfl) (by kernel_rfl) (by kernel_rfl) (wantN rfl rfl rfl hc44) rfl rfl ?_
          refine wpD_pass 8 rfl (by kernel_rfl) (by kernel_rfl) (by kernel_rfl) (wantN rfl rfl rfl hc44) rfl rfl ?_
          refine wpD_pass 9 rfl (by kernel_rfl) (by kernel_rfl) (by kernel_rfl) (wantN rfl rfl rfl hc44) rfl rfl ?_
          refine wpD_take (v := (Value.bool false)) 10 (fun _ => True) rfl (by kernel_rfl) (by kernel_rfl) (by kernel_rfl) rfl rfl rfl trivial (fun w _ => (x_pickF (v := (Value.bool false)) rfl rfl hc44 rfl)) ?_
          refine wpD_take (v := (Value.bool false)) 11 (fun _ => True) rfl (by kernel_rfl) (by kernel_rfl) (by kernel_rfl) rfl rfl rfl trivial (fun w _ => (x_move (v := (Value.bool false)) rfl rfl)) ?_
          refine wpD_pass 12 rfl (by kernel_rfl) (by kernel_rfl) (by kernel_rfl) (wantN rfl rfl rfl rfl) rfl rfl ?_
          refine wpD_pass 13 rfl (by kernel_rfl) (by kernel_rfl) (by kernel_rfl) (wantN rfl rfl rfl rfl) rfl rfl ?_
          refine wpD_pass 14 rfl (by kernel_rfl) (by kernel_rfl) (by kernel_rfl) (wantN rfl rfl rfl rfl) rfl rfl ?_
          refine wpD_pass 15 rfl (by kernel_rfl) (by kernel_rfl) (by kernel_rfl) (wantN rfl rfl rfl rfl) rfl rfl ?_
          refine wpD_pass 16 rfl (by kernel_rfl) (by kernel_rfl) (by kernel_rfl) (wantN rfl rfl rfl rfl) rfl rfl ?_
          refine wpD_pass 17 rfl (by kernel_rfl) (by kernel_rfl) (by kernel_rfl) (wantN rfl rfl rfl rfl) rfl rfl ?_
          refine wpD_pass 18 rfl (by kernel_rfl) (by kernel_rfl) (by kernel_rfl) (wantN rfl rfl rfl rfl) rfl rfl ?_
          refine wpD_pass 19 rfl (by kernel_rfl) (by kernel_rfl) (by kernel_rfl) (wantN rfl rfl rfl rfl) rfl rfl ?_
          refine wpD_pass 20 rfl (by kernel_rfl) (by kernel_rfl) (by kernel_rfl) (wantN rfl rfl rfl rfl) rfl rfl ?_
          refine wpD_take (v := (Value.bool false)) 21 (fun _ => True) rfl (by kernel_rfl) (by kernel_rfl) (by kernel_rfl) rfl rfl rfl trivial (fun w _ => (x_pickF (v := (Value.bool false)) rfl rfl rfl rfl)) ?_
          refine wpD_take (v := (Value.bool false)) 22 (fun _ => True) rfl (by kernel_rfl) (by kernel_rfl) (by kernel_rfl) rfl rfl rfl trivial (fun w _ => (x_assign (v := (Value.bool false)) rfl rfl)) ?_
          exact wpD_done (by kernel_rfl) ⟨false, ⟨rfl, trivial⟩, h⟩
      · replace h := h.2 hc43
        refine wpD_pass 2 rfl (by kernel_rfl) (by kernel_rfl) (by kernel_rfl) (wantN rfl rfl rfl hc43) rfl rfl ?_
        refine wpD_pass 3 rfl (by kernel_rfl) (by kernel_rfl) (by kernel_rfl) (wantN rfl rfl rfl hc43) rfl rfl ?_
        refine wpD_pass 4 rfl (by kernel_rfl) (by kernel_rfl) (by kernel_rfl) (wantN rfl rfl rfl hc43) rfl rfl ?_
        refine wpD_take (v := (Value.bool false)) 5 (fun _ => True) rfl (by kernel_rfl) (by kernel_rfl) (by kernel_rfl) rfl rfl rfl trivial (fun w _ => (x_pickF (v := (Value.bool false)) rfl rfl hc43 rfl)) ?_
        refine wpD_take (v := (Value.bool false)) 6 (fun _ => True) rfl (by kernel_rfl) (by kernel_rfl) (by kernel_rfl) rfl rfl rfl trivial (fun w _ => (x_move (v := (Value.bool false)) rfl rfl)) ?_
        refine wpD_pass 7 rfl (by kernel_rfl) (by kernel_rfl) (by kernel_rfl) (wantN rfl rfl rfl rfl) rfl rfl ?_
        refine wpD_pass 8 rfl (by kernel_rfl) (by kernel_rfl) (by kernel_rfl) (wantN rfl rfl rfl rfl) rfl rfl ?_
        refine wpD_pass 9 rfl (by kernel_rfl) (by kernel_rfl) (by kernel_rfl) (wantN rfl rfl rfl rfl) rfl rfl ?_
        refine wpD_take (v := (Value.bool false)) 10 (fun _ => True) rfl (by kernel_rfl) (by kernel_rfl) (by kernel_rfl) rfl rfl rfl trivial (fun w _ => (x_pickF (v := (Value.bool false)) rfl rfl rfl rfl)) ?_
        refine wpD_take (v := (Value.bool false)) 11 (fun _ => True) rfl (by kernel_rfl) (by kernel_rfl) (by kernel_rfl) rfl rfl rfl trivial (fun w _ => (x_move (v := (Value.bool false)) rfl rfl)) ?_
        refine wpD_pass 12 rfl (by kernel_rfl) (by kernel_rfl) (by kernel_rfl) (wantN rfl rfl rfl rfl) rfl rfl ?_
        refine wpD_pass 13 rfl (by kernel_rfl) (by kernel_rfl) (by kernel_rfl) (wantN rfl rfl rfl rfl) rfl rfl ?_
        refine wpD_pass 14 rfl (by kernel_rfl) (by kernel_rfl) (by kernel_rfl) (wantN rfl rfl rfl rfl) rfl rfl ?_
        refine wpD_pass 15 rfl (by kernel_rfl) (by kernel_rfl) (by kernel_rfl) (wantN rfl rfl rfl rfl) rfl rfl ?_
        refine wpD_pass 16 rfl (by kernel_rfl) (by kernel_rfl) (by kernel_rfl) (wantN rfl rfl rfl rfl) rfl rfl ?_
        refine wpD_pass 17 rfl (by kernel_rfl) (by kernel_rfl) (by kernel_rfl) (wantN rfl rfl rfl rfl) rfl rfl ?_
        refine wpD_pass 18 rfl (by kernel_rfl) (by kernel_rfl) (by kernel_rfl) (wantN rfl rfl rfl rfl) rfl rfl ?_
        refine wpD_pass 19 rfl (by kernel_rfl) (by kernel_rfl) (by kernel_rfl) (wantN rfl rfl rfl rfl) rfl rfl ?_
        refine wpD_pass 20 rfl (by kernel_rfl) (by kernel_rfl) (by kernel_rfl) (wantN rfl rfl rfl rfl) rfl rfl ?_
        refine wpD_take (v := (Value.bool false)) 21 (fun _ => True) rfl (by kernel_rfl) (by kernel_rfl) (by kernel_rfl) rfl rfl rfl trivial (fun w _ => (x_pickF (v := (Value.bool false)) rfl rfl rfl rfl)) ?_
        refine wpD_take (v := (Value.bool false)) 22 (fun _ => True) rfl (by kernel_rfl) (by kernel_rfl) (by kernel_rfl) rfl rfl rfl trivial (fun w _ => (x_assign (v := (Value.bool false)) rfl rfl)) ?_
        exact wpD_done (by kernel_rfl) ⟨false, ⟨rfl, trivial⟩, h⟩
    clear h
    rintro l93 ρ w12 ⟨e10, -⟩ h
    replace h := hk l93 w12 h
    clear hk
    refine wpC_ret ?_
    exact ⟨.inl rfl, fun a ha => ⟨_, results_rep1 rfl ha e10, l93, rfl, h⟩⟩


end Go.Proofs.Ytkacfhhpmpmhkaa
