import Derived.Test.YtgbhghoppjfofaaGreatRows
import Derived.Test.YtgbhghoppjfofaaGreatDecRaw
namespace Go.Proofs.YtgbhghoppjfofaaGreat
open Go.Dec
set_option maxHeartbeats 400000
set_option maxRecDepth 100000

@[reducible] def T64 : Type := ByteArray × Int × Int × Int × Bool × Int × Bool × Bool × Int × Int × Int × Int × Sl × Int × Int × Int × Int × Bool × Int × Int × Int × Int
@[reducible] def V64 (x0 : ByteArray) (x1 : Int) (x2 : Int) (x3 : Int) (x4 : Bool) (x5 : Int) (x6 : Bool) (x7 : Bool) (x8 : Int) (x9 : Int) (x10 : Int) (x11 : Int) (x12 : Sl) (x13 : Int) (x14 : Int) (x15 : Int) (x16 : Int) (x17 : Bool) (x18 : Int) (x19 : Int) (x20 : Int) (x21 : Int) : Value := .agg #[.string x0, .int .i64 x1, .int .i64 x2, .int .i64 x3, .bool x4, .int .i64 x5, .bool x6, .bool x7, .int .i64 x8, .int .i64 x9, .int .i64 x10, .int .i64 x11, Sl.v x12, .int .i64 x13, .int .i64 x14, .int .i64 x15, .int .i64 x16, .bool x17, .int .i64 x18, .int .i64 x19, .int .i64 x20, .int .i64 x21]
@[reducible] def A64 (x0 : ByteArray) (x1 : Int) (x2 : Int) (x3 : Int) (x4 : Bool) (x5 : Int) (x6 : Bool) (x7 : Bool) (x8 : Int) (x9 : Int) (x10 : Int) (x11 : Int) (x12 : Sl) (x13 : Int) (x14 : Int) (x15 : Int) (x16 : Int) (x17 : Bool) (x18 : Int) (x19 : Int) (x20 : Int) (x21 : Int) : Array Value := #[.string x0, .int .i64 x1, .int .i64 x2, .int .i64 x3, .bool x4, .int .i64 x5, .bool x6, .bool x7, .int .i64 x8, .int .i64 x9, .int .i64 x10, .int .i64 x11, Sl.v x12, .int .i64 x13, .int .i64 x14, .int .i64 x15, .int .i64 x16, .bool x17, .int .i64 x18, .int .i64 x19, .int .i64 x20, .int .i64 x21]
@[reducible] def S64 (x0 : ByteArray) (x1 : Int) (x2 : Int) (x3 : Int) (x4 : Bool) (x5 : Int) (x6 : Bool) (x7 : Bool) (x8 : Int) (x9 : Int) (x10 : Int) (x11 : Int) (x12 : Sl) (x13 : Int) (x14 : Int) (x15 : Int) (x16 : Int) (x17 : Bool) (x18 : Int) (x19 : Int) (x20 : Int) (x21 : Int) : List Value := [.string x0, .int .i64 x1, .int .i64 x2, .int .i64 x3, .bool x4, .int .i64 x5, .bool x6, .bool x7, .int .i64 x8, .int .i64 x9, .int .i64 x10, .int .i64 x11, Sl.v x12, .int .i64 x13, .int .i64 x14, .int .i64 x15, .int .i64 x16, .bool x17, .int .i64 x18, .int .i64 x19, .int .i64 x20, .int .i64 x21]
@[reducible] def E64 (r : T64) : Value := V64 r.1 r.2.1 r.2.2.1 r.2.2.2.1 r.2.2.2.2.1 r.2.2.2.2.2.1 r.2.2.2.2.2.2.1 r.2.2.2.2.2.2.2.1 r.2.2.2.2.2.2.2.2.1 r.2.2.2.2.2.2.2.2.2.1 r.2.2.2.2.2.2.2.2.2.2.1 r.2.2.2.2.2.2.2.2.2.2.2.1 r.2.2.2.2.2.2.2.2.2.2.2.2.1 r.2.2.2.2.2.2.2.2.2.2.2.2.2.1 r.2.2.2.2.2.2.2.2.2.2.2.2.2.2.1 r.2.2.2.2.2.2.2.2.2.2.2.2.2.2.2.1 r.2.2.2.2.2.2.2.2.2.2.2.2.2.2.2.2.1 r.2.2.2.2.2.2.2.2.2.2.2.2.2.2.2.2.2.1 r.2.2.2.2.2.2.2.2.2.2.2.2.2.2.2.2.2.2.1 r.2.2.2.2.2.2.2.2.2.2.2.2.2.2.2.2.2.2.2.1 r.2.2.2.2.2.2.2.2.2.2.2.2.2.2.2.2.2.2.2.2.1 r.2.2.2.2.2.2.2.2.2.2.2.2.2.2.2.2.2.2.2.2.2
@[reducible] def C64 (p : Addr) (x0 : ByteArray) (x1 : Int) (x2 : Int) (x3 : Int) (x4 : Bool) (x5 : Int) (x6 : Bool) (x7 : Bool) (x8 : Int) (x9 : Int) (x10 : Int) (x11 : Int) (x12 : Sl) (x13 : Int) (x14 : Int) (x15 : Int) (x16 : Int) (x17 : Bool) (x18 : Int) (x19 : Int) (x20 : Int) (x21 : Int) (w : World) : Prop := w.cell? (p.add 0) = some (.string x0) ∧ w.cell? (p.add 1) = some (.int .i64 x1) ∧ w.cell? (p.add 2) = some (.int .i64 x2) ∧ w.cell? (p.add 3) = some (.int .i64 x3) ∧ w.cell? (p.add 4) = some (.bool x4) ∧ w.cell? (p.add 5) = some (.int .i64 x5) ∧ w.cell? (p.add 6) = some (.bool x6) ∧ w.cell? (p.add 7) = some (.bool x7) ∧ w.cell? (p.add 8) = some (.int .i64 x8) ∧ w.cell? (p.add 9) = some (.int .i64 x9) ∧ w.cell? (p.add 10) = some (.int .i64 x10) ∧ w.cell? (p.add 11) = some (.int .i64 x11) ∧ w.cell? (p.add 12) = some (Sl.v x12) ∧ w.cell? (p.add 13) = some (.int .i64 x13) ∧ w.cell? (p.add 14) = some (.int .i64 x14) ∧ w.cell? (p.add 15) = some (.int .i64 x15) ∧ w.cell? (p.add 16) = some (.int .i64 x16) ∧ w.cell? (p.add 17) = some (.bool x17) ∧ w.cell? (p.add 18) = some (.int .i64 x18) ∧ w.cell? (p.add 19) = some (.int .i64 x19) ∧ w.cell? (p.add 20) = some (.int .i64 x20) ∧ w.cell? (p.add 21) = some (.int .i64 x21)
@[reducible] def L64 (p : Addr) (w : World) (K : ByteArray → Int → Int → Int → Bool → Int → Bool → Bool → Int → Int → Int → Int → Sl → Int → Int → Int → Int → Bool → Int → Int → Int → Int → Prop) : Prop := ld Value.string (p.add 0) w fun x0 => ld (Value.int .i64) (p.add 1) w fun x1 => ld (Value.int .i64) (p.add 2) w fun x2 => ld (Value.int .i64) (p.add 3) w fun x3 => ld Value.bool (p.add 4) w fun x4 => ld (Value.int .i64) (p.add 5) w fun x5 => ld Value.bool (p.add 6) w fun x6 => ld Value.bool (p.add 7) w fun x7 => ld (Value.int .i64) (p.add 8) w fun x8 => ld (Value.int .i64) (p.add 9) w fun x9 => ld (Value.int .i64) (p.add 10) w fun x10 => ld (Value.int .i64) (p.add 11) w fun x11 => ld Sl.v (p.add 12) w fun x12 => ld (Value.int .i64) (p.add 13) w fun x13 => ld (Value.int .i64) (p.add 14) w fun x14 => ld (Value.int .i64) (p.add 15) w fun x15 => ld (Value.int .i64) (p.add 16) w fun x16 => ld Value.bool (p.add 17) w fun x17 => ld (Value.int .i64) (p.add 18) w fun x18 => ld (Value.int .i64) (p.add 19) w fun x19 => ld (Value.int .i64) (p.add 20) w fun x20 => ld (Value.int .i64) (p.add 21) w fun x21 => K x0 x1 x2 x3 x4 x5 x6 x7 x8 x9 x10 x11 x12 x13 x14 x15 x16 x17 x18 x19 x20 x21
theorem K64 {w : World} {p : Addr} {x0 : ByteArray} {x1 : Int} {x2 : Int} {x3 : Int} {x4 : Bool} {x5 : Int} {x6 : Bool} {x7 : Bool} {x8 : Int} {x9 : Int} {x10 : Int} {x11 : Int} {x12 : Sl} {x13 : Int} {x14 : Int} {x15 : Int} {x16 : Int} {x17 : Bool} {x18 : Int} {x19 : Int} {x20 : Int} {x21 : Int} (h : C64 p x0 x1 x2 x3 x4 x5 x6 x7 x8 x9 x10 x11 x12 x13 x14 x15 x16 x17 x18 x19 x20 x21 w) : ∀ (j : Nat) (u : Value), (S64 x0 x1 x2 x3 x4 x5 x6 x7 x8 x9 x10 x11 x12 x13 x14 x15 x16 x17 x18 x19 x20 x21)[j]? = some u → w.cell? (p.add j) = some u := by
  obtain ⟨q0, q1, q2, q3, q4, q5, q6, q7, q8, q9, q10, q11, q12, q13, q14, q15, q16, q17, q18, q19, q20, q21⟩ := h
  exact CellsAt.out (CellsAt.cons q0 (CellsAt.cons q1 (CellsAt.cons q2 (CellsAt.cons q3 (CellsAt.cons q4 (CellsAt.cons q5 (CellsAt.cons q6 (CellsAt.cons q7 (CellsAt.cons q8 (CellsAt.cons q9 (CellsAt.cons q10 (CellsAt.cons q11 (CellsAt.cons q12 (CellsAt.cons q13 (CellsAt.cons q14 (CellsAt.cons q15 (CellsAt.cons q16 (CellsAt.cons q17 (CellsAt.cons q18 (CellsAt.cons q19 (CellsAt.cons q20 (CellsAt.cons q21 CellsAt.nil))))))))))))))))))))))

theorem BD_103_0_1_2 (y0 : Int) (y1 : Int) (y2 : Int) : ∀ w, (Instr.build 103 #[(0, (Value.int .i64 y0)), (1, (Value.int .i64 y1)), (2, (Value.int .i64 y2))]).run Tryz.prog w = .ok (Value.agg #[(Value.int .i64 y0), (Value.int .i64 y1), (Value.int .i64 y2)]) w := fun w => by kernel_rfl
theorem BD_125_0_1_2 (y0 : Int) (y1 : Int) (y2 : Int) (y3 : Int) (y4 : Int) : ∀ w, (Instr.build 125 #[(0, (Value.agg #[(Value.int .i64 y0), (Value.int .i64 y1), (Value.int .i64 y2)])), (1, (Value.int .i64 y3)), (2, (Value.int .i64 y4))]).run Tryz.prog w = .ok (Value.agg #[(Value.int .i64 y0), (Value.int .i64 y1), (Value.int .i64 y2), (Value.int .i64 y3), (Value.int .i64 y4)]) w := fun w => by kernel_rfl
theorem BD_52_0_1_2_3_4 (y0 : Int) (y1 : Int) (y2 : Int) (y3 : Int) (y4 : Int) : ∀ w, (Instr.build 52 #[(0, (Value.int .i64 y0)), (1, (Value.int .i64 y1)), (2, (Value.int .i64 y2)), (3, (Value.int .i64 y3)), (4, (Value.int .i64 y4))]).run Tryz.prog w = .ok (Value.agg #[(Value.int .i64 y0), (Value.int .i64 y1), (Value.int .i64 y2), (Value.int .i64 y3), (Value.int .i64 y4)]) w := fun w => by kernel_rfl
theorem BD_52_0_1_3_4 (y0 : Int) (y1 : Int) (y3 : Int) (y4 : Int) : ∀ w, (Instr.build 52 #[(0, (Value.int .i64 y0)), (1, (Value.int .i64 y1)), (3, (Value.int .i64 y3)), (4, (Value.int .i64 y4))]).run Tryz.prog w = .ok (Value.agg #[(Value.int .i64 y0), (Value.int .i64 y1), (Value.int .i64 0), (Value.int .i64 y3), (Value.int .i64 y4)]) w := fun w => by kernel_rfl
theorem BD_52_0_2_3_4 (y0 : Int) (y2 : Int) (y3 : Int) (y4 : Int) : ∀ w, (Instr.build 52 #[(0, (Value.int .i64 y0)), (2, (Value.int .i64 y2)), (3, (Value.int .i64 y3)), (4, (Value.int .i64 y4))]).run Tryz.prog w = .ok (Value.agg #[(Value.int .i64 y0), (Value.int .i64 0), (Value.int .i64 y2), (Value.int .i64 y3), (Value.int .i64 y4)]) w := fun w => by kernel_rfl
theorem BD_52_0_3_4 (y0 : Int) (y3 : Int) (y4 : Int) : ∀ w, (Instr.build 52 #[(0, (Value.int .i64 y0)), (3, (Value.int .i64 y3)), (4, (Value.int .i64 y4))]).run Tryz.prog w = .ok (Value.agg #[(Value.int .i64 y0), (Value.int .i64 0), (Value.int .i64 0), (Value.int .i64 y3), (Value.int .i64 y4)]) w := fun w => by kernel_rfl
theorem BD_56_0_1_2 (y0 : Int) (y1 : Int) (y2 : Bool) : ∀ w, (Instr.build 56 #[(0, (Value.int .i64 y0)), (1, (Value.int .i64 y1)), (2, (Value.bool y2))]).run Tryz.prog w = .ok (Value.agg #[(Value.int .i64 y0), (Value.int .i64 y1), (Value.bool y2)]) w := fun w => by kernel_rfl
theorem BD_65_0_8_9_18_20 (y0 : ByteArray) (y8 : Int) (y9 : Int) (y18 : Int) (y20 : Int) : ∀ w, (Instr.build 65 #[(0, (Value.string y0)), (8, (Value.int .i64 y8)), (9, (Value.int .i64 y9)), (18, (Value.int .i64 y18)), (20, (Value.int .i64 y20))]).run Tryz.prog w = .ok (V64 y0 0 0 0 false 0 false false y8 y9 0 0 Sl.nil 0 0 0 0 false y18 0 y20 0) w := fun w => by kernel_rfl
theorem BD_70_0_2_3 (y0 : Int) (y2 : Int) (y3 : Int) : ∀ w, (Instr.build 70 #[(0, (Value.int .i64 y0)), (2, (Value.int .i64 y2)), (3, (Value.int .i64 y3))]).run Tryz.prog w = .ok (Value.agg #[(Value.int .i64 y0), (Value.int .i64 0), (Value.int .i64 y2), (Value.int .i64 y3)]) w := fun w => by kernel_rfl
theorem BD_77_0 (y0 : Int) : ∀ w, (Instr.build 77 #[(0, (Value.int .i64 y0))]).run Tryz.prog w = .ok (Value.agg #[(Value.int .i64 y0), (Value.int .i64 0), (Value.int .i64 0)]) w := fun w => by kernel_rfl
theorem BD_80_0_2 (y0 : Int) (y2 : Option Nat) : ∀ w, (Instr.build 80 #[(0, (Value.int .i64 y0)), (2, (Value.map y2))]).run Tryz.prog w = .ok (Value.agg #[(Value.int .i64 y0), (Value.int .i64 0), (Value.map y2)]) w := fun w => by kernel_rfl
theorem BD_83_0_1 (y0 : Int) (y1 : Int) : ∀ w, (Instr.build 83 #[(0, (Value.int .i64 y0)), (1, (Value.int .i64 y1))]).run Tryz.prog w = .ok (Value.agg #[(Value.int .i64 y0), (Value.int .i64 y1)]) w := fun w => by kernel_rfl
theorem BS_101_0_ : ∀ w, (Instr.buildSlice 101 0 #[]).run Tryz.prog w = .ok (.slice (some ⟨w.heap.size, 0, none⟩) 0 0) (w.alloc (.cells #[] 103)) := fun w => by kernel_rfl
theorem BS_101_1_0 (y0 : Int) (y1 : Int) (y2 : Int) : ∀ w, (Instr.buildSlice 101 1 #[(0, (Value.agg #[(Value.int .i64 y0), (Value.int .i64 y1), (Value.int .i64 y2)]))]).run Tryz.prog w = .ok (.slice (some ⟨w.heap.size, 0, none⟩) 1 1) (w.alloc (.cells #[(Value.int .i64 y0), (Value.int .i64 y1), (Value.int .i64 y2)] 103)) := fun w => by kernel_rfl
theorem BS_121_1_0 (y0 : Int) (y1 : Int) (y2 : Int) (y3 : Int) (y4 : Int) : ∀ w, (Instr.buildSlice 121 1 #[(0, (Value.agg #[(Value.int .i64 y0), (Value.int .i64 y1), (Value.int .i64 y2), (Value.int .i64 y3), (Value.int .i64 y4)]))]).run Tryz.prog w = .ok (.slice (some ⟨w.heap.size, 0, none⟩) 1 1) (w.alloc (.cells #[(Value.int .i64 y0), (Value.int .i64 y1), (Value.int .i64 y2), (Value.int .i64 y3), (Value.int .i64 y4)] 125)) := fun w => by kernel_rfl
theorem BS_22_3_0_1_2 (y0 : Bool) (y1 : Bool) (y2 : Bool) : ∀ w, (Instr.buildSlice 22 3 #[(0, (Value.bool y0)), (1, (Value.bool y1)), (2, (Value.bool y2))]).run Tryz.prog w = .ok (.slice (some ⟨w.heap.size, 0, none⟩) 3 3) (w.alloc (.cells #[(Value.bool y0), (Value.bool y1), (Value.bool y2)] 4)) := fun w => by kernel_rfl
theorem BS_36_6_0_1_2_3_4_5 (y0 : Int) (y1 : Int) (y2 : Int) (y3 : Int) (y4 : Int) (y5 : Int) (y6 : Int) (y7 : Int) (y8 : Int) (y9 : Int) (y10 : Int) (y11 : Int) : ∀ w, (Instr.buildSlice 36 6 #[(0, (Value.agg #[(Value.int .i64 y0), (Value.int .i64 y1)])), (1, (Value.agg #[(Value.int .i64 y2), (Value.int .i64 y3)])), (2, (Value.agg #[(Value.int .i64 y4), (Value.int .i64 y5)])), (3, (Value.agg #[(Value.int .i64 y6), (Value.int .i64 y7)])), (4, (Value.agg #[(Value.int .i64 y8), (Value.int .i64 y9)])), (5, (Value.agg #[(Value.int .i64 y10), (Value.int .i64 y11)]))]).run Tryz.prog w = .ok (.slice (some ⟨w.heap.size, 0, none⟩) 6 6) (w.alloc (.cells #[(Value.int .i64 y0), (Value.int .i64 y1), (Value.int .i64 y2), (Value.int .i64 y3), (Value.int .i64 y4), (Value.int .i64 y5), (Value.int .i64 y6), (Value.int .i64 y7), (Value.int .i64 y8), (Value.int .i64 y9), (Value.int .i64 y10), (Value.int .i64 y11)] 83)) := fun w => by kernel_rfl
theorem BS_39_1_0 (y0 : Int) : ∀ w, (Instr.buildSlice 39 1 #[(0, (Value.int .i64 y0))]).run Tryz.prog w = .ok (.slice (some ⟨w.heap.size, 0, none⟩) 1 1) (w.alloc (.cells #[(Value.int .i64 y0)] 3)) := fun w => by kernel_rfl
theorem BS_39_2_0_1 (y0 : Int) (y1 : Int) : ∀ w, (Instr.buildSlice 39 2 #[(0, (Value.int .i64 y0)), (1, (Value.int .i64 y1))]).run Tryz.prog w = .ok (.slice (some ⟨w.heap.size, 0, none⟩) 2 2) (w.alloc (.cells #[(Value.int .i64 y0), (Value.int .i64 y1)] 3)) := fun w => by kernel_rfl
theorem BS_39_9_0_1_2_3_4_5_6_7_8 (y0 : Int) (y1 : Int) (y2 : Int) (y3 : Int) (y4 : Int) (y5 : Int) (y6 : Int) (y7 : Int) (y8 : Int) : ∀ w, (Instr.buildSlice 39 9 #[(0, (Value.int .i64 y0)), (1, (Value.int .i64 y1)), (2, (Value.int .i64 y2)), (3, (Value.int .i64 y3)), (4, (Value.int .i64 y4)), (5, (Value.int .i64 y5)), (6, (Value.int .i64 y6)), (7, (Value.int .i64 y7)), (8, (Value.int .i64 y8))]).run Tryz.prog w = .ok (.slice (some ⟨w.heap.size, 0, none⟩) 9 9) (w.alloc (.cells #[(Value.int .i64 y0), (Value.int .i64 y1), (Value.int .i64 y2), (Value.int .i64 y3), (Value.int .i64 y4), (Value.int .i64 y5), (Value.int .i64 y6), (Value.int .i64 y7), (Value.int .i64 y8)] 3)) := fun w => by kernel_rfl
theorem BS_47_2_0_1 (y0 : Int) (y1 : Int) (y2 : Bool) (y3 : Int) (y4 : Int) (y5 : Bool) : ∀ w, (Instr.buildSlice 47 2 #[(0, (Value.agg #[(Value.int .i64 y0), (Value.int .i64 y1), (Value.bool y2)])), (1, (Value.agg #[(Value.int .i64 y3), (Value.int .i64 y4), (Value.bool y5)]))]).run Tryz.prog w = .ok (.slice (some ⟨w.heap.size, 0, none⟩) 2 2) (w.alloc (.cells #[(Value.int .i64 y0), (Value.int .i64 y1), (Value.bool y2), (Value.int .i64 y3), (Value.int .i64 y4), (Value.bool y5)] 56)) := fun w => by kernel_rfl
theorem BS_53_1_0 (y0 : Int) (y1 : Int) (y2 : Int) (y3 : Int) (y4 : Int) : ∀ w, (Instr.buildSlice 53 1 #[(0, (Value.agg #[(Value.int .i64 y0), (Value.int .i64 y1), (Value.int .i64 y2), (Value.int .i64 y3), (Value.int .i64 y4)]))]).run Tryz.prog w = .ok (.slice (some ⟨w.heap.size, 0, none⟩) 1 1) (w.alloc (.cells #[(Value.int .i64 y0), (Value.int .i64 y1), (Value.int .i64 y2), (Value.int .i64 y3), (Value.int .i64 y4)] 52)) := fun w => by kernel_rfl
theorem BS_66_0_ : ∀ w, (Instr.buildSlice 66 0 #[]).run Tryz.prog w = .ok (.slice (some ⟨w.heap.size, 0, none⟩) 0 0) (w.alloc (.cells #[] 70)) := fun w => by kernel_rfl
theorem BS_66_1_0 (y0 : Int) (y1 : Int) (y2 : Int) (y3 : Int) : ∀ w, (Instr.buildSlice 66 1 #[(0, (Value.agg #[(Value.int .i64 y0), (Value.int .i64 y1), (Value.int .i64 y2), (Value.int .i64 y3)]))]).run Tryz.prog w = .ok (.slice (some ⟨w.heap.size, 0, none⟩) 1 1) (w.alloc (.cells #[(Value.int .i64 y0), (Value.int .i64 y1), (Value.int .i64 y2), (Value.int .i64 y3)] 70)) := fun w => by kernel_rfl
theorem ES_101 : elemSize Tryz.prog 101 = some 3 := by kernel_rfl
theorem ES_121 : elemSize Tryz.prog 121 = some 5 := by kernel_rfl
theorem ES_22 : elemSize Tryz.prog 22 = some 1 := by kernel_rfl
theorem ES_36 : elemSize Tryz.prog 36 = some 2 := by kernel_rfl
theorem ES_39 : elemSize Tryz.prog 39 = some 1 := by kernel_rfl
theorem ES_47 : elemSize Tryz.prog 47 = some 3 := by kernel_rfl
theorem ES_53 : elemSize Tryz.prog 53 = some 5 := by kernel_rfl
theorem ES_63 : elemSize Tryz.prog 63 = some 1 := by kernel_rfl
theorem ES_66 : elemSize Tryz.prog 66 = some 4 := by kernel_rfl
theorem FA_103_0 : fieldOff Tryz.prog 103 0 = some 0 := by kernel_rfl
theorem FA_103_1 : fieldOff Tryz.prog 103 1 = some 1 := by kernel_rfl
theorem FA_103_2 : fieldOff Tryz.prog 103 2 = some 2 := by kernel_rfl
theorem FA_125_0 : fieldOff Tryz.prog 125 0 = some 0 := by kernel_rfl
theorem FA_125_1 : fieldOff Tryz.prog 125 1 = some 3 := by kernel_rfl
theorem FA_125_2 : fieldOff Tryz.prog 125 2 = some 4 := by kernel_rfl
theorem FA_52_0 : fieldOff Tryz.prog 52 0 = some 0 := by kernel_rfl
theorem FA_52_1 : fieldOff Tryz.prog 52 1 = some 1 := by kernel_rfl
theorem FA_52_2 : fieldOff Tryz.prog 52 2 = some 2 := by kernel_rfl
theorem FA_52_3 : fieldOff Tryz.prog 52 3 = some 3 := by kernel_rfl
theorem FA_52_4 : fieldOff Tryz.prog 52 4 = some 4 := by kernel_rfl
theorem FA_56_0 : fieldOff Tryz.prog 56 0 = some 0 := by kernel_rfl
theorem FA_56_1 : fieldOff Tryz.prog 56 1 = some 1 := by kernel_rfl
theorem FA_56_2 : fieldOff Tryz.prog 56 2 = some 2 := by kernel_rfl
theorem FA_65_0 : fieldOff Tryz.prog 65 0 = some 0 := by kernel_rfl
theorem FA_65_1 : fieldOff Tryz.prog 65 1 = some 1 := by kernel_rfl
theorem FA_65_10 : fieldOff Tryz.prog 65 10 = some 10 := by kernel_rfl
theorem FA_65_11 : fieldOff Tryz.prog 65 11 = some 11 := by kernel_rfl
theorem FA_65_12 : fieldOff Tryz.prog 65 12 = some 12 := by kernel_rfl
theorem FA_65_13 : fieldOff Tryz.prog 65 13 = some 13 := by kernel_rfl
theorem FA_65_14 : fieldOff Tryz.prog 65 14 = some 14 := by kernel_rfl
theorem FA_65_15 : fieldOff Tryz.prog 65 15 = some 15 := by kernel_rfl
theorem FA_65_16 : fieldOff Tryz.prog 65 16 = some 16 := by kernel_rfl
theorem FA_65_18 : fieldOff Tryz.prog 65 18 = some 18 := by kernel_rfl
theorem FA_65_19 : fieldOff Tryz.prog 65 19 = some 19 := by kernel_rfl
theorem FA_65_2 : fieldOff Tryz.prog 65 2 = some 2 := by kernel_rfl
theorem FA_65_20 : fieldOff Tryz.prog 65 20 = some 20 := by kernel_rfl
theorem FA_65_21 : fieldOff Tryz.prog 65 21 = some 21 := by kernel_rfl
theorem FA_65_3 : fieldOff Tryz.prog 65 3 = some 3 := by kernel_rfl
theorem FA_65_5 : fieldOff Tryz.prog 65 5 = some 5 := by kernel_rfl
theorem FA_65_8 : fieldOff Tryz.prog 65 8 = some 8 := by kernel_rfl
theorem FA_65_9 : fieldOff Tryz.prog 65 9 = some 9 := by kernel_rfl
theorem FA_70_0 : fieldOff Tryz.prog 70 0 = some 0 := by kernel_rfl
theorem FA_70_1 : fieldOff Tryz.prog 70 1 = some 1 := by kernel_rfl
theorem FA_70_2 : fieldOff Tryz.prog 70 2 = some 2 := by kernel_rfl
theorem FA_70_3 : fieldOff Tryz.prog 70 3 = some 3 := by kernel_rfl
theorem FA_77_0 : fieldOff Tryz.prog 77 0 = some 0 := by kernel_rfl
theorem FA_77_1 : fieldOff Tryz.prog 77 1 = some 1 := by kernel_rfl
theorem FA_77_2 : fieldOff Tryz.prog 77 2 = some 2 := by kernel_rfl
theorem FA_80_0 : fieldOff Tryz.prog 80 0 = some 0 := by kernel_rfl
theorem FA_80_1 : fieldOff Tryz.prog 80 1 = some 1 := by kernel_rfl
theorem FA_80_2 : fieldOff Tryz.prog 80 2 = some 2 := by kernel_rfl
theorem IK_130 : intKindT Tryz.prog 130 = some .u64 := by kernel_rfl
theorem IK_3 : intKindT Tryz.prog 3 = some .i64 := by kernel_rfl
theorem IK_5 : intKindT Tryz.prog 5 = some .u8 := by kernel_rfl
theorem NB_114 : Tryz.f114.body.isNone = false := by kernel_rfl
theorem NN_114 : (Tryz.f114.name == "runtime.NumGoroutine") = false := by kernel_rfl
theorem NB_115 : Tryz.f115.body.isNone = false := by kernel_rfl
theorem NN_115 : (Tryz.f115.name == "runtime.NumGoroutine") = false := by kernel_rfl
theorem NB_116 : Tryz.f116.body.isNone = false := by kernel_rfl
theorem NN_116 : (Tryz.f116.name == "runtime.NumGoroutine") = false := by kernel_rfl
theorem NB_117 : Tryz.f117.body.isNone = false := by kernel_rfl
theorem NN_117 : (Tryz.f117.name == "runtime.NumGoroutine") = false := by kernel_rfl
theorem NB_118 : Tryz.f118.body.isNone = false := by kernel_rfl
theorem NN_118 : (Tryz.f118.name == "runtime.NumGoroutine") = false := by kernel_rfl
theorem NB_119 : Tryz.f119.body.isNone = false := by kernel_rfl
theorem NN_119 : (Tryz.f119.name == "runtime.NumGoroutine") = false := by kernel_rfl
theorem NB_12 : Tryz.f12.body.isNone = false := by kernel_rfl
theorem NN_12 : (Tryz.f12.name == "runtime.NumGoroutine") = false := by kernel_rfl
theorem NB_136 : Tryz.f136.body.isNone = false := by kernel_rfl
theorem NN_136 : (Tryz.f136.name == "runtime.NumGoroutine") = false := by kernel_rfl
theorem NB_14 : Tryz.f14.body.isNone = false := by kernel_rfl
theorem NN_14 : (Tryz.f14.name == "runtime.NumGoroutine") = false := by kernel_rfl
theorem NB_15 : Tryz.f15.body.isNone = false := by kernel_rfl
theorem NN_15 : (Tryz.f15.name == "runtime.NumGoroutine") = false := by kernel_rfl
theorem NB_16 : Tryz.f16.body.isNone = false := by kernel_rfl
theorem NN_16 : (Tryz.f16.name == "runtime.NumGoroutine") = false := by kernel_rfl
theorem NB_17 : Tryz.f17.body.isNone = false := by kernel_rfl
theorem NN_17 : (Tryz.f17.name == "runtime.NumGoroutine") = false := by kernel_rfl
theorem NB_18 : Tryz.f18.body.isNone = false := by kernel_rfl
theorem NN_18 : (Tryz.f18.name == "runtime.NumGoroutine") = false := by kernel_rfl
theorem NB_19 : Tryz.f19.body.isNone = false := by kernel_rfl
theorem NN_19 : (Tryz.f19.name == "runtime.NumGoroutine") = false := by kernel_rfl
theorem NB_20 : Tryz.f20.body.isNone = false := by kernel_rfl
theorem NN_20 : (Tryz.f20.name == "runtime.NumGoroutine") = false := by kernel_rfl
theorem NB_21 : Tryz.f21.body.isNone = false := by kernel_rfl
theorem NN_21 : (Tryz.f21.name == "runtime.NumGoroutine") = false := by kernel_rfl
theorem NB_22 : Tryz.f22.body.isNone = false := by kernel_rfl
theorem NN_22 : (Tryz.f22.name == "runtime.NumGoroutine") = false := by kernel_rfl
theorem NB_23 : Tryz.f23.body.isNone = false := by kernel_rfl
theorem NN_23 : (Tryz.f23.name == "runtime.NumGoroutine") = false := by kernel_rfl
theorem NB_24 : Tryz.f24.body.isNone = false := by kernel_rfl
theorem NN_24 : (Tryz.f24.name == "runtime.NumGoroutine") = false := by kernel_rfl
theorem NB_33 : Tryz.f33.body.isNone = false := by kernel_rfl
theorem NN_33 : (Tryz.f33.name == "runtime.NumGoroutine") = false := by kernel_rfl
theorem NB_34 : Tryz.f34.body.isNone = false := by kernel_rfl
theorem NN_34 : (Tryz.f34.name == "runtime.NumGoroutine") = false := by kernel_rfl
theorem NB_35 : Tryz.f35.body.isNone = false := by kernel_rfl
theorem NN_35 : (Tryz.f35.name == "runtime.NumGoroutine") = false := by kernel_rfl
theorem NB_36 : Tryz.f36.body.isNone = false := by kernel_rfl
theorem NN_36 : (Tryz.f36.name == "runtime.NumGoroutine") = false := by kernel_rfl
theorem NB_37 : Tryz.f37.body.isNone = false := by kernel_rfl
theorem NN_37 : (Tryz.f37.name == "runtime.NumGoroutine") = false := by kernel_rfl
theorem NB_38 : Tryz.f38.body.isNone = false := by kernel_rfl
theorem NN_38 : (Tryz.f38.name == "runtime.NumGoroutine") = false := by kernel_rfl
theorem NB_39 : Tryz.f39.body.isNone = false := by kernel_rfl
theorem NN_39 : (Tryz.f39.name == "runtime.NumGoroutine") = false := by kernel_rfl
theorem NB_40 : Tryz.f40.body.isNone = false := by kernel_rfl
theorem NN_40 : (Tryz.f40.name == "runtime.NumGoroutine") = false := by kernel_rfl
theorem NB_41 : Tryz.f41.body.isNone = false := by kernel_rfl
theorem NN_41 : (Tryz.f41.name == "runtime.NumGoroutine") = false := by kernel_rfl
theorem NB_42 : Tryz.f42.body.isNone = false := by kernel_rfl
theorem NN_42 : (Tryz.f42.name == "runtime.NumGoroutine") = false := by kernel_rfl
theorem NB_43 : Tryz.f43.body.isNone = false := by kernel_rfl
theorem NN_43 : (Tryz.f43.name == "runtime.NumGoroutine") = false := by kernel_rfl
theorem NB_44 : Tryz.f44.body.isNone = false := by kernel_rfl
theorem NN_44 : (Tryz.f44.name == "runtime.NumGoroutine") = false := by kernel_rfl
theorem NB_45 : Tryz.f45.body.isNone = false := by kernel_rfl
theorem NN_45 : (Tryz.f45.name == "runtime.NumGoroutine") = false := by kernel_rfl
theorem NB_46 : Tryz.f46.body.isNone = false := by kernel_rfl
theorem NN_46 : (Tryz.f46.name == "runtime.NumGoroutine") = false := by kernel_rfl
theorem NB_47 : Tryz.f47.body.isNone = false := by kernel_rfl
theorem NN_47 : (Tryz.f47.name == "runtime.NumGoroutine") = false := by kernel_rfl
theorem NB_48 : Tryz.f48.body.isNone = false := by kernel_rfl
theorem NN_48 : (Tryz.f48.name == "runtime.NumGoroutine") = false := by kernel_rfl
theorem NB_49 : Tryz.f49.body.isNone = false := by kernel_rfl
theorem NN_49 : (Tryz.f49.name == "runtime.NumGoroutine") = false := by kernel_rfl
theorem NB_5 : Tryz.f5.body.isNone = false := by kernel_rfl
theorem NN_5 : (Tryz.f5.name == "runtime.NumGoroutine") = false := by kernel_rfl
theorem NB_50 : Tryz.f50.body.isNone = false := by kernel_rfl
theorem NN_50 : (Tryz.f50.name == "runtime.NumGoroutine") = false := by kernel_rfl
theorem NB_51 : Tryz.f51.body.isNone = false := by kernel_rfl
theorem NN_51 : (Tryz.f51.name == "runtime.NumGoroutine") = false := by kernel_rfl
theorem NB_52 : Tryz.f52.body.isNone = false := by kernel_rfl
theorem NN_52 : (Tryz.f52.name == "runtime.NumGoroutine") = false := by kernel_rfl
theorem NB_53 : Tryz.f53.body.isNone = false := by kernel_rfl
theorem NN_53 : (Tryz.f53.name == "runtime.NumGoroutine") = false := by kernel_rfl
theorem NB_58 : Tryz.f58.body.isNone = false := by kernel_rfl
theorem NN_58 : (Tryz.f58.name == "runtime.NumGoroutine") = false := by kernel_rfl
theorem NB_59 : Tryz.f59.body.isNone = false := by kernel_rfl
theorem NN_59 : (Tryz.f59.name == "runtime.NumGoroutine") = false := by kernel_rfl
theorem NB_6 : Tryz.f6.body.isNone = false := by kernel_rfl
theorem NN_6 : (Tryz.f6.name == "runtime.NumGoroutine") = false := by kernel_rfl
theorem NB_60 : Tryz.f60.body.isNone = false := by kernel_rfl
theorem NN_60 : (Tryz.f60.name == "runtime.NumGoroutine") = false := by kernel_rfl
theorem NB_61 : Tryz.f61.body.isNone = false := by kernel_rfl
theorem NN_61 : (Tryz.f61.name == "runtime.NumGoroutine") = false := by kernel_rfl
theorem NB_62 : Tryz.f62.body.isNone = false := by kernel_rfl
theorem NN_62 : (Tryz.f62.name == "runtime.NumGoroutine") = false := by kernel_rfl
theorem NB_66 : Tryz.f66.body.isNone = false := by kernel_rfl
theorem NN_66 : (Tryz.f66.name == "runtime.NumGoroutine") = false := by kernel_rfl
theorem NB_67 : Tryz.f67.body.isNone = false := by kernel_rfl
theorem NN_67 : (Tryz.f67.name == "runtime.NumGoroutine") = false := by kernel_rfl
theorem NB_68 : Tryz.f68.body.isNone = false := by kernel_rfl
theorem NN_68 : (Tryz.f68.name == "runtime.NumGoroutine") = false := by kernel_rfl
theorem NB_69 : Tryz.f69.body.isNone = false := by kernel_rfl
theorem NN_69 : (Tryz.f69.name == "runtime.NumGoroutine") = false := by kernel_rfl
theorem NB_7 : Tryz.f7.body.isNone = false := by kernel_rfl
theorem NN_7 : (Tryz.f7.name == "runtime.NumGoroutine") = false := by kernel_rfl
theorem NB_70 : Tryz.f70.body.isNone = false := by kernel_rfl
theorem NN_70 : (Tryz.f70.name == "runtime.NumGoroutine") = false := by kernel_rfl
theorem NB_71 : Tryz.f71.body.isNone = false := by kernel_rfl
theorem NN_71 : (Tryz.f71.name == "runtime.NumGoroutine") = false := by kernel_rfl
theorem NB_72 : Tryz.f72.body.isNone = false := by kernel_rfl
theorem NN_72 : (Tryz.f72.name == "runtime.NumGoroutine") = false := by kernel_rfl
theorem NB_73 : Tryz.f73.body.isNone = false := by kernel_rfl
theorem NN_73 : (Tryz.f73.name == "runtime.NumGoroutine") = false := by kernel_rfl
theorem NB_76 : Tryz.f76.body.isNone = false := by kernel_rfl
theorem NN_76 : (Tryz.f76.name == "runtime.NumGoroutine") = false := by kernel_rfl
theorem NB_77 : Tryz.f77.body.isNone = false := by kernel_rfl
theorem NN_77 : (Tryz.f77.name == "runtime.NumGoroutine") = false := by kernel_rfl
theorem NB_79 : Tryz.f79.body.isNone = false := by kernel_rfl
theorem NN_79 : (Tryz.f79.name == "runtime.NumGoroutine") = false := by kernel_rfl
theorem NB_8 : Tryz.f8.body.isNone = false := by kernel_rfl
theorem NN_8 : (Tryz.f8.name == "runtime.NumGoroutine") = false := by kernel_rfl
theorem NB_80 : Tryz.f80.body.isNone = false := by kernel_rfl
theorem NN_80 : (Tryz.f80.name == "runtime.NumGoroutine") = false := by kernel_rfl
theorem NB_81 : Tryz.f81.body.isNone = false := by kernel_rfl
theorem NN_81 : (Tryz.f81.name == "runtime.NumGoroutine") = false := by kernel_rfl
theorem NB_84 : Tryz.f84.body.isNone = false := by kernel_rfl
theorem NN_84 : (Tryz.f84.name == "runtime.NumGoroutine") = false := by kernel_rfl
theorem NB_85 : Tryz.f85.body.isNone = false := by kernel_rfl
theorem NN_85 : (Tryz.f85.name == "runtime.NumGoroutine") = false := by kernel_rfl
theorem NB_86 : Tryz.f86.body.isNone = false := by kernel_rfl
theorem NN_86 : (Tryz.f86.name == "runtime.NumGoroutine") = false := by kernel_rfl
theorem NB_87 : Tryz.f87.body.isNone = false := by kernel_rfl
theorem NN_87 : (Tryz.f87.name == "runtime.NumGoroutine") = false := by kernel_rfl
theorem NB_88 : Tryz.f88.body.isNone = false := by kernel_rfl
theorem NN_88 : (Tryz.f88.name == "runtime.NumGoroutine") = false := by kernel_rfl
theorem NB_89 : Tryz.f89.body.isNone = false := by kernel_rfl
theorem NN_89 : (Tryz.f89.name == "runtime.NumGoroutine") = false := by kernel_rfl
theorem NB_90 : Tryz.f90.body.isNone = false := by kernel_rfl
theorem NN_90 : (Tryz.f90.name == "runtime.NumGoroutine") = false := by kernel_rfl
theorem NB_91 : Tryz.f91.body.isNone = false := by kernel_rfl
theorem NN_91 : (Tryz.f91.name == "runtime.NumGoroutine") = false := by kernel_rfl
theorem NB_92 : Tryz.f92.body.isNone = false := by kernel_rfl
theorem NN_92 : (Tryz.f92.name == "runtime.NumGoroutine") = false := by kernel_rfl
theorem SH_103 : shapeT Tryz.prog 103 = some 4 := by kernel_rfl
theorem SH_125 : shapeT Tryz.prog 125 = some 6 := by kernel_rfl
theorem SH_3 : shapeT Tryz.prog 3 = some 0 := by kernel_rfl
theorem SH_4 : shapeT Tryz.prog 4 = some 0 := by kernel_rfl
theorem SH_52 : shapeT Tryz.prog 52 = some 6 := by kernel_rfl
theorem SH_56 : shapeT Tryz.prog 56 = some 4 := by kernel_rfl
theorem SH_63 : shapeT Tryz.prog 63 = some 0 := by kernel_rfl
theorem SH_65 : shapeT Tryz.prog 65 = some 23 := by kernel_rfl
theorem SH_66 : shapeT Tryz.prog 66 = some 0 := by kernel_rfl
theorem SH_70 : shapeT Tryz.prog 70 = some 5 := by kernel_rfl
theorem SH_78 : shapeT Tryz.prog 78 = some 0 := by kernel_rfl
theorem SH_83 : shapeT Tryz.prog 83 = some 3 := by kernel_rfl
theorem SH_9 : shapeT Tryz.prog 9 = some 0 := by kernel_rfl
theorem SZ_103 : sizeT Tryz.prog 103 = some 3 := by kernel_rfl
theorem SZ_125 : sizeT Tryz.prog 125 = some 5 := by kernel_rfl
theorem SZ_3 : sizeT Tryz.prog 3 = some 1 := by kernel_rfl
theorem SZ_4 : sizeT Tryz.prog 4 = some 1 := by kernel_rfl
theorem SZ_52 : sizeT Tryz.prog 52 = some 5 := by kernel_rfl
theorem SZ_56 : sizeT Tryz.prog 56 = some 3 := by kernel_rfl
theorem SZ_65 : sizeT Tryz.prog 65 = some 22 := by kernel_rfl
theorem SZ_66 : sizeT Tryz.prog 66 = some 1 := by kernel_rfl
theorem SZ_70 : sizeT Tryz.prog 70 = some 4 := by kernel_rfl
theorem SZ_83 : sizeT Tryz.prog 83 = some 2 := by kernel_rfl
theorem ZV_103 : (Tryz.prog.info? 103).bind (·.zero) = some (Value.agg #[(Value.int .i64 0), (Value.int .i64 0), (Value.int .i64 0)]) := by kernel_rfl
theorem ZV_125 : (Tryz.prog.info? 125).bind (·.zero) = some (Value.agg #[(Value.int .i64 0), (Value.int .i64 0), (Value.int .i64 0), (Value.int .i64 0), (Value.int .i64 0)]) := by kernel_rfl
theorem ZV_52 : (Tryz.prog.info? 52).bind (·.zero) = some (Value.agg #[(Value.int .i64 0), (Value.int .i64 0), (Value.int .i64 0), (Value.int .i64 0), (Value.int .i64 0)]) := by kernel_rfl
theorem ZV_56 : (Tryz.prog.info? 56).bind (·.zero) = some (Value.agg #[(Value.int .i64 0), (Value.int .i64 0), (Value.bool false)]) := by kernel_rfl
theorem ZV_65 : (Tryz.prog.info? 65).bind (·.zero) = some (V64 (ByteArray.mk #[]) 0 0 0 false 0 false false 0 0 0 0 Sl.nil 0 0 0 0 false 0 0 0 0) := by kernel_rfl
theorem ZV_66 : (Tryz.prog.info? 66).bind (·.zero) = some (Sl.v Sl.nil) := by kernel_rfl
theorem ZV_70 : (Tryz.prog.info? 70).bind (·.zero) = some (Value.agg #[(Value.int .i64 0), (Value.int .i64 0), (Value.int .i64 0), (Value.int .i64 0)]) := by kernel_rfl
theorem ZV_83 : (Tryz.prog.info? 83).bind (·.zero) = some (Value.agg #[(Value.int .i64 0), (Value.int .i64 0)]) := by kernel_rfl
theorem isBoolT_4 : isBoolT Tryz.prog 4 = true := by kernel_rfl
theorem isPtrT_24 : isPtrT Tryz.prog 24 = true := by kernel_rfl
theorem isPtrT_28 : isPtrT Tryz.prog 28 = true := by kernel_rfl
theorem isSliceT_101 : isSliceT Tryz.prog 101 = true := by kernel_rfl
theorem isSliceT_121 : isSliceT Tryz.prog 121 = true := by kernel_rfl
theorem isSliceT_22 : isSliceT Tryz.prog 22 = true := by kernel_rfl
theorem isSliceT_36 : isSliceT Tryz.prog 36 = true := by kernel_rfl
theorem isSliceT_39 : isSliceT Tryz.prog 39 = true := by kernel_rfl
theorem isSliceT_47 : isSliceT Tryz.prog 47 = true := by kernel_rfl
theorem isSliceT_53 : isSliceT Tryz.prog 53 = true := by kernel_rfl
theorem isSliceT_63 : isSliceT Tryz.prog 63 = true := by kernel_rfl
theorem isSliceT_66 : isSliceT Tryz.prog 66 = true := by kernel_rfl
theorem isStrT_9 : isStrT Tryz.prog 9 = true := by kernel_rfl

/-- linguatop.TopRings -/
def F4 (p0 : Sl) (p1 : Int) (p2 : Int) (p3 : Int) (w0 : World) (K : Bool → World → Prop) : Prop :=
  callC Tryz.prog 5 #[] (fun (r : Bool) => (Value.bool r)) w0 fun r9 w1 =>
  jn (fun J10 => cnd (decide (20 < (p0.len : Int)))
    (
    J10 true w1
    )
    (
    callC Tryz.prog 14 #[(Sl.v p0), (Value.int .i64 p1)] (fun (r : Bool) => (Value.bool r)) w1 fun r12 w2 =>
    J10 (!r12) w2
    ))
  fun c13 w3 =>
  cnd (c13)
    (
    K r9 w3
    )
    (
    callC Tryz.prog 15 #[(Sl.v p0), (Value.int .i64 p1)] (fun (r : Sl × Sl × Int) => (Value.tuple #[(Sl.v r.1), (Sl.v r.2.1), (Value.int .i64 r.2.2)])) w3 fun r15 w4 =>
    cnd (!decide (r15.2.2 = 0))
      (
      K (r9 && (decide (r15.2.2 = 19))) w4
      )
      (
      p1 ≠ 0 ∧
      nw 52 #[(Value.int .i64 ((IntKind.i64.wrap p2).tmod p1)), (Value.int .i64 p3), (Value.int .i64 0), (Value.int .i64 (-1)), (Value.int .i64 (-1))] w4 fun b20 w5 =>
      rn Tryz.prog (Instr.makeSlice 22 (Value.int .i64 p1) (Value.int .i64 p1)) (fun (r : Sl) => (Sl.v r)) w5 fun r21 w6 =>
      rn Tryz.prog (Instr.makeSlice 22 (Value.int .i64 p1) (Value.int .i64 p1)) (fun (r : Sl) => (Sl.v r)) w6 fun r22 w7 =>
      ix r21 ((IntKind.i64.wrap p2).tmod p1) 1 fun p23 =>
      st p23 [(Value.bool true)] w7 fun w8 =>
      ix r22 ((IntKind.i64.wrap p2).tmod p1) 1 fun p25 =>
      st p25 [(Value.bool true)] w8 fun w9 =>
      callC Tryz.prog 16 #[(Sl.v p0), (Sl.v r15.1)] (fun (r : Sl) => (Sl.v r)) w9 fun r27 w10 =>
      lp (fun (next28 : (Sl × Int) → World → Prop) l28 w11 =>
        cnd (decide (l28.2 ≤ p1))
          (
          rn Tryz.prog (Instr.makeSlice 22 (Value.int .i64 p1) (Value.int .i64 p1)) (fun (r : Sl) => (Sl.v r)) w11 fun r30 w12 =>
          lp (fun (next31 : Int → World → Prop) l31 w13 =>
            cnd (decide (l31 < (r27.len : Int)))
              (
              jn (fun (J33 : Unit → World → Prop) =>
                ix r27 l31 1 fun p35 =>
                ld (Value.int .i64) p35 w13 fun x36 =>
                ix p0 x36 3 fun p37 =>
                ld (Value.int .i64) (p37.add 0) w13 fun x38 =>
                ld (Value.int .i64) (p37.add 1) w13 fun x39 =>
                ld Value.bool (p37.add 2) w13 fun x40 =>
                nw 56 #[(Value.int .i64 0), (Value.int .i64 0), (Value.bool false)] w13 fun b41 w15 =>
                st (Addr.mk b41 0 none) [(Value.int .i64 x38), (Value.int .i64 x39), (Value.bool x40)] w15 fun w16 =>
                ld (Value.int .i64) ((Addr.mk b41 0 none).add 0) w16 fun x43 =>
                ix l28.1 x43 1 fun p44 =>
                ld Value.bool p44 w16 fun x45 =>
                cnd (!x45)
                  (
                  J33 () w16
                  )
                  (
                  ld (Value.int .i64) ((Addr.mk b41 0 none).add 1) w16 fun x47 =>
                  nw 52 #[(Value.int .i64 0), (Value.int .i64 0), (Value.int .i64 0), (Value.int .i64 0), (Value.int .i64 0)] w16 fun b48 w17 =>
                  st (Addr.mk b48 0 none) [(Value.int .i64 (IntKind.i64.wrap (x47 + (IntKind.i64.wrap (12 * (IntKind.i64.wrap (1 + l31))))))), (Value.int .i64 p3), (Value.int .i64 l28.2), (Value.int .i64 (-1)), (Value.int .i64 (-1))] w17 fun w18 =>
                  ld (Value.int .i64) ((Addr.mk b48 0 none).add 0) w18 fun x50 =>
                  ld (Value.int .i64) ((Addr.mk b48 0 none).add 1) w18 fun x51 =>
                  ld (Value.int .i64) ((Addr.mk b48 0 none).add 2) w18 fun x52 =>
                  ld (Value.int .i64) ((Addr.mk b48 0 none).add 3) w18 fun x53 =>
                  ld (Value.int .i64) ((Addr.mk b48 0 none).add 4) w18 fun x54 =>
                  callC Tryz.prog 17 #[(Sl.v (⟨some ⟨b20, 0, none⟩, 1, 1⟩ : Sl)), (Value.agg #[(Value.int .i64 x50), (Value.int .i64 x51), (Value.int .i64 x52), (Value.int .i64 x53), (Value.int .i64 x54)]), (Value.int .i64 p1)] (fun (r : Int × Bool) => (Value.tuple #[(Value.int .i64 r.1), (Value.bool r.2)])) w18 fun r55 w19 =>
                  jn (fun (J57 : Bool → World → Prop) => tk w19 fun w20 =>
                    ld (Value.int .i64) ((Addr.mk b48 0 none).add 0) w20 fun x58 =>
                    ld (Value.int .i64) ((Addr.mk b41 0 none).add 1) w20 fun x59 =>
                    callC Tryz.prog 18 #[(Value.int .i64 x58)] (fun (r : Int) => (Value.int .i64 r)) w20 fun r60 w21 =>
                    (w21.cell? ((Addr.mk b41 0 none).add 1) = some (Value.int .i64 x59)) ∧
                    cnd (!decide (r60 = x59))
                      (
                      J57 true w21
                      )
                      (
                      cnd (!r55.2)
                        (
                        J57 true w21
                        )
                        (
                        J57 (!decide (r55.1 = 0)) w21
                        )
                      )
                  )
                  fun l63 w22 =>
                  cnd (l63)
                    (
                    K false w22
                    )
                    (
                    ld (Value.int .i64) ((Addr.mk b41 0 none).add 1) w22 fun x65 =>
                    ix r30 x65 1 fun p66 =>
                    st p66 [(Value.bool true)] w22 fun w23 =>
                    ld (Value.int .i64) ((Addr.mk b41 0 none).add 1) w23 fun x68 =>
                    ix r22 x68 1 fun p69 =>
                    st p69 [(Value.bool true)] w23 fun w24 =>
                    J33 () w24
                    )
                  )
              )
              fun _l34 w14 =>
              next31 (IntKind.i64.wrap (l31 + 1)) w14
              )
              (
              next28 (r30, IntKind.i64.wrap (l28.2 + 1)) w13
              )
          ) 0 w12
          )
          (
          callC Tryz.prog 19 #[(Sl.v p0), (Sl.v r15.1), (Value.int .i64 ((IntKind.i64.wrap p2).tmod p1))] (fun (r : Sl) => (Sl.v r)) w11 fun r71 w25 =>
          lp (fun (next72 : Int → World → Prop) l72 w26 =>
            cnd (decide (l72 < p1))
              (
              jn (fun (J75 : Bool → World → Prop) => tk w26 fun w27 =>
                ix l28.1 l72 1 fun p76 =>
                ld Value.bool p76 w27 fun x77 =>
                cnd (x77)
                  (
                  J75 true w27
                  )
                  (
                  ix r22 l72 1 fun p79 =>
                  ld Value.bool p79 w27 fun x80 =>
                  callC Tryz.prog 20 #[(Sl.v r71), (Value.int .i64 l72)] (fun (r : Bool) => (Value.bool r)) w27 fun r81 w28 =>
                  (w28.cell? p79 = some (Value.bool x80)) ∧
                  (w28.cell? p76 = some (Value.bool x77)) ∧
                  J75 (!(x80 == r81)) w28
                  )
              )
              fun l82 w29 =>
              cnd (l82)
                (
                K false w29
                )
                (
                next72 (IntKind.i64.wrap (l72 + 1)) w29
                )
              )
              (
              K r9 w26
              )
          ) 0 w25
          )
      ) (r21, 1) w10
      )
    )
set_option maxRecDepth 100000 in
theorem D4 (p0 : Sl) (p1 : Int) (p2 : Int) (p3 : Int) (w0 : World) (K : Bool → World → Prop) (h : F4 p0 p1 p2 p3 w0 K) : callC Tryz.prog 4 #[(Sl.v p0), (Value.int .i64 p1), (Value.int .u8 p2), (Value.int .i64 p3)] (fun (r : Bool) => (Value.bool r)) w0 K := by
  unfold F4 at h
  refine calls_of_wpC Tryz.func4 rfl 162 rfl (by simp) ?_
  intro ρ hρ
  have e0 : ρ 0 = (Sl.v p0) := hρ 0
  have e1 : ρ 1 = (Value.int .i64 p1) := hρ 1
  have e2 : ρ 2 = (Value.int .u8 p2) := hρ 2
  have e3 : ρ 3 = (Value.int .i64 p3) := hρ 3
  clear hρ
  refine wpC_seq ?_
  refine wpC_region ?_
  refine rv (Value.bool false) w0 rfl rfl rfl (x_assign rfl rfl) ?_
  refine wpR_nil ?_
  refine wpC_seq ?_
  refine wpC_cut (fun ρ => ρ 0 = (Sl.v p0) ∧ ρ 1 = (Value.int .i64 p1) ∧ ρ 2 = (Value.int .u8 p2) ∧ ρ 3 = (Value.int .i64 p3) ∧ True) ⟨e0, e1, e2, e3, trivial⟩ ?_
  rintro ρ ⟨e0, e1, e2, e3, -⟩
  refine wpC_region ?_
  refine wpR_enter rfl rfl rfl (x_call (vs := []) rfl rfl mapl_nil Tryz.func5 NN_5 NB_5) (Calls.mono h ?_)
  rintro _ w1 ⟨r9, rfl, h⟩
  refine ⟨_, rfl, ?_⟩
  refine rv (Value.bool r9) w1 rfl rfl rfl (x_assign rfl rfl) ?_
  refine wpR_nil ?_
  refine wpC_seq ?_
  refine wpC_seq ?_
  refine wpC_cut (fun ρ => ρ 0 = (Sl.v p0) ∧ ρ 1 = (Value.int .i64 p1) ∧ ρ 2 = (Value.int .u8 p2) ∧ ρ 3 = (Value.int .i64 p3) ∧ ρ 9 = (Value.bool r9) ∧ True) ⟨e0, e1, e2, e3, rfl, trivial⟩ ?_
  rintro ρ ⟨e0, e1, e2, e3, e9, -⟩
  refine wpC_region ?_
  refine rv (Sl.v p0) w1 rfl rfl rfl (x_move rfl e0) ?_
  refine rv (Value.int .i64 (p0.len : Int)) w1 rfl rfl rfl (x_lenS (s := p0) rfl rfl isSliceT_47) ?_
  refine rv (Value.bool (decide (20 < (p0.len : Int)))) w1 rfl rfl rfl (x_gtr rfl rfl rfl) ?_
  refine rv (Value.bool (decide (20 < (p0.len : Int)))) w1 rfl rfl rfl (x_move rfl rfl) ?_
  obtain ⟨J10, h, hk⟩ := h
  refine wpR_joinJ 5 (fun x ρ => ρ 36 = Value.bool x ∧ ρ 0 = (Sl.v p0) ∧ ρ 1 = (Value.int .i64 p1) ∧ ρ 2 = (Value.int .u8 p2) ∧ ρ 3 = (Value.int .i64 p3) ∧ ρ 9 = (Value.bool r9) ∧ True) (J10) ?_ ?_
  · clear hk
    rcases Bool.eq_false_or_eq_true (decide (20 < (p0.len : Int))) with hc11 | hc11
    · replace h := h.1 hc11
      refine wpR_pass (wantN rfl rfl rfl hc11) rfl rfl ?_
      refine wpR_pass (wantN rfl rfl rfl hc11) rfl rfl ?_
      refine wpR_pass (wantN rfl rfl rfl hc11) rfl rfl ?_
      refine wpR_pass (wantN rfl rfl rfl hc11) rfl rfl ?_
      refine rv (Value.bool true) w1 rfl rfl rfl (x_pickT (v := (Value.bool true)) rfl rfl hc11 rfl) ?_
      refine wpR_nil ?_
      exact ⟨true, ⟨rfl, e0, e1, e2, e3, e9, trivial⟩, h⟩
    · replace h := h.2 hc11
      refine wpR_val (v := (Sl.v p0)) (w' := w1) (wantG rfl rfl rfl hc11) rfl rfl (x_move rfl e0) ?_
      refine wpR_val (v := (Value.int .i64 p1)) (w' := w1) (wantG rfl rfl rfl hc11) rfl rfl (x_move rfl e1) ?_
      refine wpR_enter (wantG rfl rfl rfl hc11) rfl rfl (x_call (vs := [(Sl.v p0), (Value.int .i64 p1)]) rfl rfl (mapl_cons rfl (mapl_cons rfl mapl_nil)) Tryz.func14 NN_14 NB_14) (Calls.mono h ?_)
      rintro _ w2 ⟨r12, rfl, h⟩
      refine ⟨_, rfl, ?_⟩
      refine wpR_val (v := (Value.bool (!r12))) (w' := w2) (wantG rfl rfl rfl hc11) rfl rfl (x_not rfl rfl) ?_
      refine rv (Value.bool (!r12)) w2 rfl rfl rfl (x_pickF (v := (Value.bool (!r12))) rfl rfl hc11 rfl) ?_
      refine wpR_nil ?_
      exact ⟨!r12, ⟨rfl, e0, e1, e2, e3, e9, trivial⟩, h⟩
  clear h
  rintro c13 ρ w3 ⟨e36, e0, e1, e2, e3, e9, -⟩ h
  replace h := hk c13 w3 h
  clear hk
  refine wpR_nil ?_
  refine wpC_cond (b := c13) e36 (fun hc14 => ?_) (fun hc14 => ?_)
  · replace h := h.1 hc14
    refine wpC_seq ?_
    refine wpC_region ?_
    refine rv (Value.bool r9) w3 rfl rfl rfl (x_move rfl e9) ?_
    refine rv (Value.bool r9) w3 rfl rfl rfl (x_assign rfl rfl) ?_
    refine wpR_nil ?_
    refine wpC_ret ?_
    exact ⟨.inl rfl, fun a ha => ⟨_, results_rep1 rfl ha rfl, r9, rfl, h⟩⟩
  · replace h := h.2 hc14
    refine wpC_skip ?_
    refine wpC_seq ?_
    refine wpC_region ?_
    refine rv (Sl.v p0) w3 rfl rfl rfl (x_move rfl e0) ?_
    refine rv (Value.int .i64 p1) w3 rfl rfl rfl (x_move rfl e1) ?_
    refine wpR_enter rfl rfl rfl (x_call (vs := [(Sl.v p0), (Value.int .i64 p1)]) rfl rfl (mapl_cons rfl (mapl_cons rfl mapl_nil)) Tryz.func15 NN_15 NB_15) (Calls.mono h ?_)
    rintro _ w4 ⟨r15, rfl, h⟩
    refine ⟨_, rfl, ?_⟩
    refine rv (Value.tuple #[(Sl.v r15.1), (Sl.v r15.2.1), (Value.int .i64 r15.2.2)]) w4 rfl rfl rfl (x_move rfl rfl) ?_
    refine rv (Sl.v r15.1) w4 rfl rfl rfl (x_extract rfl rfl rfl) ?_
    refine rv (Sl.v r15.2.1) w4 rfl rfl rfl (x_extract rfl rfl rfl) ?_
    refine rv (Value.int .i64 r15.2.2) w4 rfl rfl rfl (x_extract rfl rfl rfl) ?_
    refine rv (Sl.v r15.1) w4 rfl rfl rfl (x_assign rfl rfl) ?_
    refine rv (Sl.v r15.2.1) w4 rfl rfl rfl (x_assign rfl rfl) ?_
    refine rv (Value.int .i64 r15.2.2) w4 rfl rfl rfl (x_assign rfl rfl) ?_
    refine wpR_nil ?_
    refine wpC_seq ?_
    refine wpC_seq ?_
    refine wpC_cut (fun ρ => ρ 0 = (Sl.v p0) ∧ ρ 1 = (Value.int .i64 p1) ∧ ρ 2 = (Value.int .u8 p2) ∧ ρ 3 = (Value.int .i64 p3) ∧ ρ 9 = (Value.bool r9) ∧ ρ 10 = (Sl.v r15.1) ∧ ρ 12 = (Value.int .i64 r15.2.2) ∧ True) ⟨e0, e1, e2, e3, e9, rfl, rfl, trivial⟩ ?_
    rintro ρ ⟨e0, e1, e2, e3, e9, e10, e12, -⟩
    refine wpC_region ?_
    refine rv (Value.int .i64 r15.2.2) w4 rfl rfl rfl (x_move rfl e12) ?_
    refine rv (Value.bool (!decide (r15.2.2 = 0))) w4 rfl rfl rfl (x_neq rfl rfl rfl) ?_
    refine wpR_nil ?_
    refine wpC_cond (b := !decide (r15.2.2 = 0)) rfl (fun hc16 => ?_) (fun hc16 => ?_)
    · replace h := h.1 hc16
      refine wpC_seq ?_
      refine wpC_cut (fun ρ => ρ 9 = (Value.bool r9) ∧ ρ 12 = (Value.int .i64 r15.2.2) ∧ True) ⟨e9, e12, trivial⟩ ?_
      rintro ρ ⟨e9, e12, -⟩
      refine wpC_region ?_
      refine rv (Value.bool r9) w4 rfl rfl rfl (x_move rfl e9) ?_
      refine rv (Value.bool r9) w4 rfl rfl rfl (x_move rfl rfl) ?_
      refine wpR_joinJ 3 (fun (_ : Unit) ρ => ρ 51 = Value.bool (r9 && (decide (r15.2.2 = 19))) ∧ True) (fun _ w => w4 = w) ?_ ?_
      · clear h
        rcases Bool.eq_false_or_eq_true (r9) with hc18 | hc18
        · skip
          refine wpR_val (v := (Value.int .i64 r15.2.2)) (w' := w4) (wantG rfl rfl rfl hc18) rfl rfl (x_move rfl e12) ?_
          refine wpR_val (v := (Value.bool (decide (r15.2.2 = 19)))) (w' := w4) (wantG rfl rfl rfl hc18) rfl rfl (x_eql rfl rfl rfl) ?_
          refine rv (Value.bool (decide (r15.2.2 = 19))) w4 rfl rfl rfl (x_pickT (v := (Value.bool (decide (r15.2.2 = 19)))) rfl rfl hc18 rfl) ?_
          refine wpR_nil ?_
          exact ⟨(), ⟨(by rw [hc18]; rfl), trivial⟩, rfl⟩
        · skip
          refine wpR_pass (wantN rfl rfl rfl hc18) rfl rfl ?_
          refine wpR_pass (wantN rfl rfl rfl hc18) rfl rfl ?_
          refine rv (Value.bool false) w4 rfl rfl rfl (x_pickF (v := (Value.bool false)) rfl rfl hc18 rfl) ?_
          refine wpR_nil ?_
          exact ⟨(), ⟨(by rw [hc18]; rfl), trivial⟩, rfl⟩
      rintro _ ρ wj ⟨e51, -⟩ rfl
      refine rv (Value.bool (r9 && (decide (r15.2.2 = 19)))) w4 rfl rfl rfl (x_assign rfl e51) ?_
      refine wpR_nil ?_
      refine wpC_ret ?_
      exact ⟨.inl rfl, fun a ha => ⟨_, results_rep1 rfl ha rfl, r9 && (decide (r15.2.2 = 19)), rfl, h⟩⟩
    · replace h := h.2 hc16
      refine wpC_skip ?_
      refine wpC_seq ?_
      refine wpC_cut (fun ρ => ρ 0 = (Sl.v p0) ∧ ρ 1 = (Value.int .i64 p1) ∧ ρ 2 = (Value.int .u8 p2) ∧ ρ 3 = (Value.int .i64 p3) ∧ ρ 9 = (Value.bool r9) ∧ ρ 10 = (Sl.v r15.1) ∧ True) ⟨e0, e1, e2, e3, e9, e10, trivial⟩ ?_
      rintro ρ ⟨e0, e1, e2, e3, e9, e10, -⟩
      refine wpC_region ?_
      refine rv (Value.int .u8 p2) w4 rfl rfl rfl (x_move rfl e2) ?_
      refine rv (Value.int .i64 (IntKind.i64.wrap p2)) w4 rfl rfl rfl (x_convI rfl rfl IK_3 IK_5) ?_
      refine rv (Value.int .i64 p1) w4 rfl rfl rfl (x_move rfl e1) ?_
      obtain ⟨q19, h⟩ := h
      refine rv (Value.int .i64 ((IntKind.i64.wrap p2).tmod p1)) w4 rfl rfl rfl (x_rem rfl rfl rfl q19) ?_
      refine rv (Value.int .i64 ((IntKind.i64.wrap p2).tmod p1)) w4 rfl rfl rfl (x_assign rfl rfl) ?_
      refine wpR_nil ?_
      refine wpC_seq ?_
      refine wpC_cut (fun ρ => ρ 0 = (Sl.v p0) ∧ ρ 1 = (Value.int .i64 p1) ∧ ρ 3 = (Value.int .i64 p3) ∧ ρ 9 = (Value.bool r9) ∧ ρ 10 = (Sl.v r15.1) ∧ ρ 13 = (Value.int .i64 ((IntKind.i64.wrap p2).tmod p1)) ∧ True) ⟨e0, e1, e3, e9, e10, rfl, trivial⟩ ?_
      rintro ρ ⟨e0, e1, e3, e9, e10, e13, -⟩
      refine wpC_region ?_
      refine rv (Value.int .i64 ((IntKind.i64.wrap p2).tmod p1)) w4 rfl rfl rfl (x_move rfl e13) ?_
      refine rv (Value.int .i64 p3) w4 rfl rfl rfl (x_move rfl e3) ?_
      refine rv (Value.agg #[(Value.int .i64 ((IntKind.i64.wrap p2).tmod p1)), (Value.int .i64 p3), (Value.int .i64 0), (Value.int .i64 (-1)), (Value.int .i64 (-1))]) w4 rfl rfl rfl (x_build (qs := [(0, (Value.int .i64 ((IntKind.i64.wrap p2).tmod p1))), (1, (Value.int .i64 p3)), (3, (Value.int .i64 (-1))), (4, (Value.int .i64 (-1)))]) rfl (by rfl) (BD_52_0_1_3_4 ((IntKind.i64.wrap p2).tmod p1) p3 (-1) (-1) _)) ?_
      obtain ⟨b20, hb20⟩ : ∃ u, u = w4.heap.size := ⟨_, rfl⟩
      obtain ⟨w5, hw20⟩ : ∃ u, u = w4.alloc (.cells #[(Value.int .i64 ((IntKind.i64.wrap p2).tmod p1)), (Value.int .i64 p3), (Value.int .i64 0), (Value.int .i64 (-1)), (Value.int .i64 (-1))] 52) := ⟨_, rfl⟩
      replace h := h b20 w5 hb20 hw20
      refine rv (Sl.v (⟨some ⟨b20, 0, none⟩, 1, 1⟩ : Sl)) w5 rfl rfl rfl ((x_buildSlice (qs := [(0, (Value.agg #[(Value.int .i64 ((IntKind.i64.wrap p2).tmod p1)), (Value.int .i64 p3), (Value.int .i64 0), (Value.int .i64 (-1)), (Value.int .i64 (-1))]))]) rfl (by rfl) (BS_53_1_0 ((IntKind.i64.wrap p2).tmod p1) p3 0 (-1) (-1))).trans (by rw [← hb20, ← hw20])) ?_
      refine rv (Sl.v (⟨some ⟨b20, 0, none⟩, 1, 1⟩ : Sl)) w5 rfl rfl rfl (x_assign rfl rfl) ?_
      refine wpR_nil ?_
      refine wpC_seq ?_
      refine wpC_cut (fun ρ => ρ 0 = (Sl.v p0) ∧ ρ 1 = (Value.int .i64 p1) ∧ ρ 3 = (Value.int .i64 p3) ∧ ρ 9 = (Value.bool r9) ∧ ρ 10 = (Sl.v r15.1) ∧ ρ 13 = (Value.int .i64 ((IntKind.i64.wrap p2).tmod p1)) ∧ ρ 14 = (Sl.v (⟨some ⟨b20, 0, none⟩, 1, 1⟩ : Sl)) ∧ True) ⟨e0, e1, e3, e9, e10, e13, rfl, trivial⟩ ?_
      rintro ρ ⟨e0, e1, e3, e9, e10, e13, e14, -⟩
      refine wpC_region ?_
      refine rv (Value.int .i64 p1) w5 rfl rfl rfl (x_move rfl e1) ?_
      obtain ⟨r21, w6, q21, h⟩ := h
      refine rv (Sl.v r21) w6 rfl rfl rfl (x_makeSlice rfl rfl rfl q21) ?_
      refine rv (Sl.v r21) w6 rfl rfl rfl (x_assign rfl rfl) ?_
      refine wpR_nil ?_
      refine wpC_seq ?_
      refine wpC_cut (fun ρ => ρ 0 = (Sl.v p0) ∧ ρ 1 = (Value.int .i64 p1) ∧ ρ 3 = (Value.int .i64 p3) ∧ ρ 9 = (Value.bool r9) ∧ ρ 10 = (Sl.v r15.1) ∧ ρ 13 = (Value.int .i64 ((IntKind.i64.wrap p2).tmod p1)) ∧ ρ 14 = (Sl.v (⟨some ⟨b20, 0, none⟩, 1, 1⟩ : Sl)) ∧ ρ 15 = (Sl.v r21) ∧ True) ⟨e0, e1, e3, e9, e10, e13, e14, rfl, trivial⟩ ?_
      rintro ρ ⟨e0, e1, e3, e9, e10, e13, e14, e15, -⟩
      refine wpC_region ?_
      refine rv (Value.int .i64 p1) w6 rfl rfl rfl (x_move rfl e1) ?_
      obtain ⟨r22, w7, q22, h⟩ := h
      refine rv (Sl.v r22) w7 rfl rfl rfl (x_makeSlice rfl rfl rfl q22) ?_
      refine rv (Sl.v r22) w7 rfl rfl rfl (x_assign rfl rfl) ?_
      refine wpR_nil ?_
      refine wpC_seq ?_
      refine wpC_cut (fun ρ => ρ 0 = (Sl.v p0) ∧ ρ 1 = (Value.int .i64 p1) ∧ ρ 3 = (Value.int .i64 p3) ∧ ρ 9 = (Value.bool r9) ∧ ρ 10 = (Sl.v r15.1) ∧ ρ 13 = (Value.int .i64 ((IntKind.i64.wrap p2).tmod p1)) ∧ ρ 14 = (Sl.v (⟨some ⟨b20, 0, none⟩, 1, 1⟩ : Sl)) ∧ ρ 15 = (Sl.v r21) ∧ ρ 16 = (Sl.v r22) ∧ True) ⟨e0, e1, e3, e9, e10, e13, e14, e15, rfl, trivial⟩ ?_
      rintro ρ ⟨e0, e1, e3, e9, e10, e13, e14, e15, e16, -⟩
      refine wpC_region ?_
      refine rv (Sl.v r21) w7 rfl rfl rfl (x_move rfl e15) ?_
      refine rv (Value.int .i64 ((IntKind.i64.wrap p2).tmod p1)) w7 rfl rfl rfl (x_move rfl e13) ?_
      obtain ⟨q23, z23, r23, h⟩ := h
      generalize hp23 : z23.add (((IntKind.i64.wrap p2).tmod p1 : Int).toNat * 1) = p23 at h
      refine rv (Value.pointer (some p23)) w7 rfl rfl rfl ((x_indexAddr (s := r21) rfl rfl rfl ES_22 q23 r23).trans (by rw [hp23])) ?_
      obtain ⟨q24, h⟩ := h
      obtain ⟨w8, hw24⟩ : ∃ u, u = setAll w7 p23 [(Value.bool true)] 0 := ⟨_, rfl⟩
      replace h := h w8 hw24
      refine wpR_skp (w' := w8) rfl rfl ((x_store (v := (Value.bool true)) rfl rfl rfl SZ_4 (ones (by rfl)) q24).trans (by rw [hw24]; rfl)) ?_
      refine wpR_nil ?_
      refine wpC_seq ?_
      refine wpC_cut (fun ρ => ρ 0 = (Sl.v p0) ∧ ρ 1 = (Value.int .i64 p1) ∧ ρ 3 = (Value.int .i64 p3) ∧ ρ 9 = (Value.bool r9) ∧ ρ 10 = (Sl.v r15.1) ∧ ρ 13 = (Value.int .i64 ((IntKind.i64.wrap p2).tmod p1)) ∧ ρ 14 = (Sl.v (⟨some ⟨b20, 0, none⟩, 1, 1⟩ : Sl)) ∧ ρ 15 = (Sl.v r21) ∧ ρ 16 = (Sl.v r22) ∧ True) ⟨e0, e1, e3, e9, e10, e13, e14, e15, e16, trivial⟩ ?_
      rintro ρ ⟨e0, e1, e3, e9, e10, e13, e14, e15, e16, -⟩
      refine wpC_region ?_
      refine rv (Sl.v r22) w8 rfl rfl rfl (x_move rfl e16) ?_
      refine rv (Value.int .i64 ((IntKind.i64.wrap p2).tmod p1)) w8 rfl rfl rfl (x_move rfl e13) ?_
      obtain ⟨q25, z25, r25, h⟩ := h
      generalize hp25 : z25.add (((IntKind.i64.wrap p2).tmod p1 : Int).toNat * 1) = p25 at h
      refine rv (Value.pointer (some p25)) w8 rfl rfl rfl ((x_indexAddr (s := r22) rfl rfl rfl ES_22 q25 r25).trans (by rw [hp25])) ?_
      obtain ⟨q26, h⟩ := h
      obtain ⟨w9, hw26⟩ : ∃ u, u = setAll w8 p25 [(Value.bool true)] 0 := ⟨_, rfl⟩
      replace h := h w9 hw26
      refine wpR_skp (w' := w9) rfl rfl ((x_store (v := (Value.bool true)) rfl rfl rfl SZ_4 (ones (by rfl)) q26).trans (by rw [hw26]; rfl)) ?_
      refine wpR_nil ?_
      refine wpC_seq ?_
      refine wpC_cut (fun ρ => ρ 0 = (Sl.v p0) ∧ ρ 1 = (Value.int .i64 p1) ∧ ρ 3 = (Value.int .i64 p3) ∧ ρ 9 = (Value.bool r9) ∧ ρ 10 = (Sl.v r15.1) ∧ ρ 13 = (Value.int .i64 ((IntKind.i64.wrap p2).tmod p1)) ∧ ρ 14 = (Sl.v (⟨some ⟨b20, 0, none⟩, 1, 1⟩ : Sl)) ∧ ρ 15 = (Sl.v r21) ∧ ρ 16 = (Sl.v r22) ∧ True) ⟨e0, e1, e3, e9, e10, e13, e14, e15, e16, trivial⟩ ?_
      rintro ρ ⟨e0, e1, e3, e9, e10, e13, e14, e15, e16, -⟩
      refine wpC_region ?_
      refine rv (Sl.v p0) w9 rfl rfl rfl (x_move rfl e0) ?_
      refine rv (Sl.v r15.1) w9 rfl rfl rfl (x_move rfl e10) ?_
      refine wpR_enter rfl rfl rfl (x_call (vs := [(Sl.v p0), (Sl.v r15.1)]) rfl rfl (mapl_cons rfl (mapl_cons rfl mapl_nil)) Tryz.func16 NN_16 NB_16) (Calls.mono h ?_)
      rintro _ w10 ⟨r27, rfl, h⟩
      refine ⟨_, rfl, ?_⟩
      refine rv (Sl.v r27) w10 rfl rfl rfl (x_assign rfl rfl) ?_
      refine wpR_nil ?_
      refine wpC_seq ?_
      refine wpC_seq ?_
      refine wpC_cut (fun ρ => ρ 0 = (Sl.v p0) ∧ ρ 1 = (Value.int .i64 p1) ∧ ρ 3 = (Value.int .i64 p3) ∧ ρ 9 = (Value.bool r9) ∧ ρ 10 = (Sl.v r15.1) ∧ ρ 13 = (Value.int .i64 ((IntKind.i64.wrap p2).tmod p1)) ∧ ρ 14 = (Sl.v (⟨some ⟨b20, 0, none⟩, 1, 1⟩ : Sl)) ∧ ρ 15 = (Sl.v r21) ∧ ρ 16 = (Sl.v r22) ∧ ρ 17 = (Sl.v r27) ∧ True) ⟨e0, e1, e3, e9, e10, e13, e14, e15, e16, rfl, trivial⟩ ?_
      rintro ρ ⟨e0, e1, e3, e9, e10, e13, e14, e15, e16, e17, -⟩
      refine wpC_region ?_
      refine rv (Value.int .i64 1) w10 rfl rfl rfl (x_assign rfl rfl) ?_
      refine wpR_nil ?_
      refine wpC_block ?_
      obtain ⟨I28, μ28, hI28, hr28⟩ := h
      refine wpC_loop (fun (x : Sl × Int) ρ => ρ 15 = (Sl.v x.1) ∧ ρ 18 = (Value.int .i64 x.2) ∧ ρ 0 = (Sl.v p0) ∧ ρ 1 = (Value.int .i64 p1) ∧ ρ 3 = (Value.int .i64 p3) ∧ ρ 9 = (Value.bool r9) ∧ ρ 10 = (Sl.v r15.1) ∧ ρ 13 = (Value.int .i64 ((IntKind.i64.wrap p2).tmod p1)) ∧ ρ 14 = (Sl.v (⟨some ⟨b20, 0, none⟩, 1, 1⟩ : Sl)) ∧ ρ 16 = (Sl.v r22) ∧ ρ 17 = (Sl.v r27) ∧ True) I28 μ28 (r21, 1) ⟨e15, rfl, e0, e1, e3, e9, e10, e13, e14, e16, e17, trivial⟩ hI28 ?_
      rintro l28 ρ w11 ⟨e15, e18, e0, e1, e3, e9, e10, e13, e14, e16, e17, -⟩ h
      replace h := hr28 l28 w11 h
      clear hr28 hI28
      refine wpC_seq ?_
      refine wpC_seq ?_
      refine wpC_region ?_
      refine rv (Value.int .i64 l28.2) w11 rfl rfl rfl (x_move rfl e18) ?_
      refine rv (Value.int .i64 p1) w11 rfl rfl rfl (x_move rfl e1) ?_
      refine rv (Value.bool (decide (l28.2 ≤ p1))) w11 rfl rfl rfl (x_leq rfl rfl rfl) ?_
      refine wpR_nil ?_
      refine wpC_cond (b := decide (l28.2 ≤ p1)) rfl (fun hc29 => ?_) (fun hc29 => ?_)
      · replace h := h.1 hc29
        refine wpC_skip ?_
        refine wpC_seq ?_
        refine wpC_block ?_
        refine wpC_seq ?_
        refine wpC_cut (fun ρ => ρ 0 = (Sl.v p0) ∧ ρ 1 = (Value.int .i64 p1) ∧ ρ 3 = (Value.int .i64 p3) ∧ ρ 9 = (Value.bool r9) ∧ ρ 10 = (Sl.v r15.1) ∧ ρ 13 = (Value.int .i64 ((IntKind.i64.wrap p2).tmod p1)) ∧ ρ 14 = (Sl.v (⟨some ⟨b20, 0, none⟩, 1, 1⟩ : Sl)) ∧ ρ 15 = (Sl.v l28.1) ∧ ρ 16 = (Sl.v r22) ∧ ρ 17 = (Sl.v r27) ∧ ρ 18 = (Value.int .i64 l28.2) ∧ True) ⟨e0, e1, e3, e9, e10, e13, e14, e15, e16, e17, e18, trivial⟩ ?_
        rintro ρ ⟨e0, e1, e3, e9, e10, e13, e14, e15, e16, e17, e18, -⟩
        refine wpC_region ?_
        refine rv (Value.int .i64 p1) w11 rfl rfl rfl (x_move rfl e1) ?_
        obtain ⟨r30, w12, q30, h⟩ := h
        refine rv (Sl.v r30) w12 rfl rfl rfl (x_makeSlice rfl rfl rfl q30) ?_
        refine rv (Sl.v r30) w12 rfl rfl rfl (x_assign rfl rfl) ?_
        refine wpR_nil ?_
        refine wpC_seq ?_
        refine wpC_seq ?_
        refine wpC_cut (fun ρ => ρ 0 = (Sl.v p0) ∧ ρ 1 = (Value.int .i64 p1) ∧ ρ 3 = (Value.int .i64 p3) ∧ ρ 9 = (Value.bool r9) ∧ ρ 10 = (Sl.v r15.1) ∧ ρ 13 = (Value.int .i64 ((IntKind.i64.wrap p2).tmod p1)) ∧ ρ 14 = (Sl.v (⟨some ⟨b20, 0, none⟩, 1, 1⟩ : Sl)) ∧ ρ 15 = (Sl.v l28.1) ∧ ρ 16 = (Sl.v r22) ∧ ρ 17 = (Sl.v r27) ∧ ρ 18 = (Value.int .i64 l28.2) ∧ ρ 19 = (Sl.v r30) ∧ True) ⟨e0, e1, e3, e9, e10, e13, e14, e15, e16, e17, e18, rfl, trivial⟩ ?_
        rintro ρ ⟨e0, e1, e3, e9, e10, e13, e14, e15, e16, e17, e18, e19, -⟩
        refine wpC_region ?_
        refine rv (Value.int .i64 0) w12 rfl rfl rfl (x_assign rfl rfl) ?_
        refine wpR_nil ?_
        refine wpC_block ?_
        obtain ⟨I31, μ31, hI31, hr31⟩ := h
        refine wpC_loop (fun (x : Int) ρ => ρ 20 = (Value.int .i64 x) ∧ ρ 0 = (Sl.v p0) ∧ ρ 1 = (Value.int .i64 p1) ∧ ρ 3 = (Value.int .i64 p3) ∧ ρ 9 = (Value.bool r9) ∧ ρ 10 = (Sl.v r15.1) ∧ ρ 13 = (Value.int .i64 ((IntKind.i64.wrap p2).tmod p1)) ∧ ρ 14 = (Sl.v (⟨some ⟨b20, 0, none⟩, 1, 1⟩ : Sl)) ∧ ρ 15 = (Sl.v l28.1) ∧ ρ 16 = (Sl.v r22) ∧ ρ 17 = (Sl.v r27) ∧ ρ 18 = (Value.int .i64 l28.2) ∧ ρ 19 = (Sl.v r30) ∧ True) I31 μ31 0 ⟨rfl, e0, e1, e3, e9, e10, e13, e14, e15, e16, e17, e18, e19, trivial⟩ hI31 ?_
        rintro l31 ρ w13 ⟨e20, e0, e1, e3, e9, e10, e13, e14, e15, e16, e17, e18, e19, -⟩ h
        replace h := hr31 l31 w13 h
        clear hr31 hI31
        refine wpC_seq ?_
        refine wpC_seq ?_
        refine wpC_region ?_
        refine rv (Value.int .i64 l31) w13 rfl rfl rfl (x_move rfl e20) ?_
        refine rv (Sl.v r27) w13 rfl rfl rfl (x_move rfl e17) ?_
        refine rv (Value.int .i64 (r27.len : Int)) w13 rfl rfl rfl (x_lenS (s := r27) rfl rfl isSliceT_39) ?_
        refine rv (Value.bool (decide (l31 < (r27.len : Int)))) w13 rfl rfl rfl (x_lss rfl rfl rfl) ?_
        refine wpR_nil ?_
        refine wpC_cond (b := decide (l31 < (r27.len : Int))) rfl (fun hc32 => ?_) (fun hc32 => ?_)
        · replace h := h.1 hc32
          refine wpC_skip ?_
          obtain ⟨J33, h, hk⟩ := h
          refine wpC_seqJ (fun (x : Unit) ρ => ρ 0 = (Sl.v p0) ∧ ρ 1 = (Value.int .i64 p1) ∧ ρ 3 = (Value.int .i64 p3) ∧ ρ 9 = (Value.bool r9) ∧ ρ 10 = (Sl.v r15.1) ∧ ρ 13 = (Value.int .i64 ((IntKind.i64.wrap p2).tmod p1)) ∧ ρ 14 = (Sl.v (⟨some ⟨b20, 0, none⟩, 1, 1⟩ : Sl)) ∧ ρ 15 = (Sl.v l28.1) ∧ ρ 16 = (Sl.v r22) ∧ ρ 17 = (Sl.v r27) ∧ ρ 18 = (Value.int .i64 l28.2) ∧ ρ 19 = (Sl.v r30) ∧ ρ 20 = (Value.int .i64 l31) ∧ True) J33 ?_ ?_
          · clear hk
            refine wpC_block ?_
            refine wpC_seq ?_
            refine wpC_cut (fun ρ => ρ 0 = (Sl.v p0) ∧ ρ 1 = (Value.int .i64 p1) ∧ ρ 3 = (Value.int .i64 p3) ∧ ρ 9 = (Value.bool r9) ∧ ρ 10 = (Sl.v r15.1) ∧ ρ 13 = (Value.int .i64 ((IntKind.i64.wrap p2).tmod p1)) ∧ ρ 14 = (Sl.v (⟨some ⟨b20, 0, none⟩, 1, 1⟩ : Sl)) ∧ ρ 15 = (Sl.v l28.1) ∧ ρ 16 = (Sl.v r22) ∧ ρ 17 = (Sl.v r27) ∧ ρ 18 = (Value.int .i64 l28.2) ∧ ρ 19 = (Sl.v r30) ∧ ρ 20 = (Value.int .i64 l31) ∧ True) ⟨e0, e1, e3, e9, e10, e13, e14, e15, e16, e17, e18, e19, e20, trivial⟩ ?_
            rintro ρ ⟨e0, e1, e3, e9, e10, e13, e14, e15, e16, e17, e18, e19, e20, -⟩
            refine wpC_region ?_
            refine rv (Sl.v p0) w13 rfl rfl rfl (x_move rfl e0) ?_
            refine rv (Sl.v r27) w13 rfl rfl rfl (x_move rfl e17) ?_
            refine rv (Value.int .i64 l31) w13 rfl rfl rfl (x_move rfl e20) ?_
            obtain ⟨q35, z35, r35, h⟩ := h
            generalize hp35 : z35.add ((l31 : Int).toNat * 1) = p35 at h
            refine rv (Value.pointer (some p35)) w13 rfl rfl rfl ((x_indexAddr (s := r27) rfl rfl rfl ES_39 q35 r35).trans (by rw [hp35])) ?_
            obtain ⟨x36, q36, h⟩ := h
            refine rv (Value.int .i64 x36) w13 rfl rfl rfl (x_load1 rfl rfl SH_3 q36) ?_
            obtain ⟨q37, z37, r37, h⟩ := h
            generalize hp37 : z37.add ((x36 : Int).toNat * 3) = p37 at h
            refine rv (Value.pointer (some p37)) w13 rfl rfl rfl ((x_indexAddr (s := p0) rfl rfl rfl ES_47 q37 r37).trans (by rw [hp37])) ?_
            obtain ⟨x38, q38, x39, q39, x40, q40, h⟩ := h
            refine rv (Value.agg #[(Value.int .i64 x38), (Value.int .i64 x39), (Value.bool x40)]) w13 rfl rfl rfl (x_loadN [(Value.int .i64 x38), (Value.int .i64 x39), (Value.bool x40)] rfl rfl SH_56 (CellsAt.out (CellsAt.cons q38 (CellsAt.cons q39 (CellsAt.cons q40 CellsAt.nil))))) ?_
            obtain ⟨b41, hb41⟩ : ∃ u, u = w13.heap.size := ⟨_, rfl⟩
            obtain ⟨w15, hw41⟩ : ∃ u, u = w13.alloc (.cells #[(Value.int .i64 0), (Value.int .i64 0), (Value.bool false)] 56) := ⟨_, rfl⟩
            replace h := h b41 w15 hb41 hw41
            refine rv (Value.pointer (some (Addr.mk b41 0 none))) w15 rfl rfl rfl ((x_alloc rfl ZV_56).trans (by rw [hb41, hw41]; rfl)) ?_
            obtain ⟨q42, h⟩ := h
            obtain ⟨w16, hw42⟩ : ∃ u, u = setAll w15 (Addr.mk b41 0 none) [(Value.int .i64 x38), (Value.int .i64 x39), (Value.bool x40)] 0 := ⟨_, rfl⟩
            replace h := h w16 hw42
            refine wpR_skp (w' := w16) rfl rfl ((x_store (v := (Value.agg #[(Value.int .i64 x38), (Value.int .i64 x39), (Value.bool x40)])) rfl rfl rfl SZ_56 (ones (by rfl)) q42).trans (by rw [hw42]; rfl)) ?_
            refine wpR_nil ?_
            refine wpC_seq ?_
            refine wpC_seq ?_
            refine wpC_cut (fun ρ => ρ 0 = (Sl.v p0) ∧ ρ 1 = (Value.int .i64 p1) ∧ ρ 3 = (Value.int .i64 p3) ∧ ρ 9 = (Value.bool r9) ∧ ρ 10 = (Sl.v r15.1) ∧ ρ 13 = (Value.int .i64 ((IntKind.i64.wrap p2).tmod p1)) ∧ ρ 14 = (Sl.v (⟨some ⟨b20, 0, none⟩, 1, 1⟩ : Sl)) ∧ ρ 15 = (Sl.v l28.1) ∧ ρ 16 = (Sl.v r22) ∧ ρ 17 = (Sl.v r27) ∧ ρ 18 = (Value.int .i64 l28.2) ∧ ρ 19 = (Sl.v r30) ∧ ρ 20 = (Value.int .i64 l31) ∧ ρ 21 = (Value.pointer (some (Addr.mk b41 0 none))) ∧ True) ⟨e0, e1, e3, e9, e10, e13, e14, e15, e16, e17, e18, e19, e20, rfl, trivial⟩ ?_
            rintro ρ ⟨e0, e1, e3, e9, e10, e13, e14, e15, e16, e17, e18, e19, e20, e21, -⟩
            refine wpC_region ?_
            refine rv (Sl.v l28.1) w16 rfl rfl rfl (x_move rfl e15) ?_
            refine rv (Value.pointer (some ((Addr.mk b41 0 none).add 0))) w16 rfl rfl rfl (x_fieldAddr rfl e21 FA_56_0) ?_
            obtain ⟨x43, q43, h⟩ := h
            refine rv (Value.int .i64 x43) w16 rfl rfl rfl (x_load1 rfl rfl SH_3 q43) ?_
            obtain ⟨q44, z44, r44, h⟩ := h
            generalize hp44 : z44.add ((x43 : Int).toNat * 1) = p44 at h
            refine rv (Value.pointer (some p44)) w16 rfl rfl rfl ((x_indexAddr (s := l28.1) rfl rfl rfl ES_22 q44 r44).trans (by rw [hp44])) ?_
            obtain ⟨x45, q45, h⟩ := h
            refine rv (Value.bool x45) w16 rfl rfl rfl (x_load1 rfl rfl SH_4 q45) ?_
            refine rv (Value.bool (!x45)) w16 rfl rfl rfl (x_not rfl rfl) ?_
            refine wpR_nil ?_
            refine wpC_cond (b := !x45) rfl (fun hc46 => ?_) (fun hc46 => ?_)
            · replace h := h.1 hc46
              refine wpC_exit ?_
              exact ⟨(), ⟨e0, e1, e3, e9, e10, e13, e14, e15, e16, e17, e18, e19, e20, trivial⟩, h⟩
            · replace h := h.2 hc46
              refine wpC_skip ?_
              refine wpC_seq ?_
              refine wpC_cut (fun ρ => ρ 0 = (Sl.v p0) ∧ ρ 1 = (Value.int .i64 p1) ∧ ρ 3 = (Value.int .i64 p3) ∧ ρ 9 = (Value.bool r9) ∧ ρ 10 = (Sl.v r15.1) ∧ ρ 13 = (Value.int .i64 ((IntKind.i64.wrap p2).tmod p1)) ∧ ρ 14 = (Sl.v (⟨some ⟨b20, 0, none⟩, 1, 1⟩ : Sl)) ∧ ρ 15 = (Sl.v l28.1) ∧ ρ 16 = (Sl.v r22) ∧ ρ 17 = (Sl.v r27) ∧ ρ 18 = (Value.int .i64 l28.2) ∧ ρ 19 = (Sl.v r30) ∧ ρ 20 = (Value.int .i64 l31) ∧ ρ 21 = (Value.pointer (some (Addr.mk b41 0 none))) ∧ True) ⟨e0, e1, e3, e9, e10, e13, e14, e15, e16, e17, e18, e19, e20, e21, trivial⟩ ?_
              rintro ρ ⟨e0, e1, e3, e9, e10, e13, e14, e15, e16, e17, e18, e19, e20, e21, -⟩
              refine wpC_region ?_
              refine rv (Value.pointer (some ((Addr.mk b41 0 none).add 1))) w16 rfl rfl rfl (x_fieldAddr rfl e21 FA_56_1) ?_
              obtain ⟨x47, q47, h⟩ := h
              refine rv (Value.int .i64 x47) w16 rfl rfl rfl (x_load1 rfl rfl SH_3 q47) ?_
              refine rv (Value.int .i64 l31) w16 rfl rfl rfl (x_move rfl e20) ?_
              refine rv (Value.int .i64 (IntKind.i64.wrap (1 + l31))) w16 rfl rfl rfl (x_add rfl rfl rfl) ?_
              refine rv (Value.int .i64 (IntKind.i64.wrap (12 * (IntKind.i64.wrap (1 + l31))))) w16 rfl rfl rfl (x_mul rfl rfl rfl) ?_
              refine rv (Value.int .i64 (IntKind.i64.wrap (x47 + (IntKind.i64.wrap (12 * (IntKind.i64.wrap (1 + l31))))))) w16 rfl rfl rfl (x_add rfl rfl rfl) ?_
              refine rv (Value.int .i64 p3) w16 rfl rfl rfl (x_move rfl e3) ?_
              refine rv (Value.int .i64 l28.2) w16 rfl rfl rfl (x_move rfl e18) ?_
              refine rv (Value.agg #[(Value.int .i64 (IntKind.i64.wrap (x47 + (IntKind.i64.wrap (12 * (IntKind.i64.wrap (1 + l31))))))), (Value.int .i64 p3), (Value.int .i64 l28.2), (Value.int .i64 (-1)), (Value.int .i64 (-1))]) w16 rfl rfl rfl (x_build (qs := [(0, (Value.int .i64 (IntKind.i64.wrap (x47 + (IntKind.i64.wrap (12 * (IntKind.i64.wrap (1 + l31)))))))), (1, (Value.int .i64 p3)), (2, (Value.int .i64 l28.2)), (3, (Value.int .i64 (-1))), (4, (Value.int .i64 (-1)))]) rfl (by rfl) (BD_52_0_1_2_3_4 (IntKind.i64.wrap (x47 + (IntKind.i64.wrap (12 * (IntKind.i64.wrap (1 + l31)))))) p3 l28.2 (-1) (-1) _)) ?_
              obtain ⟨b48, hb48⟩ : ∃ u, u = w16.heap.size := ⟨_, rfl⟩
              obtain ⟨w17, hw48⟩ : ∃ u, u = w16.alloc (.cells #[(Value.int .i64 0), (Value.int .i64 0), (Value.int .i64 0), (Value.int .i64 0), (Value.int .i64 0)] 52) := ⟨_, rfl⟩
              replace h := h b48 w17 hb48 hw48
              refine rv (Value.pointer (some (Addr.mk b48 0 none))) w17 rfl rfl rfl ((x_alloc rfl ZV_52).trans (by rw [hb48, hw48]; rfl)) ?_
              obtain ⟨q49, h⟩ := h
              obtain ⟨w18, hw49⟩ : ∃ u, u = setAll w17 (Addr.mk b48 0 none) [(Value.int .i64 (IntKind.i64.wrap (x47 + (IntKind.i64.wrap (12 * (IntKind.i64.wrap (1 + l31))))))), (Value.int .i64 p3), (Value.int .i64 l28.2), (Value.int .i64 (-1)), (Value.int .i64 (-1))] 0 := ⟨_, rfl⟩
              replace h := h w18 hw49
              refine wpR_skp (w' := w18) rfl rfl ((x_store (v := (Value.agg #[(Value.int .i64 (IntKind.i64.wrap (x47 + (IntKind.i64.wrap (12 * (IntKind.i64.wrap (1 + l31))))))), (Value.int .i64 p3), (Value.int .i64 l28.2), (Value.int .i64 (-1)), (Value.int .i64 (-1))])) rfl rfl rfl SZ_52 (ones (by rfl)) q49).trans (by rw [hw49]; rfl)) ?_
              refine wpR_nil ?_
              refine wpC_seq ?_
              refine wpC_cut (fun ρ => ρ 0 = (Sl.v p0) ∧ ρ 1 = (Value.int .i64 p1) ∧ ρ 3 = (Value.int .i64 p3) ∧ ρ 9 = (Value.bool r9) ∧ ρ 10 = (Sl.v r15.1) ∧ ρ 13 = (Value.int .i64 ((IntKind.i64.wrap p2).tmod p1)) ∧ ρ 14 = (Sl.v (⟨some ⟨b20, 0, none⟩, 1, 1⟩ : Sl)) ∧ ρ 15 = (Sl.v l28.1) ∧ ρ 16 = (Sl.v r22) ∧ ρ 17 = (Sl.v r27) ∧ ρ 18 = (Value.int .i64 l28.2) ∧ ρ 19 = (Sl.v r30) ∧ ρ 20 = (Value.int .i64 l31) ∧ ρ 21 = (Value.pointer (some (Addr.mk b41 0 none))) ∧ ρ 22 = (Value.pointer (some (Addr.mk b48 0 none))) ∧ True) ⟨e0, e1, e3, e9, e10, e13, e14, e15, e16, e17, e18, e19, e20, e21, rfl, trivial⟩ ?_
              rintro ρ ⟨e0, e1, e3, e9, e10, e13, e14, e15, e16, e17, e18, e19, e20, e21, e22, -⟩
              refine wpC_region ?_
              refine rv (Sl.v (⟨some ⟨b20, 0, none⟩, 1, 1⟩ : Sl)) w18 rfl rfl rfl (x_move rfl e14) ?_
              obtain ⟨x50, q50, x51, q51, x52, q52, x53, q53, x54, q54, h⟩ := h
              refine rv (Value.agg #[(Value.int .i64 x50), (Value.int .i64 x51), (Value.int .i64 x52), (Value.int .i64 x53), (Value.int .i64 x54)]) w18 rfl rfl rfl (x_loadN [(Value.int .i64 x50), (Value.int .i64 x51), (Value.int .i64 x52), (Value.int .i64 x53), (Value.int .i64 x54)] rfl e22 SH_52 (CellsAt.out (CellsAt.cons q50 (CellsAt.cons q51 (CellsAt.cons q52 (CellsAt.cons q53 (CellsAt.cons q54 CellsAt.nil))))))) ?_
              refine rv (Value.int .i64 p1) w18 rfl rfl rfl (x_move rfl e1) ?_
              refine wpR_enter rfl rfl rfl (x_call (vs := [(Sl.v (⟨some ⟨b20, 0, none⟩, 1, 1⟩ : Sl)), (Value.agg #[(Value.int .i64 x50), (Value.int .i64 x51), (Value.int .i64 x52), (Value.int .i64 x53), (Value.int .i64 x54)]), (Value.int .i64 p1)]) rfl rfl (mapl_cons rfl (mapl_cons rfl (mapl_cons rfl mapl_nil))) Tryz.func17 NN_17 NB_17) (Calls.mono h ?_)
              rintro _ w19 ⟨r55, rfl, h⟩
              refine ⟨_, rfl, ?_⟩
              refine rv (Value.tuple #[(Value.int .i64 r55.1), (Value.bool r55.2)]) w19 rfl rfl rfl (x_move rfl rfl) ?_
              refine rv (Value.int .i64 r55.1) w19 rfl rfl rfl (x_extract rfl rfl rfl) ?_
              refine rv (Value.bool r55.2) w19 rfl rfl rfl (x_extract rfl rfl rfl) ?_
              refine rv (Value.int .i64 r55.1) w19 rfl rfl rfl (x_assign rfl rfl) ?_
              refine rv (Value.bool r55.2) w19 rfl rfl rfl (x_assign rfl rfl) ?_
              refine wpR_nil ?_
              refine wpC_seq ?_
              refine wpC_seq ?_
              refine wpC_cut (fun ρ => ρ 0 = (Sl.v p0) ∧ ρ 1 = (Value.int .i64 p1) ∧ ρ 3 = (Value.int .i64 p3) ∧ ρ 9 = (Value.bool r9) ∧ ρ 10 = (Sl.v r15.1) ∧ ρ 13 = (Value.int .i64 ((IntKind.i64.wrap p2).tmod p1)) ∧ ρ 14 = (Sl.v (⟨some ⟨b20, 0, none⟩, 1, 1⟩ : Sl)) ∧ ρ 15 = (Sl.v l28.1) ∧ ρ 16 = (Sl.v r22) ∧ ρ 17 = (Sl.v r27) ∧ ρ 18 = (Value.int .i64 l28.2) ∧ ρ 19 = (Sl.v r30) ∧ ρ 20 = (Value.int .i64 l31) ∧ ρ 21 = (Value.pointer (some (Addr.mk b41 0 none))) ∧ ρ 22 = (Value.pointer (some (Addr.mk b48 0 none))) ∧ ρ 23 = (Value.int .i64 r55.1) ∧ ρ 24 = (Value.bool r55.2) ∧ True) ⟨e0, e1, e3, e9, e10, e13, e14, e15, e16, e17, e18, e19, e20, e21, e22, rfl, rfl, trivial⟩ ?_
              rintro ρ ⟨e0, e1, e3, e9, e10, e13, e14, e15, e16, e17, e18, e19, e20, e21, e22, e23, e24, -⟩
              obtain ⟨J57, h, hk⟩ := h
              refine wpC_drawJ (by kernel_rfl) (fun (x : Bool) ρ => ρ 128 = (Value.bool x) ∧ ρ 0 = (Sl.v p0) ∧ ρ 1 = (Value.int .i64 p1) ∧ ρ 3 = (Value.int .i64 p3) ∧ ρ 9 = (Value.bool r9) ∧ ρ 10 = (Sl.v r15.1) ∧ ρ 13 = (Value.int .i64 ((IntKind.i64.wrap p2).tmod p1)) ∧ ρ 14 = (Sl.v (⟨some ⟨b20, 0, none⟩, 1, 1⟩ : Sl)) ∧ ρ 15 = (Sl.v l28.1) ∧ ρ 16 = (Sl.v r22) ∧ ρ 17 = (Sl.v r27) ∧ ρ 18 = (Value.int .i64 l28.2) ∧ ρ 19 = (Sl.v r30) ∧ ρ 20 = (Value.int .i64 l31) ∧ ρ 21 = (Value.pointer (some (Addr.mk b41 0 none))) ∧ True) J57 ?_ ?_
              · clear hk
                unfold tk at h
                generalize w19.drew = w20 at h ⊢
                refine wpD_take (v := (Value.pointer (some ((Addr.mk b48 0 none).add 0)))) 0 (fun _ => True) rfl (by kernel_rfl) (by kernel_rfl) (by kernel_rfl) rfl rfl rfl trivial (fun w _ => (x_fieldAddr rfl e22 FA_52_0)) ?_
                obtain ⟨x58, q58, h⟩ := h
                refine wpD_take (v := (Value.int .i64 x58)) 1 (fun w => w.cell? ((Addr.mk b48 0 none).add 0) = some (Value.int .i64 x58)) rfl (by kernel_rfl) (by kernel_rfl) (by kernel_rfl) rfl rfl rfl q58 (fun w q58 => (x_load1 rfl rfl SH_3 q58)) ?_
                refine wpD_take (v := (Value.pointer (some ((Addr.mk b41 0 none).add 1)))) 3 (fun _ => True) rfl (by kernel_rfl) (by kernel_rfl) (by kernel_rfl) rfl rfl rfl trivial (fun w _ => (x_fieldAddr rfl e21 FA_56_1)) ?_
                obtain ⟨x59, q59, h⟩ := h
                refine wpD_take (v := (Value.int .i64 x59)) 4 (fun w => w.cell? ((Addr.mk b41 0 none).add 1) = some (Value.int .i64 x59)) rfl (by kernel_rfl) (by kernel_rfl) (by kernel_rfl) rfl rfl rfl q59 (fun w q59 => (x_load1 rfl rfl SH_3 q59)) ?_
                refine wpD_all (rs := [2]) (by kernel_rfl) (by simp) (allD_cons ?_ allD_nil)
                refine stepD_enterL (L' := [(4, fun w => w.cell? ((Addr.mk b41 0 none).add 1) = some (Value.int .i64 x59)), (3, fun _ => True), (0, fun _ => True)]) rfl rfl rfl rfl (x_call (vs := [(Value.int .i64 x58)]) rfl rfl (mapl_cons rfl mapl_nil) Tryz.func18 NN_18 NB_18) (by kernel_rfl) (Calls.mono h ?_)
                rintro _ w21 ⟨r60, rfl, h⟩
                obtain ⟨o4, h⟩ := h
                refine ⟨_, rfl, (held_cons o4 (held_cons trivial (held_cons trivial held_nil))), ?_⟩
                refine wpD_take (v := (Value.bool (!decide (r60 = x59)))) 5 (fun _ => True) rfl (by kernel_rfl) (by kernel_rfl) (by kernel_rfl) rfl rfl rfl trivial (fun w _ => (x_neq rfl rfl rfl)) ?_
                refine wpD_take (v := (Value.bool (!decide (r60 = x59)))) 6 (fun _ => True) rfl (by kernel_rfl) (by kernel_rfl) (by kernel_rfl) rfl rfl rfl trivial (fun w _ => (x_move (v := (Value.bool (!decide (r60 = x59)))) rfl rfl)) ?_
                rcases Bool.eq_false_or_eq_true (!decide (r60 = x59)) with hc61 | hc61
                · replace h := h.1 hc61
                  refine wpD_pass 7 rfl (by kernel_rfl) (by kernel_rfl) (by kernel_rfl) (wantN rfl rfl rfl hc61) rfl rfl ?_
                  refine wpD_pass 8 rfl (by kernel_rfl) (by kernel_rfl) (by kernel_rfl) (wantN rfl rfl rfl hc61) rfl rfl ?_
                  refine wpD_take (v := (Value.bool true)) 9 (fun _ => True) rfl (by kernel_rfl) (by kernel_rfl) (by kernel_rfl) rfl rfl rfl trivial (fun w _ => (x_pickT (v := (Value.bool true)) rfl rfl hc61 rfl)) ?_
                  refine wpD_take (v := (Value.bool true)) 10 (fun _ => True) rfl (by kernel_rfl) (by kernel_rfl) (by kernel_rfl) rfl rfl rfl trivial (fun w _ => (x_move (v := (Value.bool true)) rfl rfl)) ?_
                  refine wpD_pass 11 rfl (by kernel_rfl) (by kernel_rfl) (by kernel_rfl) (wantN rfl rfl rfl rfl) rfl rfl ?_
                  refine wpD_pass 12 rfl (by kernel_rfl) (by kernel_rfl) (by kernel_rfl) (wantN rfl rfl rfl rfl) rfl rfl ?_
                  refine wpD_take (v := (Value.bool true)) 13 (fun _ => True) rfl (by kernel_rfl) (by kernel_rfl) (by kernel_rfl) rfl rfl rfl trivial (fun w _ => (x_pickT (v := (Value.bool true)) rfl rfl rfl rfl)) ?_
                  exact wpD_done (by kernel_rfl) ⟨true, ⟨rfl, e0, e1, e3, e9, e10, e13, e14, e15, e16, e17, e18, e19, e20, e21, trivial⟩, h⟩
                · replace h := h.2 hc61
                  refine wpD_take (v := (Value.bool r55.2)) 7 (fun _ => True) rfl (by kernel_rfl) (by kernel_rfl) (by kernel_rfl) (wantG rfl rfl rfl hc61) rfl rfl trivial (fun w _ => (x_move (v := (Value.bool r55.2)) rfl e24)) ?_
                  refine wpD_take (v := (Value.bool (!r55.2))) 8 (fun _ => True) rfl (by kernel_rfl) (by kernel_rfl) (by kernel_rfl) (wantG rfl rfl rfl hc61) rfl rfl trivial (fun w _ => (x_not rfl rfl)) ?_
                  refine wpD_take (v := (Value.bool (!r55.2))) 9 (fun _ => True) rfl (by kernel_rfl) (by kernel_rfl) (by kernel_rfl) rfl rfl rfl trivial (fun w _ => (x_pickF (v := (Value.bool (!r55.2))) rfl rfl hc61 rfl)) ?_
                  refine wpD_take (v := (Value.bool (!r55.2))) 10 (fun _ => True) rfl (by kernel_rfl) (by kernel_rfl) (by kernel_rfl) rfl rfl rfl trivial (fun w _ => (x_move (v := (Value.bool (!r55.2))) rfl rfl)) ?_
                  rcases Bool.eq_false_or_eq_true (!r55.2) with hc62 | hc62
                  · replace h := h.1 hc62
                    refine wpD_pass 11 rfl (by kernel_rfl) (by kernel_rfl) (by kernel_rfl) (wantN rfl rfl rfl hc62) rfl rfl ?_
                    refine wpD_pass 12 rfl (by kernel_rfl) (by kernel_rfl) (by kernel_rfl) (wantN rfl rfl rfl hc62) rfl rfl ?_
                    refine wpD_take (v := (Value.bool true)) 13 (fun _ => True) rfl (by kernel_rfl) (by kernel_rfl) (by kernel_rfl) rfl rfl rfl trivial (fun w _ => (x_pickT (v := (Value.bool true)) rfl rfl hc62 rfl)) ?_
                    exact wpD_done (by kernel_rfl) ⟨true, ⟨rfl, e0, e1, e3, e9, e10, e13, e14, e15, e16, e17, e18, e19, e20, e21, trivial⟩, h⟩
                  · replace h := h.2 hc62
                    refine wpD_take (v := (Value.int .i64 r55.1)) 11 (fun _ => True) rfl (by kernel_rfl) (by kernel_rfl) (by kernel_rfl) (wantG rfl rfl rfl hc62) rfl rfl trivial (fun w _ => (x_move (v := (Value.int .i64 r55.1)) rfl e23)) ?_
                    refine wpD_take (v := (Value.bool (!decide (r55.1 = 0)))) 12 (fun _ => True) rfl (by kernel_rfl) (by kernel_rfl) (by kernel_rfl) (wantG rfl rfl rfl hc62) rfl rfl trivial (fun w _ => (x_neq rfl rfl rfl)) ?_
                    refine wpD_take (v := (Value.bool (!decide (r55.1 = 0)))) 13 (fun _ => True) rfl (by kernel_rfl) (by kernel_rfl) (by kernel_rfl) rfl rfl rfl trivial (fun w _ => (x_pickF (v := (Value.bool (!decide (r55.1 = 0)))) rfl rfl hc62 rfl)) ?_
                    exact wpD_done (by kernel_rfl) ⟨!decide (r55.1 = 0), ⟨rfl, e0, e1, e3, e9, e10, e13, e14, e15, e16, e17, e18, e19, e20, e21, trivial⟩, h⟩
              clear h
              rintro l63 ρ w22 ⟨e128, e0, e1, e3, e9, e10, e13, e14, e15, e16, e17, e18, e19, e20, e21, -⟩ h
              replace h := hk l63 w22 h
              clear hk
              refine wpC_cond (b := l63) e128 (fun hc64 => ?_) (fun hc64 => ?_)
              · replace h := h.1 hc64
                refine wpC_seq ?_
                refine wpC_region ?_
                refine rv (Value.bool false) w22 rfl rfl rfl (x_assign rfl rfl) ?_
                refine wpR_nil ?_
                refine wpC_ret ?_
                exact ⟨.inl rfl, fun a ha => ⟨_, results_rep1 rfl ha rfl, false, rfl, h⟩⟩
              · replace h := h.2 hc64
                refine wpC_skip ?_
                refine wpC_seq ?_
                refine wpC_region ?_
                refine rv (Sl.v r30) w22 rfl rfl rfl (x_move rfl e19) ?_
                refine rv (Value.pointer (some ((Addr.mk b41 0 none).add 1))) w22 rfl rfl rfl (x_fieldAddr rfl e21 FA_56_1) ?_
                obtain ⟨x65, q65, h⟩ := h
                refine rv (Value.int .i64 x65) w22 rfl rfl rfl (x_load1 rfl rfl SH_3 q65) ?_
                obtain ⟨q66, z66, r66, h⟩ := h
                generalize hp66 : z66.add ((x65 : Int).toNat * 1) = p66 at h
                refine rv (Value.pointer (some p66)) w22 rfl rfl rfl ((x_indexAddr (s := r30) rfl rfl rfl ES_22 q66 r66).trans (by rw [hp66])) ?_
                obtain ⟨q67, h⟩ := h
                obtain ⟨w23, hw67⟩ : ∃ u, u = setAll w22 p66 [(Value.bool true)] 0 := ⟨_, rfl⟩
                replace h := h w23 hw67
                refine wpR_skp (w' := w23) rfl rfl ((x_store (v := (Value.bool true)) rfl rfl rfl SZ_4 (ones (by rfl)) q67).trans (by rw [hw67]; rfl)) ?_
                refine wpR_nil ?_
                refine wpC_cut (fun ρ => ρ 0 = (Sl.v p0) ∧ ρ 1 = (Value.int .i64 p1) ∧ ρ 3 = (Value.int .i64 p3) ∧ ρ 9 = (Value.bool r9) ∧ ρ 10 = (Sl.v r15.1) ∧ ρ 13 = (Value.int .i64 ((IntKind.i64.wrap p2).tmod p1)) ∧ ρ 14 = (Sl.v (⟨some ⟨b20, 0, none⟩, 1, 1⟩ : Sl)) ∧ ρ 15 = (Sl.v l28.1) ∧ ρ 16 = (Sl.v r22) ∧ ρ 17 = (Sl.v r27) ∧ ρ 18 = (Value.int .i64 l28.2) ∧ ρ 19 = (Sl.v r30) ∧ ρ 20 = (Value.int .i64 l31) ∧ ρ 21 = (Value.pointer (some (Addr.mk b41 0 none))) ∧ True) ⟨e0, e1, e3, e9, e10, e13, e14, e15, e16, e17, e18, e19, e20, e21, trivial⟩ ?_
                rintro ρ ⟨e0, e1, e3, e9, e10, e13, e14, e15, e16, e17, e18, e19, e20, e21, -⟩
                refine wpC_region ?_
                refine rv (Sl.v r22) w23 rfl rfl rfl (x_move rfl e16) ?_
                refine rv (Value.pointer (some ((Addr.mk b41 0 none).add 1))) w23 rfl rfl rfl (x_fieldAddr rfl e21 FA_56_1) ?_
                obtain ⟨x68, q68, h⟩ := h
                refine rv (Value.int .i64 x68) w23 rfl rfl rfl (x_load1 rfl rfl SH_3 q68) ?_
                obtain ⟨q69, z69, r69, h⟩ := h
                generalize hp69 : z69.add ((x68 : Int).toNat * 1) = p69 at h
                refine rv (Value.pointer (some p69)) w23 rfl rfl rfl ((x_indexAddr (s := r22) rfl rfl rfl ES_22 q69 r69).trans (by rw [hp69])) ?_
                obtain ⟨q70, h⟩ := h
                obtain ⟨w24, hw70⟩ : ∃ u, u = setAll w23 p69 [(Value.bool true)] 0 := ⟨_, rfl⟩
                replace h := h w24 hw70
                refine wpR_skp (w' := w24) rfl rfl ((x_store (v := (Value.bool true)) rfl rfl rfl SZ_4 (ones (by rfl)) q70).trans (by rw [hw70]; rfl)) ?_
                refine wpR_nil ?_
                exact ⟨(), ⟨e0, e1, e3, e9, e10, e13, e14, e15, e16, e17, e18, e19, e20, trivial⟩, h⟩
          clear h
          rintro l34 ρ w14 ⟨e0, e1, e3, e9, e10, e13, e14, e15, e16, e17, e18, e19, e20, -⟩ h
          replace h := hk l34 w14 h
          clear hk
          refine wpC_region ?_
          refine rv (Value.int .i64 l31) w14 rfl rfl rfl (x_move rfl e20) ?_
          refine rv (Value.int .i64 (IntKind.i64.wrap (l31 + 1))) w14 rfl rfl rfl (x_add rfl rfl rfl) ?_
          refine rv (Value.int .i64 (IntKind.i64.wrap (l31 + 1))) w14 rfl rfl rfl (x_assign rfl rfl) ?_
          refine wpR_nil ?_
          exact ⟨IntKind.i64.wrap (l31 + 1), ⟨rfl, e0, e1, e3, e9, e10, e13, e14, e15, e16, e17, e18, e19, trivial⟩, h⟩
        · replace h := h.2 hc32
          refine wpC_exit ?_
          refine wpC_cut (fun ρ => ρ 0 = (Sl.v p0) ∧ ρ 1 = (Value.int .i64 p1) ∧ ρ 3 = (Value.int .i64 p3) ∧ ρ 9 = (Value.bool r9) ∧ ρ 10 = (Sl.v r15.1) ∧ ρ 13 = (Value.int .i64 ((IntKind.i64.wrap p2).tmod p1)) ∧ ρ 14 = (Sl.v (⟨some ⟨b20, 0, none⟩, 1, 1⟩ : Sl)) ∧ ρ 16 = (Sl.v r22) ∧ ρ 17 = (Sl.v r27) ∧ ρ 18 = (Value.int .i64 l28.2) ∧ ρ 19 = (Sl.v r30) ∧ True) ⟨e0, e1, e3, e9, e10, e13, e14, e16, e17, e18, e19, trivial⟩ ?_
          rintro ρ ⟨e0, e1, e3, e9, e10, e13, e14, e16, e17, e18, e19, -⟩
          refine wpC_region ?_
          refine rv (Sl.v r30) w13 rfl rfl rfl (x_move rfl e19) ?_
          refine rv (Sl.v r30) w13 rfl rfl rfl (x_assign rfl rfl) ?_
          refine wpR_nil ?_
          refine wpC_cut (fun ρ => ρ 0 = (Sl.v p0) ∧ ρ 1 = (Value.int .i64 p1) ∧ ρ 3 = (Value.int .i64 p3) ∧ ρ 9 = (Value.bool r9) ∧ ρ 10 = (Sl.v r15.1) ∧ ρ 13 = (Value.int .i64 ((IntKind.i64.wrap p2).tmod p1)) ∧ ρ 14 = (Sl.v (⟨some ⟨b20, 0, none⟩, 1, 1⟩ : Sl)) ∧ ρ 15 = (Sl.v r30) ∧ ρ 16 = (Sl.v r22) ∧ ρ 17 = (Sl.v r27) ∧ ρ 18 = (Value.int .i64 l28.2) ∧ True) ⟨e0, e1, e3, e9, e10, e13, e14, rfl, e16, e17, e18, trivial⟩ ?_
          rintro ρ ⟨e0, e1, e3, e9, e10, e13, e14, e15, e16, e17, e18, -⟩
          refine wpC_region ?_
          refine rv (Value.int .i64 l28.2) w13 rfl rfl rfl (x_move rfl e18) ?_
          refine rv (Value.int .i64 (IntKind.i64.wrap (l28.2 + 1))) w13 rfl rfl rfl (x_add rfl rfl rfl) ?_
          refine rv (Value.int .i64 (IntKind.i64.wrap (l28.2 + 1))) w13 rfl rfl rfl (x_assign rfl rfl) ?_
          refine wpR_nil ?_
          exact ⟨(r30, IntKind.i64.wrap (l28.2 + 1)), ⟨e15, rfl, e0, e1, e3, e9, e10, e13, e14, e16, e17, trivial⟩, h⟩
      · replace h := h.2 hc29
        refine wpC_exit ?_
        refine wpC_seq ?_
        refine wpC_cut (fun ρ => ρ 0 = (Sl.v p0) ∧ ρ 1 = (Value.int .i64 p1) ∧ ρ 9 = (Value.bool r9) ∧ ρ 10 = (Sl.v r15.1) ∧ ρ 13 = (Value.int .i64 ((IntKind.i64.wrap p2).tmod p1)) ∧ ρ 15 = (Sl.v l28.1) ∧ ρ 16 = (Sl.v r22) ∧ True) ⟨e0, e1, e9, e10, e13, e15, e16, trivial⟩ ?_
        rintro ρ ⟨e0, e1, e9, e10, e13, e15, e16, -⟩
        refine wpC_region ?_
        refine rv (Sl.v p0) w11 rfl rfl rfl (x_move rfl e0) ?_
        refine rv (Sl.v r15.1) w11 rfl rfl rfl (x_move rfl e10) ?_
        refine rv (Value.int .i64 ((IntKind.i64.wrap p2).tmod p1)) w11 rfl rfl rfl (x_move rfl e13) ?_
        refine wpR_enter rfl rfl rfl (x_call (vs := [(Sl.v p0), (Sl.v r15.1), (Value.int .i64 ((IntKind.i64.wrap p2).tmod p1))]) rfl rfl (mapl_cons rfl (mapl_cons rfl (mapl_cons rfl mapl_nil))) Tryz.func19 NN_19 NB_19) (Calls.mono h ?_)
        rintro _ w25 ⟨r71, rfl, h⟩
        refine ⟨_, rfl, ?_⟩
        refine rv (Sl.v r71) w25 rfl rfl rfl (x_assign rfl rfl) ?_
        refine wpR_nil ?_
        refine wpC_seq ?_
        refine wpC_seq ?_
        refine wpC_cut (fun ρ => ρ 1 = (Value.int .i64 p1) ∧ ρ 9 = (Value.bool r9) ∧ ρ 15 = (Sl.v l28.1) ∧ ρ 16 = (Sl.v r22) ∧ ρ 25 = (Sl.v r71) ∧ True) ⟨e1, e9, e15, e16, rfl, trivial⟩ ?_
        rintro ρ ⟨e1, e9, e15, e16, e25, -⟩
        refine wpC_region ?_
        refine rv (Value.int .i64 0) w25 rfl rfl rfl (x_assign rfl rfl) ?_
        refine wpR_nil ?_
        refine wpC_block ?_
        obtain ⟨I72, μ72, hI72, hr72⟩ := h
        refine wpC_loop (fun (x : Int) ρ => ρ 26 = (Value.int .i64 x) ∧ ρ 1 = (Value.int .i64 p1) ∧ ρ 9 = (Value.bool r9) ∧ ρ 15 = (Sl.v l28.1) ∧ ρ 16 = (Sl.v r22) ∧ ρ 25 = (Sl.v r71) ∧ True) I72 μ72 0 ⟨rfl, e1, e9, e15, e16, e25, trivial⟩ hI72 ?_
        rintro l72 ρ w26 ⟨e26, e1, e9, e15, e16, e25, -⟩ h
        replace h := hr72 l72 w26 h
        clear hr72 hI72
        refine wpC_seq ?_
        refine wpC_seq ?_
        refine wpC_region ?_
        refine rv (Value.int .i64 l72) w26 rfl rfl rfl (x_move rfl e26) ?_
        refine rv (Value.int .i64 p1) w26 rfl rfl rfl (x_move rfl e1) ?_
        refine rv (Value.bool (decide (l72 < p1))) w26 rfl rfl rfl (x_lss rfl rfl rfl) ?_
        refine wpR_nil ?_
        refine wpC_cond (b := decide (l72 < p1)) rfl (fun hc73 => ?_) (fun hc73 => ?_)
        · replace h := h.1 hc73
          refine wpC_skip ?_
          refine wpC_seq ?_
          refine wpC_block ?_
          refine wpC_seq ?_
          refine wpC_cut (fun ρ => ρ 1 = (Value.int .i64 p1) ∧ ρ 9 = (Value.bool r9) ∧ ρ 15 = (Sl.v l28.1) ∧ ρ 16 = (Sl.v r22) ∧ ρ 25 = (Sl.v r71) ∧ ρ 26 = (Value.int .i64 l72) ∧ True) ⟨e1, e9, e15, e16, e25, e26, trivial⟩ ?_
          rintro ρ ⟨e1, e9, e15, e16, e25, e26, -⟩
          obtain ⟨J75, h, hk⟩ := h
          refine wpC_drawJ (by kernel_rfl) (fun (x : Bool) ρ => ρ 160 = (Value.bool x) ∧ ρ 1 = (Value.int .i64 p1) ∧ ρ 9 = (Value.bool r9) ∧ ρ 15 = (Sl.v l28.1) ∧ ρ 16 = (Sl.v r22) ∧ ρ 25 = (Sl.v r71) ∧ ρ 26 = (Value.int .i64 l72) ∧ True) J75 ?_ ?_
          · clear hk
            unfold tk at h
            generalize w26.drew = w27 at h ⊢
            refine wpD_take (v := (Sl.v l28.1)) 0 (fun _ => True) rfl (by kernel_rfl) (by kernel_rfl) (by kernel_rfl) rfl rfl rfl trivial (fun w _ => (x_move (v := (Sl.v l28.1)) rfl e15)) ?_
            refine wpD_take (v := (Value.int .i64 l72)) 1 (fun _ => True) rfl (by kernel_rfl) (by kernel_rfl) (by kernel_rfl) rfl rfl rfl trivial (fun w _ => (x_move (v := (Value.int .i64 l72)) rfl e26)) ?_
            obtain ⟨q76, z76, r76, h⟩ := h
            generalize hp76 : z76.add ((l72 : Int).toNat * 1) = p76 at h
            refine wpD_take (v := (Value.pointer (some p76))) 2 (fun _ => True) rfl (by kernel_rfl) (by kernel_rfl) (by kernel_rfl) rfl rfl rfl trivial (fun w _ => ((x_indexAddr (s := l28.1) rfl rfl rfl ES_22 q76 r76).trans (by rw [hp76]))) ?_
            obtain ⟨x77, q77, h⟩ := h
            refine wpD_take (v := (Value.bool x77)) 3 (fun w => w.cell? p76 = some (Value.bool x77)) rfl (by kernel_rfl) (by kernel_rfl) (by kernel_rfl) rfl rfl rfl q77 (fun w q77 => (x_load1 rfl rfl SH_4 q77)) ?_
            refine wpD_take (v := (Value.bool x77)) 4 (fun _ => True) rfl (by kernel_rfl) (by kernel_rfl) (by kernel_rfl) rfl rfl rfl trivial (fun w _ => (x_move (v := (Value.bool x77)) rfl rfl)) ?_
            rcases Bool.eq_false_or_eq_true (x77) with hc78 | hc78
            · replace h := h.1 hc78
              refine wpD_pass 5 rfl (by kernel_rfl) (by kernel_rfl) (by kernel_rfl) (wantN rfl rfl rfl hc78) rfl rfl ?_
              refine wpD_pass 6 rfl (by kernel_rfl) (by kernel_rfl) (by kernel_rfl) (wantN rfl rfl rfl hc78) rfl rfl ?_
              refine wpD_pass 7 rfl (by kernel_rfl) (by kernel_rfl) (by kernel_rfl) (wantN rfl rfl rfl hc78) rfl rfl ?_
              refine wpD_pass 8 rfl (by kernel_rfl) (by kernel_rfl) (by kernel_rfl) (wantN rfl rfl rfl hc78) rfl rfl ?_
              refine wpD_pass 9 rfl (by kernel_rfl) (by kernel_rfl) (by kernel_rfl) (wantN rfl rfl rfl hc78) rfl rfl ?_
              refine wpD_pass 10 rfl (by kernel_rfl) (by kernel_rfl) (by kernel_rfl) (wantN rfl rfl rfl hc78) rfl rfl ?_
              refine wpD_pass 11 rfl (by kernel_rfl) (by kernel_rfl) (by kernel_rfl) (wantN rfl rfl rfl hc78) rfl rfl ?_
              refine wpD_pass 12 rfl (by kernel_rfl) (by kernel_rfl) (by kernel_rfl) (wantN rfl rfl rfl hc78) rfl rfl ?_
              refine wpD_take (v := (Value.bool true)) 13 (fun _ => True) rfl (by kernel_rfl) (by kernel_rfl) (by kernel_rfl) rfl rfl rfl trivial (fun w _ => (x_pickT (v := (Value.bool true)) rfl rfl hc78 rfl)) ?_
              exact wpD_done (by kernel_rfl) ⟨true, ⟨rfl, e1, e9, e15, e16, e25, e26, trivial⟩, h⟩
            · replace h := h.2 hc78
              refine wpD_take (v := (Sl.v r22)) 5 (fun _ => True) rfl (by kernel_rfl) (by kernel_rfl) (by kernel_rfl) (wantG rfl rfl rfl hc78) rfl rfl trivial (fun w _ => (x_move (v := (Sl.v r22)) rfl e16)) ?_
              refine wpD_take (v := (Value.int .i64 l72)) 6 (fun _ => True) rfl (by kernel_rfl) (by kernel_rfl) (by kernel_rfl) (wantG rfl rfl rfl hc78) rfl rfl trivial (fun w _ => (x_move (v := (Value.int .i64 l72)) rfl e26)) ?_
              obtain ⟨q79, z79, r79, h⟩ := h
              generalize hp79 : z79.add ((l72 : Int).toNat * 1) = p79 at h
              refine wpD_take (v := (Value.pointer (some p79))) 7 (fun _ => True) rfl (by kernel_rfl) (by kernel_rfl) (by kernel_rfl) (wantG rfl rfl rfl hc78) rfl rfl trivial (fun w _ => ((x_indexAddr (s := r22) rfl rfl rfl ES_22 q79 r79).trans (by rw [hp79]))) ?_
              obtain ⟨x80, q80, h⟩ := h
              refine wpD_take (v := (Value.bool x80)) 8 (fun w => w.cell? p79 = some (Value.bool x80)) rfl (by kernel_rfl) (by kernel_rfl) (by kernel_rfl) (wantG rfl rfl rfl hc78) rfl rfl q80 (fun w q80 => (x_load1 rfl rfl SH_4 q80)) ?_
              refine wpD_take (v := (Sl.v r71)) 9 (fun _ => True) rfl (by kernel_rfl) (by kernel_rfl) (by kernel_rfl) (wantG rfl rfl rfl hc78) rfl rfl trivial (fun w _ => (x_move (v := (Sl.v r71)) rfl e25)) ?_
              refine wpD_take (v := (Value.int .i64 l72)) 10 (fun _ => True) rfl (by kernel_rfl) (by kernel_rfl) (by kernel_rfl) (wantG rfl rfl rfl hc78) rfl rfl trivial (fun w _ => (x_move (v := (Value.int .i64 l72)) rfl e26)) ?_
              refine wpD_all (rs := [11]) (by kernel_rfl) (by simp) (allD_cons ?_ allD_nil)
              refine stepD_enterL (L' := [(8, fun w => w.cell? p79 = some (Value.bool x80)), (7, fun _ => True), (6, fun _ => True), (5, fun _ => True), (3, fun w => w.cell? p76 = some (Value.bool x77)), (2, fun _ => True), (1, fun _ => True), (0, fun _ => True)]) rfl (wantG rfl rfl rfl hc78) rfl rfl (x_call (vs := [(Sl.v r71), (Value.int .i64 l72)]) rfl rfl (mapl_cons rfl (mapl_cons rfl mapl_nil)) Tryz.func20 NN_20 NB_20) (by kernel_rfl) (Calls.mono h ?_)
              rintro _ w28 ⟨r81, rfl, h⟩
              obtain ⟨o8, h⟩ := h
              obtain ⟨o3, h⟩ := h
              refine ⟨_, rfl, (held_cons o8 (held_cons trivial (held_cons trivial (held_cons trivial (held_cons o3 (held_cons trivial (held_cons trivial (held_cons trivial held_nil)))))))), ?_⟩
              refine wpD_take (v := (Value.bool (!(x80 == r81)))) 12 (fun _ => True) rfl (by kernel_rfl) (by kernel_rfl) (by kernel_rfl) (wantG rfl rfl rfl hc78) rfl rfl trivial (fun w _ => (x_neqB rfl rfl rfl isBoolT_4)) ?_
              refine wpD_take (v := (Value.bool (!(x80 == r81)))) 13 (fun _ => True) rfl (by kernel_rfl) (by kernel_rfl) (by kernel_rfl) rfl rfl rfl trivial (fun w _ => (x_pickF (v := (Value.bool (!(x80 == r81)))) rfl rfl hc78 rfl)) ?_
              exact wpD_done (by kernel_rfl) ⟨!(x80 == r81), ⟨rfl, e1, e9, e15, e16, e25, e26, trivial⟩, h⟩
          clear h
          rintro l82 ρ w29 ⟨e160, e1, e9, e15, e16, e25, e26, -⟩ h
          replace h := hk l82 w29 h
          clear hk
          refine wpC_cond (b := l82) e160 (fun hc83 => ?_) (fun hc83 => ?_)
          · replace h := h.1 hc83
            refine wpC_seq ?_
            refine wpC_region ?_
            refine rv (Value.bool false) w29 rfl rfl rfl (x_assign rfl rfl) ?_
            refine wpR_nil ?_
            refine wpC_ret ?_
            exact ⟨.inl rfl, fun a ha => ⟨_, results_rep1 rfl ha rfl, false, rfl, h⟩⟩
          · replace h := h.2 hc83
            refine wpC_skip ?_
            refine wpC_region ?_
            refine rv (Value.int .i64 l72) w29 rfl rfl rfl (x_move rfl e26) ?_
            refine rv (Value.int .i64 (IntKind.i64.wrap (l72 + 1))) w29 rfl rfl rfl (x_add rfl rfl rfl) ?_
            refine rv (Value.int .i64 (IntKind.i64.wrap (l72 + 1))) w29 rfl rfl rfl (x_assign rfl rfl) ?_
            refine wpR_nil ?_
            exact ⟨IntKind.i64.wrap (l72 + 1), ⟨rfl, e1, e9, e15, e16, e25, trivial⟩, h⟩
        · replace h := h.2 hc73
          refine wpC_exit ?_
          refine wpC_seq ?_
          refine wpC_cut (fun ρ => ρ 9 = (Value.bool r9) ∧ True) ⟨e9, trivial⟩ ?_
          rintro ρ ⟨e9, -⟩
          refine wpC_region ?_
          refine rv (Value.bool r9) w26 rfl rfl rfl (x_move rfl e9) ?_
          refine rv (Value.bool r9) w26 rfl rfl rfl (x_assign rfl rfl) ?_
          refine wpR_nil ?_
          refine wpC_ret ?_
          exact ⟨.inl rfl, fun a ha => ⟨_, results_rep1 rfl ha rfl, r9, rfl, h⟩⟩

/-- linguaref37.Right -/
def F14 (p0 : Sl) (p1 : Int) (w0 : World) (K : Bool → World → Prop) : Prop :=
  lp (fun (next9 : Int → World → Prop) l9 w1 =>
    cnd (decide (l9 < (p0.len : Int)))
      (
      ix p0 l9 3 fun p11 =>
      ld (Value.int .i64) (p11.add 0) w1 fun x12 =>
      ld (Value.int .i64) (p11.add 1) w1 fun x13 =>
      ld Value.bool (p11.add 2) w1 fun x14 =>
      nw 56 #[(Value.int .i64 0), (Value.int .i64 0), (Value.bool false)] w1 fun b15 w2 =>
      st (Addr.mk b15 0 none) [(Value.int .i64 x12), (Value.int .i64 x13), (Value.bool x14)] w2 fun w3 =>
      ld (Value.int .i64) ((Addr.mk b15 0 none).add 0) w3 fun x17 =>
      jp (fun J18 => cnd (decide (x17 < 0))
        (
        J18 true
        )
        (
        ld (Value.int .i64) ((Addr.mk b15 0 none).add 0) w3 fun x20 =>
        J18 (decide (p1 ≤ x20))
        ))
      fun c21 =>
      jp (fun J22 => cnd (c21)
        (
        J22 true
        )
        (
        ld (Value.int .i64) ((Addr.mk b15 0 none).add 1) w3 fun x24 =>
        J22 (decide (x24 < 0))
        ))
      fun c25 =>
      jp (fun J26 => cnd (c25)
        (
        J26 true
        )
        (
        ld (Value.int .i64) ((Addr.mk b15 0 none).add 1) w3 fun x28 =>
        J26 (decide (p1 ≤ x28))
        ))
      fun c29 =>
      cnd (c29)
        (
        K false w3
        )
        (
        next9 (IntKind.i64.wrap (l9 + 1)) w3
        )
      )
      (
      K (((decide (1 ≤ p1)) && (decide (p1 ≤ 12))) && (decide ((p0.len : Int) ≤ 200))) w1
      )
  ) 0 w0
set_option maxRecDepth 100000 in
theorem D14 (p0 : Sl) (p1 : Int) (w0 : World) (K : Bool → World → Prop) (h : F14 p0 p1 w0 K) : callC Tryz.prog 14 #[(Sl.v p0), (Value.int .i64 p1)] (fun (r : Bool) => (Value.bool r)) w0 K := by
  unfold F14 at h
  refine calls_of_wpC Tryz.func14 rfl 48 rfl (by simp) ?_
  intro ρ hρ
  have e0 : ρ 0 = (Sl.v p0) := hρ 0
  have e1 : ρ 1 = (Value.int .i64 p1) := hρ 1
  clear hρ
  refine wpC_seq ?_
  refine wpC_region ?_
  refine rv (Value.bool false) w0 rfl rfl rfl (x_assign rfl rfl) ?_
  refine wpR_nil ?_
  refine wpC_seq ?_
  refine wpC_seq ?_
  refine wpC_cut (fun ρ => ρ 0 = (Sl.v p0) ∧ ρ 1 = (Value.int .i64 p1) ∧ True) ⟨e0, e1, trivial⟩ ?_
  rintro ρ ⟨e0, e1, -⟩
  refine wpC_region ?_
  refine rv (Value.int .i64 0) w0 rfl rfl rfl (x_assign rfl rfl) ?_
  refine wpR_nil ?_
  refine wpC_block ?_
  obtain ⟨I9, μ9, hI9, hr9⟩ := h
  refine wpC_loop (fun (x : Int) ρ => ρ 5 = (Value.int .i64 x) ∧ ρ 0 = (Sl.v p0) ∧ ρ 1 = (Value.int .i64 p1) ∧ True) I9 μ9 0 ⟨rfl, e0, e1, trivial⟩ hI9 ?_
  rintro l9 ρ w1 ⟨e5, e0, e1, -⟩ h
  replace h := hr9 l9 w1 h
  clear hr9 hI9
  refine wpC_seq ?_
  refine wpC_seq ?_
  refine wpC_region ?_
  refine rv (Value.int .i64 l9) w1 rfl rfl rfl (x_move rfl e5) ?_
  refine rv (Sl.v p0) w1 rfl rfl rfl (x_move rfl e0) ?_
  refine rv (Value.int .i64 (p0.len : Int)) w1 rfl rfl rfl (x_lenS (s := p0) rfl rfl isSliceT_47) ?_
  refine rv (Value.bool (decide (l9 < (p0.len : Int)))) w1 rfl rfl rfl (x_lss rfl rfl rfl) ?_
  refine wpR_nil ?_
  refine wpC_cond (b := decide (l9 < (p0.len : Int))) rfl (fun hc10 => ?_) (fun hc10 => ?_)
  · replace h := h.1 hc10
    refine wpC_skip ?_
    refine wpC_seq ?_
    refine wpC_block ?_
    refine wpC_seq ?_
    refine wpC_cut (fun ρ => ρ 0 = (Sl.v p0) ∧ ρ 1 = (Value.int .i64 p1) ∧ ρ 5 = (Value.int .i64 l9) ∧ True) ⟨e0, e1, e5, trivial⟩ ?_
    rintro ρ ⟨e0, e1, e5, -⟩
    refine wpC_region ?_
    refine rv (Sl.v p0) w1 rfl rfl rfl (x_move rfl e0) ?_
    refine rv (Value.int .i64 l9) w1 rfl rfl rfl (x_move rfl e5) ?_
    obtain ⟨q11, z11, r11, h⟩ := h
    generalize hp11 : z11.add ((l9 : Int).toNat * 3) = p11 at h
    refine rv (Value.pointer (some p11)) w1 rfl rfl rfl ((x_indexAddr (s := p0) rfl rfl rfl ES_47 q11 r11).trans (by rw [hp11])) ?_
    obtain ⟨x12, q12, x13, q13, x14, q14, h⟩ := h
    refine rv (Value.agg #[(Value.int .i64 x12), (Value.int .i64 x13), (Value.bool x14)]) w1 rfl rfl rfl (x_loadN [(Value.int .i64 x12), (Value.int .i64 x13), (Value.bool x14)] rfl rfl SH_56 (CellsAt.out (CellsAt.cons q12 (CellsAt.cons q13 (CellsAt.cons q14 CellsAt.nil))))) ?_
    obtain ⟨b15, hb15⟩ : ∃ u, u = w1.heap.size := ⟨_, rfl⟩
    obtain ⟨w2, hw15⟩ : ∃ u, u = w1.alloc (.cells #[(Value.int .i64 0), (Value.int .i64 0), (Value.bool false)] 56) := ⟨_, rfl⟩
    replace h := h b15 w2 hb15 hw15
    refine rv (Value.pointer (some (Addr.mk b15 0 none))) w2 rfl rfl rfl ((x_alloc rfl ZV_56).trans (by rw [hb15, hw15]; rfl)) ?_
    obtain ⟨q16, h⟩ := h
    obtain ⟨w3, hw16⟩ : ∃ u, u = setAll w2 (Addr.mk b15 0 none) [(Value.int .i64 x12), (Value.int .i64 x13), (Value.bool x14)] 0 := ⟨_, rfl⟩
    replace h := h w3 hw16
    refine wpR_skp (w' := w3) rfl rfl ((x_store (v := (Value.agg #[(Value.int .i64 x12), (Value.int .i64 x13), (Value.bool x14)])) rfl rfl rfl SZ_56 (ones (by rfl)) q16).trans (by rw [hw16]; rfl)) ?_
    refine wpR_nil ?_
    refine wpC_seq ?_
    refine wpC_cut (fun ρ => ρ 0 = (Sl.v p0) ∧ ρ 1 = (Value.int .i64 p1) ∧ ρ 5 = (Value.int .i64 l9) ∧ ρ 6 = (Value.pointer (some (Addr.mk b15 0 none))) ∧ True) ⟨e0, e1, e5, rfl, trivial⟩ ?_
    rintro ρ ⟨e0, e1, e5, e6, -⟩
    refine wpC_region ?_
    refine rv (Value.pointer (some ((Addr.mk b15 0 none).add 0))) w3 rfl rfl rfl (x_fieldAddr rfl e6 FA_56_0) ?_
    obtain ⟨x17, q17, h⟩ := h
    refine rv (Value.int .i64 x17) w3 rfl rfl rfl (x_load1 rfl rfl SH_3 q17) ?_
    refine rv (Value.bool (decide (x17 < 0))) w3 rfl rfl rfl (x_lss rfl rfl rfl) ?_
    refine rv (Value.bool (decide (x17 < 0))) w3 rfl rfl rfl (x_move rfl rfl) ?_
    obtain ⟨J18, h, hk⟩ := h
    refine wpR_joinJ 5 (fun x ρ => ρ 25 = Value.bool x ∧ ρ 0 = (Sl.v p0) ∧ ρ 1 = (Value.int .i64 p1) ∧ ρ 5 = (Value.int .i64 l9) ∧ ρ 6 = (Value.pointer (some (Addr.mk b15 0 none))) ∧ True) (fun x w => J18 x ∧ w3 = w) ?_ ?_
    · clear hk
      rcases Bool.eq_false_or_eq_true (decide (x17 < 0)) with hc19 | hc19
      · replace h := h.1 hc19
        refine wpR_pass (wantN rfl rfl rfl hc19) rfl rfl ?_
        refine wpR_pass (wantN rfl rfl rfl hc19) rfl rfl ?_
        refine wpR_pass (wantN rfl rfl rfl hc19) rfl rfl ?_
        refine wpR_pass (wantN rfl rfl rfl hc19) rfl rfl ?_
        refine rv (Value.bool true) w3 rfl rfl rfl (x_pickT (v := (Value.bool true)) rfl rfl hc19 rfl) ?_
        refine wpR_nil ?_
        exact ⟨true, ⟨rfl, e0, e1, e5, e6, trivial⟩, h, rfl⟩
      · replace h := h.2 hc19
        refine wpR_val (v := (Value.pointer (some ((Addr.mk b15 0 none).add 0)))) (w' := w3) (wantG rfl rfl rfl hc19) rfl rfl (x_fieldAddr rfl e6 FA_56_0) ?_
        obtain ⟨x20, q20, h⟩ := h
        refine wpR_val (v := (Value.int .i64 x20)) (w' := w3) (wantG rfl rfl rfl hc19) rfl rfl (x_load1 rfl rfl SH_3 q20) ?_
        refine wpR_val (v := (Value.int .i64 p1)) (w' := w3) (wantG rfl rfl rfl hc19) rfl rfl (x_move rfl e1) ?_
        refine wpR_val (v := (Value.bool (decide (p1 ≤ x20)))) (w' := w3) (wantG rfl rfl rfl hc19) rfl rfl (x_geq rfl rfl rfl) ?_
        refine rv (Value.bool (decide (p1 ≤ x20))) w3 rfl rfl rfl (x_pickF (v := (Value.bool (decide (p1 ≤ x20)))) rfl rfl hc19 rfl) ?_
        refine wpR_nil ?_
        exact ⟨decide (p1 ≤ x20), ⟨rfl, e0, e1, e5, e6, trivial⟩, h, rfl⟩
    clear h
    rintro c21 ρ wj ⟨e25, e0, e1, e5, e6, -⟩ ⟨h, rfl⟩
    replace h := hk c21 h
    clear hk
    refine rv (Value.bool c21) w3 rfl rfl rfl (x_move rfl e25) ?_
    obtain ⟨J22, h, hk⟩ := h
    refine wpR_joinJ 4 (fun x ρ => ρ 30 = Value.bool x ∧ ρ 0 = (Sl.v p0) ∧ ρ 1 = (Value.int .i64 p1) ∧ ρ 5 = (Value.int .i64 l9) ∧ ρ 6 = (Value.pointer (some (Addr.mk b15 0 none))) ∧ True) (fun x w => J22 x ∧ w3 = w) ?_ ?_
    · clear hk
      rcases Bool.eq_false_or_eq_true (c21) with hc23 | hc23
      · replace h := h.1 hc23
        refine wpR_pass (wantN rfl rfl rfl hc23) rfl rfl ?_
        refine wpR_pass (wantN rfl rfl rfl hc23) rfl rfl ?_
        refine wpR_pass (wantN rfl rfl rfl hc23) rfl rfl ?_
        refine rv (Value.bool true) w3 rfl rfl rfl (x_pickT (v := (Value.bool true)) rfl rfl hc23 rfl) ?_
        refine wpR_nil ?_
        exact ⟨true, ⟨rfl, e0, e1, e5, e6, trivial⟩, h, rfl⟩
      · replace h := h.2 hc23
        refine wpR_val (v := (Value.pointer (some ((Addr.mk b15 0 none).add 1)))) (w' := w3) (wantG rfl rfl rfl hc23) rfl rfl (x_fieldAddr rfl e6 FA_56_1) ?_
        obtain ⟨x24, q24, h⟩ := h
        refine wpR_val (v := (Value.int .i64 x24)) (w' := w3) (wantG rfl rfl rfl hc23) rfl rfl (x_load1 rfl rfl SH_3 q24) ?_
        refine wpR_val (v := (Value.bool (decide (x24 < 0)))) (w' := w3) (wantG rfl rfl rfl hc23) rfl rfl (x_lss rfl rfl rfl) ?_
        refine rv (Value.bool (decide (x24 < 0))) w3 rfl rfl rfl (x_pickF (v := (Value.bool (decide (x24 < 0)))) rfl rfl hc23 rfl) ?_
        refine wpR_nil ?_
        exact ⟨decide (x24 < 0), ⟨rfl, e0, e1, e5, e6, trivial⟩, h, rfl⟩
    clear h
    rintro c25 ρ wj ⟨e30, e0, e1, e5, e6, -⟩ ⟨h, rfl⟩
    replace h := hk c25 h
    clear hk
    refine rv (Value.bool c25) w3 rfl rfl rfl (x_move rfl e30) ?_
    obtain ⟨J26, h, hk⟩ := h
    refine wpR_joinJ 5 (fun x ρ => ρ 36 = Value.bool x ∧ ρ 0 = (Sl.v p0) ∧ ρ 1 = (Value.int .i64 p1) ∧ ρ 5 = (Value.int .i64 l9) ∧ True) (fun x w => J26 x ∧ w3 = w) ?_ ?_
    · clear hk
      rcases Bool.eq_false_or_eq_true (c25) with hc27 | hc27
      · replace h := h.1 hc27
        refine wpR_pass (wantN rfl rfl rfl hc27) rfl rfl ?_
        refine wpR_pass (wantN rfl rfl rfl hc27) rfl rfl ?_
        refine wpR_pass (wantN rfl rfl rfl hc27) rfl rfl ?_
        refine wpR_pass (wantN rfl rfl rfl hc27) rfl rfl ?_
        refine rv (Value.bool true) w3 rfl rfl rfl (x_pickT (v := (Value.bool true)) rfl rfl hc27 rfl) ?_
        refine wpR_nil ?_
        exact ⟨true, ⟨rfl, e0, e1, e5, trivial⟩, h, rfl⟩
      · replace h := h.2 hc27
        refine wpR_val (v := (Value.pointer (some ((Addr.mk b15 0 none).add 1)))) (w' := w3) (wantG rfl rfl rfl hc27) rfl rfl (x_fieldAddr rfl e6 FA_56_1) ?_
        obtain ⟨x28, q28, h⟩ := h
        refine wpR_val (v := (Value.int .i64 x28)) (w' := w3) (wantG rfl rfl rfl hc27) rfl rfl (x_load1 rfl rfl SH_3 q28) ?_
        refine wpR_val (v := (Value.int .i64 p1)) (w' := w3) (wantG rfl rfl rfl hc27) rfl rfl (x_move rfl e1) ?_
        refine wpR_val (v := (Value.bool (decide (p1 ≤ x28)))) (w' := w3) (wantG rfl rfl rfl hc27) rfl rfl (x_geq rfl rfl rfl) ?_
        refine rv (Value.bool (decide (p1 ≤ x28))) w3 rfl rfl rfl (x_pickF (v := (Value.bool (decide (p1 ≤ x28)))) rfl rfl hc27 rfl) ?_
        refine wpR_nil ?_
        exact ⟨decide (p1 ≤ x28), ⟨rfl, e0, e1, e5, trivial⟩, h, rfl⟩
    clear h
    rintro c29 ρ wj ⟨e36, e0, e1, e5, -⟩ ⟨h, rfl⟩
    replace h := hk c29 h
    clear hk
    refine wpR_nil ?_
    refine wpC_cond (b := c29) e36 (fun hc30 => ?_) (fun hc30 => ?_)
    · replace h := h.1 hc30
      refine wpC_seq ?_
      refine wpC_region ?_
      refine rv (Value.bool false) w3 rfl rfl rfl (x_assign rfl rfl) ?_
      refine wpR_nil ?_
      refine wpC_ret ?_
      exact ⟨.inl rfl, fun a ha => ⟨_, results_rep1 rfl ha rfl, false, rfl, h⟩⟩
    · replace h := h.2 hc30
      refine wpC_skip ?_
      refine wpC_region ?_
      refine rv (Value.int .i64 l9) w3 rfl rfl rfl (x_move rfl e5) ?_
      refine rv (Value.int .i64 (IntKind.i64.wrap (l9 + 1))) w3 rfl rfl rfl (x_add rfl rfl rfl) ?_
      refine rv (Value.int .i64 (IntKind.i64.wrap (l9 + 1))) w3 rfl rfl rfl (x_assign rfl rfl) ?_
      refine wpR_nil ?_
      exact ⟨IntKind.i64.wrap (l9 + 1), ⟨rfl, e0, e1, trivial⟩, h⟩
  · replace h := h.2 hc10
    refine wpC_exit ?_
    refine wpC_seq ?_
    refine wpC_cut (fun ρ => ρ 0 = (Sl.v p0) ∧ ρ 1 = (Value.int .i64 p1) ∧ True) ⟨e0, e1, trivial⟩ ?_
    rintro ρ ⟨e0, e1, -⟩
    refine wpC_region ?_
    refine rv (Value.int .i64 p1) w1 rfl rfl rfl (x_move rfl e1) ?_
    refine rv (Value.bool (decide (1 ≤ p1))) w1 rfl rfl rfl (x_geq rfl rfl rfl) ?_
    refine rv (Value.bool (decide (1 ≤ p1))) w1 rfl rfl rfl (x_move rfl rfl) ?_
    refine wpR_joinJ 3 (fun (_ : Unit) ρ => ρ 42 = Value.bool ((decide (1 ≤ p1)) && (decide (p1 ≤ 12))) ∧ ρ 0 = (Sl.v p0) ∧ True) (fun _ w => w1 = w) ?_ ?_
    · clear h
      rcases Bool.eq_false_or_eq_true (decide (1 ≤ p1)) with hc32 | hc32
      · skip
        refine wpR_val (v := (Value.int .i64 p1)) (w' := w1) (wantG rfl rfl rfl hc32) rfl rfl (x_move rfl e1) ?_
        refine wpR_val (v := (Value.bool (decide (p1 ≤ 12)))) (w' := w1) (wantG rfl rfl rfl hc32) rfl rfl (x_leq rfl rfl rfl) ?_
        refine rv (Value.bool (decide (p1 ≤ 12))) w1 rfl rfl rfl (x_pickT (v := (Value.bool (decide (p1 ≤ 12)))) rfl rfl hc32 rfl) ?_
        refine wpR_nil ?_
        exact ⟨(), ⟨(by rw [hc32]; rfl), e0, trivial⟩, rfl⟩
      · skip
        refine wpR_pass (wantN rfl rfl rfl hc32) rfl rfl ?_
        refine wpR_pass (wantN rfl rfl rfl hc32) rfl rfl ?_
        refine rv (Value.bool false) w1 rfl rfl rfl (x_pickF (v := (Value.bool false)) rfl rfl hc32 rfl) ?_
        refine wpR_nil ?_
        exact ⟨(), ⟨(by rw [hc32]; rfl), e0, trivial⟩, rfl⟩
    rintro _ ρ wj ⟨e42, e0, -⟩ rfl
    refine rv (Value.bool ((decide (1 ≤ p1)) && (decide (p1 ≤ 12)))) w1 rfl rfl rfl (x_move rfl e42) ?_
    refine wpR_joinJ 4 (fun (_ : Unit) ρ => ρ 47 = Value.bool (((decide (1 ≤ p1)) && (decide (p1 ≤ 12))) && (decide ((p0.len : Int) ≤ 200))) ∧ True) (fun _ w => w1 = w) ?_ ?_
    · clear h
      rcases Bool.eq_false_or_eq_true ((decide (1 ≤ p1)) && (decide (p1 ≤ 12))) with hc34 | hc34
      · skip
        refine wpR_val (v := (Sl.v p0)) (w' := w1) (wantG rfl rfl rfl hc34) rfl rfl (x_move rfl e0) ?_
        refine wpR_val (v := (Value.int .i64 (p0.len : Int))) (w' := w1) (wantG rfl rfl rfl hc34) rfl rfl (x_lenS (s := p0) rfl rfl isSliceT_47) ?_
        refine wpR_val (v := (Value.bool (decide ((p0.len : Int) ≤ 200)))) (w' := w1) (wantG rfl rfl rfl hc34) rfl rfl (x_leq rfl rfl rfl) ?_
        refine rv (Value.bool (decide ((p0.len : Int) ≤ 200))) w1 rfl rfl rfl (x_pickT (v := (Value.bool (decide ((p0.len : Int) ≤ 200)))) rfl rfl hc34 rfl) ?_
        refine wpR_nil ?_
        exact ⟨(), ⟨(by rw [hc34]; rfl), trivial⟩, rfl⟩
      · skip
        refine wpR_pass (wantN rfl rfl rfl hc34) rfl rfl ?_
        refine wpR_pass (wantN rfl rfl rfl hc34) rfl rfl ?_
        refine wpR_pass (wantN rfl rfl rfl hc34) rfl rfl ?_
        refine rv (Value.bool false) w1 rfl rfl rfl (x_pickF (v := (Value.bool false)) rfl rfl hc34 rfl) ?_
        refine wpR_nil ?_
        exact ⟨(), ⟨(by rw [hc34]; rfl), trivial⟩, rfl⟩
    rintro _ ρ wj ⟨e47, -⟩ rfl
    refine rv (Value.bool (((decide (1 ≤ p1)) && (decide (p1 ≤ 12))) && (decide ((p0.len : Int) ≤ 200)))) w1 rfl rfl rfl (x_assign rfl e47) ?_
    refine wpR_nil ?_
    refine wpC_ret ?_
    exact ⟨.inl rfl, fun a ha => ⟨_, results_rep1 rfl ha rfl, ((decide (1 ≤ p1)) && (decide (p1 ≤ 12))) && (decide ((p0.len : Int) ≤ 200)), rfl, h⟩⟩

/-- linguaref37.Open -/
def F16 (p0 : Sl) (p1 : Sl) (w0 : World) (K : Sl → World → Prop) : Prop :=
  lp (fun (next9 : (Sl × Int) → World → Prop) l9 w1 =>
    cnd (decide (l9.2 < (p0.len : Int)))
      (
      jn (fun (J11 : Sl → World → Prop) =>
        callC Tryz.prog 20 #[(Sl.v p1), (Value.int .i64 l9.2)] (fun (r : Bool) => (Value.bool r)) w1 fun r13 w3 =>
        cnd (!r13)
          (
          nw 3 #[(Value.int .i64 l9.2)] w3 fun b15 w4 =>
          rn Tryz.prog (Builtin.append_ #[39, 39] 39 #[Sl.v l9.1, Sl.v (⟨some ⟨b15, 0, none⟩, 1, 1⟩ : Sl)]) Sl.v w4 fun r16 w5 =>
          J11 r16 w5
          )
          (
          J11 l9.1 w3
          )
      )
      fun l12 w2 =>
      next9 (l12, IntKind.i64.wrap (l9.2 + 1)) w2
      )
      (
      K l9.1 w1
      )
  ) (Sl.nil, 0) w0
set_option maxRecDepth 100000 in
theorem D16 (p0 : Sl) (p1 : Sl) (w0 : World) (K : Sl → World → Prop) (h : F16 p0 p1 w0 K) : callC Tryz.prog 16 #[(Sl.v p0), (Sl.v p1)] (fun (r : Sl) => (Sl.v r)) w0 K := by
  unfold F16 at h
  refine calls_of_wpC Tryz.func16 rfl 22 rfl (by simp) ?_
  intro ρ hρ
  have e0 : ρ 0 = (Sl.v p0) := hρ 0
  have e1 : ρ 1 = (Sl.v p1) := hρ 1
  clear hρ
  refine wpC_seq ?_
  refine wpC_region ?_
  refine rv (Sl.v Sl.nil) w0 rfl rfl rfl (x_assign rfl rfl) ?_
  refine wpR_nil ?_
  refine wpC_seq ?_
  refine wpC_cut (fun ρ => ρ 0 = (Sl.v p0) ∧ ρ 1 = (Sl.v p1) ∧ True) ⟨e0, e1, trivial⟩ ?_
  rintro ρ ⟨e0, e1, -⟩
  refine wpC_region ?_
  refine rv (Sl.v Sl.nil) w0 rfl rfl rfl (x_assign rfl rfl) ?_
  refine wpR_nil ?_
  refine wpC_seq ?_
  refine wpC_seq ?_
  refine wpC_cut (fun ρ => ρ 0 = (Sl.v p0) ∧ ρ 1 = (Sl.v p1) ∧ ρ 5 = (Sl.v Sl.nil) ∧ True) ⟨e0, e1, rfl, trivial⟩ ?_
  rintro ρ ⟨e0, e1, e5, -⟩
  refine wpC_region ?_
  refine rv (Value.int .i64 0) w0 rfl rfl rfl (x_assign rfl rfl) ?_
  refine wpR_nil ?_
  refine wpC_block ?_
  obtain ⟨I9, μ9, hI9, hr9⟩ := h
  refine wpC_loop (fun (x : Sl × Int) ρ => ρ 5 = (Sl.v x.1) ∧ ρ 6 = (Value.int .i64 x.2) ∧ ρ 0 = (Sl.v p0) ∧ ρ 1 = (Sl.v p1) ∧ True) I9 μ9 (Sl.nil, 0) ⟨e5, rfl, e0, e1, trivial⟩ hI9 ?_
  rintro l9 ρ w1 ⟨e5, e6, e0, e1, -⟩ h
  replace h := hr9 l9 w1 h
  clear hr9 hI9
  refine wpC_seq ?_
  refine wpC_seq ?_
  refine wpC_region ?_
  refine rv (Value.int .i64 l9.2) w1 rfl rfl rfl (x_move rfl e6) ?_
  refine rv (Sl.v p0) w1 rfl rfl rfl (x_move rfl e0) ?_
  refine rv (Value.int .i64 (p0.len : Int)) w1 rfl rfl rfl (x_lenS (s := p0) rfl rfl isSliceT_47) ?_
  refine rv (Value.bool (decide (l9.2 < (p0.len : Int)))) w1 rfl rfl rfl (x_lss rfl rfl rfl) ?_
  refine wpR_nil ?_
  refine wpC_cond (b := decide (l9.2 < (p0.len : Int))) rfl (fun hc10 => ?_) (fun hc10 => ?_)
  · replace h := h.1 hc10
    refine wpC_skip ?_
    obtain ⟨J11, h, hk⟩ := h
    refine wpC_seqJ (fun (x : Sl) ρ => ρ 5 = (Sl.v x) ∧ ρ 0 = (Sl.v p0) ∧ ρ 1 = (Sl.v p1) ∧ ρ 6 = (Value.int .i64 l9.2) ∧ True) J11 ?_ ?_
    · clear hk
      refine wpC_block ?_
      refine wpC_seq ?_
      refine wpC_cut (fun ρ => ρ 0 = (Sl.v p0) ∧ ρ 1 = (Sl.v p1) ∧ ρ 5 = (Sl.v l9.1) ∧ ρ 6 = (Value.int .i64 l9.2) ∧ True) ⟨e0, e1, e5, e6, trivial⟩ ?_
      rintro ρ ⟨e0, e1, e5, e6, -⟩
      refine wpC_region ?_
      refine rv (Sl.v p1) w1 rfl rfl rfl (x_move rfl e1) ?_
      refine rv (Value.int .i64 l9.2) w1 rfl rfl rfl (x_move rfl e6) ?_
      refine wpR_enter rfl rfl rfl (x_call (vs := [(Sl.v p1), (Value.int .i64 l9.2)]) rfl rfl (mapl_cons rfl (mapl_cons rfl mapl_nil)) Tryz.func20 NN_20 NB_20) (Calls.mono h ?_)
      rintro _ w3 ⟨r13, rfl, h⟩
      refine ⟨_, rfl, ?_⟩
      refine rv (Value.bool (!r13)) w3 rfl rfl rfl (x_not rfl rfl) ?_
      refine wpR_nil ?_
      refine wpC_cond (b := !r13) rfl (fun hc14 => ?_) (fun hc14 => ?_)
      · replace h := h.1 hc14
        refine wpC_cut (fun ρ => ρ 0 = (Sl.v p0) ∧ ρ 1 = (Sl.v p1) ∧ ρ 5 = (Sl.v l9.1) ∧ ρ 6 = (Value.int .i64 l9.2) ∧ True) ⟨e0, e1, e5, e6, trivial⟩ ?_
        rintro ρ ⟨e0, e1, e5, e6, -⟩
        refine wpC_region ?_
        refine rv (Sl.v l9.1) w3 rfl rfl rfl (x_move rfl e5) ?_
        refine rv (Value.int .i64 l9.2) w3 rfl rfl rfl (x_move rfl e6) ?_
        obtain ⟨b15, hb15⟩ : ∃ u, u = w3.heap.size := ⟨_, rfl⟩
        obtain ⟨w4, hw15⟩ : ∃ u, u = w3.alloc (.cells #[(Value.int .i64 l9.2)] 3) := ⟨_, rfl⟩
        replace h := h b15 w4 hb15 hw15
        refine rv (Sl.v (⟨some ⟨b15, 0, none⟩, 1, 1⟩ : Sl)) w4 rfl rfl rfl ((x_buildSlice (qs := [(0, (Value.int .i64 l9.2))]) rfl (by rfl) (BS_39_1_0 l9.2)).trans (by rw [← hb15, ← hw15])) ?_
        obtain ⟨r16, w5, q16, h⟩ := h
        refine rv (Sl.v r16) w5 rfl rfl rfl (x_append (s := l9.1) (u := (⟨some ⟨b15, 0, none⟩, 1, 1⟩ : Sl)) rfl rfl rfl rfl q16) ?_
        refine rv (Sl.v r16) w5 rfl rfl rfl (x_assign rfl rfl) ?_
        refine wpR_nil ?_
        exact ⟨r16, ⟨rfl, e0, e1, e6, trivial⟩, h⟩
      · replace h := h.2 hc14
        refine wpC_skip ?_
        exact ⟨l9.1, ⟨e5, e0, e1, e6, trivial⟩, h⟩
    clear h
    rintro l12 ρ w2 ⟨e5, e0, e1, e6, -⟩ h
    replace h := hk l12 w2 h
    clear hk
    refine wpC_region ?_
    refine rv (Value.int .i64 l9.2) w2 rfl rfl rfl (x_move rfl e6) ?_
    refine rv (Value.int .i64 (IntKind.i64.wrap (l9.2 + 1))) w2 rfl rfl rfl (x_add rfl rfl rfl) ?_
    refine rv (Value.int .i64 (IntKind.i64.wrap (l9.2 + 1))) w2 rfl rfl rfl (x_assign rfl rfl) ?_
    refine wpR_nil ?_
    exact ⟨(l12, IntKind.i64.wrap (l9.2 + 1)), ⟨e5, rfl, e0, e1, trivial⟩, h⟩
  · replace h := h.2 hc10
    refine wpC_exit ?_
    refine wpC_seq ?_
    refine wpC_cut (fun ρ => ρ 5 = (Sl.v l9.1) ∧ True) ⟨e5, trivial⟩ ?_
    rintro ρ ⟨e5, -⟩
    refine wpC_region ?_
    refine rv (Sl.v l9.1) w1 rfl rfl rfl (x_move rfl e5) ?_
    refine rv (Sl.v l9.1) w1 rfl rfl rfl (x_assign rfl rfl) ?_
    refine wpR_nil ?_
    refine wpC_ret ?_
    exact ⟨.inl rfl, fun a ha => ⟨_, results_rep1 rfl ha rfl, l9.1, rfl, h⟩⟩

/-- ring.Rounds -/
def F19 (p0 : Sl) (p1 : Sl) (p2 : Int) (w0 : World) (K : Sl → World → Prop) : Prop :=
  callC Tryz.prog 33 #[(Sl.v p0), (Value.int .i64 12)] (fun (r : Bool) => (Value.bool r)) w0 fun r9 w1 =>
  cnd (((!r9) || (decide (p2 < 0))) || (decide (12 ≤ p2)))
    (
    K Sl.nil w1
    )
    (
    callC Tryz.prog 39 #[(Sl.v p0), (Sl.v p1)] (fun (r : Sl) => (Sl.v r)) w1 fun r15 w2 =>
    rn Tryz.prog (Instr.makeMap 78 none) (fun (r : (Option Nat)) => (Value.map r)) w2 fun r16 w3 =>
    nw 3 #[(Value.int .i64 p2)] w3 fun b17 w4 =>
    lp (fun (next18 : Sl → World → Prop) l18 w5 =>
      cnd (decide (0 < (l18.len : Int)))
        (
        ix l18 (IntKind.i64.wrap ((l18.len : Int) - 1)) 1 fun p20 =>
        ld (Value.int .i64) p20 w5 fun x21 =>
        rn Tryz.prog (Instr.sliceAt 39 (Sl.v l18) none (some (Value.int .i64 (IntKind.i64.wrap ((l18.len : Int) - 1)))) none) (fun (r : Sl) => (Sl.v r)) w5 fun r22 w6 =>
        rn Tryz.prog (Instr.lookup 78 (Value.map r16) (Value.int .i64 x21) false) (fun (r : Bool) => (Value.bool r)) w6 fun r23 w7 =>
        cnd (r23)
          (
          next18 r22 w7
          )
          (
          rn0 Tryz.prog (Instr.mapUpdate 78 (Value.map r16) (Value.int .i64 x21) (Value.bool true)) w7 fun w8 =>
          lp (fun (next26 : (Sl × Int) → World → Prop) l26 w9 =>
            cnd (decide (l26.2 < (r15.len : Int)))
              (
              jn (fun (J28 : Sl → World → Prop) =>
                ix r15 l26.2 1 fun p30 =>
                ld (Value.int .i64) p30 w9 fun x31 =>
                ix p0 x31 3 fun p32 =>
                ld (Value.int .i64) (p32.add 0) w9 fun x33 =>
                cnd (decide (x33 = x21))
                  (
                  ix p0 x31 3 fun p35 =>
                  ld (Value.int .i64) (p35.add 1) w9 fun x36 =>
                  nw 3 #[(Value.int .i64 x36)] w9 fun b37 w11 =>
                  rn Tryz.prog (Builtin.append_ #[39, 39] 39 #[Sl.v l26.1, Sl.v (⟨some ⟨b37, 0, none⟩, 1, 1⟩ : Sl)]) Sl.v w11 fun r38 w12 =>
                  J28 r38 w12
                  )
                  (
                  J28 l26.1 w9
                  )
              )
              fun l29 w10 =>
              next26 (l29, IntKind.i64.wrap (l26.2 + 1)) w10
              )
              (
              next18 l26.1 w9
              )
          ) (r22, 0) w8
          )
        )
        (
        callC Tryz.prog 41 #[(Value.map r16)] (fun (r : Value) => r) w5 fun r39 w13 =>
        callC Tryz.prog 40 #[r39] (fun (r : Sl) => (Sl.v r)) w13 fun r40 w14 =>
        K r40 w14
        )
    ) (⟨some ⟨b17, 0, none⟩, 1, 1⟩ : Sl) w4
    )
set_option maxRecDepth 100000 in
theorem D19 (p0 : Sl) (p1 : Sl) (p2 : Int) (w0 : World) (K : Sl → World → Prop) (h : F19 p0 p1 p2 w0 K) : callC Tryz.prog 19 #[(Sl.v p0), (Sl.v p1), (Value.int .i64 p2)] (fun (r : Sl) => (Sl.v r)) w0 K := by
  unfold F19 at h
  refine calls_of_wpC Tryz.func19 rfl 74 rfl (by simp) ?_
  intro ρ hρ
  have e0 : ρ 0 = (Sl.v p0) := hρ 0
  have e1 : ρ 1 = (Sl.v p1) := hρ 1
  have e2 : ρ 2 = (Value.int .i64 p2) := hρ 2
  clear hρ
  refine wpC_seq ?_
  refine wpC_region ?_
  refine rv (Sl.v Sl.nil) w0 rfl rfl rfl (x_assign rfl rfl) ?_
  refine wpR_nil ?_
  refine wpC_seq ?_
  refine wpC_seq ?_
  refine wpC_cut (fun ρ => ρ 0 = (Sl.v p0) ∧ ρ 1 = (Sl.v p1) ∧ ρ 2 = (Value.int .i64 p2) ∧ True) ⟨e0, e1, e2, trivial⟩ ?_
  rintro ρ ⟨e0, e1, e2, -⟩
  refine wpC_region ?_
  refine rv (Sl.v p0) w0 rfl rfl rfl (x_move rfl e0) ?_
  refine wpR_enter rfl rfl rfl (x_call (vs := [(Sl.v p0), (Value.int .i64 12)]) rfl rfl (mapl_cons rfl (mapl_cons rfl mapl_nil)) Tryz.func33 NN_33 NB_33) (Calls.mono h ?_)
  rintro _ w1 ⟨r9, rfl, h⟩
  refine ⟨_, rfl, ?_⟩
  refine rv (Value.bool (!r9)) w1 rfl rfl rfl (x_not rfl rfl) ?_
  refine rv (Value.bool (!r9)) w1 rfl rfl rfl (x_move rfl rfl) ?_
  refine wpR_joinJ 3 (fun (_ : Unit) ρ => ρ 19 = Value.bool ((!r9) || (decide (p2 < 0))) ∧ ρ 0 = (Sl.v p0) ∧ ρ 1 = (Sl.v p1) ∧ ρ 2 = (Value.int .i64 p2) ∧ True) (fun _ w => w1 = w) ?_ ?_
  · clear h
    rcases Bool.eq_false_or_eq_true (!r9) with hc11 | hc11
    · skip
      refine wpR_pass (wantN rfl rfl rfl hc11) rfl rfl ?_
      refine wpR_pass (wantN rfl rfl rfl hc11) rfl rfl ?_
      refine rv (Value.bool true) w1 rfl rfl rfl (x_pickT (v := (Value.bool true)) rfl rfl hc11 rfl) ?_
      refine wpR_nil ?_
      exact ⟨(), ⟨(by rw [hc11]; rfl), e0, e1, e2, trivial⟩, rfl⟩
    · skip
      refine wpR_val (v := (Value.int .i64 p2)) (w' := w1) (wantG rfl rfl rfl hc11) rfl rfl (x_move rfl e2) ?_
      refine wpR_val (v := (Value.bool (decide (p2 < 0)))) (w' := w1) (wantG rfl rfl rfl hc11) rfl rfl (x_lss rfl rfl rfl) ?_
      refine rv (Value.bool (decide (p2 < 0))) w1 rfl rfl rfl (x_pickF (v := (Value.bool (decide (p2 < 0)))) rfl rfl hc11 rfl) ?_
      refine wpR_nil ?_
      exact ⟨(), ⟨(by rw [hc11]; rfl), e0, e1, e2, trivial⟩, rfl⟩
  rintro _ ρ wj ⟨e19, e0, e1, e2, -⟩ rfl
  refine rv (Value.bool ((!r9) || (decide (p2 < 0)))) w1 rfl rfl rfl (x_move rfl e19) ?_
  refine wpR_joinJ 3 (fun (_ : Unit) ρ => ρ 23 = Value.bool (((!r9) || (decide (p2 < 0))) || (decide (12 ≤ p2))) ∧ ρ 0 = (Sl.v p0) ∧ ρ 1 = (Sl.v p1) ∧ ρ 2 = (Value.int .i64 p2) ∧ True) (fun _ w => w1 = w) ?_ ?_
  · clear h
    rcases Bool.eq_false_or_eq_true ((!r9) || (decide (p2 < 0))) with hc13 | hc13
    · skip
      refine wpR_pass (wantN rfl rfl rfl hc13) rfl rfl ?_
      refine wpR_pass (wantN rfl rfl rfl hc13) rfl rfl ?_
      refine rv (Value.bool true) w1 rfl rfl rfl (x_pickT (v := (Value.bool true)) rfl rfl hc13 rfl) ?_
      refine wpR_nil ?_
      exact ⟨(), ⟨(by rw [hc13]; rfl), e0, e1, e2, trivial⟩, rfl⟩
    · skip
      refine wpR_val (v := (Value.int .i64 p2)) (w' := w1) (wantG rfl rfl rfl hc13) rfl rfl (x_move rfl e2) ?_
      refine wpR_val (v := (Value.bool (decide (12 ≤ p2)))) (w' := w1) (wantG rfl rfl rfl hc13) rfl rfl (x_geq rfl rfl rfl) ?_
      refine rv (Value.bool (decide (12 ≤ p2))) w1 rfl rfl rfl (x_pickF (v := (Value.bool (decide (12 ≤ p2)))) rfl rfl hc13 rfl) ?_
      refine wpR_nil ?_
      exact ⟨(), ⟨(by rw [hc13]; rfl), e0, e1, e2, trivial⟩, rfl⟩
  rintro _ ρ wj ⟨e23, e0, e1, e2, -⟩ rfl
  refine wpR_nil ?_
  refine wpC_cond (b := ((!r9) || (decide (p2 < 0))) || (decide (12 ≤ p2))) e23 (fun hc14 => ?_) (fun hc14 => ?_)
  · replace h := h.1 hc14
    refine wpC_seq ?_
    refine wpC_region ?_
    refine rv (Sl.v Sl.nil) w1 rfl rfl rfl (x_assign rfl rfl) ?_
    refine wpR_nil ?_
    refine wpC_ret ?_
    exact ⟨.inl rfl, fun a ha => ⟨_, results_rep1 rfl ha rfl, Sl.nil, rfl, h⟩⟩
  · replace h := h.2 hc14
    refine wpC_skip ?_
    refine wpC_seq ?_
    refine wpC_region ?_
    refine rv (Sl.v p0) w1 rfl rfl rfl (x_move rfl e0) ?_
    refine rv (Sl.v p1) w1 rfl rfl rfl (x_move rfl e1) ?_
    refine wpR_enter rfl rfl rfl (x_call (vs := [(Sl.v p0), (Sl.v p1)]) rfl rfl (mapl_cons rfl (mapl_cons rfl mapl_nil)) Tryz.func39 NN_39 NB_39) (Calls.mono h ?_)
    rintro _ w2 ⟨r15, rfl, h⟩
    refine ⟨_, rfl, ?_⟩
    obtain ⟨r16, w3, q16, h⟩ := h
    refine rv (Value.map r16) w3 rfl rfl rfl (x_makeMap rfl rfl q16) ?_
    refine rv (Sl.v r15) w3 rfl rfl rfl (x_assign rfl rfl) ?_
    refine rv (Value.map r16) w3 rfl rfl rfl (x_assign rfl rfl) ?_
    refine wpR_nil ?_
    refine wpC_seq ?_
    refine wpC_seq ?_
    refine wpC_cut (fun ρ => ρ 0 = (Sl.v p0) ∧ ρ 2 = (Value.int .i64 p2) ∧ ρ 7 = (Sl.v r15) ∧ ρ 8 = (Value.map r16) ∧ True) ⟨e0, e2, rfl, rfl, trivial⟩ ?_
    rintro ρ ⟨e0, e2, e7, e8, -⟩
    refine wpC_region ?_
    refine rv (Value.int .i64 p2) w3 rfl rfl rfl (x_move rfl e2) ?_
    obtain ⟨b17, hb17⟩ : ∃ u, u = w3.heap.size := ⟨_, rfl⟩
    obtain ⟨w4, hw17⟩ : ∃ u, u = w3.alloc (.cells #[(Value.int .i64 p2)] 3) := ⟨_, rfl⟩
    replace h := h b17 w4 hb17 hw17
    refine rv (Sl.v (⟨some ⟨b17, 0, none⟩, 1, 1⟩ : Sl)) w4 rfl rfl rfl ((x_buildSlice (qs := [(0, (Value.int .i64 p2))]) rfl (by rfl) (BS_39_1_0 p2)).trans (by rw [← hb17, ← hw17])) ?_
    refine rv (Sl.v (⟨some ⟨b17, 0, none⟩, 1, 1⟩ : Sl)) w4 rfl rfl rfl (x_assign rfl rfl) ?_
    refine wpR_nil ?_
    refine wpC_block ?_
    obtain ⟨I18, μ18, hI18, hr18⟩ := h
    refine wpC_loop (fun (x : Sl) ρ => ρ 9 = (Sl.v x) ∧ ρ 0 = (Sl.v p0) ∧ ρ 7 = (Sl.v r15) ∧ ρ 8 = (Value.map r16) ∧ True) I18 μ18 (⟨some ⟨b17, 0, none⟩, 1, 1⟩ : Sl) ⟨rfl, e0, e7, e8, trivial⟩ hI18 ?_
    rintro l18 ρ w5 ⟨e9, e0, e7, e8, -⟩ h
    replace h := hr18 l18 w5 h
    clear hr18 hI18
    refine wpC_seq ?_
    refine wpC_seq ?_
    refine wpC_region ?_
    refine rv (Sl.v l18) w5 rfl rfl rfl (x_move rfl e9) ?_
    refine rv (Value.int .i64 (l18.len : Int)) w5 rfl rfl rfl (x_lenS (s := l18) rfl rfl isSliceT_39) ?_
    refine rv (Value.bool (decide (0 < (l18.len : Int)))) w5 rfl rfl rfl (x_gtr rfl rfl rfl) ?_
    refine wpR_nil ?_
    refine wpC_cond (b := decide (0 < (l18.len : Int))) rfl (fun hc19 => ?_) (fun hc19 => ?_)
    · replace h := h.1 hc19
      refine wpC_skip ?_
      refine wpC_block ?_
      refine wpC_seq ?_
      refine wpC_cut (fun ρ => ρ 0 = (Sl.v p0) ∧ ρ 7 = (Sl.v r15) ∧ ρ 8 = (Value.map r16) ∧ ρ 9 = (Sl.v l18) ∧ True) ⟨e0, e7, e8, e9, trivial⟩ ?_
      rintro ρ ⟨e0, e7, e8, e9, -⟩
      refine wpC_region ?_
      refine rv (Sl.v l18) w5 rfl rfl rfl (x_move rfl e9) ?_
      refine rv (Sl.v l18) w5 rfl rfl rfl (x_move rfl e9) ?_
      refine rv (Value.int .i64 (l18.len : Int)) w5 rfl rfl rfl (x_lenS (s := l18) rfl rfl isSliceT_39) ?_
      refine rv (Value.int .i64 (IntKind.i64.wrap ((l18.len : Int) - 1))) w5 rfl rfl rfl (x_sub rfl rfl rfl) ?_
      obtain ⟨q20, z20, r20, h⟩ := h
      generalize hp20 : z20.add ((IntKind.i64.wrap ((l18.len : Int) - 1) : Int).toNat * 1) = p20 at h
      refine rv (Value.pointer (some p20)) w5 rfl rfl rfl ((x_indexAddr (s := l18) rfl rfl rfl ES_39 q20 r20).trans (by rw [hp20])) ?_
      obtain ⟨x21, q21, h⟩ := h
      refine rv (Value.int .i64 x21) w5 rfl rfl rfl (x_load1 rfl rfl SH_3 q21) ?_
      refine rv (Value.int .i64 x21) w5 rfl rfl rfl (x_assign rfl rfl) ?_
      refine wpR_nil ?_
      refine wpC_seq ?_
      refine wpC_cut (fun ρ => ρ 0 = (Sl.v p0) ∧ ρ 7 = (Sl.v r15) ∧ ρ 8 = (Value.map r16) ∧ ρ 9 = (Sl.v l18) ∧ ρ 10 = (Value.int .i64 x21) ∧ True) ⟨e0, e7, e8, e9, rfl, trivial⟩ ?_
      rintro ρ ⟨e0, e7, e8, e9, e10, -⟩
      refine wpC_region ?_
      refine rv (Sl.v l18) w5 rfl rfl rfl (x_move rfl e9) ?_
      refine rv (Sl.v l18) w5 rfl rfl rfl (x_move rfl e9) ?_
      refine rv (Value.int .i64 (l18.len : Int)) w5 rfl rfl rfl (x_lenS (s := l18) rfl rfl isSliceT_39) ?_
      refine rv (Value.int .i64 (IntKind.i64.wrap ((l18.len : Int) - 1))) w5 rfl rfl rfl (x_sub rfl rfl rfl) ?_
      obtain ⟨r22, w6, q22, h⟩ := h
      refine rv (Sl.v r22) w6 rfl rfl rfl (x_sliceAt rfl rfl rfl (congrArg some rfl) rfl q22) ?_
      refine rv (Sl.v r22) w6 rfl rfl rfl (x_assign rfl rfl) ?_
      refine wpR_nil ?_
      refine wpC_seq ?_
      refine wpC_seq ?_
      refine wpC_cut (fun ρ => ρ 0 = (Sl.v p0) ∧ ρ 7 = (Sl.v r15) ∧ ρ 8 = (Value.map r16) ∧ ρ 9 = (Sl.v r22) ∧ ρ 10 = (Value.int .i64 x21) ∧ True) ⟨e0, e7, e8, rfl, e10, trivial⟩ ?_
      rintro ρ ⟨e0, e7, e8, e9, e10, -⟩
      refine wpC_region ?_
      refine rv (Value.map r16) w6 rfl rfl rfl (x_move rfl e8) ?_
      refine rv (Value.int .i64 x21) w6 rfl rfl rfl (x_move rfl e10) ?_
      obtain ⟨r23, w7, q23, h⟩ := h
      refine rv (Value.bool r23) w7 rfl rfl rfl (x_lookup rfl rfl rfl q23) ?_
      refine wpR_nil ?_
      refine wpC_cond (b := r23) rfl (fun hc24 => ?_) (fun hc24 => ?_)
      · replace h := h.1 hc24
        refine wpC_exit ?_
        exact ⟨r22, ⟨e9, e0, e7, e8, trivial⟩, h⟩
      · replace h := h.2 hc24
        refine wpC_skip ?_
        refine wpC_seq ?_
        refine wpC_cut (fun ρ => ρ 0 = (Sl.v p0) ∧ ρ 7 = (Sl.v r15) ∧ ρ 8 = (Value.map r16) ∧ ρ 9 = (Sl.v r22) ∧ ρ 10 = (Value.int .i64 x21) ∧ True) ⟨e0, e7, e8, e9, e10, trivial⟩ ?_
        rintro ρ ⟨e0, e7, e8, e9, e10, -⟩
        refine wpC_region ?_
        refine rv (Value.map r16) w7 rfl rfl rfl (x_move rfl e8) ?_
        refine rv (Value.int .i64 x21) w7 rfl rfl rfl (x_move rfl e10) ?_
        obtain ⟨w8, q25, h⟩ := h
        refine wpR_skp (w' := w8) rfl rfl (x_mapUpdate rfl rfl rfl rfl q25) ?_
        refine wpR_nil ?_
        refine wpC_seq ?_
        refine wpC_cut (fun ρ => ρ 0 = (Sl.v p0) ∧ ρ 7 = (Sl.v r15) ∧ ρ 8 = (Value.map r16) ∧ ρ 9 = (Sl.v r22) ∧ ρ 10 = (Value.int .i64 x21) ∧ True) ⟨e0, e7, e8, e9, e10, trivial⟩ ?_
        rintro ρ ⟨e0, e7, e8, e9, e10, -⟩
        refine wpC_region ?_
        refine rv (Sl.v r15) w8 rfl rfl rfl (x_move rfl e7) ?_
        refine rv (Value.int .i64 (r15.len : Int)) w8 rfl rfl rfl (x_lenS (s := r15) rfl rfl isSliceT_39) ?_
        refine rv (Value.int .i64 0) w8 rfl rfl rfl (x_move rfl rfl) ?_
        refine wpR_nil ?_
        refine wpC_block ?_
        obtain ⟨I26, μ26, hI26, hr26⟩ := h
        refine wpC_loop (fun (x : Sl × Int) ρ => ρ 9 = (Sl.v x.1) ∧ ρ 51 = (Value.int .i64 x.2) ∧ ρ 0 = (Sl.v p0) ∧ ρ 7 = (Sl.v r15) ∧ ρ 8 = (Value.map r16) ∧ ρ 10 = (Value.int .i64 x21) ∧ ρ 49 = (Sl.v r15) ∧ ρ 50 = (Value.int .i64 (r15.len : Int)) ∧ True) I26 μ26 (r22, 0) ⟨e9, rfl, e0, e7, e8, e10, rfl, rfl, trivial⟩ hI26 ?_
        rintro l26 ρ w9 ⟨e9, e51, e0, e7, e8, e10, e49, e50, -⟩ h
        replace h := hr26 l26 w9 h
        clear hr26 hI26
        refine wpC_seq ?_
        refine wpC_region ?_
        refine rv (Value.bool (decide (l26.2 < (r15.len : Int)))) w9 rfl rfl rfl (x_lss rfl e51 e50) ?_
        refine wpR_nil ?_
        refine wpC_seq ?_
        refine wpC_cond (b := decide (l26.2 < (r15.len : Int))) rfl (fun hc27 => ?_) (fun hc27 => ?_)
        · replace h := h.1 hc27
          refine wpC_skip ?_
          obtain ⟨J28, h, hk⟩ := h
          refine wpC_seqJ (fun (x : Sl) ρ => ρ 9 = (Sl.v x) ∧ ρ 0 = (Sl.v p0) ∧ ρ 7 = (Sl.v r15) ∧ ρ 8 = (Value.map r16) ∧ ρ 10 = (Value.int .i64 x21) ∧ ρ 49 = (Sl.v r15) ∧ ρ 50 = (Value.int .i64 (r15.len : Int)) ∧ ρ 51 = (Value.int .i64 l26.2) ∧ True) J28 ?_ ?_
          · clear hk
            refine wpC_block ?_
            refine wpC_seq ?_
            refine wpC_cut (fun ρ => ρ 0 = (Sl.v p0) ∧ ρ 7 = (Sl.v r15) ∧ ρ 8 = (Value.map r16) ∧ ρ 9 = (Sl.v l26.1) ∧ ρ 10 = (Value.int .i64 x21) ∧ ρ 49 = (Sl.v r15) ∧ ρ 50 = (Value.int .i64 (r15.len : Int)) ∧ ρ 51 = (Value.int .i64 l26.2) ∧ True) ⟨e0, e7, e8, e9, e10, e49, e50, e51, trivial⟩ ?_
            rintro ρ ⟨e0, e7, e8, e9, e10, e49, e50, e51, -⟩
            refine wpC_region ?_
            obtain ⟨q30, z30, r30, h⟩ := h
            generalize hp30 : z30.add ((l26.2 : Int).toNat * 1) = p30 at h
            refine rv (Value.pointer (some p30)) w9 rfl rfl rfl ((x_indexAddr (s := r15) rfl e49 e51 ES_39 q30 r30).trans (by rw [hp30])) ?_
            obtain ⟨x31, q31, h⟩ := h
            refine rv (Value.int .i64 x31) w9 rfl rfl rfl (x_load1 rfl rfl SH_3 q31) ?_
            refine rv (Value.int .i64 x31) w9 rfl rfl rfl (x_assign rfl rfl) ?_
            refine wpR_nil ?_
            refine wpC_seq ?_
            refine wpC_cut (fun ρ => ρ 0 = (Sl.v p0) ∧ ρ 7 = (Sl.v r15) ∧ ρ 8 = (Value.map r16) ∧ ρ 9 = (Sl.v l26.1) ∧ ρ 10 = (Value.int .i64 x21) ∧ ρ 12 = (Value.int .i64 x31) ∧ ρ 49 = (Sl.v r15) ∧ ρ 50 = (Value.int .i64 (r15.len : Int)) ∧ ρ 51 = (Value.int .i64 l26.2) ∧ True) ⟨e0, e7, e8, e9, e10, rfl, e49, e50, e51, trivial⟩ ?_
            rintro ρ ⟨e0, e7, e8, e9, e10, e12, e49, e50, e51, -⟩
            refine wpC_region ?_
            refine rv (Sl.v p0) w9 rfl rfl rfl (x_move rfl e0) ?_
            refine rv (Value.int .i64 x31) w9 rfl rfl rfl (x_move rfl e12) ?_
            obtain ⟨q32, z32, r32, h⟩ := h
            generalize hp32 : z32.add ((x31 : Int).toNat * 3) = p32 at h
            refine rv (Value.pointer (some p32)) w9 rfl rfl rfl ((x_indexAddr (s := p0) rfl rfl rfl ES_47 q32 r32).trans (by rw [hp32])) ?_
            refine rv (Value.pointer (some (p32.add 0))) w9 rfl rfl rfl (x_fieldAddr rfl rfl FA_56_0) ?_
            obtain ⟨x33, q33, h⟩ := h
            refine rv (Value.int .i64 x33) w9 rfl rfl rfl (x_load1 rfl rfl SH_3 q33) ?_
            refine rv (Value.int .i64 x21) w9 rfl rfl rfl (x_move rfl e10) ?_
            refine rv (Value.bool (decide (x33 = x21))) w9 rfl rfl rfl (x_eql rfl rfl rfl) ?_
            refine wpR_nil ?_
            refine wpC_cond (b := decide (x33 = x21)) rfl (fun hc34 => ?_) (fun hc34 => ?_)
            · replace h := h.1 hc34
              refine wpC_cut (fun ρ => ρ 0 = (Sl.v p0) ∧ ρ 7 = (Sl.v r15) ∧ ρ 8 = (Value.map r16) ∧ ρ 9 = (Sl.v l26.1) ∧ ρ 10 = (Value.int .i64 x21) ∧ ρ 12 = (Value.int .i64 x31) ∧ ρ 49 = (Sl.v r15) ∧ ρ 50 = (Value.int .i64 (r15.len : Int)) ∧ ρ 51 = (Value.int .i64 l26.2) ∧ True) ⟨e0, e7, e8, e9, e10, e12, e49, e50, e51, trivial⟩ ?_
              rintro ρ ⟨e0, e7, e8, e9, e10, e12, e49, e50, e51, -⟩
              refine wpC_region ?_
              refine rv (Sl.v l26.1) w9 rfl rfl rfl (x_move rfl e9) ?_
              refine rv (Sl.v p0) w9 rfl rfl rfl (x_move rfl e0) ?_
              refine rv (Value.int .i64 x31) w9 rfl rfl rfl (x_move rfl e12) ?_
              obtain ⟨q35, z35, r35, h⟩ := h
              generalize hp35 : z35.add ((x31 : Int).toNat * 3) = p35 at h
              refine rv (Value.pointer (some p35)) w9 rfl rfl rfl ((x_indexAddr (s := p0) rfl rfl rfl ES_47 q35 r35).trans (by rw [hp35])) ?_
              refine rv (Value.pointer (some (p35.add 1))) w9 rfl rfl rfl (x_fieldAddr rfl rfl FA_56_1) ?_
              obtain ⟨x36, q36, h⟩ := h
              refine rv (Value.int .i64 x36) w9 rfl rfl rfl (x_load1 rfl rfl SH_3 q36) ?_
              obtain ⟨b37, hb37⟩ : ∃ u, u = w9.heap.size := ⟨_, rfl⟩
              obtain ⟨w11, hw37⟩ : ∃ u, u = w9.alloc (.cells #[(Value.int .i64 x36)] 3) := ⟨_, rfl⟩
              replace h := h b37 w11 hb37 hw37
              refine rv (Sl.v (⟨some ⟨b37, 0, none⟩, 1, 1⟩ : Sl)) w11 rfl rfl rfl ((x_buildSlice (qs := [(0, (Value.int .i64 x36))]) rfl (by rfl) (BS_39_1_0 x36)).trans (by rw [← hb37, ← hw37])) ?_
              obtain ⟨r38, w12, q38, h⟩ := h
              refine rv (Sl.v r38) w12 rfl rfl rfl (x_append (s := l26.1) (u := (⟨some ⟨b37, 0, none⟩, 1, 1⟩ : Sl)) rfl rfl rfl rfl q38) ?_
              refine rv (Sl.v r38) w12 rfl rfl rfl (x_assign rfl rfl) ?_
              refine wpR_nil ?_
              exact ⟨r38, ⟨rfl, e0, e7, e8, e10, e49, e50, e51, trivial⟩, h⟩
            · replace h := h.2 hc34
              refine wpC_skip ?_
              exact ⟨l26.1, ⟨e9, e0, e7, e8, e10, e49, e50, e51, trivial⟩, h⟩
          clear h
          rintro l29 ρ w10 ⟨e9, e0, e7, e8, e10, e49, e50, e51, -⟩ h
          replace h := hk l29 w10 h
          clear hk
          refine wpC_region ?_
          refine rv (Value.int .i64 (IntKind.i64.wrap (l26.2 + 1))) w10 rfl rfl rfl (x_add rfl e51 rfl) ?_
          refine rv (Value.int .i64 (IntKind.i64.wrap (l26.2 + 1))) w10 rfl rfl rfl (x_move rfl rfl) ?_
          refine wpR_nil ?_
          exact ⟨(l29, IntKind.i64.wrap (l26.2 + 1)), ⟨e9, rfl, e0, e7, e8, e10, e49, e50, trivial⟩, h⟩
        · replace h := h.2 hc27
          refine wpC_exit ?_
          exact ⟨l26.1, ⟨e9, e0, e7, e8, trivial⟩, h⟩
    · replace h := h.2 hc19
      refine wpC_exit ?_
      refine wpC_seq ?_
      refine wpC_cut (fun ρ => ρ 8 = (Value.map r16) ∧ True) ⟨e8, trivial⟩ ?_
      rintro ρ ⟨e8, -⟩
      refine wpC_region ?_
      refine rv (Value.map r16) w5 rfl rfl rfl (x_move rfl e8) ?_
      refine wpR_enter rfl rfl rfl (x_call (vs := [(Value.map r16)]) rfl rfl (mapl_cons rfl mapl_nil) Tryz.func41 NN_41 NB_41) (Calls.mono h ?_)
      rintro _ w13 ⟨r39, rfl, h⟩
      refine ⟨_, rfl, ?_⟩
      refine wpR_enter rfl rfl rfl (x_call (vs := [r39]) rfl rfl (mapl_cons rfl mapl_nil) Tryz.func40 NN_40 NB_40) (Calls.mono h ?_)
      rintro _ w14 ⟨r40, rfl, h⟩
      refine ⟨_, rfl, ?_⟩
      refine rv (Sl.v r40) w14 rfl rfl rfl (x_assign rfl rfl) ?_
      refine wpR_nil ?_
      refine wpC_ret ?_
      exact ⟨.inl rfl, fun a ha => ⟨_, results_rep1 rfl ha rfl, r40, rfl, h⟩⟩

/-- linguaref37.Has -/
def F20 (p0 : Sl) (p1 : Int) (w0 : World) (K : Bool → World → Prop) : Prop :=
  lp (fun (next9 : Int → World → Prop) l9 w1 =>
    cnd (decide (l9 < (p0.len : Int)))
      (
      ix p0 l9 1 fun p11 =>
      ld (Value.int .i64) p11 w1 fun x12 =>
      cnd (decide (x12 = p1))
        (
        K true w1
        )
        (
        next9 (IntKind.i64.wrap (l9 + 1)) w1
        )
      )
      (
      K false w1
      )
  ) 0 w0
set_option maxRecDepth 100000 in
theorem D20 (p0 : Sl) (p1 : Int) (w0 : World) (K : Bool → World → Prop) (h : F20 p0 p1 w0 K) : callC Tryz.prog 20 #[(Sl.v p0), (Value.int .i64 p1)] (fun (r : Bool) => (Value.bool r)) w0 K := by
  unfold F20 at h
  refine calls_of_wpC Tryz.func20 rfl 18 rfl (by simp) ?_
  intro ρ hρ
  have e0 : ρ 0 = (Sl.v p0) := hρ 0
  have e1 : ρ 1 = (Value.int .i64 p1) := hρ 1
  clear hρ
  refine wpC_seq ?_
  refine wpC_region ?_
  refine rv (Value.bool false) w0 rfl rfl rfl (x_assign rfl rfl) ?_
  refine wpR_nil ?_
  refine wpC_seq ?_
  refine wpC_seq ?_
  refine wpC_cut (fun ρ => ρ 0 = (Sl.v p0) ∧ ρ 1 = (Value.int .i64 p1) ∧ True) ⟨e0, e1, trivial⟩ ?_
  rintro ρ ⟨e0, e1, -⟩
  refine wpC_region ?_
  refine rv (Value.int .i64 0) w0 rfl rfl rfl (x_assign rfl rfl) ?_
  refine wpR_nil ?_
  refine wpC_block ?_
  obtain ⟨I9, μ9, hI9, hr9⟩ := h
  refine wpC_loop (fun (x : Int) ρ => ρ 5 = (Value.int .i64 x) ∧ ρ 0 = (Sl.v p0) ∧ ρ 1 = (Value.int .i64 p1) ∧ True) I9 μ9 0 ⟨rfl, e0, e1, trivial⟩ hI9 ?_
  rintro l9 ρ w1 ⟨e5, e0, e1, -⟩ h
  replace h := hr9 l9 w1 h
  clear hr9 hI9
  refine wpC_seq ?_
  refine wpC_seq ?_
  refine wpC_region ?_
  refine rv (Value.int .i64 l9) w1 rfl rfl rfl (x_move rfl e5) ?_
  refine rv (Sl.v p0) w1 rfl rfl rfl (x_move rfl e0) ?_
  refine rv (Value.int .i64 (p0.len : Int)) w1 rfl rfl rfl (x_lenS (s := p0) rfl rfl isSliceT_39) ?_
  refine rv (Value.bool (decide (l9 < (p0.len : Int)))) w1 rfl rfl rfl (x_lss rfl rfl rfl) ?_
  refine wpR_nil ?_
  refine wpC_cond (b := decide (l9 < (p0.len : Int))) rfl (fun hc10 => ?_) (fun hc10 => ?_)
  · replace h := h.1 hc10
    refine wpC_skip ?_
    refine wpC_seq ?_
    refine wpC_block ?_
    refine wpC_seq ?_
    refine wpC_cut (fun ρ => ρ 0 = (Sl.v p0) ∧ ρ 1 = (Value.int .i64 p1) ∧ ρ 5 = (Value.int .i64 l9) ∧ True) ⟨e0, e1, e5, trivial⟩ ?_
    rintro ρ ⟨e0, e1, e5, -⟩
    refine wpC_region ?_
    refine rv (Sl.v p0) w1 rfl rfl rfl (x_move rfl e0) ?_
    refine rv (Value.int .i64 l9) w1 rfl rfl rfl (x_move rfl e5) ?_
    obtain ⟨q11, z11, r11, h⟩ := h
    generalize hp11 : z11.add ((l9 : Int).toNat * 1) = p11 at h
    refine rv (Value.pointer (some p11)) w1 rfl rfl rfl ((x_indexAddr (s := p0) rfl rfl rfl ES_39 q11 r11).trans (by rw [hp11])) ?_
    obtain ⟨x12, q12, h⟩ := h
    refine rv (Value.int .i64 x12) w1 rfl rfl rfl (x_load1 rfl rfl SH_3 q12) ?_
    refine rv (Value.int .i64 p1) w1 rfl rfl rfl (x_move rfl e1) ?_
    refine rv (Value.bool (decide (x12 = p1))) w1 rfl rfl rfl (x_eql rfl rfl rfl) ?_
    refine wpR_nil ?_
    refine wpC_cond (b := decide (x12 = p1)) rfl (fun hc13 => ?_) (fun hc13 => ?_)
    · replace h := h.1 hc13
      refine wpC_seq ?_
      refine wpC_cut (fun ρ => True) trivial ?_
      rintro ρ -
      refine wpC_region ?_
      refine rv (Value.bool true) w1 rfl rfl rfl (x_assign rfl rfl) ?_
      refine wpR_nil ?_
      refine wpC_ret ?_
      exact ⟨.inl rfl, fun a ha => ⟨_, results_rep1 rfl ha rfl, true, rfl, h⟩⟩
    · replace h := h.2 hc13
      refine wpC_skip ?_
      refine wpC_cut (fun ρ => ρ 0 = (Sl.v p0) ∧ ρ 1 = (Value.int .i64 p1) ∧ ρ 5 = (Value.int .i64 l9) ∧ True) ⟨e0, e1, e5, trivial⟩ ?_
      rintro ρ ⟨e0, e1, e5, -⟩
      refine wpC_region ?_
      refine rv (Value.int .i64 l9) w1 rfl rfl rfl (x_move rfl e5) ?_
      refine rv (Value.int .i64 (IntKind.i64.wrap (l9 + 1))) w1 rfl rfl rfl (x_add rfl rfl rfl) ?_
      refine rv (Value.int .i64 (IntKind.i64.wrap (l9 + 1))) w1 rfl rfl rfl (x_assign rfl rfl) ?_
      refine wpR_nil ?_
      exact ⟨IntKind.i64.wrap (l9 + 1), ⟨rfl, e0, e1, trivial⟩, h⟩
  · replace h := h.2 hc10
    refine wpC_exit ?_
    refine wpC_seq ?_
    refine wpC_cut (fun ρ => True) trivial ?_
    rintro ρ -
    refine wpC_region ?_
    refine rv (Value.bool false) w1 rfl rfl rfl (x_assign rfl rfl) ?_
    refine wpR_nil ?_
    refine wpC_ret ?_
    exact ⟨.inl rfl, fun a ha => ⟨_, results_rep1 rfl ha rfl, false, rfl, h⟩⟩

/-- ring.others -/
def F39 (p0 : Sl) (p1 : Sl) (w0 : World) (K : Sl → World → Prop) : Prop :=
  lp (fun (next9 : (Sl × Int) → World → Prop) l9 w1 =>
    cnd (decide (l9.2 < (p0.len : Int)))
      (
      jn (fun (J11 : Sl → World → Prop) =>
        callC Tryz.prog 62 #[(Sl.v p1), (Value.int .i64 l9.2)] (fun (r : Bool) => (Value.bool r)) w1 fun r13 w3 =>
        cnd (!r13)
          (
          nw 3 #[(Value.int .i64 l9.2)] w3 fun b15 w4 =>
          rn Tryz.prog (Builtin.append_ #[39, 39] 39 #[Sl.v l9.1, Sl.v (⟨some ⟨b15, 0, none⟩, 1, 1⟩ : Sl)]) Sl.v w4 fun r16 w5 =>
          J11 r16 w5
          )
          (
          J11 l9.1 w3
          )
      )
      fun l12 w2 =>
      next9 (l12, IntKind.i64.wrap (l9.2 + 1)) w2
      )
      (
      K l9.1 w1
      )
  ) (Sl.nil, 0) w0
set_option maxRecDepth 100000 in
theorem D39 (p0 : Sl) (p1 : Sl) (w0 : World) (K : Sl → World → Prop) (h : F39 p0 p1 w0 K) : callC Tryz.prog 39 #[(Sl.v p0), (Sl.v p1)] (fun (r : Sl) => (Sl.v r)) w0 K := by
  unfold F39 at h
  refine calls_of_wpC Tryz.func39 rfl 22 rfl (by simp) ?_
  intro ρ hρ
  have e0 : ρ 0 = (Sl.v p0) := hρ 0
  have e1 : ρ 1 = (Sl.v p1) := hρ 1
  clear hρ
  refine wpC_seq ?_
  refine wpC_region ?_
  refine rv (Sl.v Sl.nil) w0 rfl rfl rfl (x_assign rfl rfl) ?_
  refine wpR_nil ?_
  refine wpC_seq ?_
  refine wpC_cut (fun ρ => ρ 0 = (Sl.v p0) ∧ ρ 1 = (Sl.v p1) ∧ True) ⟨e0, e1, trivial⟩ ?_
  rintro ρ ⟨e0, e1, -⟩
  refine wpC_region ?_
  refine rv (Sl.v Sl.nil) w0 rfl rfl rfl (x_assign rfl rfl) ?_
  refine wpR_nil ?_
  refine wpC_seq ?_
  refine wpC_seq ?_
  refine wpC_cut (fun ρ => ρ 0 = (Sl.v p0) ∧ ρ 1 = (Sl.v p1) ∧ ρ 5 = (Sl.v Sl.nil) ∧ True) ⟨e0, e1, rfl, trivial⟩ ?_
  rintro ρ ⟨e0, e1, e5, -⟩
  refine wpC_region ?_
  refine rv (Sl.v p0) w0 rfl rfl rfl (x_move rfl e0) ?_
  refine rv (Value.int .i64 (p0.len : Int)) w0 rfl rfl rfl (x_lenS (s := p0) rfl rfl isSliceT_47) ?_
  refine rv (Value.int .i64 0) w0 rfl rfl rfl (x_move rfl rfl) ?_
  refine wpR_nil ?_
  refine wpC_block ?_
  obtain ⟨I9, μ9, hI9, hr9⟩ := h
  refine wpC_loop (fun (x : Sl × Int) ρ => ρ 5 = (Sl.v x.1) ∧ ρ 9 = (Value.int .i64 x.2) ∧ ρ 1 = (Sl.v p1) ∧ ρ 8 = (Value.int .i64 (p0.len : Int)) ∧ True) I9 μ9 (Sl.nil, 0) ⟨e5, rfl, e1, rfl, trivial⟩ hI9 ?_
  rintro l9 ρ w1 ⟨e5, e9, e1, e8, -⟩ h
  replace h := hr9 l9 w1 h
  clear hr9 hI9
  refine wpC_seq ?_
  refine wpC_region ?_
  refine rv (Value.bool (decide (l9.2 < (p0.len : Int)))) w1 rfl rfl rfl (x_lss rfl e9 e8) ?_
  refine wpR_nil ?_
  refine wpC_seq ?_
  refine wpC_cond (b := decide (l9.2 < (p0.len : Int))) rfl (fun hc10 => ?_) (fun hc10 => ?_)
  · replace h := h.1 hc10
    refine wpC_skip ?_
    obtain ⟨J11, h, hk⟩ := h
    refine wpC_seqJ (fun (x : Sl) ρ => ρ 5 = (Sl.v x) ∧ ρ 1 = (Sl.v p1) ∧ ρ 8 = (Value.int .i64 (p0.len : Int)) ∧ ρ 9 = (Value.int .i64 l9.2) ∧ True) J11 ?_ ?_
    · clear hk
      refine wpC_block ?_
      refine wpC_seq ?_
      refine wpC_cut (fun ρ => ρ 1 = (Sl.v p1) ∧ ρ 5 = (Sl.v l9.1) ∧ ρ 8 = (Value.int .i64 (p0.len : Int)) ∧ ρ 9 = (Value.int .i64 l9.2) ∧ True) ⟨e1, e5, e8, e9, trivial⟩ ?_
      rintro ρ ⟨e1, e5, e8, e9, -⟩
      refine wpC_region ?_
      refine rv (Value.int .i64 l9.2) w1 rfl rfl rfl (x_move rfl e9) ?_
      refine rv (Value.int .i64 l9.2) w1 rfl rfl rfl (x_assign rfl rfl) ?_
      refine wpR_nil ?_
      refine wpC_seq ?_
      refine wpC_cut (fun ρ => ρ 1 = (Sl.v p1) ∧ ρ 5 = (Sl.v l9.1) ∧ ρ 6 = (Value.int .i64 l9.2) ∧ ρ 8 = (Value.int .i64 (p0.len : Int)) ∧ ρ 9 = (Value.int .i64 l9.2) ∧ True) ⟨e1, e5, rfl, e8, e9, trivial⟩ ?_
      rintro ρ ⟨e1, e5, e6, e8, e9, -⟩
      refine wpC_region ?_
      refine rv (Sl.v p1) w1 rfl rfl rfl (x_move rfl e1) ?_
      refine rv (Value.int .i64 l9.2) w1 rfl rfl rfl (x_move rfl e6) ?_
      refine wpR_enter rfl rfl rfl (x_call (vs := [(Sl.v p1), (Value.int .i64 l9.2)]) rfl rfl (mapl_cons rfl (mapl_cons rfl mapl_nil)) Tryz.func62 NN_62 NB_62) (Calls.mono h ?_)
      rintro _ w3 ⟨r13, rfl, h⟩
      refine ⟨_, rfl, ?_⟩
      refine rv (Value.bool (!r13)) w3 rfl rfl rfl (x_not rfl rfl) ?_
      refine wpR_nil ?_
      refine wpC_cond (b := !r13) rfl (fun hc14 => ?_) (fun hc14 => ?_)
      · replace h := h.1 hc14
        refine wpC_cut (fun ρ => ρ 1 = (Sl.v p1) ∧ ρ 5 = (Sl.v l9.1) ∧ ρ 6 = (Value.int .i64 l9.2) ∧ ρ 8 = (Value.int .i64 (p0.len : Int)) ∧ ρ 9 = (Value.int .i64 l9.2) ∧ True) ⟨e1, e5, e6, e8, e9, trivial⟩ ?_
        rintro ρ ⟨e1, e5, e6, e8, e9, -⟩
        refine wpC_region ?_
        refine rv (Sl.v l9.1) w3 rfl rfl rfl (x_move rfl e5) ?_
        refine rv (Value.int .i64 l9.2) w3 rfl rfl rfl (x_move rfl e6) ?_
        obtain ⟨b15, hb15⟩ : ∃ u, u = w3.heap.size := ⟨_, rfl⟩
        obtain ⟨w4, hw15⟩ : ∃ u, u = w3.alloc (.cells #[(Value.int .i64 l9.2)] 3) := ⟨_, rfl⟩
        replace h := h b15 w4 hb15 hw15
        refine rv (Sl.v (⟨some ⟨b15, 0, none⟩, 1, 1⟩ : Sl)) w4 rfl rfl rfl ((x_buildSlice (qs := [(0, (Value.int .i64 l9.2))]) rfl (by rfl) (BS_39_1_0 l9.2)).trans (by rw [← hb15, ← hw15])) ?_
        obtain ⟨r16, w5, q16, h⟩ := h
        refine rv (Sl.v r16) w5 rfl rfl rfl (x_append (s := l9.1) (u := (⟨some ⟨b15, 0, none⟩, 1, 1⟩ : Sl)) rfl rfl rfl rfl q16) ?_
        refine rv (Sl.v r16) w5 rfl rfl rfl (x_assign rfl rfl) ?_
        refine wpR_nil ?_
        exact ⟨r16, ⟨rfl, e1, e8, e9, trivial⟩, h⟩
      · replace h := h.2 hc14
        refine wpC_skip ?_
        exact ⟨l9.1, ⟨e5, e1, e8, e9, trivial⟩, h⟩
    clear h
    rintro l12 ρ w2 ⟨e5, e1, e8, e9, -⟩ h
    replace h := hk l12 w2 h
    clear hk
    refine wpC_region ?_
    refine rv (Value.int .i64 (IntKind.i64.wrap (l9.2 + 1))) w2 rfl rfl rfl (x_add rfl e9 rfl) ?_
    refine rv (Value.int .i64 (IntKind.i64.wrap (l9.2 + 1))) w2 rfl rfl rfl (x_move rfl rfl) ?_
    refine wpR_nil ?_
    exact ⟨(l12, IntKind.i64.wrap (l9.2 + 1)), ⟨e5, rfl, e1, e8, trivial⟩, h⟩
  · replace h := h.2 hc10
    refine wpC_exit ?_
    refine wpC_seq ?_
    refine wpC_cut (fun ρ => ρ 5 = (Sl.v l9.1) ∧ True) ⟨e5, trivial⟩ ?_
    rintro ρ ⟨e5, -⟩
    refine wpC_region ?_
    refine rv (Sl.v l9.1) w1 rfl rfl rfl (x_move rfl e5) ?_
    refine rv (Sl.v l9.1) w1 rfl rfl rfl (x_assign rfl rfl) ?_
    refine wpR_nil ?_
    refine wpC_ret ?_
    exact ⟨.inl rfl, fun a ha => ⟨_, results_rep1 rfl ha rfl, l9.1, rfl, h⟩⟩

/-- slices.Contains[[]int,int] -/
def F62 (p0 : Sl) (p1 : Int) (w0 : World) (K : Bool → World → Prop) : Prop :=
  callC Tryz.prog 81 #[(Sl.v p0), (Value.int .i64 p1)] (fun (r : Int) => (Value.int .i64 r)) w0 fun r9 w1 =>
  K (decide (0 ≤ r9)) w1
set_option maxRecDepth 100000 in
theorem D62 (p0 : Sl) (p1 : Int) (w0 : World) (K : Bool → World → Prop) (h : F62 p0 p1 w0 K) : callC Tryz.prog 62 #[(Sl.v p0), (Value.int .i64 p1)] (fun (r : Bool) => (Value.bool r)) w0 K := by
  unfold F62 at h
  refine calls_of_wpC Tryz.func62 rfl 9 rfl (by simp) ?_
  intro ρ hρ
  have e0 : ρ 0 = (Sl.v p0) := hρ 0
  have e1 : ρ 1 = (Value.int .i64 p1) := hρ 1
  clear hρ
  refine wpC_seq ?_
  refine wpC_region ?_
  refine rv (Value.bool false) w0 rfl rfl rfl (x_assign rfl rfl) ?_
  refine wpR_nil ?_
  refine wpC_seq ?_
  refine wpC_cut (fun ρ => ρ 0 = (Sl.v p0) ∧ ρ 1 = (Value.int .i64 p1) ∧ True) ⟨e0, e1, trivial⟩ ?_
  rintro ρ ⟨e0, e1, -⟩
  refine wpC_region ?_
  refine rv (Sl.v p0) w0 rfl rfl rfl (x_move rfl e0) ?_
  refine rv (Value.int .i64 p1) w0 rfl rfl rfl (x_move rfl e1) ?_
  refine wpR_enter rfl rfl rfl (x_call (vs := [(Sl.v p0), (Value.int .i64 p1)]) rfl rfl (mapl_cons rfl (mapl_cons rfl mapl_nil)) Tryz.func81 NN_81 NB_81) (Calls.mono h ?_)
  rintro _ w1 ⟨r9, rfl, h⟩
  refine ⟨_, rfl, ?_⟩
  refine rv (Value.bool (decide (0 ≤ r9))) w1 rfl rfl rfl (x_geq rfl rfl rfl) ?_
  refine rv (Value.bool (decide (0 ≤ r9))) w1 rfl rfl rfl (x_assign rfl rfl) ?_
  refine wpR_nil ?_
  refine wpC_ret ?_
  exact ⟨.inl rfl, fun a ha => ⟨_, results_rep1 rfl ha rfl, decide (0 ≤ r9), rfl, h⟩⟩

/-- slices.Index[[]int,int] -/
def F81 (p0 : Sl) (p1 : Int) (w0 : World) (K : Int → World → Prop) : Prop :=
  lp (fun (next9 : Int → World → Prop) l9 w1 =>
    cnd (decide (l9 < (p0.len : Int)))
      (
      ix p0 l9 1 fun p11 =>
      ld (Value.int .i64) p11 w1 fun x12 =>
      cnd (decide (p1 = x12))
        (
        K l9 w1
        )
        (
        next9 (IntKind.i64.wrap (l9 + 1)) w1
        )
      )
      (
      K (-1) w1
      )
  ) 0 w0
set_option maxRecDepth 100000 in
theorem D81 (p0 : Sl) (p1 : Int) (w0 : World) (K : Int → World → Prop) (h : F81 p0 p1 w0 K) : callC Tryz.prog 81 #[(Sl.v p0), (Value.int .i64 p1)] (fun (r : Int) => (Value.int .i64 r)) w0 K := by
  unfold F81 at h
  refine calls_of_wpC Tryz.func81 rfl 19 rfl (by simp) ?_
  intro ρ hρ
  have e0 : ρ 0 = (Sl.v p0) := hρ 0
  have e1 : ρ 1 = (Value.int .i64 p1) := hρ 1
  clear hρ
  refine wpC_seq ?_
  refine wpC_region ?_
  refine rv (Value.int .i64 0) w0 rfl rfl rfl (x_assign rfl rfl) ?_
  refine wpR_nil ?_
  refine wpC_seq ?_
  refine wpC_seq ?_
  refine wpC_cut (fun ρ => ρ 0 = (Sl.v p0) ∧ ρ 1 = (Value.int .i64 p1) ∧ True) ⟨e0, e1, trivial⟩ ?_
  rintro ρ ⟨e0, e1, -⟩
  refine wpC_region ?_
  refine rv (Sl.v p0) w0 rfl rfl rfl (x_move rfl e0) ?_
  refine rv (Value.int .i64 (p0.len : Int)) w0 rfl rfl rfl (x_lenS (s := p0) rfl rfl isSliceT_39) ?_
  refine rv (Value.int .i64 0) w0 rfl rfl rfl (x_move rfl rfl) ?_
  refine wpR_nil ?_
  refine wpC_block ?_
  obtain ⟨I9, μ9, hI9, hr9⟩ := h
  refine wpC_loop (fun (x : Int) ρ => ρ 8 = (Value.int .i64 x) ∧ ρ 0 = (Sl.v p0) ∧ ρ 1 = (Value.int .i64 p1) ∧ ρ 7 = (Value.int .i64 (p0.len : Int)) ∧ True) I9 μ9 0 ⟨rfl, e0, e1, rfl, trivial⟩ hI9 ?_
  rintro l9 ρ w1 ⟨e8, e0, e1, e7, -⟩ h
  replace h := hr9 l9 w1 h
  clear hr9 hI9
  refine wpC_seq ?_
  refine wpC_region ?_
  refine rv (Value.bool (decide (l9 < (p0.len : Int)))) w1 rfl rfl rfl (x_lss rfl e8 e7) ?_
  refine wpR_nil ?_
  refine wpC_seq ?_
  refine wpC_cond (b := decide (l9 < (p0.len : Int))) rfl (fun hc10 => ?_) (fun hc10 => ?_)
  · replace h := h.1 hc10
    refine wpC_skip ?_
    refine wpC_seq ?_
    refine wpC_block ?_
    refine wpC_seq ?_
    refine wpC_cut (fun ρ => ρ 0 = (Sl.v p0) ∧ ρ 1 = (Value.int .i64 p1) ∧ ρ 7 = (Value.int .i64 (p0.len : Int)) ∧ ρ 8 = (Value.int .i64 l9) ∧ True) ⟨e0, e1, e7, e8, trivial⟩ ?_
    rintro ρ ⟨e0, e1, e7, e8, -⟩
    refine wpC_region ?_
    refine rv (Value.int .i64 l9) w1 rfl rfl rfl (x_move rfl e8) ?_
    refine rv (Value.int .i64 l9) w1 rfl rfl rfl (x_assign rfl rfl) ?_
    refine wpR_nil ?_
    refine wpC_seq ?_
    refine wpC_cut (fun ρ => ρ 0 = (Sl.v p0) ∧ ρ 1 = (Value.int .i64 p1) ∧ ρ 5 = (Value.int .i64 l9) ∧ ρ 7 = (Value.int .i64 (p0.len : Int)) ∧ ρ 8 = (Value.int .i64 l9) ∧ True) ⟨e0, e1, rfl, e7, e8, trivial⟩ ?_
    rintro ρ ⟨e0, e1, e5, e7, e8, -⟩
    refine wpC_region ?_
    refine rv (Value.int .i64 p1) w1 rfl rfl rfl (x_move rfl e1) ?_
    refine rv (Sl.v p0) w1 rfl rfl rfl (x_move rfl e0) ?_
    refine rv (Value.int .i64 l9) w1 rfl rfl rfl (x_move rfl e5) ?_
    obtain ⟨q11, z11, r11, h⟩ := h
    generalize hp11 : z11.add ((l9 : Int).toNat * 1) = p11 at h
    refine rv (Value.pointer (some p11)) w1 rfl rfl rfl ((x_indexAddr (s := p0) rfl rfl rfl ES_39 q11 r11).trans (by rw [hp11])) ?_
    obtain ⟨x12, q12, h⟩ := h
    refine rv (Value.int .i64 x12) w1 rfl rfl rfl (x_load1 rfl rfl SH_3 q12) ?_
    refine rv (Value.bool (decide (p1 = x12))) w1 rfl rfl rfl (x_eql rfl rfl rfl) ?_
    refine wpR_nil ?_
    refine wpC_cond (b := decide (p1 = x12)) rfl (fun hc13 => ?_) (fun hc13 => ?_)
    · replace h := h.1 hc13
      refine wpC_seq ?_
      refine wpC_cut (fun ρ => ρ 5 = (Value.int .i64 l9) ∧ True) ⟨e5, trivial⟩ ?_
      rintro ρ ⟨e5, -⟩
      refine wpC_region ?_
      refine rv (Value.int .i64 l9) w1 rfl rfl rfl (x_move rfl e5) ?_
      refine rv (Value.int .i64 l9) w1 rfl rfl rfl (x_assign rfl rfl) ?_
      refine wpR_nil ?_
      refine wpC_ret ?_
      exact ⟨.inl rfl, fun a ha => ⟨_, results_rep1 rfl ha rfl, l9, rfl, h⟩⟩
    · replace h := h.2 hc13
      refine wpC_skip ?_
      refine wpC_cut (fun ρ => ρ 0 = (Sl.v p0) ∧ ρ 1 = (Value.int .i64 p1) ∧ ρ 7 = (Value.int .i64 (p0.len : Int)) ∧ ρ 8 = (Value.int .i64 l9) ∧ True) ⟨e0, e1, e7, e8, trivial⟩ ?_
      rintro ρ ⟨e0, e1, e7, e8, -⟩
      refine wpC_region ?_
      refine rv (Value.int .i64 (IntKind.i64.wrap (l9 + 1))) w1 rfl rfl rfl (x_add rfl e8 rfl) ?_
      refine rv (Value.int .i64 (IntKind.i64.wrap (l9 + 1))) w1 rfl rfl rfl (x_move rfl rfl) ?_
      refine wpR_nil ?_
      exact ⟨IntKind.i64.wrap (l9 + 1), ⟨rfl, e0, e1, e7, trivial⟩, h⟩
  · replace h := h.2 hc10
    refine wpC_exit ?_
    refine wpC_seq ?_
    refine wpC_cut (fun ρ => True) trivial ?_
    rintro ρ -
    refine wpC_region ?_
    refine rv (Value.int .i64 (-1)) w1 rfl rfl rfl (x_assign rfl rfl) ?_
    refine wpR_nil ?_
    refine wpC_ret ?_
    exact ⟨.inl rfl, fun a ha => ⟨_, results_rep1 rfl ha rfl, (-1), rfl, h⟩⟩


end Go.Proofs.YtgbhghoppjfofaaGreat
