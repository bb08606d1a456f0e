import Derived.Test.YtgbhghoppjfofaaGreatRows
import Derived.Test.YtgbhghoppjfofaaGreatDecRaw
namespace Go.Proofs.YtgbhghoppjfofaaGreat
open Go.Dec
set_option maxHeartbeats 400000
set_option maxRecDepth 100000

@[reducible] def T64 : Type := ByteArray × Int × Int × Int × Bool × Int × Bool × Bool × Int × Int × Int × Int × Sl × Int × Int × Int × Int × Bool × Int × Int × Int × Int
@[reducible] def V64 (x0 : ByteArray) (x1 : Int) (x2 : Int) (x3 : Int) (x4 : Bool) (x5 : Int) (x6 : Bool) (x7 : Bool) (x8 : Int) (x9 : Int) (x10 : Int) (x11 : Int) (x12 : Sl) (x13 : Int) (x14 : Int) (x15 : Int) (x16 : Int) (x17 : Bool) (x18 : Int) (x19 : Int) (x20 : Int) (x21 : Int) : Value := .agg #[.string x0, .int .i64 x1, .int .i64 x2, .int .i64 x3, .bool x4, .int .i64 x5, .bool x6, .bool x7, .int .i64 x8, .int .i64 x9, .int .i64 x10, .int .i64 x11, Sl.v x12, .int .i64 x13, .int .i64 x14, .int .i64 x15, .int .i64 x16, .bool x17, .int .i64 x18, .int .i64 x19, .int .i64 x20, .int .i64 x21]
@[reducible] def A64 (x0 : ByteArray) (x1 : Int) (x2 : Int) (x3 : Int) (x4 : Bool) (x5 : Int) (x6 : Bool) (x7 : Bool) (x8 : Int) (x9 : Int) (x10 : Int) (x11 : Int) (x12 : Sl) (x13 : Int) (x14 : Int) (x15 : Int) (x16 : Int) (x17 : Bool) (x18 : Int) (x19 : Int) (x20 : Int) (x21 : Int) : Array Value := #[.string x0, .int .i64 x1, .int .i64 x2, .int .i64 x3, .bool x4, .int .i64 x5, .bool x6, .bool x7, .int .i64 x8, .int .i64 x9, .int .i64 x10, .int .i64 x11, Sl.v x12, .int .i64 x13, .int .i64 x14, .int .i64 x15, .int .i64 x16, .bool x17, .int .i64 x18, .int .i64 x19, .int .i64 x20, .int .i64 x21]
@[reducible] def S64 (x0 : ByteArray) (x1 : Int) (x2 : Int) (x3 : Int) (x4 : Bool) (x5 : Int) (x6 : Bool) (x7 : Bool) (x8 : Int) (x9 : Int) (x10 : Int) (x11 : Int) (x12 : Sl) (x13 : Int) (x14 : Int) (x15 : Int) (x16 : Int) (x17 : Bool) (x18 : Int) (x19 : Int) (x20 : Int) (x21 : Int) : List Value := [.string x0, .int .i64 x1, .int .i64 x2, .int .i64 x3, .bool x4, .int .i64 x5, .bool x6, .bool x7, .int .i64 x8, .int .i64 x9, .int .i64 x10, .int .i64 x11, Sl.v x12, .int .i64 x13, .int .i64 x14, .int .i64 x15, .int .i64 x16, .bool x17, .int .i64 x18, .int .i64 x19, .int .i64 x20, .int .i64 x21]
@[reducible] def E64 (r : T64) : Value := V64 r.1 r.2.1 r.2.2.1 r.2.2.2.1 r.2.2.2.2.1 r.2.2.2.2.2.1 r.2.2.2.2.2.2.1 r.2.2.2.2.2.2.2.1 r.2.2.2.2.2.2.2.2.1 r.2.2.2.2.2.2.2.2.2.1 r.2.2.2.2.2.2.2.2.2.2.1 r.2.2.2.2.2.2.2.2.2.2.2.1 r.2.2.2.2.2.2.2.2.2.2.2.2.1 r.2.2.2.2.2.2.2.2.2.2.2.2.2.1 r.2.2.2.2.2.2.2.2.2.2.2.2.2.2.1 r.2.2.2.2.2.2.2.2.2.2.2.2.2.2.2.1 r.2.2.2.2.2.2.2.2.2.2.2.2.2.2.2.2.1 r.2.2.2.2.2.2.2.2.2.2.2.2.2.2.2.2.2.1 r.2.2.2.2.2.2.2.2.2.2.2.2.2.2.2.2.2.2.1 r.2.2.2.2.2.2.2.2.2.2.2.2.2.2.2.2.2.2.2.1 r.2.2.2.2.2.2.2.2.2.2.2.2.2.2.2.2.2.2.2.2.1 r.2.2.2.2.2.2.2.2.2.2.2.2.2.2.2.2.2.2.2.2.2
@[reducible] def C64 (p : Addr) (x0 : ByteArray) (x1 : Int) (x2 : Int) (x3 : Int) (x4 : Bool) (x5 : Int) (x6 : Bool) (x7 : Bool) (x8 : Int) (x9 : Int) (x10 : Int) (x11 : Int) (x12 : Sl) (x13 : Int) (x14 : Int) (x15 : Int) (x16 : Int) (x17 : Bool) (x18 : Int) (x19 : Int) (x20 : Int) (x21 : Int) (w : World) : Prop := w.cell? (p.add 0) = some (.string x0) ∧ w.cell? (p.add 1) = some (.int .i64 x1) ∧ w.cell? (p.add 2) = some (.int .i64 x2) ∧ w.cell? (p.add 3) = some (.int .i64 x3) ∧ w.cell? (p.add 4) = some (.bool x4) ∧ w.cell? (p.add 5) = some (.int .i64 x5) ∧ w.cell? (p.add 6) = some (.bool x6) ∧ w.cell? (p.add 7) = some (.bool x7) ∧ w.cell? (p.add 8) = some (.int .i64 x8) ∧ w.cell? (p.add 9) = some (.int .i64 x9) ∧ w.cell? (p.add 10) = some (.int .i64 x10) ∧ w.cell? (p.add 11) = some (.int .i64 x11) ∧ w.cell? (p.add 12) = some (Sl.v x12) ∧ w.cell? (p.add 13) = some (.int .i64 x13) ∧ w.cell? (p.add 14) = some (.int .i64 x14) ∧ w.cell? (p.add 15) = some (.int .i64 x15) ∧ w.cell? (p.add 16) = some (.int .i64 x16) ∧ w.cell? (p.add 17) = some (.bool x17) ∧ w.cell? (p.add 18) = some (.int .i64 x18) ∧ w.cell? (p.add 19) = some (.int .i64 x19) ∧ w.cell? (p.add 20) = some (.int .i64 x20) ∧ w.cell? (p.add 21) = some (.int .i64 x21)
@[reducible] def L64 (p : Addr) (w : World) (K : ByteArray → Int → Int → Int → Bool → Int → Bool → Bool → Int → Int → Int → Int → Sl → Int → Int → Int → Int → Bool → Int → Int → Int → Int → Prop) : Prop := ld Value.string (p.add 0) w fun x0 => ld (Value.int .i64) (p.add 1) w fun x1 => ld (Value.int .i64) (p.add 2) w fun x2 => ld (Value.int .i64) (p.add 3) w fun x3 => ld Value.bool (p.add 4) w fun x4 => ld (Value.int .i64) (p.add 5) w fun x5 => ld Value.bool (p.add 6) w fun x6 => ld Value.bool (p.add 7) w fun x7 => ld (Value.int .i64) (p.add 8) w fun x8 => ld (Value.int .i64) (p.add 9) w fun x9 => ld (Value.int .i64) (p.add 10) w fun x10 => ld (Value.int .i64) (p.add 11) w fun x11 => ld Sl.v (p.add 12) w fun x12 => ld (Value.int .i64) (p.add 13) w fun x13 => ld (Value.int .i64) (p.add 14) w fun x14 => ld (Value.int .i64) (p.add 15) w fun x15 => ld (Value.int .i64) (p.add 16) w fun x16 => ld Value.bool (p.add 17) w fun x17 => ld (Value.int .i64) (p.add 18) w fun x18 => ld (Value.int .i64) (p.add 19) w fun x19 => ld (Value.int .i64) (p.add 20) w fun x20 => ld (Value.int .i64) (p.add 21) w fun x21 => K x0 x1 x2 x3 x4 x5 x6 x7 x8 x9 x10 x11 x12 x13 x14 x15 x16 x17 x18 x19 x20 x21
theorem K64 {w : World} {p : Addr} {x0 : ByteArray} {x1 : Int} {x2 : Int} {x3 : Int} {x4 : Bool} {x5 : Int} {x6 : Bool} {x7 : Bool} {x8 : Int} {x9 : Int} {x10 : Int} {x11 : Int} {x12 : Sl} {x13 : Int} {x14 : Int} {x15 : Int} {x16 : Int} {x17 : Bool} {x18 : Int} {x19 : Int} {x20 : Int} {x21 : Int} (h : C64 p x0 x1 x2 x3 x4 x5 x6 x7 x8 x9 x10 x11 x12 x13 x14 x15 x16 x17 x18 x19 x20 x21 w) : ∀ (j : Nat) (u : Value), (S64 x0 x1 x2 x3 x4 x5 x6 x7 x8 x9 x10 x11 x12 x13 x14 x15 x16 x17 x18 x19 x20 x21)[j]? = some u → w.cell? (p.add j) = some u := by
  obtain ⟨q0, q1, q2, q3, q4, q5, q6, q7, q8, q9, q10, q11, q12, q13, q14, q15, q16, q17, q18, q19, q20, q21⟩ := h
  exact CellsAt.out (CellsAt.cons q0 (CellsAt.cons q1 (CellsAt.cons q2 (CellsAt.cons q3 (CellsAt.cons q4 (CellsAt.cons q5 (CellsAt.cons q6 (CellsAt.cons q7 (CellsAt.cons q8 (CellsAt.cons q9 (CellsAt.cons q10 (CellsAt.cons q11 (CellsAt.cons q12 (CellsAt.cons q13 (CellsAt.cons q14 (CellsAt.cons q15 (CellsAt.cons q16 (CellsAt.cons q17 (CellsAt.cons q18 (CellsAt.cons q19 (CellsAt.cons q20 (CellsAt.cons q21 CellsAt.nil))))))))))))))))))))))

theorem BD_103_0_1_2 (y0 : Int) (y1 : Int) (y2 : Int) : ∀ w, (Instr.build 103 #[(0, (Value.int .i64 y0)), (1, (Value.int .i64 y1)), (2, (Value.int .i64 y2))]).run Tryz.prog w = .ok (Value.agg #[(Value.int .i64 y0), (Value.int .i64 y1), (Value.int .i64 y2)]) w := fun w => by kernel_rfl
theorem BD_125_0_1_2 (y0 : Int) (y1 : Int) (y2 : Int) (y3 : Int) (y4 : Int) : ∀ w, (Instr.build 125 #[(0, (Value.agg #[(Value.int .i64 y0), (Value.int .i64 y1), (Value.int .i64 y2)])), (1, (Value.int .i64 y3)), (2, (Value.int .i64 y4))]).run Tryz.prog w = .ok (Value.agg #[(Value.int .i64 y0), (Value.int .i64 y1), (Value.int .i64 y2), (Value.int .i64 y3), (Value.int .i64 y4)]) w := fun w => by kernel_rfl
theorem BD_33_0_1_2 (y0 : Option Addr) (y1 : Option Addr) (y2 : Sl) : ∀ w, (Instr.build 33 #[(0, (Value.pointer y0)), (1, (Value.pointer y1)), (2, (Sl.v y2))]).run Tryz.prog w = .ok (Value.agg #[(Value.pointer y0), (Value.pointer y1), (Sl.v y2), (Value.int .i64 0)]) w := fun w => by kernel_rfl
theorem BD_38_0_1 (y0 : Int) (y1 : Sl) : ∀ w, (Instr.build 38 #[(0, (Value.int .i64 y0)), (1, (Sl.v y1))]).run Tryz.prog w = .ok (Value.agg #[(Value.int .i64 y0), (Sl.v y1)]) w := fun w => by kernel_rfl
theorem BD_52_0_2_3_4 (y0 : Int) (y2 : Int) (y3 : Int) (y4 : Int) : ∀ w, (Instr.build 52 #[(0, (Value.int .i64 y0)), (2, (Value.int .i64 y2)), (3, (Value.int .i64 y3)), (4, (Value.int .i64 y4))]).run Tryz.prog w = .ok (Value.agg #[(Value.int .i64 y0), (Value.int .i64 0), (Value.int .i64 y2), (Value.int .i64 y3), (Value.int .i64 y4)]) w := fun w => by kernel_rfl
theorem BD_52_0_3_4 (y0 : Int) (y3 : Int) (y4 : Int) : ∀ w, (Instr.build 52 #[(0, (Value.int .i64 y0)), (3, (Value.int .i64 y3)), (4, (Value.int .i64 y4))]).run Tryz.prog w = .ok (Value.agg #[(Value.int .i64 y0), (Value.int .i64 0), (Value.int .i64 0), (Value.int .i64 y3), (Value.int .i64 y4)]) w := fun w => by kernel_rfl
theorem BD_56_0_1_2 (y0 : Int) (y1 : Int) (y2 : Bool) : ∀ w, (Instr.build 56 #[(0, (Value.int .i64 y0)), (1, (Value.int .i64 y1)), (2, (Value.bool y2))]).run Tryz.prog w = .ok (Value.agg #[(Value.int .i64 y0), (Value.int .i64 y1), (Value.bool y2)]) w := fun w => by kernel_rfl
theorem BD_65_0_8_9_18_20 (y0 : ByteArray) (y8 : Int) (y9 : Int) (y18 : Int) (y20 : Int) : ∀ w, (Instr.build 65 #[(0, (Value.string y0)), (8, (Value.int .i64 y8)), (9, (Value.int .i64 y9)), (18, (Value.int .i64 y18)), (20, (Value.int .i64 y20))]).run Tryz.prog w = .ok (V64 y0 0 0 0 false 0 false false y8 y9 0 0 Sl.nil 0 0 0 0 false y18 0 y20 0) w := fun w => by kernel_rfl
theorem BD_70_0_2_3 (y0 : Int) (y2 : Int) (y3 : Int) : ∀ w, (Instr.build 70 #[(0, (Value.int .i64 y0)), (2, (Value.int .i64 y2)), (3, (Value.int .i64 y3))]).run Tryz.prog w = .ok (Value.agg #[(Value.int .i64 y0), (Value.int .i64 0), (Value.int .i64 y2), (Value.int .i64 y3)]) w := fun w => by kernel_rfl
theorem BD_77_0 (y0 : Int) : ∀ w, (Instr.build 77 #[(0, (Value.int .i64 y0))]).run Tryz.prog w = .ok (Value.agg #[(Value.int .i64 y0), (Value.int .i64 0), (Value.int .i64 0)]) w := fun w => by kernel_rfl
theorem BD_80_0_2 (y0 : Int) (y2 : Option Nat) : ∀ w, (Instr.build 80 #[(0, (Value.int .i64 y0)), (2, (Value.map y2))]).run Tryz.prog w = .ok (Value.agg #[(Value.int .i64 y0), (Value.int .i64 0), (Value.map y2)]) w := fun w => by kernel_rfl
theorem BD_83_0_1 (y0 : Int) (y1 : Int) : ∀ w, (Instr.build 83 #[(0, (Value.int .i64 y0)), (1, (Value.int .i64 y1))]).run Tryz.prog w = .ok (Value.agg #[(Value.int .i64 y0), (Value.int .i64 y1)]) w := fun w => by kernel_rfl
theorem BS_101_0_ : ∀ w, (Instr.buildSlice 101 0 #[]).run Tryz.prog w = .ok (.slice (some ⟨w.heap.size, 0, none⟩) 0 0) (w.alloc (.cells #[] 103)) := fun w => by kernel_rfl
theorem BS_101_1_0 (y0 : Int) (y1 : Int) (y2 : Int) : ∀ w, (Instr.buildSlice 101 1 #[(0, (Value.agg #[(Value.int .i64 y0), (Value.int .i64 y1), (Value.int .i64 y2)]))]).run Tryz.prog w = .ok (.slice (some ⟨w.heap.size, 0, none⟩) 1 1) (w.alloc (.cells #[(Value.int .i64 y0), (Value.int .i64 y1), (Value.int .i64 y2)] 103)) := fun w => by kernel_rfl
theorem BS_121_1_0 (y0 : Int) (y1 : Int) (y2 : Int) (y3 : Int) (y4 : Int) : ∀ w, (Instr.buildSlice 121 1 #[(0, (Value.agg #[(Value.int .i64 y0), (Value.int .i64 y1), (Value.int .i64 y2), (Value.int .i64 y3), (Value.int .i64 y4)]))]).run Tryz.prog w = .ok (.slice (some ⟨w.heap.size, 0, none⟩) 1 1) (w.alloc (.cells #[(Value.int .i64 y0), (Value.int .i64 y1), (Value.int .i64 y2), (Value.int .i64 y3), (Value.int .i64 y4)] 125)) := fun w => by kernel_rfl
theorem BS_22_3_0_1_2 (y0 : Bool) (y1 : Bool) (y2 : Bool) : ∀ w, (Instr.buildSlice 22 3 #[(0, (Value.bool y0)), (1, (Value.bool y1)), (2, (Value.bool y2))]).run Tryz.prog w = .ok (.slice (some ⟨w.heap.size, 0, none⟩) 3 3) (w.alloc (.cells #[(Value.bool y0), (Value.bool y1), (Value.bool y2)] 4)) := fun w => by kernel_rfl
theorem BS_36_0_ : ∀ w, (Instr.buildSlice 36 0 #[]).run Tryz.prog w = .ok (.slice (some ⟨w.heap.size, 0, none⟩) 0 0) (w.alloc (.cells #[] 83)) := fun w => by kernel_rfl
theorem BS_36_1_0 (y0 : Int) (y1 : Int) : ∀ w, (Instr.buildSlice 36 1 #[(0, (Value.agg #[(Value.int .i64 y0), (Value.int .i64 y1)]))]).run Tryz.prog w = .ok (.slice (some ⟨w.heap.size, 0, none⟩) 1 1) (w.alloc (.cells #[(Value.int .i64 y0), (Value.int .i64 y1)] 83)) := fun w => by kernel_rfl
theorem BS_36_6_0_1_2_3_4_5 (y0 : Int) (y1 : Int) (y2 : Int) (y3 : Int) (y4 : Int) (y5 : Int) (y6 : Int) (y7 : Int) (y8 : Int) (y9 : Int) (y10 : Int) (y11 : Int) : ∀ w, (Instr.buildSlice 36 6 #[(0, (Value.agg #[(Value.int .i64 y0), (Value.int .i64 y1)])), (1, (Value.agg #[(Value.int .i64 y2), (Value.int .i64 y3)])), (2, (Value.agg #[(Value.int .i64 y4), (Value.int .i64 y5)])), (3, (Value.agg #[(Value.int .i64 y6), (Value.int .i64 y7)])), (4, (Value.agg #[(Value.int .i64 y8), (Value.int .i64 y9)])), (5, (Value.agg #[(Value.int .i64 y10), (Value.int .i64 y11)]))]).run Tryz.prog w = .ok (.slice (some ⟨w.heap.size, 0, none⟩) 6 6) (w.alloc (.cells #[(Value.int .i64 y0), (Value.int .i64 y1), (Value.int .i64 y2), (Value.int .i64 y3), (Value.int .i64 y4), (Value.int .i64 y5), (Value.int .i64 y6), (Value.int .i64 y7), (Value.int .i64 y8), (Value.int .i64 y9), (Value.int .i64 y10), (Value.int .i64 y11)] 83)) := fun w => by kernel_rfl
theorem BS_39_1_0 (y0 : Int) : ∀ w, (Instr.buildSlice 39 1 #[(0, (Value.int .i64 y0))]).run Tryz.prog w = .ok (.slice (some ⟨w.heap.size, 0, none⟩) 1 1) (w.alloc (.cells #[(Value.int .i64 y0)] 3)) := fun w => by kernel_rfl
theorem BS_39_2_0_1 (y0 : Int) (y1 : Int) : ∀ w, (Instr.buildSlice 39 2 #[(0, (Value.int .i64 y0)), (1, (Value.int .i64 y1))]).run Tryz.prog w = .ok (.slice (some ⟨w.heap.size, 0, none⟩) 2 2) (w.alloc (.cells #[(Value.int .i64 y0), (Value.int .i64 y1)] 3)) := fun w => by kernel_rfl
theorem BS_39_9_0_1_2_3_4_5_6_7_8 (y0 : Int) (y1 : Int) (y2 : Int) (y3 : Int) (y4 : Int) (y5 : Int) (y6 : Int) (y7 : Int) (y8 : Int) : ∀ w, (Instr.buildSlice 39 9 #[(0, (Value.int .i64 y0)), (1, (Value.int .i64 y1)), (2, (Value.int .i64 y2)), (3, (Value.int .i64 y3)), (4, (Value.int .i64 y4)), (5, (Value.int .i64 y5)), (6, (Value.int .i64 y6)), (7, (Value.int .i64 y7)), (8, (Value.int .i64 y8))]).run Tryz.prog w = .ok (.slice (some ⟨w.heap.size, 0, none⟩) 9 9) (w.alloc (.cells #[(Value.int .i64 y0), (Value.int .i64 y1), (Value.int .i64 y2), (Value.int .i64 y3), (Value.int .i64 y4), (Value.int .i64 y5), (Value.int .i64 y6), (Value.int .i64 y7), (Value.int .i64 y8)] 3)) := fun w => by kernel_rfl
theorem BS_47_2_0_1 (y0 : Int) (y1 : Int) (y2 : Bool) (y3 : Int) (y4 : Int) (y5 : Bool) : ∀ w, (Instr.buildSlice 47 2 #[(0, (Value.agg #[(Value.int .i64 y0), (Value.int .i64 y1), (Value.bool y2)])), (1, (Value.agg #[(Value.int .i64 y3), (Value.int .i64 y4), (Value.bool y5)]))]).run Tryz.prog w = .ok (.slice (some ⟨w.heap.size, 0, none⟩) 2 2) (w.alloc (.cells #[(Value.int .i64 y0), (Value.int .i64 y1), (Value.bool y2), (Value.int .i64 y3), (Value.int .i64 y4), (Value.bool y5)] 56)) := fun w => by kernel_rfl
theorem BS_53_1_0 (y0 : Int) (y1 : Int) (y2 : Int) (y3 : Int) (y4 : Int) : ∀ w, (Instr.buildSlice 53 1 #[(0, (Value.agg #[(Value.int .i64 y0), (Value.int .i64 y1), (Value.int .i64 y2), (Value.int .i64 y3), (Value.int .i64 y4)]))]).run Tryz.prog w = .ok (.slice (some ⟨w.heap.size, 0, none⟩) 1 1) (w.alloc (.cells #[(Value.int .i64 y0), (Value.int .i64 y1), (Value.int .i64 y2), (Value.int .i64 y3), (Value.int .i64 y4)] 52)) := fun w => by kernel_rfl
theorem BS_66_0_ : ∀ w, (Instr.buildSlice 66 0 #[]).run Tryz.prog w = .ok (.slice (some ⟨w.heap.size, 0, none⟩) 0 0) (w.alloc (.cells #[] 70)) := fun w => by kernel_rfl
theorem BS_66_1_0 (y0 : Int) (y1 : Int) (y2 : Int) (y3 : Int) : ∀ w, (Instr.buildSlice 66 1 #[(0, (Value.agg #[(Value.int .i64 y0), (Value.int .i64 y1), (Value.int .i64 y2), (Value.int .i64 y3)]))]).run Tryz.prog w = .ok (.slice (some ⟨w.heap.size, 0, none⟩) 1 1) (w.alloc (.cells #[(Value.int .i64 y0), (Value.int .i64 y1), (Value.int .i64 y2), (Value.int .i64 y3)] 70)) := fun w => by kernel_rfl
theorem ES_101 : elemSize Tryz.prog 101 = some 3 := by kernel_rfl
theorem ES_121 : elemSize Tryz.prog 121 = some 5 := by kernel_rfl
theorem ES_22 : elemSize Tryz.prog 22 = some 1 := by kernel_rfl
theorem ES_36 : elemSize Tryz.prog 36 = some 2 := by kernel_rfl
theorem ES_39 : elemSize Tryz.prog 39 = some 1 := by kernel_rfl
theorem ES_47 : elemSize Tryz.prog 47 = some 3 := by kernel_rfl
theorem ES_53 : elemSize Tryz.prog 53 = some 5 := by kernel_rfl
theorem ES_63 : elemSize Tryz.prog 63 = some 1 := by kernel_rfl
theorem ES_66 : elemSize Tryz.prog 66 = some 4 := by kernel_rfl
theorem FA_103_0 : fieldOff Tryz.prog 103 0 = some 0 := by kernel_rfl
theorem FA_103_1 : fieldOff Tryz.prog 103 1 = some 1 := by kernel_rfl
theorem FA_103_2 : fieldOff Tryz.prog 103 2 = some 2 := by kernel_rfl
theorem FA_125_0 : fieldOff Tryz.prog 125 0 = some 0 := by kernel_rfl
theorem FA_125_1 : fieldOff Tryz.prog 125 1 = some 3 := by kernel_rfl
theorem FA_125_2 : fieldOff Tryz.prog 125 2 = some 4 := by kernel_rfl
theorem FA_33_0 : fieldOff Tryz.prog 33 0 = some 0 := by kernel_rfl
theorem FA_33_1 : fieldOff Tryz.prog 33 1 = some 1 := by kernel_rfl
theorem FA_33_2 : fieldOff Tryz.prog 33 2 = some 2 := by kernel_rfl
theorem FA_33_3 : fieldOff Tryz.prog 33 3 = some 3 := by kernel_rfl
theorem FA_38_0 : fieldOff Tryz.prog 38 0 = some 0 := by kernel_rfl
theorem FA_38_1 : fieldOff Tryz.prog 38 1 = some 1 := by kernel_rfl
theorem FA_52_0 : fieldOff Tryz.prog 52 0 = some 0 := by kernel_rfl
theorem FA_52_1 : fieldOff Tryz.prog 52 1 = some 1 := by kernel_rfl
theorem FA_52_2 : fieldOff Tryz.prog 52 2 = some 2 := by kernel_rfl
theorem FA_52_3 : fieldOff Tryz.prog 52 3 = some 3 := by kernel_rfl
theorem FA_52_4 : fieldOff Tryz.prog 52 4 = some 4 := by kernel_rfl
theorem FA_56_0 : fieldOff Tryz.prog 56 0 = some 0 := by kernel_rfl
theorem FA_56_1 : fieldOff Tryz.prog 56 1 = some 1 := by kernel_rfl
theorem FA_56_2 : fieldOff Tryz.prog 56 2 = some 2 := by kernel_rfl
theorem FA_65_0 : fieldOff Tryz.prog 65 0 = some 0 := by kernel_rfl
theorem FA_65_1 : fieldOff Tryz.prog 65 1 = some 1 := by kernel_rfl
theorem FA_65_10 : fieldOff Tryz.prog 65 10 = some 10 := by kernel_rfl
theorem FA_65_11 : fieldOff Tryz.prog 65 11 = some 11 := by kernel_rfl
theorem FA_65_12 : fieldOff Tryz.prog 65 12 = some 12 := by kernel_rfl
theorem FA_65_13 : fieldOff Tryz.prog 65 13 = some 13 := by kernel_rfl
theorem FA_65_14 : fieldOff Tryz.prog 65 14 = some 14 := by kernel_rfl
theorem FA_65_15 : fieldOff Tryz.prog 65 15 = some 15 := by kernel_rfl
theorem FA_65_16 : fieldOff Tryz.prog 65 16 = some 16 := by kernel_rfl
theorem FA_65_18 : fieldOff Tryz.prog 65 18 = some 18 := by kernel_rfl
theorem FA_65_19 : fieldOff Tryz.prog 65 19 = some 19 := by kernel_rfl
theorem FA_65_2 : fieldOff Tryz.prog 65 2 = some 2 := by kernel_rfl
theorem FA_65_20 : fieldOff Tryz.prog 65 20 = some 20 := by kernel_rfl
theorem FA_65_21 : fieldOff Tryz.prog 65 21 = some 21 := by kernel_rfl
theorem FA_65_3 : fieldOff Tryz.prog 65 3 = some 3 := by kernel_rfl
theorem FA_65_5 : fieldOff Tryz.prog 65 5 = some 5 := by kernel_rfl
theorem FA_65_8 : fieldOff Tryz.prog 65 8 = some 8 := by kernel_rfl
theorem FA_65_9 : fieldOff Tryz.prog 65 9 = some 9 := by kernel_rfl
theorem FA_70_0 : fieldOff Tryz.prog 70 0 = some 0 := by kernel_rfl
theorem FA_70_1 : fieldOff Tryz.prog 70 1 = some 1 := by kernel_rfl
theorem FA_70_2 : fieldOff Tryz.prog 70 2 = some 2 := by kernel_rfl
theorem FA_70_3 : fieldOff Tryz.prog 70 3 = some 3 := by kernel_rfl
theorem FA_77_0 : fieldOff Tryz.prog 77 0 = some 0 := by kernel_rfl
theorem FA_77_1 : fieldOff Tryz.prog 77 1 = some 1 := by kernel_rfl
theorem FA_77_2 : fieldOff Tryz.prog 77 2 = some 2 := by kernel_rfl
theorem FA_80_0 : fieldOff Tryz.prog 80 0 = some 0 := by kernel_rfl
theorem FA_80_1 : fieldOff Tryz.prog 80 1 = some 1 := by kernel_rfl
theorem FA_80_2 : fieldOff Tryz.prog 80 2 = some 2 := by kernel_rfl
theorem IK_130 : intKindT Tryz.prog 130 = some .u64 := by kernel_rfl
theorem IK_3 : intKindT Tryz.prog 3 = some .i64 := by kernel_rfl
theorem IK_5 : intKindT Tryz.prog 5 = some .u8 := by kernel_rfl
theorem NB_10 : Tryz.f10.body.isNone = false := by kernel_rfl
theorem NN_10 : (Tryz.f10.name == "runtime.NumGoroutine") = false := by kernel_rfl
theorem NB_11 : Tryz.f11.body.isNone = false := by kernel_rfl
theorem NN_11 : (Tryz.f11.name == "runtime.NumGoroutine") = false := by kernel_rfl
theorem NB_114 : Tryz.f114.body.isNone = false := by kernel_rfl
theorem NN_114 : (Tryz.f114.name == "runtime.NumGoroutine") = false := by kernel_rfl
theorem NB_115 : Tryz.f115.body.isNone = false := by kernel_rfl
theorem NN_115 : (Tryz.f115.name == "runtime.NumGoroutine") = false := by kernel_rfl
theorem NB_116 : Tryz.f116.body.isNone = false := by kernel_rfl
theorem NN_116 : (Tryz.f116.name == "runtime.NumGoroutine") = false := by kernel_rfl
theorem NB_117 : Tryz.f117.body.isNone = false := by kernel_rfl
theorem NN_117 : (Tryz.f117.name == "runtime.NumGoroutine") = false := by kernel_rfl
theorem NB_118 : Tryz.f118.body.isNone = false := by kernel_rfl
theorem NN_118 : (Tryz.f118.name == "runtime.NumGoroutine") = false := by kernel_rfl
theorem NB_119 : Tryz.f119.body.isNone = false := by kernel_rfl
theorem NN_119 : (Tryz.f119.name == "runtime.NumGoroutine") = false := by kernel_rfl
theorem NB_12 : Tryz.f12.body.isNone = false := by kernel_rfl
theorem NN_12 : (Tryz.f12.name == "runtime.NumGoroutine") = false := by kernel_rfl
theorem NB_13 : Tryz.f13.body.isNone = false := by kernel_rfl
theorem NN_13 : (Tryz.f13.name == "runtime.NumGoroutine") = false := by kernel_rfl
theorem NB_136 : Tryz.f136.body.isNone = false := by kernel_rfl
theorem NN_136 : (Tryz.f136.name == "runtime.NumGoroutine") = false := by kernel_rfl
theorem NB_15 : Tryz.f15.body.isNone = false := by kernel_rfl
theorem NN_15 : (Tryz.f15.name == "runtime.NumGoroutine") = false := by kernel_rfl
theorem NB_17 : Tryz.f17.body.isNone = false := by kernel_rfl
theorem NN_17 : (Tryz.f17.name == "runtime.NumGoroutine") = false := by kernel_rfl
theorem NB_18 : Tryz.f18.body.isNone = false := by kernel_rfl
theorem NN_18 : (Tryz.f18.name == "runtime.NumGoroutine") = false := by kernel_rfl
theorem NB_21 : Tryz.f21.body.isNone = false := by kernel_rfl
theorem NN_21 : (Tryz.f21.name == "runtime.NumGoroutine") = false := by kernel_rfl
theorem NB_22 : Tryz.f22.body.isNone = false := by kernel_rfl
theorem NN_22 : (Tryz.f22.name == "runtime.NumGoroutine") = false := by kernel_rfl
theorem NB_23 : Tryz.f23.body.isNone = false := by kernel_rfl
theorem NN_23 : (Tryz.f23.name == "runtime.NumGoroutine") = false := by kernel_rfl
theorem NB_24 : Tryz.f24.body.isNone = false := by kernel_rfl
theorem NN_24 : (Tryz.f24.name == "runtime.NumGoroutine") = false := by kernel_rfl
theorem NB_25 : Tryz.f25.body.isNone = false := by kernel_rfl
theorem NN_25 : (Tryz.f25.name == "runtime.NumGoroutine") = false := by kernel_rfl
theorem NB_26 : Tryz.f26.body.isNone = false := by kernel_rfl
theorem NN_26 : (Tryz.f26.name == "runtime.NumGoroutine") = false := by kernel_rfl
theorem NB_27 : Tryz.f27.body.isNone = false := by kernel_rfl
theorem NN_27 : (Tryz.f27.name == "runtime.NumGoroutine") = false := by kernel_rfl
theorem NB_28 : Tryz.f28.body.isNone = false := by kernel_rfl
theorem NN_28 : (Tryz.f28.name == "runtime.NumGoroutine") = false := by kernel_rfl
theorem NB_29 : Tryz.f29.body.isNone = false := by kernel_rfl
theorem NN_29 : (Tryz.f29.name == "runtime.NumGoroutine") = false := by kernel_rfl
theorem NB_30 : Tryz.f30.body.isNone = false := by kernel_rfl
theorem NN_30 : (Tryz.f30.name == "runtime.NumGoroutine") = false := by kernel_rfl
theorem NB_31 : Tryz.f31.body.isNone = false := by kernel_rfl
theorem NN_31 : (Tryz.f31.name == "runtime.NumGoroutine") = false := by kernel_rfl
theorem NB_32 : Tryz.f32.body.isNone = false := by kernel_rfl
theorem NN_32 : (Tryz.f32.name == "runtime.NumGoroutine") = false := by kernel_rfl
theorem NB_33 : Tryz.f33.body.isNone = false := by kernel_rfl
theorem NN_33 : (Tryz.f33.name == "runtime.NumGoroutine") = false := by kernel_rfl
theorem NB_34 : Tryz.f34.body.isNone = false := by kernel_rfl
theorem NN_34 : (Tryz.f34.name == "runtime.NumGoroutine") = false := by kernel_rfl
theorem NB_35 : Tryz.f35.body.isNone = false := by kernel_rfl
theorem NN_35 : (Tryz.f35.name == "runtime.NumGoroutine") = false := by kernel_rfl
theorem NB_36 : Tryz.f36.body.isNone = false := by kernel_rfl
theorem NN_36 : (Tryz.f36.name == "runtime.NumGoroutine") = false := by kernel_rfl
theorem NB_37 : Tryz.f37.body.isNone = false := by kernel_rfl
theorem NN_37 : (Tryz.f37.name == "runtime.NumGoroutine") = false := by kernel_rfl
theorem NB_38 : Tryz.f38.body.isNone = false := by kernel_rfl
theorem NN_38 : (Tryz.f38.name == "runtime.NumGoroutine") = false := by kernel_rfl
theorem NB_42 : Tryz.f42.body.isNone = false := by kernel_rfl
theorem NN_42 : (Tryz.f42.name == "runtime.NumGoroutine") = false := by kernel_rfl
theorem NB_43 : Tryz.f43.body.isNone = false := by kernel_rfl
theorem NN_43 : (Tryz.f43.name == "runtime.NumGoroutine") = false := by kernel_rfl
theorem NB_44 : Tryz.f44.body.isNone = false := by kernel_rfl
theorem NN_44 : (Tryz.f44.name == "runtime.NumGoroutine") = false := by kernel_rfl
theorem NB_45 : Tryz.f45.body.isNone = false := by kernel_rfl
theorem NN_45 : (Tryz.f45.name == "runtime.NumGoroutine") = false := by kernel_rfl
theorem NB_46 : Tryz.f46.body.isNone = false := by kernel_rfl
theorem NN_46 : (Tryz.f46.name == "runtime.NumGoroutine") = false := by kernel_rfl
theorem NB_47 : Tryz.f47.body.isNone = false := by kernel_rfl
theorem NN_47 : (Tryz.f47.name == "runtime.NumGoroutine") = false := by kernel_rfl
theorem NB_48 : Tryz.f48.body.isNone = false := by kernel_rfl
theorem NN_48 : (Tryz.f48.name == "runtime.NumGoroutine") = false := by kernel_rfl
theorem NB_49 : Tryz.f49.body.isNone = false := by kernel_rfl
theorem NN_49 : (Tryz.f49.name == "runtime.NumGoroutine") = false := by kernel_rfl
theorem NB_5 : Tryz.f5.body.isNone = false := by kernel_rfl
theorem NN_5 : (Tryz.f5.name == "runtime.NumGoroutine") = false := by kernel_rfl
theorem NB_50 : Tryz.f50.body.isNone = false := by kernel_rfl
theorem NN_50 : (Tryz.f50.name == "runtime.NumGoroutine") = false := by kernel_rfl
theorem NB_51 : Tryz.f51.body.isNone = false := by kernel_rfl
theorem NN_51 : (Tryz.f51.name == "runtime.NumGoroutine") = false := by kernel_rfl
theorem NB_52 : Tryz.f52.body.isNone = false := by kernel_rfl
theorem NN_52 : (Tryz.f52.name == "runtime.NumGoroutine") = false := by kernel_rfl
theorem NB_53 : Tryz.f53.body.isNone = false := by kernel_rfl
theorem NN_53 : (Tryz.f53.name == "runtime.NumGoroutine") = false := by kernel_rfl
theorem NB_54 : Tryz.f54.body.isNone = false := by kernel_rfl
theorem NN_54 : (Tryz.f54.name == "runtime.NumGoroutine") = false := by kernel_rfl
theorem NB_55 : Tryz.f55.body.isNone = false := by kernel_rfl
theorem NN_55 : (Tryz.f55.name == "runtime.NumGoroutine") = false := by kernel_rfl
theorem NB_57 : Tryz.f57.body.isNone = false := by kernel_rfl
theorem NN_57 : (Tryz.f57.name == "runtime.NumGoroutine") = false := by kernel_rfl
theorem NB_58 : Tryz.f58.body.isNone = false := by kernel_rfl
theorem NN_58 : (Tryz.f58.name == "runtime.NumGoroutine") = false := by kernel_rfl
theorem NB_59 : Tryz.f59.body.isNone = false := by kernel_rfl
theorem NN_59 : (Tryz.f59.name == "runtime.NumGoroutine") = false := by kernel_rfl
theorem NB_6 : Tryz.f6.body.isNone = false := by kernel_rfl
theorem NN_6 : (Tryz.f6.name == "runtime.NumGoroutine") = false := by kernel_rfl
theorem NB_60 : Tryz.f60.body.isNone = false := by kernel_rfl
theorem NN_60 : (Tryz.f60.name == "runtime.NumGoroutine") = false := by kernel_rfl
theorem NB_61 : Tryz.f61.body.isNone = false := by kernel_rfl
theorem NN_61 : (Tryz.f61.name == "runtime.NumGoroutine") = false := by kernel_rfl
theorem NB_66 : Tryz.f66.body.isNone = false := by kernel_rfl
theorem NN_66 : (Tryz.f66.name == "runtime.NumGoroutine") = false := by kernel_rfl
theorem NB_67 : Tryz.f67.body.isNone = false := by kernel_rfl
theorem NN_67 : (Tryz.f67.name == "runtime.NumGoroutine") = false := by kernel_rfl
theorem NB_68 : Tryz.f68.body.isNone = false := by kernel_rfl
theorem NN_68 : (Tryz.f68.name == "runtime.NumGoroutine") = false := by kernel_rfl
theorem NB_69 : Tryz.f69.body.isNone = false := by kernel_rfl
theorem NN_69 : (Tryz.f69.name == "runtime.NumGoroutine") = false := by kernel_rfl
theorem NB_7 : Tryz.f7.body.isNone = false := by kernel_rfl
theorem NN_7 : (Tryz.f7.name == "runtime.NumGoroutine") = false := by kernel_rfl
theorem NB_70 : Tryz.f70.body.isNone = false := by kernel_rfl
theorem NN_70 : (Tryz.f70.name == "runtime.NumGoroutine") = false := by kernel_rfl
theorem NB_71 : Tryz.f71.body.isNone = false := by kernel_rfl
theorem NN_71 : (Tryz.f71.name == "runtime.NumGoroutine") = false := by kernel_rfl
theorem NB_72 : Tryz.f72.body.isNone = false := by kernel_rfl
theorem NN_72 : (Tryz.f72.name == "runtime.NumGoroutine") = false := by kernel_rfl
theorem NB_73 : Tryz.f73.body.isNone = false := by kernel_rfl
theorem NN_73 : (Tryz.f73.name == "runtime.NumGoroutine") = false := by kernel_rfl
theorem NB_76 : Tryz.f76.body.isNone = false := by kernel_rfl
theorem NN_76 : (Tryz.f76.name == "runtime.NumGoroutine") = false := by kernel_rfl
theorem NB_77 : Tryz.f77.body.isNone = false := by kernel_rfl
theorem NN_77 : (Tryz.f77.name == "runtime.NumGoroutine") = false := by kernel_rfl
theorem NB_79 : Tryz.f79.body.isNone = false := by kernel_rfl
theorem NN_79 : (Tryz.f79.name == "runtime.NumGoroutine") = false := by kernel_rfl
theorem NB_8 : Tryz.f8.body.isNone = false := by kernel_rfl
theorem NN_8 : (Tryz.f8.name == "runtime.NumGoroutine") = false := by kernel_rfl
theorem NB_80 : Tryz.f80.body.isNone = false := by kernel_rfl
theorem NN_80 : (Tryz.f80.name == "runtime.NumGoroutine") = false := by kernel_rfl
theorem NB_84 : Tryz.f84.body.isNone = false := by kernel_rfl
theorem NN_84 : (Tryz.f84.name == "runtime.NumGoroutine") = false := by kernel_rfl
theorem NB_85 : Tryz.f85.body.isNone = false := by kernel_rfl
theorem NN_85 : (Tryz.f85.name == "runtime.NumGoroutine") = false := by kernel_rfl
theorem NB_86 : Tryz.f86.body.isNone = false := by kernel_rfl
theorem NN_86 : (Tryz.f86.name == "runtime.NumGoroutine") = false := by kernel_rfl
theorem NB_87 : Tryz.f87.body.isNone = false := by kernel_rfl
theorem NN_87 : (Tryz.f87.name == "runtime.NumGoroutine") = false := by kernel_rfl
theorem NB_88 : Tryz.f88.body.isNone = false := by kernel_rfl
theorem NN_88 : (Tryz.f88.name == "runtime.NumGoroutine") = false := by kernel_rfl
theorem NB_89 : Tryz.f89.body.isNone = false := by kernel_rfl
theorem NN_89 : (Tryz.f89.name == "runtime.NumGoroutine") = false := by kernel_rfl
theorem NB_9 : Tryz.f9.body.isNone = false := by kernel_rfl
theorem NN_9 : (Tryz.f9.name == "runtime.NumGoroutine") = false := by kernel_rfl
theorem NB_90 : Tryz.f90.body.isNone = false := by kernel_rfl
theorem NN_90 : (Tryz.f90.name == "runtime.NumGoroutine") = false := by kernel_rfl
theorem NB_91 : Tryz.f91.body.isNone = false := by kernel_rfl
theorem NN_91 : (Tryz.f91.name == "runtime.NumGoroutine") = false := by kernel_rfl
theorem NB_92 : Tryz.f92.body.isNone = false := by kernel_rfl
theorem NN_92 : (Tryz.f92.name == "runtime.NumGoroutine") = false := by kernel_rfl
theorem SH_103 : shapeT Tryz.prog 103 = some 4 := by kernel_rfl
theorem SH_125 : shapeT Tryz.prog 125 = some 6 := by kernel_rfl
theorem SH_22 : shapeT Tryz.prog 22 = some 0 := by kernel_rfl
theorem SH_24 : shapeT Tryz.prog 24 = some 0 := by kernel_rfl
theorem SH_28 : shapeT Tryz.prog 28 = some 0 := by kernel_rfl
theorem SH_3 : shapeT Tryz.prog 3 = some 0 := by kernel_rfl
theorem SH_36 : shapeT Tryz.prog 36 = some 0 := by kernel_rfl
theorem SH_38 : shapeT Tryz.prog 38 = some 3 := by kernel_rfl
theorem SH_4 : shapeT Tryz.prog 4 = some 0 := by kernel_rfl
theorem SH_52 : shapeT Tryz.prog 52 = some 6 := by kernel_rfl
theorem SH_56 : shapeT Tryz.prog 56 = some 4 := by kernel_rfl
theorem SH_63 : shapeT Tryz.prog 63 = some 0 := by kernel_rfl
theorem SH_65 : shapeT Tryz.prog 65 = some 23 := by kernel_rfl
theorem SH_66 : shapeT Tryz.prog 66 = some 0 := by kernel_rfl
theorem SH_70 : shapeT Tryz.prog 70 = some 5 := by kernel_rfl
theorem SH_78 : shapeT Tryz.prog 78 = some 0 := by kernel_rfl
theorem SH_83 : shapeT Tryz.prog 83 = some 3 := by kernel_rfl
theorem SH_9 : shapeT Tryz.prog 9 = some 0 := by kernel_rfl
theorem SZ_103 : sizeT Tryz.prog 103 = some 3 := by kernel_rfl
theorem SZ_125 : sizeT Tryz.prog 125 = some 5 := by kernel_rfl
theorem SZ_3 : sizeT Tryz.prog 3 = some 1 := by kernel_rfl
theorem SZ_36 : sizeT Tryz.prog 36 = some 1 := by kernel_rfl
theorem SZ_38 : sizeT Tryz.prog 38 = some 2 := by kernel_rfl
theorem SZ_56 : sizeT Tryz.prog 56 = some 3 := by kernel_rfl
theorem SZ_65 : sizeT Tryz.prog 65 = some 22 := by kernel_rfl
theorem SZ_66 : sizeT Tryz.prog 66 = some 1 := by kernel_rfl
theorem SZ_70 : sizeT Tryz.prog 70 = some 4 := by kernel_rfl
theorem SZ_83 : sizeT Tryz.prog 83 = some 2 := by kernel_rfl
theorem ZV_103 : (Tryz.prog.info? 103).bind (·.zero) = some (Value.agg #[(Value.int .i64 0), (Value.int .i64 0), (Value.int .i64 0)]) := by kernel_rfl
theorem ZV_125 : (Tryz.prog.info? 125).bind (·.zero) = some (Value.agg #[(Value.int .i64 0), (Value.int .i64 0), (Value.int .i64 0), (Value.int .i64 0), (Value.int .i64 0)]) := by kernel_rfl
theorem ZV_38 : (Tryz.prog.info? 38).bind (·.zero) = some (Value.agg #[(Value.int .i64 0), (Sl.v Sl.nil)]) := by kernel_rfl
theorem ZV_56 : (Tryz.prog.info? 56).bind (·.zero) = some (Value.agg #[(Value.int .i64 0), (Value.int .i64 0), (Value.bool false)]) := by kernel_rfl
theorem ZV_65 : (Tryz.prog.info? 65).bind (·.zero) = some (V64 (ByteArray.mk #[]) 0 0 0 false 0 false false 0 0 0 0 Sl.nil 0 0 0 0 false 0 0 0 0) := by kernel_rfl
theorem ZV_66 : (Tryz.prog.info? 66).bind (·.zero) = some (Sl.v Sl.nil) := by kernel_rfl
theorem ZV_70 : (Tryz.prog.info? 70).bind (·.zero) = some (Value.agg #[(Value.int .i64 0), (Value.int .i64 0), (Value.int .i64 0), (Value.int .i64 0)]) := by kernel_rfl
theorem ZV_83 : (Tryz.prog.info? 83).bind (·.zero) = some (Value.agg #[(Value.int .i64 0), (Value.int .i64 0)]) := by kernel_rfl
theorem isBoolT_4 : isBoolT Tryz.prog 4 = true := by kernel_rfl
theorem isPtrT_24 : isPtrT Tryz.prog 24 = true := by kernel_rfl
theorem isPtrT_28 : isPtrT Tryz.prog 28 = true := by kernel_rfl
theorem isSliceT_101 : isSliceT Tryz.prog 101 = true := by kernel_rfl
theorem isSliceT_121 : isSliceT Tryz.prog 121 = true := by kernel_rfl
theorem isSliceT_22 : isSliceT Tryz.prog 22 = true := by kernel_rfl
theorem isSliceT_36 : isSliceT Tryz.prog 36 = true := by kernel_rfl
theorem isSliceT_39 : isSliceT Tryz.prog 39 = true := by kernel_rfl
theorem isSliceT_47 : isSliceT Tryz.prog 47 = true := by kernel_rfl
theorem isSliceT_53 : isSliceT Tryz.prog 53 = true := by kernel_rfl
theorem isSliceT_63 : isSliceT Tryz.prog 63 = true := by kernel_rfl
theorem isSliceT_66 : isSliceT Tryz.prog 66 = true := by kernel_rfl
theorem isStrT_9 : isStrT Tryz.prog 9 = true := by kernel_rfl

/-- linguatop.TopLinked -/
def F3 (p0 : Int) (p1 : Int) (p2 : Int) (p3 : Sl) (p4 : Sl) (p5 : Int) (w0 : World) (K : Bool → World → Prop) : Prop :=
  callC Tryz.prog 5 #[] (fun (r : Bool) => (Value.bool r)) w0 fun r9 w1 =>
  cnd ((decide (200 < (p3.len : Int))) || (decide (200 < (p4.len : Int))))
    (
    K r9 w1
    )
    (
    callC Tryz.prog 6 #[(Value.int .i64 p0)] (fun (r : (Option Addr) × Int) => (Value.tuple #[(Value.pointer r.1), (Value.int .i64 r.2)])) w1 fun r13 w2 =>
    callC Tryz.prog 7 #[(Value.int .i64 p0)] (fun (r : (Option Addr) × Int) => (Value.tuple #[(Value.pointer r.1), (Value.int .i64 r.2)])) w2 fun r14 w3 =>
    callC Tryz.prog 6 #[(Value.int .i64 p1)] (fun (r : (Option Addr) × Int) => (Value.tuple #[(Value.pointer r.1), (Value.int .i64 r.2)])) w3 fun r15 w4 =>
    callC Tryz.prog 7 #[(Value.int .i64 p1)] (fun (r : (Option Addr) × Int) => (Value.tuple #[(Value.pointer r.1), (Value.int .i64 r.2)])) w4 fun r16 w5 =>
    cnd ((((decide (p0 < 1)) || (decide (64 < p0))) || (decide (p1 < 1))) || (decide (64 < p1)))
      (
      K (r9 && ((decide (r13.2 = 1)) || (decide (r15.2 = 1)))) w5
      )
      (
      cnd ((((((((!decide (r13.2 = 0)) || (!decide (r14.2 = 0))) || (!decide (r15.2 = 0))) || (!decide (r16.2 = 0))) || r13.1.isNone) || r14.1.isNone) || r15.1.isNone) || r16.1.isNone)
        (
        K false w5
        )
        (
        nw 33 #[(Value.pointer r13.1), (Value.pointer r14.1), (Sl.v p3), (Value.int .i64 0)] w5 fun b47 w6 =>
        nw 33 #[(Value.pointer r15.1), (Value.pointer r16.1), (Sl.v p4), (Value.int .i64 0)] w6 fun b48 w7 =>
        lp (fun (next49 : Int → World → Prop) l49 w8 =>
          cnd (decide (l49 < ((IntKind.i64.wrap p2).tmod 41)))
            (
            callC Tryz.prog 8 #[(Value.pointer r13.1)] (fun (r : Int × Int) => (Value.tuple #[(Value.int .i64 r.1), (Value.int .i64 r.2)])) w8 fun r51 w9 =>
            cnd ((!decide (r51.1 = l49)) || (!decide (r51.2 = 0)))
              (
              K false w9
              )
              (
              next49 (IntKind.i64.wrap (l49 + 1)) w9
              )
            )
            (
            nw 38 #[(Value.int .i64 0), (Sl.v Sl.nil)] w8 fun b55 w10 =>
            lp (fun (next56 : (Int × Int) → World → Prop) l56 w11 =>
              cnd ((decide (l56.2 < (IntKind.i64.wrap ((IntKind.i64.wrap ((IntKind.i64.wrap ((p3.len : Int) + (p4.len : Int))) + (IntKind.i64.wrap (2 * ((IntKind.i64.wrap p2).tmod 41))))) + 4)))) && (decide (l56.1 < ((IntKind.i64.wrap p2).tmod 41))))
                (
                callC Tryz.prog 9 #[(Value.pointer (some (Addr.mk b47 0 none)))] (fun (r : Sl × Bool) => (Value.tuple #[(Sl.v r.1), (Value.bool r.2)])) w11 fun r60 w12 =>
                cnd (!r60.2)
                  (
                  K false w12
                  )
                  (
                  lp (fun (next62 : Int → World → Prop) l62 w13 =>
                    cnd (decide (l62 < (r60.1.len : Int)))
                      (
                      callC Tryz.prog 8 #[(Value.pointer r15.1)] (fun (r : Int × Int) => (Value.tuple #[(Value.int .i64 r.1), (Value.int .i64 r.2)])) w13 fun r64 w14 =>
                      cnd (!decide (r64.2 = 0))
                        (
                        K false w14
                        )
                        (
                        next62 (IntKind.i64.wrap (l62 + 1)) w14
                        )
                      )
                      (
                      callC Tryz.prog 9 #[(Value.pointer (some (Addr.mk b48 0 none)))] (fun (r : Sl × Bool) => (Value.tuple #[(Sl.v r.1), (Value.bool r.2)])) w13 fun r66 w15 =>
                      cnd (!r66.2)
                        (
                        K false w15
                        )
                        (
                        lp (fun (next68 : (Int × Int) → World → Prop) l68 w16 =>
                          cnd (decide (l68.2 < (r66.1.len : Int)))
                            (
                            jn (fun (J71 : ((Option Addr) × Bool) → World → Prop) => tk w16 fun w17 =>
                              ld (Value.int .i64) ((Addr.mk b55 0 none).add 0) w17 fun x72 =>
                              ld Sl.v ((Addr.mk b55 0 none).add 1) w17 fun x73 =>
                              ix r66.1 l68.2 1 fun p74 =>
                              ld (Value.int .i64) p74 w17 fun x75 =>
                              (
                                callC Tryz.prog 10 #[(Value.agg #[(Value.int .i64 x72), (Sl.v x73)]), (Value.int .i64 x75), (Value.int .i64 (IntKind.i64.wrap (p5.tmod 4)))] (fun (r : Int × Sl × Bool) => (Value.tuple #[(Value.agg #[(Value.int .i64 r.1), (Sl.v r.2.1)]), (Value.bool r.2.2)])) w17 fun r76 w18 =>
                                nw 38 #[(Value.int .i64 0), (Sl.v Sl.nil)] w18 fun b77 w19 =>
                                st (Addr.mk b77 0 none) [(Value.int .i64 r76.1), (Sl.v r76.2.1)] w19 fun w20 =>
                                J71 (some (Addr.mk b77 0 none), r76.2.2) w20
                              )
                              ∧
                              (
                                nw 38 #[(Value.int .i64 0), (Sl.v Sl.nil)] w17 fun b79 w21 =>
                                (w21.cell? p74 = some (Value.int .i64 x75)) ∧
                                (w21.cell? ((Addr.mk b55 0 none).add 0) = some (Value.int .i64 x72) ∧ w21.cell? ((Addr.mk b55 0 none).add 1) = some (Sl.v x73)) ∧
                                callC Tryz.prog 10 #[(Value.agg #[(Value.int .i64 x72), (Sl.v x73)]), (Value.int .i64 x75), (Value.int .i64 (IntKind.i64.wrap (p5.tmod 4)))] (fun (r : Int × Sl × Bool) => (Value.tuple #[(Value.agg #[(Value.int .i64 r.1), (Sl.v r.2.1)]), (Value.bool r.2.2)])) w21 fun r80 w22 =>
                                st (Addr.mk b79 0 none) [(Value.int .i64 r80.1), (Sl.v r80.2.1)] w22 fun w23 =>
                                J71 (some (Addr.mk b79 0 none), r80.2.2) w23
                              )
                            )
                            fun l82 w24 =>
                            jn (fun (J84 : Bool → World → Prop) => tk w24 fun w25 =>
                              nn l82.1 fun a85 =>
                              ld (Value.int .i64) (a85.add 0) w25 fun x86 =>
                              ld Sl.v (a85.add 1) w25 fun x87 =>
                              ix r66.1 l68.2 1 fun p88 =>
                              ld (Value.int .i64) p88 w25 fun x89 =>
                              (
                                callC Tryz.prog 10 #[(Value.agg #[(Value.int .i64 x86), (Sl.v x87)]), (Value.int .i64 x89), (Value.int .i64 (IntKind.i64.wrap (p5.tmod 4)))] (fun (r : Int × Sl × Bool) => (Value.tuple #[(Value.agg #[(Value.int .i64 r.1), (Sl.v r.2.1)]), (Value.bool r.2.2)])) w25 fun r90 w26 =>
                                nw 38 #[(Value.int .i64 0), (Sl.v Sl.nil)] w26 fun b91 w27 =>
                                st (Addr.mk b91 0 none) [(Value.int .i64 r90.1), (Sl.v r90.2.1)] w27 fun w28 =>
                                J84 r90.2.2 w28
                              )
                              ∧
                              (
                                nw 38 #[(Value.int .i64 0), (Sl.v Sl.nil)] w25 fun b93 w29 =>
                                (w29.cell? p88 = some (Value.int .i64 x89)) ∧
                                (w29.cell? (a85.add 0) = some (Value.int .i64 x86) ∧ w29.cell? (a85.add 1) = some (Sl.v x87)) ∧
                                callC Tryz.prog 10 #[(Value.agg #[(Value.int .i64 x86), (Sl.v x87)]), (Value.int .i64 x89), (Value.int .i64 (IntKind.i64.wrap (p5.tmod 4)))] (fun (r : Int × Sl × Bool) => (Value.tuple #[(Value.agg #[(Value.int .i64 r.1), (Sl.v r.2.1)]), (Value.bool r.2.2)])) w29 fun r94 w30 =>
                                st (Addr.mk b93 0 none) [(Value.int .i64 r94.1), (Sl.v r94.2.1)] w30 fun w31 =>
                                J84 r94.2.2 w31
                              )
                            )
                            fun l96 w32 =>
                            ix r66.1 l68.2 1 fun p97 =>
                            ld (Value.int .i64) p97 w32 fun x98 =>
                            cnd (((!decide (x98 = l68.1)) || (!l82.2)) || l96)
                              (
                              K false w32
                              )
                              (
                              nn l82.1 fun a104 =>
                              ld (Value.int .i64) (a104.add 0) w32 fun x105 =>
                              ld Sl.v (a104.add 1) w32 fun x106 =>
                              st (Addr.mk b55 0 none) [(Value.int .i64 x105), (Sl.v x106)] w32 fun w33 =>
                              next68 (IntKind.i64.wrap (l68.1 + 1), IntKind.i64.wrap (l68.2 + 1)) w33
                              )
                            )
                            (
                            next56 (l68.1, IntKind.i64.wrap (l56.2 + 1)) w16
                            )
                        ) (l56.1, 0) w15
                        )
                      )
                  ) 0 w12
                  )
                )
                (
                jn (fun J110 => cnd (r9 && (decide (l56.1 = ((IntKind.i64.wrap p2).tmod 41))))
                  (
                  ld (Value.int .i64) ((Addr.mk b55 0 none).add 0) w11 fun x112 =>
                  ld Sl.v ((Addr.mk b55 0 none).add 1) w11 fun x113 =>
                  callC Tryz.prog 11 #[(Value.agg #[(Value.int .i64 x112), (Sl.v x113)])] (fun (r : Int) => (Value.int .i64 r)) w11 fun r114 w34 =>
                  J110 (decide (r114 = ((IntKind.i64.wrap p2).tmod 41))) w34
                  )
                  (
                  J110 false w11
                  ))
                fun c115 w35 =>
                jn (fun J116 => cnd (c115)
                  (
                  callC Tryz.prog 12 #[(Value.pointer r13.1)] (fun (r : Int) => (Value.int .i64 r)) w35 fun r118 w36 =>
                  J116 (decide (r118 ≤ ((IntKind.i64.wrap p2).tmod 41))) w36
                  )
                  (
                  J116 false w35
                  ))
                fun c119 w37 =>
                jn (fun J120 => cnd (c119)
                  (
                  callC Tryz.prog 13 #[(Value.pointer r14.1)] (fun (r : Int) => (Value.int .i64 r)) w37 fun r122 w38 =>
                  J120 (decide (r122 = ((IntKind.i64.wrap p2).tmod 41))) w38
                  )
                  (
                  J120 false w37
                  ))
                fun c123 w39 =>
                jn (fun J124 => cnd (c123)
                  (
                  callC Tryz.prog 13 #[(Value.pointer r16.1)] (fun (r : Int) => (Value.int .i64 r)) w39 fun r126 w40 =>
                  J124 (decide (r126 = ((IntKind.i64.wrap p2).tmod 41))) w40
                  )
                  (
                  J124 false w39
                  ))
                fun c127 w41 =>
                K c127 w41
                )
            ) (0, 0) w10
            )
        ) 0 w7
        )
      )
    )
set_option maxRecDepth 100000 in
theorem D3 (p0 : Int) (p1 : Int) (p2 : Int) (p3 : Sl) (p4 : Sl) (p5 : Int) (w0 : World) (K : Bool → World → Prop) (h : F3 p0 p1 p2 p3 p4 p5 w0 K) : callC Tryz.prog 3 #[(Value.int .i64 p0), (Value.int .i64 p1), (Value.int .u8 p2), (Sl.v p3), (Sl.v p4), (Value.int .u8 p5)] (fun (r : Bool) => (Value.bool r)) w0 K := by
  unfold F3 at h
  refine calls_of_wpC Tryz.func3 rfl 277 rfl (by simp) ?_
  intro ρ hρ
  have e0 : ρ 0 = (Value.int .i64 p0) := hρ 0
  have e1 : ρ 1 = (Value.int .i64 p1) := hρ 1
  have e2 : ρ 2 = (Value.int .u8 p2) := hρ 2
  have e3 : ρ 3 = (Sl.v p3) := hρ 3
  have e4 : ρ 4 = (Sl.v p4) := hρ 4
  have e5 : ρ 5 = (Value.int .u8 p5) := hρ 5
  clear hρ
  refine wpC_seq ?_
  refine wpC_region ?_
  refine rv (Value.bool false) w0 rfl rfl rfl (x_assign rfl rfl) ?_
  refine wpR_nil ?_
  refine wpC_seq ?_
  refine wpC_cut (fun ρ => ρ 0 = (Value.int .i64 p0) ∧ ρ 1 = (Value.int .i64 p1) ∧ ρ 2 = (Value.int .u8 p2) ∧ ρ 3 = (Sl.v p3) ∧ ρ 4 = (Sl.v p4) ∧ ρ 5 = (Value.int .u8 p5) ∧ True) ⟨e0, e1, e2, e3, e4, e5, trivial⟩ ?_
  rintro ρ ⟨e0, e1, e2, e3, e4, e5, -⟩
  refine wpC_region ?_
  refine wpR_enter rfl rfl rfl (x_call (vs := []) rfl rfl mapl_nil Tryz.func5 NN_5 NB_5) (Calls.mono h ?_)
  rintro _ w1 ⟨r9, rfl, h⟩
  refine ⟨_, rfl, ?_⟩
  refine rv (Value.bool r9) w1 rfl rfl rfl (x_assign rfl rfl) ?_
  refine wpR_nil ?_
  refine wpC_seq ?_
  refine wpC_cut (fun ρ => ρ 0 = (Value.int .i64 p0) ∧ ρ 1 = (Value.int .i64 p1) ∧ ρ 2 = (Value.int .u8 p2) ∧ ρ 3 = (Sl.v p3) ∧ ρ 4 = (Sl.v p4) ∧ ρ 5 = (Value.int .u8 p5) ∧ ρ 13 = (Value.bool r9) ∧ True) ⟨e0, e1, e2, e3, e4, e5, rfl, trivial⟩ ?_
  rintro ρ ⟨e0, e1, e2, e3, e4, e5, e13, -⟩
  refine wpC_region ?_
  refine rv (Value.int .u8 p2) w1 rfl rfl rfl (x_move rfl e2) ?_
  refine rv (Value.int .i64 (IntKind.i64.wrap p2)) w1 rfl rfl rfl (x_convI rfl rfl IK_3 IK_5) ?_
  refine rv (Value.int .i64 ((IntKind.i64.wrap p2).tmod 41)) w1 rfl rfl rfl (x_rem rfl rfl rfl (by decide)) ?_
  refine rv (Value.int .i64 ((IntKind.i64.wrap p2).tmod 41)) w1 rfl rfl rfl (x_assign rfl rfl) ?_
  refine wpR_nil ?_
  refine wpC_seq ?_
  refine wpC_seq ?_
  refine wpC_cut (fun ρ => ρ 0 = (Value.int .i64 p0) ∧ ρ 1 = (Value.int .i64 p1) ∧ ρ 3 = (Sl.v p3) ∧ ρ 4 = (Sl.v p4) ∧ ρ 5 = (Value.int .u8 p5) ∧ ρ 13 = (Value.bool r9) ∧ ρ 14 = (Value.int .i64 ((IntKind.i64.wrap p2).tmod 41)) ∧ True) ⟨e0, e1, e3, e4, e5, e13, rfl, trivial⟩ ?_
  rintro ρ ⟨e0, e1, e3, e4, e5, e13, e14, -⟩
  refine wpC_region ?_
  refine rv (Sl.v p3) w1 rfl rfl rfl (x_move rfl e3) ?_
  refine rv (Value.int .i64 (p3.len : Int)) w1 rfl rfl rfl (x_lenS (s := p3) rfl rfl isSliceT_22) ?_
  refine rv (Value.bool (decide (200 < (p3.len : Int)))) w1 rfl rfl rfl (x_gtr rfl rfl rfl) ?_
  refine rv (Value.bool (decide (200 < (p3.len : Int)))) w1 rfl rfl rfl (x_move rfl rfl) ?_
  refine wpR_joinJ 4 (fun (_ : Unit) ρ => ρ 54 = Value.bool ((decide (200 < (p3.len : Int))) || (decide (200 < (p4.len : Int)))) ∧ ρ 0 = (Value.int .i64 p0) ∧ ρ 1 = (Value.int .i64 p1) ∧ ρ 3 = (Sl.v p3) ∧ ρ 4 = (Sl.v p4) ∧ ρ 5 = (Value.int .u8 p5) ∧ ρ 13 = (Value.bool r9) ∧ ρ 14 = (Value.int .i64 ((IntKind.i64.wrap p2).tmod 41)) ∧ True) (fun _ w => w1 = w) ?_ ?_
  · clear h
    rcases Bool.eq_false_or_eq_true (decide (200 < (p3.len : Int))) with hc11 | hc11
    · skip
      refine wpR_pass (wantN rfl rfl rfl hc11) rfl rfl ?_
      refine wpR_pass (wantN rfl rfl rfl hc11) rfl rfl ?_
      refine wpR_pass (wantN rfl rfl rfl hc11) rfl rfl ?_
      refine rv (Value.bool true) w1 rfl rfl rfl (x_pickT (v := (Value.bool true)) rfl rfl hc11 rfl) ?_
      refine wpR_nil ?_
      exact ⟨(), ⟨(by rw [hc11]; rfl), e0, e1, e3, e4, e5, e13, e14, trivial⟩, rfl⟩
    · skip
      refine wpR_val (v := (Sl.v p4)) (w' := w1) (wantG rfl rfl rfl hc11) rfl rfl (x_move rfl e4) ?_
      refine wpR_val (v := (Value.int .i64 (p4.len : Int))) (w' := w1) (wantG rfl rfl rfl hc11) rfl rfl (x_lenS (s := p4) rfl rfl isSliceT_22) ?_
      refine wpR_val (v := (Value.bool (decide (200 < (p4.len : Int))))) (w' := w1) (wantG rfl rfl rfl hc11) rfl rfl (x_gtr rfl rfl rfl) ?_
      refine rv (Value.bool (decide (200 < (p4.len : Int)))) w1 rfl rfl rfl (x_pickF (v := (Value.bool (decide (200 < (p4.len : Int))))) rfl rfl hc11 rfl) ?_
      refine wpR_nil ?_
      exact ⟨(), ⟨(by rw [hc11]; rfl), e0, e1, e3, e4, e5, e13, e14, trivial⟩, rfl⟩
  rintro _ ρ wj ⟨e54, e0, e1, e3, e4, e5, e13, e14, -⟩ rfl
  refine wpR_nil ?_
  refine wpC_cond (b := (decide (200 < (p3.len : Int))) || (decide (200 < (p4.len : Int)))) e54 (fun hc12 => ?_) (fun hc12 => ?_)
  · replace h := h.1 hc12
    refine wpC_seq ?_
    refine wpC_region ?_
    refine rv (Value.bool r9) w1 rfl rfl rfl (x_move rfl e13) ?_
    refine rv (Value.bool r9) w1 rfl rfl rfl (x_assign rfl rfl) ?_
    refine wpR_nil ?_
    refine wpC_ret ?_
    exact ⟨.inl rfl, fun a ha => ⟨_, results_rep1 rfl ha rfl, r9, rfl, h⟩⟩
  · replace h := h.2 hc12
    refine wpC_skip ?_
    refine wpC_seq ?_
    refine wpC_region ?_
    refine rv (Value.int .i64 p0) w1 rfl rfl rfl (x_move rfl e0) ?_
    refine wpR_enter rfl rfl rfl (x_call (vs := [(Value.int .i64 p0)]) rfl rfl (mapl_cons rfl mapl_nil) Tryz.func6 NN_6 NB_6) (Calls.mono h ?_)
    rintro _ w2 ⟨r13, rfl, h⟩
    refine ⟨_, rfl, ?_⟩
    refine rv (Value.tuple #[(Value.pointer r13.1), (Value.int .i64 r13.2)]) w2 rfl rfl rfl (x_move rfl rfl) ?_
    refine rv (Value.pointer r13.1) w2 rfl rfl rfl (x_extract rfl rfl rfl) ?_
    refine rv (Value.int .i64 r13.2) w2 rfl rfl rfl (x_extract rfl rfl rfl) ?_
    refine rv (Value.pointer r13.1) w2 rfl rfl rfl (x_assign rfl rfl) ?_
    refine rv (Value.int .i64 r13.2) w2 rfl rfl rfl (x_assign rfl rfl) ?_
    refine wpR_nil ?_
    refine wpC_seq ?_
    refine wpC_cut (fun ρ => ρ 0 = (Value.int .i64 p0) ∧ ρ 1 = (Value.int .i64 p1) ∧ ρ 3 = (Sl.v p3) ∧ ρ 4 = (Sl.v p4) ∧ ρ 5 = (Value.int .u8 p5) ∧ ρ 13 = (Value.bool r9) ∧ ρ 14 = (Value.int .i64 ((IntKind.i64.wrap p2).tmod 41)) ∧ ρ 15 = (Value.pointer r13.1) ∧ ρ 16 = (Value.int .i64 r13.2) ∧ True) ⟨e0, e1, e3, e4, e5, e13, e14, rfl, rfl, trivial⟩ ?_
    rintro ρ ⟨e0, e1, e3, e4, e5, e13, e14, e15, e16, -⟩
    refine wpC_region ?_
    refine rv (Value.int .i64 p0) w2 rfl rfl rfl (x_move rfl e0) ?_
    refine wpR_enter rfl rfl rfl (x_call (vs := [(Value.int .i64 p0)]) rfl rfl (mapl_cons rfl mapl_nil) Tryz.func7 NN_7 NB_7) (Calls.mono h ?_)
    rintro _ w3 ⟨r14, rfl, h⟩
    refine ⟨_, rfl, ?_⟩
    refine rv (Value.tuple #[(Value.pointer r14.1), (Value.int .i64 r14.2)]) w3 rfl rfl rfl (x_move rfl rfl) ?_
    refine rv (Value.pointer r14.1) w3 rfl rfl rfl (x_extract rfl rfl rfl) ?_
    refine rv (Value.int .i64 r14.2) w3 rfl rfl rfl (x_extract rfl rfl rfl) ?_
    refine rv (Value.pointer r14.1) w3 rfl rfl rfl (x_assign rfl rfl) ?_
    refine rv (Value.int .i64 r14.2) w3 rfl rfl rfl (x_assign rfl rfl) ?_
    refine wpR_nil ?_
    refine wpC_seq ?_
    refine wpC_cut (fun ρ => ρ 0 = (Value.int .i64 p0) ∧ ρ 1 = (Value.int .i64 p1) ∧ ρ 3 = (Sl.v p3) ∧ ρ 4 = (Sl.v p4) ∧ ρ 5 = (Value.int .u8 p5) ∧ ρ 13 = (Value.bool r9) ∧ ρ 14 = (Value.int .i64 ((IntKind.i64.wrap p2).tmod 41)) ∧ ρ 15 = (Value.pointer r13.1) ∧ ρ 16 = (Value.int .i64 r13.2) ∧ ρ 17 = (Value.pointer r14.1) ∧ ρ 18 = (Value.int .i64 r14.2) ∧ True) ⟨e0, e1, e3, e4, e5, e13, e14, e15, e16, rfl, rfl, trivial⟩ ?_
    rintro ρ ⟨e0, e1, e3, e4, e5, e13, e14, e15, e16, e17, e18, -⟩
    refine wpC_region ?_
    refine rv (Value.int .i64 p1) w3 rfl rfl rfl (x_move rfl e1) ?_
    refine wpR_enter rfl rfl rfl (x_call (vs := [(Value.int .i64 p1)]) rfl rfl (mapl_cons rfl mapl_nil) Tryz.func6 NN_6 NB_6) (Calls.mono h ?_)
    rintro _ w4 ⟨r15, rfl, h⟩
    refine ⟨_, rfl, ?_⟩
    refine rv (Value.tuple #[(Value.pointer r15.1), (Value.int .i64 r15.2)]) w4 rfl rfl rfl (x_move rfl rfl) ?_
    refine rv (Value.pointer r15.1) w4 rfl rfl rfl (x_extract rfl rfl rfl) ?_
    refine rv (Value.int .i64 r15.2) w4 rfl rfl rfl (x_extract rfl rfl rfl) ?_
    refine rv (Value.pointer r15.1) w4 rfl rfl rfl (x_assign rfl rfl) ?_
    refine rv (Value.int .i64 r15.2) w4 rfl rfl rfl (x_assign rfl rfl) ?_
    refine wpR_nil ?_
    refine wpC_seq ?_
    refine wpC_cut (fun ρ => ρ 0 = (Value.int .i64 p0) ∧ ρ 1 = (Value.int .i64 p1) ∧ ρ 3 = (Sl.v p3) ∧ ρ 4 = (Sl.v p4) ∧ ρ 5 = (Value.int .u8 p5) ∧ ρ 13 = (Value.bool r9) ∧ ρ 14 = (Value.int .i64 ((IntKind.i64.wrap p2).tmod 41)) ∧ ρ 15 = (Value.pointer r13.1) ∧ ρ 16 = (Value.int .i64 r13.2) ∧ ρ 17 = (Value.pointer r14.1) ∧ ρ 18 = (Value.int .i64 r14.2) ∧ ρ 19 = (Value.pointer r15.1) ∧ ρ 20 = (Value.int .i64 r15.2) ∧ True) ⟨e0, e1, e3, e4, e5, e13, e14, e15, e16, e17, e18, rfl, rfl, trivial⟩ ?_
    rintro ρ ⟨e0, e1, e3, e4, e5, e13, e14, e15, e16, e17, e18, e19, e20, -⟩
    refine wpC_region ?_
    refine rv (Value.int .i64 p1) w4 rfl rfl rfl (x_move rfl e1) ?_
    refine wpR_enter rfl rfl rfl (x_call (vs := [(Value.int .i64 p1)]) rfl rfl (mapl_cons rfl mapl_nil) Tryz.func7 NN_7 NB_7) (Calls.mono h ?_)
    rintro _ w5 ⟨r16, rfl, h⟩
    refine ⟨_, rfl, ?_⟩
    refine rv (Value.tuple #[(Value.pointer r16.1), (Value.int .i64 r16.2)]) w5 rfl rfl rfl (x_move rfl rfl) ?_
    refine rv (Value.pointer r16.1) w5 rfl rfl rfl (x_extract rfl rfl rfl) ?_
    refine rv (Value.int .i64 r16.2) w5 rfl rfl rfl (x_extract rfl rfl rfl) ?_
    refine rv (Value.pointer r16.1) w5 rfl rfl rfl (x_assign rfl rfl) ?_
    refine rv (Value.int .i64 r16.2) w5 rfl rfl rfl (x_assign rfl rfl) ?_
    refine wpR_nil ?_
    refine wpC_seq ?_
    refine wpC_seq ?_
    refine wpC_cut (fun ρ => ρ 0 = (Value.int .i64 p0) ∧ ρ 1 = (Value.int .i64 p1) ∧ ρ 3 = (Sl.v p3) ∧ ρ 4 = (Sl.v p4) ∧ ρ 5 = (Value.int .u8 p5) ∧ ρ 13 = (Value.bool r9) ∧ ρ 14 = (Value.int .i64 ((IntKind.i64.wrap p2).tmod 41)) ∧ ρ 15 = (Value.pointer r13.1) ∧ ρ 16 = (Value.int .i64 r13.2) ∧ ρ 17 = (Value.pointer r14.1) ∧ ρ 18 = (Value.int .i64 r14.2) ∧ ρ 19 = (Value.pointer r15.1) ∧ ρ 20 = (Value.int .i64 r15.2) ∧ ρ 21 = (Value.pointer r16.1) ∧ ρ 22 = (Value.int .i64 r16.2) ∧ True) ⟨e0, e1, e3, e4, e5, e13, e14, e15, e16, e17, e18, e19, e20, rfl, rfl, trivial⟩ ?_
    rintro ρ ⟨e0, e1, e3, e4, e5, e13, e14, e15, e16, e17, e18, e19, e20, e21, e22, -⟩
    refine wpC_region ?_
    refine rv (Value.int .i64 p0) w5 rfl rfl rfl (x_move rfl e0) ?_
    refine rv (Value.bool (decide (p0 < 1))) w5 rfl rfl rfl (x_lss rfl rfl rfl) ?_
    refine rv (Value.bool (decide (p0 < 1))) w5 rfl rfl rfl (x_move rfl rfl) ?_
    refine wpR_joinJ 3 (fun (_ : Unit) ρ => ρ 81 = Value.bool ((decide (p0 < 1)) || (decide (64 < p0))) ∧ ρ 1 = (Value.int .i64 p1) ∧ ρ 3 = (Sl.v p3) ∧ ρ 4 = (Sl.v p4) ∧ ρ 5 = (Value.int .u8 p5) ∧ ρ 13 = (Value.bool r9) ∧ ρ 14 = (Value.int .i64 ((IntKind.i64.wrap p2).tmod 41)) ∧ ρ 15 = (Value.pointer r13.1) ∧ ρ 16 = (Value.int .i64 r13.2) ∧ ρ 17 = (Value.pointer r14.1) ∧ ρ 18 = (Value.int .i64 r14.2) ∧ ρ 19 = (Value.pointer r15.1) ∧ ρ 20 = (Value.int .i64 r15.2) ∧ ρ 21 = (Value.pointer r16.1) ∧ ρ 22 = (Value.int .i64 r16.2) ∧ True) (fun _ w => w5 = w) ?_ ?_
    · clear h
      rcases Bool.eq_false_or_eq_true (decide (p0 < 1)) with hc18 | hc18
      · skip
        refine wpR_pass (wantN rfl rfl rfl hc18) rfl rfl ?_
        refine wpR_pass (wantN rfl rfl rfl hc18) rfl rfl ?_
        refine rv (Value.bool true) w5 rfl rfl rfl (x_pickT (v := (Value.bool true)) rfl rfl hc18 rfl) ?_
        refine wpR_nil ?_
        exact ⟨(), ⟨(by rw [hc18]; rfl), e1, e3, e4, e5, e13, e14, e15, e16, e17, e18, e19, e20, e21, e22, trivial⟩, rfl⟩
      · skip
        refine wpR_val (v := (Value.int .i64 p0)) (w' := w5) (wantG rfl rfl rfl hc18) rfl rfl (x_move rfl e0) ?_
        refine wpR_val (v := (Value.bool (decide (64 < p0)))) (w' := w5) (wantG rfl rfl rfl hc18) rfl rfl (x_gtr rfl rfl rfl) ?_
        refine rv (Value.bool (decide (64 < p0))) w5 rfl rfl rfl (x_pickF (v := (Value.bool (decide (64 < p0)))) rfl rfl hc18 rfl) ?_
        refine wpR_nil ?_
        exact ⟨(), ⟨(by rw [hc18]; rfl), e1, e3, e4, e5, e13, e14, e15, e16, e17, e18, e19, e20, e21, e22, trivial⟩, rfl⟩
    rintro _ ρ wj ⟨e81, e1, e3, e4, e5, e13, e14, e15, e16, e17, e18, e19, e20, e21, e22, -⟩ rfl
    refine rv (Value.bool ((decide (p0 < 1)) || (decide (64 < p0)))) w5 rfl rfl rfl (x_move rfl e81) ?_
    refine wpR_joinJ 3 (fun (_ : Unit) ρ => ρ 85 = Value.bool (((decide (p0 < 1)) || (decide (64 < p0))) || (decide (p1 < 1))) ∧ ρ 1 = (Value.int .i64 p1) ∧ ρ 3 = (Sl.v p3) ∧ ρ 4 = (Sl.v p4) ∧ ρ 5 = (Value.int .u8 p5) ∧ ρ 13 = (Value.bool r9) ∧ ρ 14 = (Value.int .i64 ((IntKind.i64.wrap p2).tmod 41)) ∧ ρ 15 = (Value.pointer r13.1) ∧ ρ 16 = (Value.int .i64 r13.2) ∧ ρ 17 = (Value.pointer r14.1) ∧ ρ 18 = (Value.int .i64 r14.2) ∧ ρ 19 = (Value.pointer r15.1) ∧ ρ 20 = (Value.int .i64 r15.2) ∧ ρ 21 = (Value.pointer r16.1) ∧ ρ 22 = (Value.int .i64 r16.2) ∧ True) (fun _ w => w5 = w) ?_ ?_
    · clear h
      rcases Bool.eq_false_or_eq_true ((decide (p0 < 1)) || (decide (64 < p0))) with hc20 | hc20
      · skip
        refine wpR_pass (wantN rfl rfl rfl hc20) rfl rfl ?_
        refine wpR_pass (wantN rfl rfl rfl hc20) rfl rfl ?_
        refine rv (Value.bool true) w5 rfl rfl rfl (x_pickT (v := (Value.bool true)) rfl rfl hc20 rfl) ?_
        refine wpR_nil ?_
        exact ⟨(), ⟨(by rw [hc20]; rfl), e1, e3, e4, e5, e13, e14, e15, e16, e17, e18, e19, e20, e21, e22, trivial⟩, rfl⟩
      · skip
        refine wpR_val (v := (Value.int .i64 p1)) (w' := w5) (wantG rfl rfl rfl hc20) rfl rfl (x_move rfl e1) ?_
        refine wpR_val (v := (Value.bool (decide (p1 < 1)))) (w' := w5) (wantG rfl rfl rfl hc20) rfl rfl (x_lss rfl rfl rfl) ?_
        refine rv (Value.bool (decide (p1 < 1))) w5 rfl rfl rfl (x_pickF (v := (Value.bool (decide (p1 < 1)))) rfl rfl hc20 rfl) ?_
        refine wpR_nil ?_
        exact ⟨(), ⟨(by rw [hc20]; rfl), e1, e3, e4, e5, e13, e14, e15, e16, e17, e18, e19, e20, e21, e22, trivial⟩, rfl⟩
    rintro _ ρ wj ⟨e85, e1, e3, e4, e5, e13, e14, e15, e16, e17, e18, e19, e20, e21, e22, -⟩ rfl
    refine rv (Value.bool (((decide (p0 < 1)) || (decide (64 < p0))) || (decide (p1 < 1)))) w5 rfl rfl rfl (x_move rfl e85) ?_
    refine wpR_joinJ 3 (fun (_ : Unit) ρ => ρ 89 = Value.bool ((((decide (p0 < 1)) || (decide (64 < p0))) || (decide (p1 < 1))) || (decide (64 < p1))) ∧ ρ 3 = (Sl.v p3) ∧ ρ 4 = (Sl.v p4) ∧ ρ 5 = (Value.int .u8 p5) ∧ ρ 13 = (Value.bool r9) ∧ ρ 14 = (Value.int .i64 ((IntKind.i64.wrap p2).tmod 41)) ∧ ρ 15 = (Value.pointer r13.1) ∧ ρ 16 = (Value.int .i64 r13.2) ∧ ρ 17 = (Value.pointer r14.1) ∧ ρ 18 = (Value.int .i64 r14.2) ∧ ρ 19 = (Value.pointer r15.1) ∧ ρ 20 = (Value.int .i64 r15.2) ∧ ρ 21 = (Value.pointer r16.1) ∧ ρ 22 = (Value.int .i64 r16.2) ∧ True) (fun _ w => w5 = w) ?_ ?_
    · clear h
      rcases Bool.eq_false_or_eq_true (((decide (p0 < 1)) || (decide (64 < p0))) || (decide (p1 < 1))) with hc22 | hc22
      · skip
        refine wpR_pass (wantN rfl rfl rfl hc22) rfl rfl ?_
        refine wpR_pass (wantN rfl rfl rfl hc22) rfl rfl ?_
        refine rv (Value.bool true) w5 rfl rfl rfl (x_pickT (v := (Value.bool true)) rfl rfl hc22 rfl) ?_
        refine wpR_nil ?_
        exact ⟨(), ⟨(by rw [hc22]; rfl), e3, e4, e5, e13, e14, e15, e16, e17, e18, e19, e20, e21, e22, trivial⟩, rfl⟩
      · skip
        refine wpR_val (v := (Value.int .i64 p1)) (w' := w5) (wantG rfl rfl rfl hc22) rfl rfl (x_move rfl e1) ?_
        refine wpR_val (v := (Value.bool (decide (64 < p1)))) (w' := w5) (wantG rfl rfl rfl hc22) rfl rfl (x_gtr rfl rfl rfl) ?_
        refine rv (Value.bool (decide (64 < p1))) w5 rfl rfl rfl (x_pickF (v := (Value.bool (decide (64 < p1)))) rfl rfl hc22 rfl) ?_
        refine wpR_nil ?_
        exact ⟨(), ⟨(by rw [hc22]; rfl), e3, e4, e5, e13, e14, e15, e16, e17, e18, e19, e20, e21, e22, trivial⟩, rfl⟩
    rintro _ ρ wj ⟨e89, e3, e4, e5, e13, e14, e15, e16, e17, e18, e19, e20, e21, e22, -⟩ rfl
    refine wpR_nil ?_
    refine wpC_cond (b := (((decide (p0 < 1)) || (decide (64 < p0))) || (decide (p1 < 1))) || (decide (64 < p1))) e89 (fun hc23 => ?_) (fun hc23 => ?_)
    · replace h := h.1 hc23
      refine wpC_seq ?_
      refine wpC_region ?_
      refine rv (Value.bool r9) w5 rfl rfl rfl (x_move rfl e13) ?_
      refine rv (Value.bool r9) w5 rfl rfl rfl (x_move rfl rfl) ?_
      refine wpR_joinJ 7 (fun (_ : Unit) ρ => ρ 98 = Value.bool (r9 && ((decide (r13.2 = 1)) || (decide (r15.2 = 1)))) ∧ True) (fun _ w => w5 = w) ?_ ?_
      · clear h
        rcases Bool.eq_false_or_eq_true (r9) with hc25 | hc25
        · skip
          refine wpR_val (v := (Value.int .i64 r13.2)) (w' := w5) (wantG rfl rfl rfl hc25) rfl rfl (x_move rfl e16) ?_
          refine wpR_val (v := (Value.bool (decide (r13.2 = 1)))) (w' := w5) (wantG rfl rfl rfl hc25) rfl rfl (x_eql rfl rfl rfl) ?_
          refine wpR_val (v := (Value.bool (decide (r13.2 = 1)))) (w' := w5) (wantG rfl rfl rfl hc25) rfl rfl (x_move rfl rfl) ?_
          refine wpR_joinJ 3 (fun (_ : Unit) ρ => ρ 97 = Value.bool ((decide (r13.2 = 1)) || (decide (r15.2 = 1))) ∧ ρ 91 = (Value.bool r9) ∧ True) (fun _ w => w5 = w) ?_ ?_
          · clear h
            rcases Bool.eq_false_or_eq_true (decide (r13.2 = 1)) with hc31 | hc31
            · skip
              refine wpR_pass (wantN rfl rfl rfl hc31) rfl rfl ?_
              refine wpR_pass (wantN rfl rfl rfl hc31) rfl rfl ?_
              refine wpR_val (v := (Value.bool true)) (w' := w5) (wantG rfl rfl rfl hc25) rfl rfl (x_pickT (v := (Value.bool true)) rfl rfl hc31 rfl) ?_
              refine wpR_nil ?_
              exact ⟨(), ⟨(by rw [hc31]; rfl), rfl, trivial⟩, rfl⟩
            · skip
              refine wpR_val (v := (Value.int .i64 r15.2)) (w' := w5) (wantG rfl rfl rfl hc31) rfl rfl (x_move rfl e20) ?_
              refine wpR_val (v := (Value.bool (decide (r15.2 = 1)))) (w' := w5) (wantG rfl rfl rfl hc31) rfl rfl (x_eql rfl rfl rfl) ?_
              refine wpR_val (v := (Value.bool (decide (r15.2 = 1)))) (w' := w5) (wantG rfl rfl rfl hc25) rfl rfl (x_pickF (v := (Value.bool (decide (r15.2 = 1)))) rfl rfl hc31 rfl) ?_
              refine wpR_nil ?_
              exact ⟨(), ⟨(by rw [hc31]; rfl), rfl, trivial⟩, rfl⟩
          rintro _ ρ wj ⟨e97, e91, -⟩ rfl
          refine rv (Value.bool ((decide (r13.2 = 1)) || (decide (r15.2 = 1)))) w5 rfl rfl rfl (x_pickT (v := (Value.bool ((decide (r13.2 = 1)) || (decide (r15.2 = 1))))) rfl e91 hc25 e97) ?_
          refine wpR_nil ?_
          exact ⟨(), ⟨(by rw [hc25]; rfl), trivial⟩, rfl⟩
        · skip
          refine wpR_pass (wantN rfl rfl rfl hc25) rfl rfl ?_
          refine wpR_pass (wantN rfl rfl rfl hc25) rfl rfl ?_
          refine wpR_pass (wantN rfl rfl rfl hc25) rfl rfl ?_
          refine wpR_pass (wantU rfl rfl rfl) rfl rfl ?_
          refine wpR_pass (wantU rfl rfl rfl) rfl rfl ?_
          refine wpR_pass (wantN rfl rfl rfl hc25) rfl rfl ?_
          refine rv (Value.bool false) w5 rfl rfl rfl (x_pickF (v := (Value.bool false)) rfl rfl hc25 rfl) ?_
          refine wpR_nil ?_
          exact ⟨(), ⟨(by rw [hc25]; rfl), trivial⟩, rfl⟩
      rintro _ ρ wj ⟨e98, -⟩ rfl
      refine rv (Value.bool (r9 && ((decide (r13.2 = 1)) || (decide (r15.2 = 1))))) w5 rfl rfl rfl (x_assign rfl e98) ?_
      refine wpR_nil ?_
      refine wpC_ret ?_
      exact ⟨.inl rfl, fun a ha => ⟨_, results_rep1 rfl ha rfl, r9 && ((decide (r13.2 = 1)) || (decide (r15.2 = 1))), rfl, h⟩⟩
    · replace h := h.2 hc23
      refine wpC_skip ?_
      refine wpC_seq ?_
      refine wpC_seq ?_
      refine wpC_region ?_
      refine rv (Value.int .i64 r13.2) w5 rfl rfl rfl (x_move rfl e16) ?_
      refine rv (Value.bool (!decide (r13.2 = 0))) w5 rfl rfl rfl (x_neq rfl rfl rfl) ?_
      refine rv (Value.bool (!decide (r13.2 = 0))) w5 rfl rfl rfl (x_move rfl rfl) ?_
      refine wpR_joinJ 3 (fun (_ : Unit) ρ => ρ 104 = Value.bool ((!decide (r13.2 = 0)) || (!decide (r14.2 = 0))) ∧ ρ 3 = (Sl.v p3) ∧ ρ 4 = (Sl.v p4) ∧ ρ 5 = (Value.int .u8 p5) ∧ ρ 13 = (Value.bool r9) ∧ ρ 14 = (Value.int .i64 ((IntKind.i64.wrap p2).tmod 41)) ∧ ρ 15 = (Value.pointer r13.1) ∧ ρ 17 = (Value.pointer r14.1) ∧ ρ 19 = (Value.pointer r15.1) ∧ ρ 20 = (Value.int .i64 r15.2) ∧ ρ 21 = (Value.pointer r16.1) ∧ ρ 22 = (Value.int .i64 r16.2) ∧ True) (fun _ w => w5 = w) ?_ ?_
      · clear h
        rcases Bool.eq_false_or_eq_true (!decide (r13.2 = 0)) with hc33 | hc33
        · skip
          refine wpR_pass (wantN rfl rfl rfl hc33) rfl rfl ?_
          refine wpR_pass (wantN rfl rfl rfl hc33) rfl rfl ?_
          refine rv (Value.bool true) w5 rfl rfl rfl (x_pickT (v := (Value.bool true)) rfl rfl hc33 rfl) ?_
          refine wpR_nil ?_
          exact ⟨(), ⟨(by rw [hc33]; rfl), e3, e4, e5, e13, e14, e15, e17, e19, e20, e21, e22, trivial⟩, rfl⟩
        · skip
          refine wpR_val (v := (Value.int .i64 r14.2)) (w' := w5) (wantG rfl rfl rfl hc33) rfl rfl (x_move rfl e18) ?_
          refine wpR_val (v := (Value.bool (!decide (r14.2 = 0)))) (w' := w5) (wantG rfl rfl rfl hc33) rfl rfl (x_neq rfl rfl rfl) ?_
          refine rv (Value.bool (!decide (r14.2 = 0))) w5 rfl rfl rfl (x_pickF (v := (Value.bool (!decide (r14.2 = 0)))) rfl rfl hc33 rfl) ?_
          refine wpR_nil ?_
          exact ⟨(), ⟨(by rw [hc33]; rfl), e3, e4, e5, e13, e14, e15, e17, e19, e20, e21, e22, trivial⟩, rfl⟩
      rintro _ ρ wj ⟨e104, e3, e4, e5, e13, e14, e15, e17, e19, e20, e21, e22, -⟩ rfl
      refine rv (Value.bool ((!decide (r13.2 = 0)) || (!decide (r14.2 = 0)))) w5 rfl rfl rfl (x_move rfl e104) ?_
      refine wpR_joinJ 3 (fun (_ : Unit) ρ => ρ 108 = Value.bool (((!decide (r13.2 = 0)) || (!decide (r14.2 = 0))) || (!decide (r15.2 = 0))) ∧ ρ 3 = (Sl.v p3) ∧ ρ 4 = (Sl.v p4) ∧ ρ 5 = (Value.int .u8 p5) ∧ ρ 13 = (Value.bool r9) ∧ ρ 14 = (Value.int .i64 ((IntKind.i64.wrap p2).tmod 41)) ∧ ρ 15 = (Value.pointer r13.1) ∧ ρ 17 = (Value.pointer r14.1) ∧ ρ 19 = (Value.pointer r15.1) ∧ ρ 21 = (Value.pointer r16.1) ∧ ρ 22 = (Value.int .i64 r16.2) ∧ True) (fun _ w => w5 = w) ?_ ?_
      · clear h
        rcases Bool.eq_false_or_eq_true ((!decide (r13.2 = 0)) || (!decide (r14.2 = 0))) with hc35 | hc35
        · skip
          refine wpR_pass (wantN rfl rfl rfl hc35) rfl rfl ?_
          refine wpR_pass (wantN rfl rfl rfl hc35) rfl rfl ?_
          refine rv (Value.bool true) w5 rfl rfl rfl (x_pickT (v := (Value.bool true)) rfl rfl hc35 rfl) ?_
          refine wpR_nil ?_
          exact ⟨(), ⟨(by rw [hc35]; rfl), e3, e4, e5, e13, e14, e15, e17, e19, e21, e22, trivial⟩, rfl⟩
        · skip
          refine wpR_val (v := (Value.int .i64 r15.2)) (w' := w5) (wantG rfl rfl rfl hc35) rfl rfl (x_move rfl e20) ?_
          refine wpR_val (v := (Value.bool (!decide (r15.2 = 0)))) (w' := w5) (wantG rfl rfl rfl hc35) rfl rfl (x_neq rfl rfl rfl) ?_
          refine rv (Value.bool (!decide (r15.2 = 0))) w5 rfl rfl rfl (x_pickF (v := (Value.bool (!decide (r15.2 = 0)))) rfl rfl hc35 rfl) ?_
          refine wpR_nil ?_
          exact ⟨(), ⟨(by rw [hc35]; rfl), e3, e4, e5, e13, e14, e15, e17, e19, e21, e22, trivial⟩, rfl⟩
      rintro _ ρ wj ⟨e108, e3, e4, e5, e13, e14, e15, e17, e19, e21, e22, -⟩ rfl
      refine rv (Value.bool (((!decide (r13.2 = 0)) || (!decide (r14.2 = 0))) || (!decide (r15.2 = 0)))) w5 rfl rfl rfl (x_move rfl e108) ?_
      refine wpR_joinJ 3 (fun (_ : Unit) ρ => ρ 112 = Value.bool ((((!decide (r13.2 = 0)) || (!decide (r14.2 = 0))) || (!decide (r15.2 = 0))) || (!decide (r16.2 = 0))) ∧ ρ 3 = (Sl.v p3) ∧ ρ 4 = (Sl.v p4) ∧ ρ 5 = (Value.int .u8 p5) ∧ ρ 13 = (Value.bool r9) ∧ ρ 14 = (Value.int .i64 ((IntKind.i64.wrap p2).tmod 41)) ∧ ρ 15 = (Value.pointer r13.1) ∧ ρ 17 = (Value.pointer r14.1) ∧ ρ 19 = (Value.pointer r15.1) ∧ ρ 21 = (Value.pointer r16.1) ∧ True) (fun _ w => w5 = w) ?_ ?_
      · clear h
        rcases Bool.eq_false_or_eq_true (((!decide (r13.2 = 0)) || (!decide (r14.2 = 0))) || (!decide (r15.2 = 0))) with hc37 | hc37
        · skip
          refine wpR_pass (wantN rfl rfl rfl hc37) rfl rfl ?_
          refine wpR_pass (wantN rfl rfl rfl hc37) rfl rfl ?_
          refine rv (Value.bool true) w5 rfl rfl rfl (x_pickT (v := (Value.bool true)) rfl rfl hc37 rfl) ?_
          refine wpR_nil ?_
          exact ⟨(), ⟨(by rw [hc37]; rfl), e3, e4, e5, e13, e14, e15, e17, e19, e21, trivial⟩, rfl⟩
        · skip
          refine wpR_val (v := (Value.int .i64 r16.2)) (w' := w5) (wantG rfl rfl rfl hc37) rfl rfl (x_move rfl e22) ?_
          refine wpR_val (v := (Value.bool (!decide (r16.2 = 0)))) (w' := w5) (wantG rfl rfl rfl hc37) rfl rfl (x_neq rfl rfl rfl) ?_
          refine rv (Value.bool (!decide (r16.2 = 0))) w5 rfl rfl rfl (x_pickF (v := (Value.bool (!decide (r16.2 = 0)))) rfl rfl hc37 rfl) ?_
          refine wpR_nil ?_
          exact ⟨(), ⟨(by rw [hc37]; rfl), e3, e4, e5, e13, e14, e15, e17, e19, e21, trivial⟩, rfl⟩
      rintro _ ρ wj ⟨e112, e3, e4, e5, e13, e14, e15, e17, e19, e21, -⟩ rfl
      refine rv (Value.bool ((((!decide (r13.2 = 0)) || (!decide (r14.2 = 0))) || (!decide (r15.2 = 0))) || (!decide (r16.2 = 0)))) w5 rfl rfl rfl (x_move rfl e112) ?_
      refine wpR_joinJ 3 (fun (_ : Unit) ρ => ρ 116 = Value.bool (((((!decide (r13.2 = 0)) || (!decide (r14.2 = 0))) || (!decide (r15.2 = 0))) || (!decide (r16.2 = 0))) || r13.1.isNone) ∧ ρ 3 = (Sl.v p3) ∧ ρ 4 = (Sl.v p4) ∧ ρ 5 = (Value.int .u8 p5) ∧ ρ 13 = (Value.bool r9) ∧ ρ 14 = (Value.int .i64 ((IntKind.i64.wrap p2).tmod 41)) ∧ ρ 15 = (Value.pointer r13.1) ∧ ρ 17 = (Value.pointer r14.1) ∧ ρ 19 = (Value.pointer r15.1) ∧ ρ 21 = (Value.pointer r16.1) ∧ True) (fun _ w => w5 = w) ?_ ?_
      · clear h
        rcases Bool.eq_false_or_eq_true ((((!decide (r13.2 = 0)) || (!decide (r14.2 = 0))) || (!decide (r15.2 = 0))) || (!decide (r16.2 = 0))) with hc39 | hc39
        · skip
          refine wpR_pass (wantN rfl rfl rfl hc39) rfl rfl ?_
          refine wpR_pass (wantN rfl rfl rfl hc39) rfl rfl ?_
          refine rv (Value.bool true) w5 rfl rfl rfl (x_pickT (v := (Value.bool true)) rfl rfl hc39 rfl) ?_
          refine wpR_nil ?_
          exact ⟨(), ⟨(by rw [hc39]; rfl), e3, e4, e5, e13, e14, e15, e17, e19, e21, trivial⟩, rfl⟩
        · skip
          refine wpR_val (v := (Value.pointer r13.1)) (w' := w5) (wantG rfl rfl rfl hc39) rfl rfl (x_move rfl e15) ?_
          refine wpR_val (v := (Value.bool r13.1.isNone)) (w' := w5) (wantG rfl rfl rfl hc39) rfl rfl (x_eqlNil rfl rfl rfl isPtrT_24) ?_
          refine rv (Value.bool r13.1.isNone) w5 rfl rfl rfl (x_pickF (v := (Value.bool r13.1.isNone)) rfl rfl hc39 rfl) ?_
          refine wpR_nil ?_
          exact ⟨(), ⟨(by rw [hc39]; rfl), e3, e4, e5, e13, e14, e15, e17, e19, e21, trivial⟩, rfl⟩
      rintro _ ρ wj ⟨e116, e3, e4, e5, e13, e14, e15, e17, e19, e21, -⟩ rfl
      refine rv (Value.bool (((((!decide (r13.2 = 0)) || (!decide (r14.2 = 0))) || (!decide (r15.2 = 0))) || (!decide (r16.2 = 0))) || r13.1.isNone)) w5 rfl rfl rfl (x_move rfl e116) ?_
      refine wpR_joinJ 3 (fun (_ : Unit) ρ => ρ 120 = Value.bool ((((((!decide (r13.2 = 0)) || (!decide (r14.2 = 0))) || (!decide (r15.2 = 0))) || (!decide (r16.2 = 0))) || r13.1.isNone) || r14.1.isNone) ∧ ρ 3 = (Sl.v p3) ∧ ρ 4 = (Sl.v p4) ∧ ρ 5 = (Value.int .u8 p5) ∧ ρ 13 = (Value.bool r9) ∧ ρ 14 = (Value.int .i64 ((IntKind.i64.wrap p2).tmod 41)) ∧ ρ 15 = (Value.pointer r13.1) ∧ ρ 17 = (Value.pointer r14.1) ∧ ρ 19 = (Value.pointer r15.1) ∧ ρ 21 = (Value.pointer r16.1) ∧ True) (fun _ w => w5 = w) ?_ ?_
      · clear h
        rcases Bool.eq_false_or_eq_true (((((!decide (r13.2 = 0)) || (!decide (r14.2 = 0))) || (!decide (r15.2 = 0))) || (!decide (r16.2 = 0))) || r13.1.isNone) with hc41 | hc41
        · skip
          refine wpR_pass (wantN rfl rfl rfl hc41) rfl rfl ?_
          refine wpR_pass (wantN rfl rfl rfl hc41) rfl rfl ?_
          refine rv (Value.bool true) w5 rfl rfl rfl (x_pickT (v := (Value.bool true)) rfl rfl hc41 rfl) ?_
          refine wpR_nil ?_
          exact ⟨(), ⟨(by rw [hc41]; rfl), e3, e4, e5, e13, e14, e15, e17, e19, e21, trivial⟩, rfl⟩
        · skip
          refine wpR_val (v := (Value.pointer r14.1)) (w' := w5) (wantG rfl rfl rfl hc41) rfl rfl (x_move rfl e17) ?_
          refine wpR_val (v := (Value.bool r14.1.isNone)) (w' := w5) (wantG rfl rfl rfl hc41) rfl rfl (x_eqlNil rfl rfl rfl isPtrT_28) ?_
          refine rv (Value.bool r14.1.isNone) w5 rfl rfl rfl (x_pickF (v := (Value.bool r14.1.isNone)) rfl rfl hc41 rfl) ?_
          refine wpR_nil ?_
          exact ⟨(), ⟨(by rw [hc41]; rfl), e3, e4, e5, e13, e14, e15, e17, e19, e21, trivial⟩, rfl⟩
      rintro _ ρ wj ⟨e120, e3, e4, e5, e13, e14, e15, e17, e19, e21, -⟩ rfl
      refine rv (Value.bool ((((((!decide (r13.2 = 0)) || (!decide (r14.2 = 0))) || (!decide (r15.2 = 0))) || (!decide (r16.2 = 0))) || r13.1.isNone) || r14.1.isNone)) w5 rfl rfl rfl (x_move rfl e120) ?_
      refine wpR_joinJ 3 (fun (_ : Unit) ρ => ρ 124 = Value.bool (((((((!decide (r13.2 = 0)) || (!decide (r14.2 = 0))) || (!decide (r15.2 = 0))) || (!decide (r16.2 = 0))) || r13.1.isNone) || r14.1.isNone) || r15.1.isNone) ∧ ρ 3 = (Sl.v p3) ∧ ρ 4 = (Sl.v p4) ∧ ρ 5 = (Value.int .u8 p5) ∧ ρ 13 = (Value.bool r9) ∧ ρ 14 = (Value.int .i64 ((IntKind.i64.wrap p2).tmod 41)) ∧ ρ 15 = (Value.pointer r13.1) ∧ ρ 17 = (Value.pointer r14.1) ∧ ρ 19 = (Value.pointer r15.1) ∧ ρ 21 = (Value.pointer r16.1) ∧ True) (fun _ w => w5 = w) ?_ ?_
      · clear h
        rcases Bool.eq_false_or_eq_true ((((((!decide (r13.2 = 0)) || (!decide (r14.2 = 0))) || (!decide (r15.2 = 0))) || (!decide (r16.2 = 0))) || r13.1.isNone) || r14.1.isNone) with hc43 | hc43
        · skip
          refine wpR_pass (wantN rfl rfl rfl hc43) rfl rfl ?_
          refine wpR_pass (wantN rfl rfl rfl hc43) rfl rfl ?_
          refine rv (Value.bool true) w5 rfl rfl rfl (x_pickT (v := (Value.bool true)) rfl rfl hc43 rfl) ?_
          refine wpR_nil ?_
          exact ⟨(), ⟨(by rw [hc43]; rfl), e3, e4, e5, e13, e14, e15, e17, e19, e21, trivial⟩, rfl⟩
        · skip
          refine wpR_val (v := (Value.pointer r15.1)) (w' := w5) (wantG rfl rfl rfl hc43) rfl rfl (x_move rfl e19) ?_
          refine wpR_val (v := (Value.bool r15.1.isNone)) (w' := w5) (wantG rfl rfl rfl hc43) rfl rfl (x_eqlNil rfl rfl rfl isPtrT_24) ?_
          refine rv (Value.bool r15.1.isNone) w5 rfl rfl rfl (x_pickF (v := (Value.bool r15.1.isNone)) rfl rfl hc43 rfl) ?_
          refine wpR_nil ?_
          exact ⟨(), ⟨(by rw [hc43]; rfl), e3, e4, e5, e13, e14, e15, e17, e19, e21, trivial⟩, rfl⟩
      rintro _ ρ wj ⟨e124, e3, e4, e5, e13, e14, e15, e17, e19, e21, -⟩ rfl
      refine rv (Value.bool (((((((!decide (r13.2 = 0)) || (!decide (r14.2 = 0))) || (!decide (r15.2 = 0))) || (!decide (r16.2 = 0))) || r13.1.isNone) || r14.1.isNone) || r15.1.isNone)) w5 rfl rfl rfl (x_move rfl e124) ?_
      refine wpR_joinJ 3 (fun (_ : Unit) ρ => ρ 128 = Value.bool ((((((((!decide (r13.2 = 0)) || (!decide (r14.2 = 0))) || (!decide (r15.2 = 0))) || (!decide (r16.2 = 0))) || r13.1.isNone) || r14.1.isNone) || r15.1.isNone) || r16.1.isNone) ∧ ρ 3 = (Sl.v p3) ∧ ρ 4 = (Sl.v p4) ∧ ρ 5 = (Value.int .u8 p5) ∧ ρ 13 = (Value.bool r9) ∧ ρ 14 = (Value.int .i64 ((IntKind.i64.wrap p2).tmod 41)) ∧ ρ 15 = (Value.pointer r13.1) ∧ ρ 17 = (Value.pointer r14.1) ∧ ρ 19 = (Value.pointer r15.1) ∧ ρ 21 = (Value.pointer r16.1) ∧ True) (fun _ w => w5 = w) ?_ ?_
      · clear h
        rcases Bool.eq_false_or_eq_true (((((((!decide (r13.2 = 0)) || (!decide (r14.2 = 0))) || (!decide (r15.2 = 0))) || (!decide (r16.2 = 0))) || r13.1.isNone) || r14.1.isNone) || r15.1.isNone) with hc45 | hc45
        · skip
          refine wpR_pass (wantN rfl rfl rfl hc45) rfl rfl ?_
          refine wpR_pass (wantN rfl rfl rfl hc45) rfl rfl ?_
          refine rv (Value.bool true) w5 rfl rfl rfl (x_pickT (v := (Value.bool true)) rfl rfl hc45 rfl) ?_
          refine wpR_nil ?_
          exact ⟨(), ⟨(by rw [hc45]; rfl), e3, e4, e5, e13, e14, e15, e17, e19, e21, trivial⟩, rfl⟩
        · skip
          refine wpR_val (v := (Value.pointer r16.1)) (w' := w5) (wantG rfl rfl rfl hc45) rfl rfl (x_move rfl e21) ?_
          refine wpR_val (v := (Value.bool r16.1.isNone)) (w' := w5) (wantG rfl rfl rfl hc45) rfl rfl (x_eqlNil rfl rfl rfl isPtrT_28) ?_
          refine rv (Value.bool r16.1.isNone) w5 rfl rfl rfl (x_pickF (v := (Value.bool r16.1.isNone)) rfl rfl hc45 rfl) ?_
          refine wpR_nil ?_
          exact ⟨(), ⟨(by rw [hc45]; rfl), e3, e4, e5, e13, e14, e15, e17, e19, e21, trivial⟩, rfl⟩
      rintro _ ρ wj ⟨e128, e3, e4, e5, e13, e14, e15, e17, e19, e21, -⟩ rfl
      refine wpR_nil ?_
      refine wpC_cond (b := (((((((!decide (r13.2 = 0)) || (!decide (r14.2 = 0))) || (!decide (r15.2 = 0))) || (!decide (r16.2 = 0))) || r13.1.isNone) || r14.1.isNone) || r15.1.isNone) || r16.1.isNone) e128 (fun hc46 => ?_) (fun hc46 => ?_)
      · replace h := h.1 hc46
        refine wpC_seq ?_
        refine wpC_region ?_
        refine rv (Value.bool false) w5 rfl rfl rfl (x_assign rfl rfl) ?_
        refine wpR_nil ?_
        refine wpC_ret ?_
        exact ⟨.inl rfl, fun a ha => ⟨_, results_rep1 rfl ha rfl, false, rfl, h⟩⟩
      · replace h := h.2 hc46
        refine wpC_skip ?_
        refine wpC_seq ?_
        refine wpC_region ?_
        refine rv (Value.pointer r13.1) w5 rfl rfl rfl (x_move rfl e15) ?_
        refine rv (Value.pointer r14.1) w5 rfl rfl rfl (x_move rfl e17) ?_
        refine rv (Sl.v p3) w5 rfl rfl rfl (x_move rfl e3) ?_
        refine rv (Value.agg #[(Value.pointer r13.1), (Value.pointer r14.1), (Sl.v p3), (Value.int .i64 0)]) w5 rfl rfl rfl (x_build (qs := [(0, (Value.pointer r13.1)), (1, (Value.pointer r14.1)), (2, (Sl.v p3))]) rfl (by rfl) (BD_33_0_1_2 r13.1 r14.1 p3 _)) ?_
        obtain ⟨b47, hb47⟩ : ∃ u, u = w5.heap.size := ⟨_, rfl⟩
        obtain ⟨w6, hw47⟩ : ∃ u, u = w5.alloc (.cells #[(Value.pointer r13.1), (Value.pointer r14.1), (Sl.v p3), (Value.int .i64 0)] 33) := ⟨_, rfl⟩
        replace h := h b47 w6 hb47 hw47
        refine rv (Value.pointer (some (Addr.mk b47 0 none))) w6 rfl rfl rfl ((x_box (v := (Value.agg #[(Value.pointer r13.1), (Value.pointer r14.1), (Sl.v p3), (Value.int .i64 0)])) rfl rfl).trans (by rw [hb47, hw47]; rfl)) ?_
        refine rv (Value.pointer (some (Addr.mk b47 0 none))) w6 rfl rfl rfl (x_assign rfl rfl) ?_
        refine wpR_nil ?_
        refine wpC_seq ?_
        refine wpC_cut (fun ρ => ρ 3 = (Sl.v p3) ∧ ρ 4 = (Sl.v p4) ∧ ρ 5 = (Value.int .u8 p5) ∧ ρ 13 = (Value.bool r9) ∧ ρ 14 = (Value.int .i64 ((IntKind.i64.wrap p2).tmod 41)) ∧ ρ 15 = (Value.pointer r13.1) ∧ ρ 17 = (Value.pointer r14.1) ∧ ρ 19 = (Value.pointer r15.1) ∧ ρ 21 = (Value.pointer r16.1) ∧ ρ 23 = (Value.pointer (some (Addr.mk b47 0 none))) ∧ True) ⟨e3, e4, e5, e13, e14, e15, e17, e19, e21, rfl, trivial⟩ ?_
        rintro ρ ⟨e3, e4, e5, e13, e14, e15, e17, e19, e21, e23, -⟩
        refine wpC_region ?_
        refine rv (Value.pointer r15.1) w6 rfl rfl rfl (x_move rfl e19) ?_
        refine rv (Value.pointer r16.1) w6 rfl rfl rfl (x_move rfl e21) ?_
        refine rv (Sl.v p4) w6 rfl rfl rfl (x_move rfl e4) ?_
        refine rv (Value.agg #[(Value.pointer r15.1), (Value.pointer r16.1), (Sl.v p4), (Value.int .i64 0)]) w6 rfl rfl rfl (x_build (qs := [(0, (Value.pointer r15.1)), (1, (Value.pointer r16.1)), (2, (Sl.v p4))]) rfl (by rfl) (BD_33_0_1_2 r15.1 r16.1 p4 _)) ?_
        obtain ⟨b48, hb48⟩ : ∃ u, u = w6.heap.size := ⟨_, rfl⟩
        obtain ⟨w7, hw48⟩ : ∃ u, u = w6.alloc (.cells #[(Value.pointer r15.1), (Value.pointer r16.1), (Sl.v p4), (Value.int .i64 0)] 33) := ⟨_, rfl⟩
        replace h := h b48 w7 hb48 hw48
        refine rv (Value.pointer (some (Addr.mk b48 0 none))) w7 rfl rfl rfl ((x_box (v := (Value.agg #[(Value.pointer r15.1), (Value.pointer r16.1), (Sl.v p4), (Value.int .i64 0)])) rfl rfl).trans (by rw [hb48, hw48]; rfl)) ?_
        refine rv (Value.pointer (some (Addr.mk b48 0 none))) w7 rfl rfl rfl (x_assign rfl rfl) ?_
        refine wpR_nil ?_
        refine wpC_seq ?_
        refine wpC_seq ?_
        refine wpC_cut (fun ρ => ρ 3 = (Sl.v p3) ∧ ρ 4 = (Sl.v p4) ∧ ρ 5 = (Value.int .u8 p5) ∧ ρ 13 = (Value.bool r9) ∧ ρ 14 = (Value.int .i64 ((IntKind.i64.wrap p2).tmod 41)) ∧ ρ 15 = (Value.pointer r13.1) ∧ ρ 17 = (Value.pointer r14.1) ∧ ρ 19 = (Value.pointer r15.1) ∧ ρ 21 = (Value.pointer r16.1) ∧ ρ 23 = (Value.pointer (some (Addr.mk b47 0 none))) ∧ ρ 24 = (Value.pointer (some (Addr.mk b48 0 none))) ∧ True) ⟨e3, e4, e5, e13, e14, e15, e17, e19, e21, e23, rfl, trivial⟩ ?_
        rintro ρ ⟨e3, e4, e5, e13, e14, e15, e17, e19, e21, e23, e24, -⟩
        refine wpC_region ?_
        refine rv (Value.int .i64 0) w7 rfl rfl rfl (x_assign rfl rfl) ?_
        refine wpR_nil ?_
        refine wpC_block ?_
        obtain ⟨I49, μ49, hI49, hr49⟩ := h
        refine wpC_loop (fun (x : Int) ρ => ρ 25 = (Value.int .i64 x) ∧ ρ 3 = (Sl.v p3) ∧ ρ 4 = (Sl.v p4) ∧ ρ 5 = (Value.int .u8 p5) ∧ ρ 13 = (Value.bool r9) ∧ ρ 14 = (Value.int .i64 ((IntKind.i64.wrap p2).tmod 41)) ∧ ρ 15 = (Value.pointer r13.1) ∧ ρ 17 = (Value.pointer r14.1) ∧ ρ 19 = (Value.pointer r15.1) ∧ ρ 21 = (Value.pointer r16.1) ∧ ρ 23 = (Value.pointer (some (Addr.mk b47 0 none))) ∧ ρ 24 = (Value.pointer (some (Addr.mk b48 0 none))) ∧ True) I49 μ49 0 ⟨rfl, e3, e4, e5, e13, e14, e15, e17, e19, e21, e23, e24, trivial⟩ hI49 ?_
        rintro l49 ρ w8 ⟨e25, e3, e4, e5, e13, e14, e15, e17, e19, e21, e23, e24, -⟩ h
        replace h := hr49 l49 w8 h
        clear hr49 hI49
        refine wpC_seq ?_
        refine wpC_seq ?_
        refine wpC_region ?_
        refine rv (Value.int .i64 l49) w8 rfl rfl rfl (x_move rfl e25) ?_
        refine rv (Value.int .i64 ((IntKind.i64.wrap p2).tmod 41)) w8 rfl rfl rfl (x_move rfl e14) ?_
        refine rv (Value.bool (decide (l49 < ((IntKind.i64.wrap p2).tmod 41)))) w8 rfl rfl rfl (x_lss rfl rfl rfl) ?_
        refine wpR_nil ?_
        refine wpC_cond (b := decide (l49 < ((IntKind.i64.wrap p2).tmod 41))) rfl (fun hc50 => ?_) (fun hc50 => ?_)
        · replace h := h.1 hc50
          refine wpC_skip ?_
          refine wpC_seq ?_
          refine wpC_block ?_
          refine wpC_seq ?_
          refine wpC_cut (fun ρ => ρ 3 = (Sl.v p3) ∧ ρ 4 = (Sl.v p4) ∧ ρ 5 = (Value.int .u8 p5) ∧ ρ 13 = (Value.bool r9) ∧ ρ 14 = (Value.int .i64 ((IntKind.i64.wrap p2).tmod 41)) ∧ ρ 15 = (Value.pointer r13.1) ∧ ρ 17 = (Value.pointer r14.1) ∧ ρ 19 = (Value.pointer r15.1) ∧ ρ 21 = (Value.pointer r16.1) ∧ ρ 23 = (Value.pointer (some (Addr.mk b47 0 none))) ∧ ρ 24 = (Value.pointer (some (Addr.mk b48 0 none))) ∧ ρ 25 = (Value.int .i64 l49) ∧ True) ⟨e3, e4, e5, e13, e14, e15, e17, e19, e21, e23, e24, e25, trivial⟩ ?_
          rintro ρ ⟨e3, e4, e5, e13, e14, e15, e17, e19, e21, e23, e24, e25, -⟩
          refine wpC_region ?_
          refine rv (Value.pointer r13.1) w8 rfl rfl rfl (x_move rfl e15) ?_
          refine wpR_enter rfl rfl rfl (x_call (vs := [(Value.pointer r13.1)]) rfl rfl (mapl_cons rfl mapl_nil) Tryz.func8 NN_8 NB_8) (Calls.mono h ?_)
          rintro _ w9 ⟨r51, rfl, h⟩
          refine ⟨_, rfl, ?_⟩
          refine rv (Value.tuple #[(Value.int .i64 r51.1), (Value.int .i64 r51.2)]) w9 rfl rfl rfl (x_move rfl rfl) ?_
          refine rv (Value.int .i64 r51.1) w9 rfl rfl rfl (x_extract rfl rfl rfl) ?_
          refine rv (Value.int .i64 r51.2) w9 rfl rfl rfl (x_extract rfl rfl rfl) ?_
          refine rv (Value.int .i64 r51.1) w9 rfl rfl rfl (x_assign rfl rfl) ?_
          refine rv (Value.int .i64 r51.2) w9 rfl rfl rfl (x_assign rfl rfl) ?_
          refine wpR_nil ?_
          refine wpC_seq ?_
          refine wpC_cut (fun ρ => ρ 3 = (Sl.v p3) ∧ ρ 4 = (Sl.v p4) ∧ ρ 5 = (Value.int .u8 p5) ∧ ρ 13 = (Value.bool r9) ∧ ρ 14 = (Value.int .i64 ((IntKind.i64.wrap p2).tmod 41)) ∧ ρ 15 = (Value.pointer r13.1) ∧ ρ 17 = (Value.pointer r14.1) ∧ ρ 19 = (Value.pointer r15.1) ∧ ρ 21 = (Value.pointer r16.1) ∧ ρ 23 = (Value.pointer (some (Addr.mk b47 0 none))) ∧ ρ 24 = (Value.pointer (some (Addr.mk b48 0 none))) ∧ ρ 25 = (Value.int .i64 l49) ∧ ρ 26 = (Value.int .i64 r51.1) ∧ ρ 27 = (Value.int .i64 r51.2) ∧ True) ⟨e3, e4, e5, e13, e14, e15, e17, e19, e21, e23, e24, e25, rfl, rfl, trivial⟩ ?_
          rintro ρ ⟨e3, e4, e5, e13, e14, e15, e17, e19, e21, e23, e24, e25, e26, e27, -⟩
          refine wpC_region ?_
          refine rv (Value.int .i64 r51.1) w9 rfl rfl rfl (x_move rfl e26) ?_
          refine rv (Value.int .i64 l49) w9 rfl rfl rfl (x_move rfl e25) ?_
          refine rv (Value.bool (!decide (r51.1 = l49))) w9 rfl rfl rfl (x_neq rfl rfl rfl) ?_
          refine rv (Value.bool (!decide (r51.1 = l49))) w9 rfl rfl rfl (x_move rfl rfl) ?_
          refine wpR_joinJ 3 (fun (_ : Unit) ρ => ρ 155 = Value.bool ((!decide (r51.1 = l49)) || (!decide (r51.2 = 0))) ∧ ρ 3 = (Sl.v p3) ∧ ρ 4 = (Sl.v p4) ∧ ρ 5 = (Value.int .u8 p5) ∧ ρ 13 = (Value.bool r9) ∧ ρ 14 = (Value.int .i64 ((IntKind.i64.wrap p2).tmod 41)) ∧ ρ 15 = (Value.pointer r13.1) ∧ ρ 17 = (Value.pointer r14.1) ∧ ρ 19 = (Value.pointer r15.1) ∧ ρ 21 = (Value.pointer r16.1) ∧ ρ 23 = (Value.pointer (some (Addr.mk b47 0 none))) ∧ ρ 24 = (Value.pointer (some (Addr.mk b48 0 none))) ∧ ρ 25 = (Value.int .i64 l49) ∧ True) (fun _ w => w9 = w) ?_ ?_
          · clear h
            rcases Bool.eq_false_or_eq_true (!decide (r51.1 = l49)) with hc53 | hc53
            · skip
              refine wpR_pass (wantN rfl rfl rfl hc53) rfl rfl ?_
              refine wpR_pass (wantN rfl rfl rfl hc53) rfl rfl ?_
              refine rv (Value.bool true) w9 rfl rfl rfl (x_pickT (v := (Value.bool true)) rfl rfl hc53 rfl) ?_
              refine wpR_nil ?_
              exact ⟨(), ⟨(by rw [hc53]; rfl), e3, e4, e5, e13, e14, e15, e17, e19, e21, e23, e24, e25, trivial⟩, rfl⟩
            · skip
              refine wpR_val (v := (Value.int .i64 r51.2)) (w' := w9) (wantG rfl rfl rfl hc53) rfl rfl (x_move rfl e27) ?_
              refine wpR_val (v := (Value.bool (!decide (r51.2 = 0)))) (w' := w9) (wantG rfl rfl rfl hc53) rfl rfl (x_neq rfl rfl rfl) ?_
              refine rv (Value.bool (!decide (r51.2 = 0))) w9 rfl rfl rfl (x_pickF (v := (Value.bool (!decide (r51.2 = 0)))) rfl rfl hc53 rfl) ?_
              refine wpR_nil ?_
              exact ⟨(), ⟨(by rw [hc53]; rfl), e3, e4, e5, e13, e14, e15, e17, e19, e21, e23, e24, e25, trivial⟩, rfl⟩
          rintro _ ρ wj ⟨e155, e3, e4, e5, e13, e14, e15, e17, e19, e21, e23, e24, e25, -⟩ rfl
          refine wpR_nil ?_
          refine wpC_cond (b := (!decide (r51.1 = l49)) || (!decide (r51.2 = 0))) e155 (fun hc54 => ?_) (fun hc54 => ?_)
          · replace h := h.1 hc54
            refine wpC_seq ?_
            refine wpC_region ?_
            refine rv (Value.bool false) w9 rfl rfl rfl (x_assign rfl rfl) ?_
            refine wpR_nil ?_
            refine wpC_ret ?_
            exact ⟨.inl rfl, fun a ha => ⟨_, results_rep1 rfl ha rfl, false, rfl, h⟩⟩
          · replace h := h.2 hc54
            refine wpC_skip ?_
            refine wpC_region ?_
            refine rv (Value.int .i64 l49) w9 rfl rfl rfl (x_move rfl e25) ?_
            refine rv (Value.int .i64 (IntKind.i64.wrap (l49 + 1))) w9 rfl rfl rfl (x_add rfl rfl rfl) ?_
            refine rv (Value.int .i64 (IntKind.i64.wrap (l49 + 1))) w9 rfl rfl rfl (x_assign rfl rfl) ?_
            refine wpR_nil ?_
            exact ⟨IntKind.i64.wrap (l49 + 1), ⟨rfl, e3, e4, e5, e13, e14, e15, e17, e19, e21, e23, e24, trivial⟩, h⟩
        · replace h := h.2 hc50
          refine wpC_exit ?_
          refine wpC_seq ?_
          refine wpC_cut (fun ρ => ρ 3 = (Sl.v p3) ∧ ρ 4 = (Sl.v p4) ∧ ρ 5 = (Value.int .u8 p5) ∧ ρ 13 = (Value.bool r9) ∧ ρ 14 = (Value.int .i64 ((IntKind.i64.wrap p2).tmod 41)) ∧ ρ 15 = (Value.pointer r13.1) ∧ ρ 17 = (Value.pointer r14.1) ∧ ρ 19 = (Value.pointer r15.1) ∧ ρ 21 = (Value.pointer r16.1) ∧ ρ 23 = (Value.pointer (some (Addr.mk b47 0 none))) ∧ ρ 24 = (Value.pointer (some (Addr.mk b48 0 none))) ∧ True) ⟨e3, e4, e5, e13, e14, e15, e17, e19, e21, e23, e24, trivial⟩ ?_
          rintro ρ ⟨e3, e4, e5, e13, e14, e15, e17, e19, e21, e23, e24, -⟩
          refine wpC_region ?_
          obtain ⟨b55, hb55⟩ : ∃ u, u = w8.heap.size := ⟨_, rfl⟩
          obtain ⟨w10, hw55⟩ : ∃ u, u = w8.alloc (.cells #[(Value.int .i64 0), (Sl.v Sl.nil)] 38) := ⟨_, rfl⟩
          replace h := h b55 w10 hb55 hw55
          refine rv (Value.pointer (some (Addr.mk b55 0 none))) w10 rfl rfl rfl ((x_alloc rfl ZV_38).trans (by rw [hb55, hw55]; rfl)) ?_
          refine wpR_nil ?_
          refine wpC_seq ?_
          refine wpC_cut (fun ρ => ρ 3 = (Sl.v p3) ∧ ρ 4 = (Sl.v p4) ∧ ρ 5 = (Value.int .u8 p5) ∧ ρ 13 = (Value.bool r9) ∧ ρ 14 = (Value.int .i64 ((IntKind.i64.wrap p2).tmod 41)) ∧ ρ 15 = (Value.pointer r13.1) ∧ ρ 17 = (Value.pointer r14.1) ∧ ρ 19 = (Value.pointer r15.1) ∧ ρ 21 = (Value.pointer r16.1) ∧ ρ 23 = (Value.pointer (some (Addr.mk b47 0 none))) ∧ ρ 24 = (Value.pointer (some (Addr.mk b48 0 none))) ∧ ρ 28 = (Value.pointer (some (Addr.mk b55 0 none))) ∧ True) ⟨e3, e4, e5, e13, e14, e15, e17, e19, e21, e23, e24, rfl, trivial⟩ ?_
          rintro ρ ⟨e3, e4, e5, e13, e14, e15, e17, e19, e21, e23, e24, e28, -⟩
          refine wpC_region ?_
          refine rv (Value.int .i64 0) w10 rfl rfl rfl (x_assign rfl rfl) ?_
          refine wpR_nil ?_
          refine wpC_seq ?_
          refine wpC_seq ?_
          refine wpC_cut (fun ρ => ρ 3 = (Sl.v p3) ∧ ρ 4 = (Sl.v p4) ∧ ρ 5 = (Value.int .u8 p5) ∧ ρ 13 = (Value.bool r9) ∧ ρ 14 = (Value.int .i64 ((IntKind.i64.wrap p2).tmod 41)) ∧ ρ 15 = (Value.pointer r13.1) ∧ ρ 17 = (Value.pointer r14.1) ∧ ρ 19 = (Value.pointer r15.1) ∧ ρ 21 = (Value.pointer r16.1) ∧ ρ 23 = (Value.pointer (some (Addr.mk b47 0 none))) ∧ ρ 24 = (Value.pointer (some (Addr.mk b48 0 none))) ∧ ρ 28 = (Value.pointer (some (Addr.mk b55 0 none))) ∧ ρ 29 = (Value.int .i64 0) ∧ True) ⟨e3, e4, e5, e13, e14, e15, e17, e19, e21, e23, e24, e28, rfl, trivial⟩ ?_
          rintro ρ ⟨e3, e4, e5, e13, e14, e15, e17, e19, e21, e23, e24, e28, e29, -⟩
          refine wpC_region ?_
          refine rv (Value.int .i64 0) w10 rfl rfl rfl (x_assign rfl rfl) ?_
          refine wpR_nil ?_
          refine wpC_block ?_
          obtain ⟨I56, μ56, hI56, hr56⟩ := h
          refine wpC_loop (fun (x : Int × Int) ρ => ρ 29 = (Value.int .i64 x.1) ∧ ρ 30 = (Value.int .i64 x.2) ∧ ρ 3 = (Sl.v p3) ∧ ρ 4 = (Sl.v p4) ∧ ρ 5 = (Value.int .u8 p5) ∧ ρ 13 = (Value.bool r9) ∧ ρ 14 = (Value.int .i64 ((IntKind.i64.wrap p2).tmod 41)) ∧ ρ 15 = (Value.pointer r13.1) ∧ ρ 17 = (Value.pointer r14.1) ∧ ρ 19 = (Value.pointer r15.1) ∧ ρ 21 = (Value.pointer r16.1) ∧ ρ 23 = (Value.pointer (some (Addr.mk b47 0 none))) ∧ ρ 24 = (Value.pointer (some (Addr.mk b48 0 none))) ∧ ρ 28 = (Value.pointer (some (Addr.mk b55 0 none))) ∧ True) I56 μ56 (0, 0) ⟨e29, rfl, e3, e4, e5, e13, e14, e15, e17, e19, e21, e23, e24, e28, trivial⟩ hI56 ?_
          rintro l56 ρ w11 ⟨e29, e30, e3, e4, e5, e13, e14, e15, e17, e19, e21, e23, e24, e28, -⟩ h
          replace h := hr56 l56 w11 h
          clear hr56 hI56
          refine wpC_seq ?_
          refine wpC_seq ?_
          refine wpC_region ?_
          refine rv (Value.int .i64 l56.2) w11 rfl rfl rfl (x_move rfl e30) ?_
          refine rv (Sl.v p3) w11 rfl rfl rfl (x_move rfl e3) ?_
          refine rv (Value.int .i64 (p3.len : Int)) w11 rfl rfl rfl (x_lenS (s := p3) rfl rfl isSliceT_22) ?_
          refine rv (Sl.v p4) w11 rfl rfl rfl (x_move rfl e4) ?_
          refine rv (Value.int .i64 (p4.len : Int)) w11 rfl rfl rfl (x_lenS (s := p4) rfl rfl isSliceT_22) ?_
          refine rv (Value.int .i64 (IntKind.i64.wrap ((p3.len : Int) + (p4.len : Int)))) w11 rfl rfl rfl (x_add rfl rfl rfl) ?_
          refine rv (Value.int .i64 ((IntKind.i64.wrap p2).tmod 41)) w11 rfl rfl rfl (x_move rfl e14) ?_
          refine rv (Value.int .i64 (IntKind.i64.wrap (2 * ((IntKind.i64.wrap p2).tmod 41)))) w11 rfl rfl rfl (x_mul rfl rfl rfl) ?_
          refine rv (Value.int .i64 (IntKind.i64.wrap ((IntKind.i64.wrap ((p3.len : Int) + (p4.len : Int))) + (IntKind.i64.wrap (2 * ((IntKind.i64.wrap p2).tmod 41)))))) w11 rfl rfl rfl (x_add rfl rfl rfl) ?_
          refine rv (Value.int .i64 (IntKind.i64.wrap ((IntKind.i64.wrap ((IntKind.i64.wrap ((p3.len : Int) + (p4.len : Int))) + (IntKind.i64.wrap (2 * ((IntKind.i64.wrap p2).tmod 41))))) + 4))) w11 rfl rfl rfl (x_add rfl rfl rfl) ?_
          refine rv (Value.bool (decide (l56.2 < (IntKind.i64.wrap ((IntKind.i64.wrap ((IntKind.i64.wrap ((p3.len : Int) + (p4.len : Int))) + (IntKind.i64.wrap (2 * ((IntKind.i64.wrap p2).tmod 41))))) + 4))))) w11 rfl rfl rfl (x_lss rfl rfl rfl) ?_
          refine rv (Value.bool (decide (l56.2 < (IntKind.i64.wrap ((IntKind.i64.wrap ((IntKind.i64.wrap ((p3.len : Int) + (p4.len : Int))) + (IntKind.i64.wrap (2 * ((IntKind.i64.wrap p2).tmod 41))))) + 4))))) w11 rfl rfl rfl (x_move rfl rfl) ?_
          refine wpR_joinJ 4 (fun (_ : Unit) ρ => ρ 171 = Value.bool ((decide (l56.2 < (IntKind.i64.wrap ((IntKind.i64.wrap ((IntKind.i64.wrap ((p3.len : Int) + (p4.len : Int))) + (IntKind.i64.wrap (2 * ((IntKind.i64.wrap p2).tmod 41))))) + 4)))) && (decide (l56.1 < ((IntKind.i64.wrap p2).tmod 41)))) ∧ ρ 3 = (Sl.v p3) ∧ ρ 4 = (Sl.v p4) ∧ ρ 5 = (Value.int .u8 p5) ∧ ρ 13 = (Value.bool r9) ∧ ρ 14 = (Value.int .i64 ((IntKind.i64.wrap p2).tmod 41)) ∧ ρ 15 = (Value.pointer r13.1) ∧ ρ 17 = (Value.pointer r14.1) ∧ ρ 19 = (Value.pointer r15.1) ∧ ρ 21 = (Value.pointer r16.1) ∧ ρ 23 = (Value.pointer (some (Addr.mk b47 0 none))) ∧ ρ 24 = (Value.pointer (some (Addr.mk b48 0 none))) ∧ ρ 28 = (Value.pointer (some (Addr.mk b55 0 none))) ∧ ρ 29 = (Value.int .i64 l56.1) ∧ ρ 30 = (Value.int .i64 l56.2) ∧ True) (fun _ w => w11 = w) ?_ ?_
          · clear h
            rcases Bool.eq_false_or_eq_true (decide (l56.2 < (IntKind.i64.wrap ((IntKind.i64.wrap ((IntKind.i64.wrap ((p3.len : Int) + (p4.len : Int))) + (IntKind.i64.wrap (2 * ((IntKind.i64.wrap p2).tmod 41))))) + 4)))) with hc58 | hc58
            · skip
              refine wpR_val (v := (Value.int .i64 l56.1)) (w' := w11) (wantG rfl rfl rfl hc58) rfl rfl (x_move rfl e29) ?_
              refine wpR_val (v := (Value.int .i64 ((IntKind.i64.wrap p2).tmod 41))) (w' := w11) (wantG rfl rfl rfl hc58) rfl rfl (x_move rfl e14) ?_
              refine wpR_val (v := (Value.bool (decide (l56.1 < ((IntKind.i64.wrap p2).tmod 41))))) (w' := w11) (wantG rfl rfl rfl hc58) rfl rfl (x_lss rfl rfl rfl) ?_
              refine rv (Value.bool (decide (l56.1 < ((IntKind.i64.wrap p2).tmod 41)))) w11 rfl rfl rfl (x_pickT (v := (Value.bool (decide (l56.1 < ((IntKind.i64.wrap p2).tmod 41))))) rfl rfl hc58 rfl) ?_
              refine wpR_nil ?_
              exact ⟨(), ⟨(by rw [hc58]; rfl), e3, e4, e5, e13, e14, e15, e17, e19, e21, e23, e24, e28, e29, e30, trivial⟩, rfl⟩
            · skip
              refine wpR_pass (wantN rfl rfl rfl hc58) rfl rfl ?_
              refine wpR_pass (wantN rfl rfl rfl hc58) rfl rfl ?_
              refine wpR_pass (wantN rfl rfl rfl hc58) rfl rfl ?_
              refine rv (Value.bool false) w11 rfl rfl rfl (x_pickF (v := (Value.bool false)) rfl rfl hc58 rfl) ?_
              refine wpR_nil ?_
              exact ⟨(), ⟨(by rw [hc58]; rfl), e3, e4, e5, e13, e14, e15, e17, e19, e21, e23, e24, e28, e29, e30, trivial⟩, rfl⟩
          rintro _ ρ wj ⟨e171, e3, e4, e5, e13, e14, e15, e17, e19, e21, e23, e24, e28, e29, e30, -⟩ rfl
          refine wpR_nil ?_
          refine wpC_cond (b := (decide (l56.2 < (IntKind.i64.wrap ((IntKind.i64.wrap ((IntKind.i64.wrap ((p3.len : Int) + (p4.len : Int))) + (IntKind.i64.wrap (2 * ((IntKind.i64.wrap p2).tmod 41))))) + 4)))) && (decide (l56.1 < ((IntKind.i64.wrap p2).tmod 41)))) e171 (fun hc59 => ?_) (fun hc59 => ?_)
          · replace h := h.1 hc59
            refine wpC_skip ?_
            refine wpC_seq ?_
            refine wpC_block ?_
            refine wpC_seq ?_
            refine wpC_region ?_
            refine rv (Value.pointer (some (Addr.mk b47 0 none))) w11 rfl rfl rfl (x_move rfl e23) ?_
            refine wpR_enter rfl rfl rfl (x_call (vs := [(Value.pointer (some (Addr.mk b47 0 none)))]) rfl rfl (mapl_cons rfl mapl_nil) Tryz.func9 NN_9 NB_9) (Calls.mono h ?_)
            rintro _ w12 ⟨r60, rfl, h⟩
            refine ⟨_, rfl, ?_⟩
            refine rv (Value.tuple #[(Sl.v r60.1), (Value.bool r60.2)]) w12 rfl rfl rfl (x_move rfl rfl) ?_
            refine rv (Sl.v r60.1) w12 rfl rfl rfl (x_extract rfl rfl rfl) ?_
            refine rv (Value.bool r60.2) w12 rfl rfl rfl (x_extract rfl rfl rfl) ?_
            refine rv (Sl.v r60.1) w12 rfl rfl rfl (x_assign rfl rfl) ?_
            refine rv (Value.bool r60.2) w12 rfl rfl rfl (x_assign rfl rfl) ?_
            refine wpR_nil ?_
            refine wpC_seq ?_
            refine wpC_seq ?_
            refine wpC_cut (fun ρ => ρ 3 = (Sl.v p3) ∧ ρ 4 = (Sl.v p4) ∧ ρ 5 = (Value.int .u8 p5) ∧ ρ 13 = (Value.bool r9) ∧ ρ 14 = (Value.int .i64 ((IntKind.i64.wrap p2).tmod 41)) ∧ ρ 15 = (Value.pointer r13.1) ∧ ρ 17 = (Value.pointer r14.1) ∧ ρ 19 = (Value.pointer r15.1) ∧ ρ 21 = (Value.pointer r16.1) ∧ ρ 23 = (Value.pointer (some (Addr.mk b47 0 none))) ∧ ρ 24 = (Value.pointer (some (Addr.mk b48 0 none))) ∧ ρ 28 = (Value.pointer (some (Addr.mk b55 0 none))) ∧ ρ 29 = (Value.int .i64 l56.1) ∧ ρ 30 = (Value.int .i64 l56.2) ∧ ρ 31 = (Sl.v r60.1) ∧ ρ 32 = (Value.bool r60.2) ∧ True) ⟨e3, e4, e5, e13, e14, e15, e17, e19, e21, e23, e24, e28, e29, e30, rfl, rfl, trivial⟩ ?_
            rintro ρ ⟨e3, e4, e5, e13, e14, e15, e17, e19, e21, e23, e24, e28, e29, e30, e31, e32, -⟩
            refine wpC_region ?_
            refine rv (Value.bool r60.2) w12 rfl rfl rfl (x_move rfl e32) ?_
            refine rv (Value.bool (!r60.2)) w12 rfl rfl rfl (x_not rfl rfl) ?_
            refine wpR_nil ?_
            refine wpC_cond (b := !r60.2) rfl (fun hc61 => ?_) (fun hc61 => ?_)
            · replace h := h.1 hc61
              refine wpC_seq ?_
              refine wpC_cut (fun ρ => True) trivial ?_
              rintro ρ -
              refine wpC_region ?_
              refine rv (Value.bool false) w12 rfl rfl rfl (x_assign rfl rfl) ?_
              refine wpR_nil ?_
              refine wpC_ret ?_
              exact ⟨.inl rfl, fun a ha => ⟨_, results_rep1 rfl ha rfl, false, rfl, h⟩⟩
            · replace h := h.2 hc61
              refine wpC_skip ?_
              refine wpC_seq ?_
              refine wpC_seq ?_
              refine wpC_cut (fun ρ => ρ 3 = (Sl.v p3) ∧ ρ 4 = (Sl.v p4) ∧ ρ 5 = (Value.int .u8 p5) ∧ ρ 13 = (Value.bool r9) ∧ ρ 14 = (Value.int .i64 ((IntKind.i64.wrap p2).tmod 41)) ∧ ρ 15 = (Value.pointer r13.1) ∧ ρ 17 = (Value.pointer r14.1) ∧ ρ 19 = (Value.pointer r15.1) ∧ ρ 21 = (Value.pointer r16.1) ∧ ρ 23 = (Value.pointer (some (Addr.mk b47 0 none))) ∧ ρ 24 = (Value.pointer (some (Addr.mk b48 0 none))) ∧ ρ 28 = (Value.pointer (some (Addr.mk b55 0 none))) ∧ ρ 29 = (Value.int .i64 l56.1) ∧ ρ 30 = (Value.int .i64 l56.2) ∧ ρ 31 = (Sl.v r60.1) ∧ True) ⟨e3, e4, e5, e13, e14, e15, e17, e19, e21, e23, e24, e28, e29, e30, e31, trivial⟩ ?_
              rintro ρ ⟨e3, e4, e5, e13, e14, e15, e17, e19, e21, e23, e24, e28, e29, e30, e31, -⟩
              refine wpC_region ?_
              refine rv (Value.int .i64 0) w12 rfl rfl rfl (x_assign rfl rfl) ?_
              refine wpR_nil ?_
              refine wpC_block ?_
              obtain ⟨I62, μ62, hI62, hr62⟩ := h
              refine wpC_loop (fun (x : Int) ρ => ρ 33 = (Value.int .i64 x) ∧ ρ 3 = (Sl.v p3) ∧ ρ 4 = (Sl.v p4) ∧ ρ 5 = (Value.int .u8 p5) ∧ ρ 13 = (Value.bool r9) ∧ ρ 14 = (Value.int .i64 ((IntKind.i64.wrap p2).tmod 41)) ∧ ρ 15 = (Value.pointer r13.1) ∧ ρ 17 = (Value.pointer r14.1) ∧ ρ 19 = (Value.pointer r15.1) ∧ ρ 21 = (Value.pointer r16.1) ∧ ρ 23 = (Value.pointer (some (Addr.mk b47 0 none))) ∧ ρ 24 = (Value.pointer (some (Addr.mk b48 0 none))) ∧ ρ 28 = (Value.pointer (some (Addr.mk b55 0 none))) ∧ ρ 29 = (Value.int .i64 l56.1) ∧ ρ 30 = (Value.int .i64 l56.2) ∧ ρ 31 = (Sl.v r60.1) ∧ True) I62 μ62 0 ⟨rfl, e3, e4, e5, e13, e14, e15, e17, e19, e21, e23, e24, e28, e29, e30, e31, trivial⟩ hI62 ?_
              rintro l62 ρ w13 ⟨e33, e3, e4, e5, e13, e14, e15, e17, e19, e21, e23, e24, e28, e29, e30, e31, -⟩ h
              replace h := hr62 l62 w13 h
              clear hr62 hI62
              refine wpC_seq ?_
              refine wpC_seq ?_
              refine wpC_region ?_
              refine rv (Value.int .i64 l62) w13 rfl rfl rfl (x_move rfl e33) ?_
              refine rv (Sl.v r60.1) w13 rfl rfl rfl (x_move rfl e31) ?_
              refine rv (Value.int .i64 (r60.1.len : Int)) w13 rfl rfl rfl (x_lenS (s := r60.1) rfl rfl isSliceT_39) ?_
              refine rv (Value.bool (decide (l62 < (r60.1.len : Int)))) w13 rfl rfl rfl (x_lss rfl rfl rfl) ?_
              refine wpR_nil ?_
              refine wpC_cond (b := decide (l62 < (r60.1.len : Int))) rfl (fun hc63 => ?_) (fun hc63 => ?_)
              · replace h := h.1 hc63
                refine wpC_skip ?_
                refine wpC_seq ?_
                refine wpC_block ?_
                refine wpC_seq ?_
                refine wpC_cut (fun ρ => ρ 3 = (Sl.v p3) ∧ ρ 4 = (Sl.v p4) ∧ ρ 5 = (Value.int .u8 p5) ∧ ρ 13 = (Value.bool r9) ∧ ρ 14 = (Value.int .i64 ((IntKind.i64.wrap p2).tmod 41)) ∧ ρ 15 = (Value.pointer r13.1) ∧ ρ 17 = (Value.pointer r14.1) ∧ ρ 19 = (Value.pointer r15.1) ∧ ρ 21 = (Value.pointer r16.1) ∧ ρ 23 = (Value.pointer (some (Addr.mk b47 0 none))) ∧ ρ 24 = (Value.pointer (some (Addr.mk b48 0 none))) ∧ ρ 28 = (Value.pointer (some (Addr.mk b55 0 none))) ∧ ρ 29 = (Value.int .i64 l56.1) ∧ ρ 30 = (Value.int .i64 l56.2) ∧ ρ 31 = (Sl.v r60.1) ∧ ρ 33 = (Value.int .i64 l62) ∧ True) ⟨e3, e4, e5, e13, e14, e15, e17, e19, e21, e23, e24, e28, e29, e30, e31, e33, trivial⟩ ?_
                rintro ρ ⟨e3, e4, e5, e13, e14, e15, e17, e19, e21, e23, e24, e28, e29, e30, e31, e33, -⟩
                refine wpC_region ?_
                refine rv (Value.pointer r15.1) w13 rfl rfl rfl (x_move rfl e19) ?_
                refine wpR_enter rfl rfl rfl (x_call (vs := [(Value.pointer r15.1)]) rfl rfl (mapl_cons rfl mapl_nil) Tryz.func8 NN_8 NB_8) (Calls.mono h ?_)
                rintro _ w14 ⟨r64, rfl, h⟩
                refine ⟨_, rfl, ?_⟩
                refine rv (Value.tuple #[(Value.int .i64 r64.1), (Value.int .i64 r64.2)]) w14 rfl rfl rfl (x_move rfl rfl) ?_
                refine rv (Value.int .i64 r64.1) w14 rfl rfl rfl (x_extract rfl rfl rfl) ?_
                refine rv (Value.int .i64 r64.2) w14 rfl rfl rfl (x_extract rfl rfl rfl) ?_
                refine rv (Value.int .i64 r64.1) w14 rfl rfl rfl (x_assign rfl rfl) ?_
                refine rv (Value.int .i64 r64.2) w14 rfl rfl rfl (x_assign rfl rfl) ?_
                refine wpR_nil ?_
                refine wpC_seq ?_
                refine wpC_cut (fun ρ => ρ 3 = (Sl.v p3) ∧ ρ 4 = (Sl.v p4) ∧ ρ 5 = (Value.int .u8 p5) ∧ ρ 13 = (Value.bool r9) ∧ ρ 14 = (Value.int .i64 ((IntKind.i64.wrap p2).tmod 41)) ∧ ρ 15 = (Value.pointer r13.1) ∧ ρ 17 = (Value.pointer r14.1) ∧ ρ 19 = (Value.pointer r15.1) ∧ ρ 21 = (Value.pointer r16.1) ∧ ρ 23 = (Value.pointer (some (Addr.mk b47 0 none))) ∧ ρ 24 = (Value.pointer (some (Addr.mk b48 0 none))) ∧ ρ 28 = (Value.pointer (some (Addr.mk b55 0 none))) ∧ ρ 29 = (Value.int .i64 l56.1) ∧ ρ 30 = (Value.int .i64 l56.2) ∧ ρ 31 = (Sl.v r60.1) ∧ ρ 33 = (Value.int .i64 l62) ∧ ρ 35 = (Value.int .i64 r64.2) ∧ True) ⟨e3, e4, e5, e13, e14, e15, e17, e19, e21, e23, e24, e28, e29, e30, e31, e33, rfl, trivial⟩ ?_
                rintro ρ ⟨e3, e4, e5, e13, e14, e15, e17, e19, e21, e23, e24, e28, e29, e30, e31, e33, e35, -⟩
                refine wpC_region ?_
                refine rv (Value.int .i64 r64.2) w14 rfl rfl rfl (x_move rfl e35) ?_
                refine rv (Value.bool (!decide (r64.2 = 0))) w14 rfl rfl rfl (x_neq rfl rfl rfl) ?_
                refine wpR_nil ?_
                refine wpC_cond (b := !decide (r64.2 = 0)) rfl (fun hc65 => ?_) (fun hc65 => ?_)
                · replace h := h.1 hc65
                  refine wpC_seq ?_
                  refine wpC_cut (fun ρ => True) trivial ?_
                  rintro ρ -
                  refine wpC_region ?_
                  refine rv (Value.bool false) w14 rfl rfl rfl (x_assign rfl rfl) ?_
                  refine wpR_nil ?_
                  refine wpC_ret ?_
                  exact ⟨.inl rfl, fun a ha => ⟨_, results_rep1 rfl ha rfl, false, rfl, h⟩⟩
                · replace h := h.2 hc65
                  refine wpC_skip ?_
                  refine wpC_cut (fun ρ => ρ 3 = (Sl.v p3) ∧ ρ 4 = (Sl.v p4) ∧ ρ 5 = (Value.int .u8 p5) ∧ ρ 13 = (Value.bool r9) ∧ ρ 14 = (Value.int .i64 ((IntKind.i64.wrap p2).tmod 41)) ∧ ρ 15 = (Value.pointer r13.1) ∧ ρ 17 = (Value.pointer r14.1) ∧ ρ 19 = (Value.pointer r15.1) ∧ ρ 21 = (Value.pointer r16.1) ∧ ρ 23 = (Value.pointer (some (Addr.mk b47 0 none))) ∧ ρ 24 = (Value.pointer (some (Addr.mk b48 0 none))) ∧ ρ 28 = (Value.pointer (some (Addr.mk b55 0 none))) ∧ ρ 29 = (Value.int .i64 l56.1) ∧ ρ 30 = (Value.int .i64 l56.2) ∧ ρ 31 = (Sl.v r60.1) ∧ ρ 33 = (Value.int .i64 l62) ∧ True) ⟨e3, e4, e5, e13, e14, e15, e17, e19, e21, e23, e24, e28, e29, e30, e31, e33, trivial⟩ ?_
                  rintro ρ ⟨e3, e4, e5, e13, e14, e15, e17, e19, e21, e23, e24, e28, e29, e30, e31, e33, -⟩
                  refine wpC_region ?_
                  refine rv (Value.int .i64 l62) w14 rfl rfl rfl (x_move rfl e33) ?_
                  refine rv (Value.int .i64 (IntKind.i64.wrap (l62 + 1))) w14 rfl rfl rfl (x_add rfl rfl rfl) ?_
                  refine rv (Value.int .i64 (IntKind.i64.wrap (l62 + 1))) w14 rfl rfl rfl (x_assign rfl rfl) ?_
                  refine wpR_nil ?_
                  exact ⟨IntKind.i64.wrap (l62 + 1), ⟨rfl, e3, e4, e5, e13, e14, e15, e17, e19, e21, e23, e24, e28, e29, e30, e31, trivial⟩, h⟩
              · replace h := h.2 hc63
                refine wpC_exit ?_
                refine wpC_seq ?_
                refine wpC_cut (fun ρ => ρ 3 = (Sl.v p3) ∧ ρ 4 = (Sl.v p4) ∧ ρ 5 = (Value.int .u8 p5) ∧ ρ 13 = (Value.bool r9) ∧ ρ 14 = (Value.int .i64 ((IntKind.i64.wrap p2).tmod 41)) ∧ ρ 15 = (Value.pointer r13.1) ∧ ρ 17 = (Value.pointer r14.1) ∧ ρ 19 = (Value.pointer r15.1) ∧ ρ 21 = (Value.pointer r16.1) ∧ ρ 23 = (Value.pointer (some (Addr.mk b47 0 none))) ∧ ρ 24 = (Value.pointer (some (Addr.mk b48 0 none))) ∧ ρ 28 = (Value.pointer (some (Addr.mk b55 0 none))) ∧ ρ 29 = (Value.int .i64 l56.1) ∧ ρ 30 = (Value.int .i64 l56.2) ∧ True) ⟨e3, e4, e5, e13, e14, e15, e17, e19, e21, e23, e24, e28, e29, e30, trivial⟩ ?_
                rintro ρ ⟨e3, e4, e5, e13, e14, e15, e17, e19, e21, e23, e24, e28, e29, e30, -⟩
                refine wpC_region ?_
                refine rv (Value.pointer (some (Addr.mk b48 0 none))) w13 rfl rfl rfl (x_move rfl e24) ?_
                refine wpR_enter rfl rfl rfl (x_call (vs := [(Value.pointer (some (Addr.mk b48 0 none)))]) rfl rfl (mapl_cons rfl mapl_nil) Tryz.func9 NN_9 NB_9) (Calls.mono h ?_)
                rintro _ w15 ⟨r66, rfl, h⟩
                refine ⟨_, rfl, ?_⟩
                refine rv (Value.tuple #[(Sl.v r66.1), (Value.bool r66.2)]) w15 rfl rfl rfl (x_move rfl rfl) ?_
                refine rv (Sl.v r66.1) w15 rfl rfl rfl (x_extract rfl rfl rfl) ?_
                refine rv (Value.bool r66.2) w15 rfl rfl rfl (x_extract rfl rfl rfl) ?_
                refine rv (Sl.v r66.1) w15 rfl rfl rfl (x_assign rfl rfl) ?_
                refine rv (Value.bool r66.2) w15 rfl rfl rfl (x_assign rfl rfl) ?_
                refine wpR_nil ?_
                refine wpC_seq ?_
                refine wpC_seq ?_
                refine wpC_cut (fun ρ => ρ 3 = (Sl.v p3) ∧ ρ 4 = (Sl.v p4) ∧ ρ 5 = (Value.int .u8 p5) ∧ ρ 13 = (Value.bool r9) ∧ ρ 14 = (Value.int .i64 ((IntKind.i64.wrap p2).tmod 41)) ∧ ρ 15 = (Value.pointer r13.1) ∧ ρ 17 = (Value.pointer r14.1) ∧ ρ 19 = (Value.pointer r15.1) ∧ ρ 21 = (Value.pointer r16.1) ∧ ρ 23 = (Value.pointer (some (Addr.mk b47 0 none))) ∧ ρ 24 = (Value.pointer (some (Addr.mk b48 0 none))) ∧ ρ 28 = (Value.pointer (some (Addr.mk b55 0 none))) ∧ ρ 29 = (Value.int .i64 l56.1) ∧ ρ 30 = (Value.int .i64 l56.2) ∧ ρ 36 = (Sl.v r66.1) ∧ ρ 37 = (Value.bool r66.2) ∧ True) ⟨e3, e4, e5, e13, e14, e15, e17, e19, e21, e23, e24, e28, e29, e30, rfl, rfl, trivial⟩ ?_
                rintro ρ ⟨e3, e4, e5, e13, e14, e15, e17, e19, e21, e23, e24, e28, e29, e30, e36, e37, -⟩
                refine wpC_region ?_
                refine rv (Value.bool r66.2) w15 rfl rfl rfl (x_move rfl e37) ?_
                refine rv (Value.bool (!r66.2)) w15 rfl rfl rfl (x_not rfl rfl) ?_
                refine wpR_nil ?_
                refine wpC_cond (b := !r66.2) rfl (fun hc67 => ?_) (fun hc67 => ?_)
                · replace h := h.1 hc67
                  refine wpC_seq ?_
                  refine wpC_cut (fun ρ => True) trivial ?_
                  rintro ρ -
                  refine wpC_region ?_
                  refine rv (Value.bool false) w15 rfl rfl rfl (x_assign rfl rfl) ?_
                  refine wpR_nil ?_
                  refine wpC_ret ?_
                  exact ⟨.inl rfl, fun a ha => ⟨_, results_rep1 rfl ha rfl, false, rfl, h⟩⟩
                · replace h := h.2 hc67
                  refine wpC_skip ?_
                  refine wpC_seq ?_
                  refine wpC_cut (fun ρ => ρ 3 = (Sl.v p3) ∧ ρ 4 = (Sl.v p4) ∧ ρ 5 = (Value.int .u8 p5) ∧ ρ 13 = (Value.bool r9) ∧ ρ 14 = (Value.int .i64 ((IntKind.i64.wrap p2).tmod 41)) ∧ ρ 15 = (Value.pointer r13.1) ∧ ρ 17 = (Value.pointer r14.1) ∧ ρ 19 = (Value.pointer r15.1) ∧ ρ 21 = (Value.pointer r16.1) ∧ ρ 23 = (Value.pointer (some (Addr.mk b47 0 none))) ∧ ρ 24 = (Value.pointer (some (Addr.mk b48 0 none))) ∧ ρ 28 = (Value.pointer (some (Addr.mk b55 0 none))) ∧ ρ 29 = (Value.int .i64 l56.1) ∧ ρ 30 = (Value.int .i64 l56.2) ∧ ρ 36 = (Sl.v r66.1) ∧ True) ⟨e3, e4, e5, e13, e14, e15, e17, e19, e21, e23, e24, e28, e29, e30, e36, trivial⟩ ?_
                  rintro ρ ⟨e3, e4, e5, e13, e14, e15, e17, e19, e21, e23, e24, e28, e29, e30, e36, -⟩
                  refine wpC_region ?_
                  refine rv (Value.int .i64 0) w15 rfl rfl rfl (x_assign rfl rfl) ?_
                  refine wpR_nil ?_
                  refine wpC_block ?_
                  obtain ⟨I68, μ68, hI68, hr68⟩ := h
                  refine wpC_loop (fun (x : Int × Int) ρ => ρ 29 = (Value.int .i64 x.1) ∧ ρ 38 = (Value.int .i64 x.2) ∧ ρ 3 = (Sl.v p3) ∧ ρ 4 = (Sl.v p4) ∧ ρ 5 = (Value.int .u8 p5) ∧ ρ 13 = (Value.bool r9) ∧ ρ 14 = (Value.int .i64 ((IntKind.i64.wrap p2).tmod 41)) ∧ ρ 15 = (Value.pointer r13.1) ∧ ρ 17 = (Value.pointer r14.1) ∧ ρ 19 = (Value.pointer r15.1) ∧ ρ 21 = (Value.pointer r16.1) ∧ ρ 23 = (Value.pointer (some (Addr.mk b47 0 none))) ∧ ρ 24 = (Value.pointer (some (Addr.mk b48 0 none))) ∧ ρ 28 = (Value.pointer (some (Addr.mk b55 0 none))) ∧ ρ 30 = (Value.int .i64 l56.2) ∧ ρ 36 = (Sl.v r66.1) ∧ True) I68 μ68 (l56.1, 0) ⟨e29, rfl, e3, e4, e5, e13, e14, e15, e17, e19, e21, e23, e24, e28, e30, e36, trivial⟩ hI68 ?_
                  rintro l68 ρ w16 ⟨e29, e38, e3, e4, e5, e13, e14, e15, e17, e19, e21, e23, e24, e28, e30, e36, -⟩ h
                  replace h := hr68 l68 w16 h
                  clear hr68 hI68
                  refine wpC_seq ?_
                  refine wpC_seq ?_
                  refine wpC_region ?_
                  refine rv (Value.int .i64 l68.2) w16 rfl rfl rfl (x_move rfl e38) ?_
                  refine rv (Sl.v r66.1) w16 rfl rfl rfl (x_move rfl e36) ?_
                  refine rv (Value.int .i64 (r66.1.len : Int)) w16 rfl rfl rfl (x_lenS (s := r66.1) rfl rfl isSliceT_39) ?_
                  refine rv (Value.bool (decide (l68.2 < (r66.1.len : Int)))) w16 rfl rfl rfl (x_lss rfl rfl rfl) ?_
                  refine wpR_nil ?_
                  refine wpC_cond (b := decide (l68.2 < (r66.1.len : Int))) rfl (fun hc69 => ?_) (fun hc69 => ?_)
                  · replace h := h.1 hc69
                    refine wpC_skip ?_
                    refine wpC_seq ?_
                    refine wpC_block ?_
                    refine wpC_seq ?_
                    refine wpC_cut (fun ρ => ρ 3 = (Sl.v p3) ∧ ρ 4 = (Sl.v p4) ∧ ρ 5 = (Value.int .u8 p5) ∧ ρ 13 = (Value.bool r9) ∧ ρ 14 = (Value.int .i64 ((IntKind.i64.wrap p2).tmod 41)) ∧ ρ 15 = (Value.pointer r13.1) ∧ ρ 17 = (Value.pointer r14.1) ∧ ρ 19 = (Value.pointer r15.1) ∧ ρ 21 = (Value.pointer r16.1) ∧ ρ 23 = (Value.pointer (some (Addr.mk b47 0 none))) ∧ ρ 24 = (Value.pointer (some (Addr.mk b48 0 none))) ∧ ρ 28 = (Value.pointer (some (Addr.mk b55 0 none))) ∧ ρ 29 = (Value.int .i64 l68.1) ∧ ρ 30 = (Value.int .i64 l56.2) ∧ ρ 36 = (Sl.v r66.1) ∧ ρ 38 = (Value.int .i64 l68.2) ∧ True) ⟨e3, e4, e5, e13, e14, e15, e17, e19, e21, e23, e24, e28, e29, e30, e36, e38, trivial⟩ ?_
                    rintro ρ ⟨e3, e4, e5, e13, e14, e15, e17, e19, e21, e23, e24, e28, e29, e30, e36, e38, -⟩
                    obtain ⟨J71, h, hk⟩ := h
                    refine wpC_drawJ (by kernel_rfl) (fun (x : (Option Addr) × Bool) ρ => ρ 39 = (Value.pointer x.1) ∧ ρ 40 = (Value.bool x.2) ∧ ρ 3 = (Sl.v p3) ∧ ρ 4 = (Sl.v p4) ∧ ρ 5 = (Value.int .u8 p5) ∧ ρ 13 = (Value.bool r9) ∧ ρ 14 = (Value.int .i64 ((IntKind.i64.wrap p2).tmod 41)) ∧ ρ 15 = (Value.pointer r13.1) ∧ ρ 17 = (Value.pointer r14.1) ∧ ρ 19 = (Value.pointer r15.1) ∧ ρ 21 = (Value.pointer r16.1) ∧ ρ 23 = (Value.pointer (some (Addr.mk b47 0 none))) ∧ ρ 24 = (Value.pointer (some (Addr.mk b48 0 none))) ∧ ρ 28 = (Value.pointer (some (Addr.mk b55 0 none))) ∧ ρ 29 = (Value.int .i64 l68.1) ∧ ρ 30 = (Value.int .i64 l56.2) ∧ ρ 36 = (Sl.v r66.1) ∧ ρ 38 = (Value.int .i64 l68.2) ∧ True) J71 ?_ ?_
                    · clear hk
                      unfold tk at h
                      generalize w16.drew = w17 at h ⊢
                      obtain ⟨x72, q72, x73, q73, h⟩ := h
                      refine wpD_take (v := (Value.agg #[(Value.int .i64 x72), (Sl.v x73)])) 0 (fun w => w.cell? ((Addr.mk b55 0 none).add 0) = some (Value.int .i64 x72) ∧ w.cell? ((Addr.mk b55 0 none).add 1) = some (Sl.v x73)) rfl (by kernel_rfl) (by kernel_rfl) (by kernel_rfl) rfl rfl rfl ⟨q72, q73⟩ (fun w ⟨q72, q73⟩ => (x_loadN [(Value.int .i64 x72), (Sl.v x73)] rfl e28 SH_38 (CellsAt.out (CellsAt.cons q72 (CellsAt.cons q73 CellsAt.nil))))) ?_
                      refine wpD_take (v := (Sl.v r66.1)) 1 (fun _ => True) rfl (by kernel_rfl) (by kernel_rfl) (by kernel_rfl) rfl rfl rfl trivial (fun w _ => (x_move (v := (Sl.v r66.1)) rfl e36)) ?_
                      refine wpD_take (v := (Value.int .i64 l68.2)) 2 (fun _ => True) rfl (by kernel_rfl) (by kernel_rfl) (by kernel_rfl) rfl rfl rfl trivial (fun w _ => (x_move (v := (Value.int .i64 l68.2)) rfl e38)) ?_
                      obtain ⟨q74, z74, r74, h⟩ := h
                      generalize hp74 : z74.add ((l68.2 : Int).toNat * 1) = p74 at h
                      refine wpD_take (v := (Value.pointer (some p74))) 3 (fun _ => True) rfl (by kernel_rfl) (by kernel_rfl) (by kernel_rfl) rfl rfl rfl trivial (fun w _ => ((x_indexAddr (s := r66.1) rfl rfl rfl ES_39 q74 r74).trans (by rw [hp74]))) ?_
                      obtain ⟨x75, q75, h⟩ := h
                      refine wpD_take (v := (Value.int .i64 x75)) 4 (fun w => w.cell? p74 = some (Value.int .i64 x75)) rfl (by kernel_rfl) (by kernel_rfl) (by kernel_rfl) rfl rfl rfl q75 (fun w q75 => (x_load1 rfl rfl SH_3 q75)) ?_
                      refine wpD_take (v := (Value.int .u8 p5)) 5 (fun _ => True) rfl (by kernel_rfl) (by kernel_rfl) (by kernel_rfl) rfl rfl rfl trivial (fun w _ => (x_move (v := (Value.int .u8 p5)) rfl e5)) ?_
                      refine wpD_take (v := (Value.int .u8 (p5.tmod 4))) 6 (fun _ => True) rfl (by kernel_rfl) (by kernel_rfl) (by kernel_rfl) rfl rfl rfl trivial (fun w _ => (x_rem rfl rfl rfl (by decide))) ?_
                      refine wpD_take (v := (Value.int .i64 (IntKind.i64.wrap (p5.tmod 4)))) 7 (fun _ => True) rfl (by kernel_rfl) (by kernel_rfl) (by kernel_rfl) rfl rfl rfl trivial (fun w _ => (x_convI rfl rfl IK_3 IK_5)) ?_
                      refine wpD_all (rs := [8, 12]) (by kernel_rfl) (by simp) (allD_cons ?_ (allD_cons ?_ allD_nil))
                      · replace h := h.1
                        refine stepD_enterL (L' := [(6, fun _ => True), (5, fun _ => True), (3, fun _ => True), (2, fun _ => True), (1, fun _ => True)]) rfl rfl rfl rfl (x_call (vs := [(Value.agg #[(Value.int .i64 x72), (Sl.v x73)]), (Value.int .i64 x75), (Value.int .i64 (IntKind.i64.wrap (p5.tmod 4)))]) rfl rfl (mapl_cons rfl (mapl_cons rfl (mapl_cons rfl mapl_nil))) Tryz.func10 NN_10 NB_10) (by kernel_rfl) (Calls.mono h ?_)
                        rintro _ w18 ⟨r76, rfl, h⟩
                        refine ⟨_, rfl, (held_cons trivial (held_cons trivial (held_cons trivial (held_cons trivial (held_cons trivial held_nil))))), ?_⟩
                        refine wpD_take (v := (Value.tuple #[(Value.agg #[(Value.int .i64 r76.1), (Sl.v r76.2.1)]), (Value.bool r76.2.2)])) 9 (fun _ => True) rfl (by kernel_rfl) (by kernel_rfl) (by kernel_rfl) rfl rfl rfl trivial (fun w _ => (x_move (v := (Value.tuple #[(Value.agg #[(Value.int .i64 r76.1), (Sl.v r76.2.1)]), (Value.bool r76.2.2)])) rfl rfl)) ?_
                        refine wpD_take (v := (Value.agg #[(Value.int .i64 r76.1), (Sl.v r76.2.1)])) 10 (fun _ => True) rfl (by kernel_rfl) (by kernel_rfl) (by kernel_rfl) rfl rfl rfl trivial (fun w _ => (x_extract rfl rfl rfl)) ?_
                        refine wpD_take (v := (Value.bool r76.2.2)) 11 (fun _ => True) rfl (by kernel_rfl) (by kernel_rfl) (by kernel_rfl) rfl rfl rfl trivial (fun w _ => (x_extract rfl rfl rfl)) ?_
                        refine wpD_all (rs := [12]) (by kernel_rfl) (by simp) (allD_cons ?_ allD_nil)
                        obtain ⟨b77, hb77⟩ : ∃ u, u = w18.heap.size := ⟨_, rfl⟩
                        obtain ⟨w19, hw77⟩ : ∃ u, u = w18.alloc (.cells #[(Value.int .i64 0), (Sl.v Sl.nil)] 38) := ⟨_, rfl⟩
                        replace h := h b77 w19 hb77 hw77
                        refine stepD_valL (L' := [(11, fun _ => True), (10, fun _ => True), (9, fun _ => True), (6, fun _ => True), (5, fun _ => True), (3, fun _ => True), (2, fun _ => True), (1, fun _ => True)]) (v := (Value.pointer (some (Addr.mk b77 0 none)))) (w' := w19) rfl rfl rfl rfl ((x_alloc rfl ZV_38).trans (by rw [hb77, hw77]; rfl)) (by kernel_rfl) (held_cons trivial (held_cons trivial (held_cons trivial (held_cons trivial (held_cons trivial (held_cons trivial (held_cons trivial (held_cons trivial held_nil)))))))) ?_
                        refine wpD_all (rs := [13]) (by kernel_rfl) (by simp) (allD_cons ?_ allD_nil)
                        obtain ⟨q78, h⟩ := h
                        obtain ⟨w20, hw78⟩ : ∃ u, u = setAll w19 (Addr.mk b77 0 none) [(Value.int .i64 r76.1), (Sl.v r76.2.1)] 0 := ⟨_, rfl⟩
                        replace h := h w20 hw78
                        refine stepD_skpL (L' := [(11, fun _ => True)]) (w' := w20) rfl rfl rfl ((x_store (v := (Value.agg #[(Value.int .i64 r76.1), (Sl.v r76.2.1)])) rfl rfl rfl SZ_38 (ones (by rfl)) q78).trans (by rw [hw78]; rfl)) (by kernel_rfl) (held_cons trivial held_nil) ?_
                        refine wpD_take (v := (Value.bool r76.2.2)) 14 (fun _ => True) rfl (by kernel_rfl) (by kernel_rfl) (by kernel_rfl) rfl rfl rfl trivial (fun w _ => (x_assign (v := (Value.bool r76.2.2)) rfl rfl)) ?_
                        exact wpD_done (by kernel_rfl) ⟨(some (Addr.mk b77 0 none), r76.2.2), ⟨rfl, rfl, e3, e4, e5, e13, e14, e15, e17, e19, e21, e23, e24, e28, e29, e30, e36, e38, trivial⟩, h⟩
                      · replace h := h.2
                        obtain ⟨b79, hb79⟩ : ∃ u, u = w17.heap.size := ⟨_, rfl⟩
                        obtain ⟨w21, hw79⟩ : ∃ u, u = w17.alloc (.cells #[(Value.int .i64 0), (Sl.v Sl.nil)] 38) := ⟨_, rfl⟩
                        replace h := h b79 w21 hb79 hw79
                        obtain ⟨o4, h⟩ := h
                        obtain ⟨o0, h⟩ := h
                        refine stepD_valL (L' := [(7, fun _ => True), (6, fun _ => True), (5, fun _ => True), (4, fun w => w.cell? p74 = some (Value.int .i64 x75)), (3, fun _ => True), (2, fun _ => True), (1, fun _ => True), (0, fun w => w.cell? ((Addr.mk b55 0 none).add 0) = some (Value.int .i64 x72) ∧ w.cell? ((Addr.mk b55 0 none).add 1) = some (Sl.v x73))]) (v := (Value.pointer (some (Addr.mk b79 0 none)))) (w' := w21) rfl rfl rfl rfl ((x_alloc rfl ZV_38).trans (by rw [hb79, hw79]; rfl)) (by kernel_rfl) (held_cons trivial (held_cons trivial (held_cons trivial (held_cons o4 (held_cons trivial (held_cons trivial (held_cons trivial (held_cons o0 held_nil)))))))) ?_
                        refine wpD_all (rs := [8]) (by kernel_rfl) (by simp) (allD_cons ?_ allD_nil)
                        refine stepD_enterL (L' := [(6, fun _ => True), (5, fun _ => True), (3, fun _ => True), (2, fun _ => True), (1, fun _ => True)]) rfl rfl rfl rfl (x_call (vs := [(Value.agg #[(Value.int .i64 x72), (Sl.v x73)]), (Value.int .i64 x75), (Value.int .i64 (IntKind.i64.wrap (p5.tmod 4)))]) rfl rfl (mapl_cons rfl (mapl_cons rfl (mapl_cons rfl mapl_nil))) Tryz.func10 NN_10 NB_10) (by kernel_rfl) (Calls.mono h ?_)
                        rintro _ w22 ⟨r80, rfl, h⟩
                        refine ⟨_, rfl, (held_cons trivial (held_cons trivial (held_cons trivial (held_cons trivial (held_cons trivial held_nil))))), ?_⟩
                        refine wpD_take (v := (Value.tuple #[(Value.agg #[(Value.int .i64 r80.1), (Sl.v r80.2.1)]), (Value.bool r80.2.2)])) 9 (fun _ => True) rfl (by kernel_rfl) (by kernel_rfl) (by kernel_rfl) rfl rfl rfl trivial (fun w _ => (x_move (v := (Value.tuple #[(Value.agg #[(Value.int .i64 r80.1), (Sl.v r80.2.1)]), (Value.bool r80.2.2)])) rfl rfl)) ?_
                        refine wpD_take (v := (Value.agg #[(Value.int .i64 r80.1), (Sl.v r80.2.1)])) 10 (fun _ => True) rfl (by kernel_rfl) (by kernel_rfl) (by kernel_rfl) rfl rfl rfl trivial (fun w _ => (x_extract rfl rfl rfl)) ?_
                        refine wpD_take (v := (Value.bool r80.2.2)) 11 (fun _ => True) rfl (by kernel_rfl) (by kernel_rfl) (by kernel_rfl) rfl rfl rfl trivial (fun w _ => (x_extract rfl rfl rfl)) ?_
                        refine wpD_all (rs := [13]) (by kernel_rfl) (by simp) (allD_cons ?_ allD_nil)
                        obtain ⟨q81, h⟩ := h
                        obtain ⟨w23, hw81⟩ : ∃ u, u = setAll w22 (Addr.mk b79 0 none) [(Value.int .i64 r80.1), (Sl.v r80.2.1)] 0 := ⟨_, rfl⟩
                        replace h := h w23 hw81
                        refine stepD_skpL (L' := [(11, fun _ => True)]) (w' := w23) rfl rfl rfl ((x_store (v := (Value.agg #[(Value.int .i64 r80.1), (Sl.v r80.2.1)])) rfl rfl rfl SZ_38 (ones (by rfl)) q81).trans (by rw [hw81]; rfl)) (by kernel_rfl) (held_cons trivial held_nil) ?_
                        refine wpD_take (v := (Value.bool r80.2.2)) 14 (fun _ => True) rfl (by kernel_rfl) (by kernel_rfl) (by kernel_rfl) rfl rfl rfl trivial (fun w _ => (x_assign (v := (Value.bool r80.2.2)) rfl rfl)) ?_
                        exact wpD_done (by kernel_rfl) ⟨(some (Addr.mk b79 0 none), r80.2.2), ⟨rfl, rfl, e3, e4, e5, e13, e14, e15, e17, e19, e21, e23, e24, e28, e29, e30, e36, e38, trivial⟩, h⟩
                    clear h
                    rintro l82 ρ w24 ⟨e39, e40, e3, e4, e5, e13, e14, e15, e17, e19, e21, e23, e24, e28, e29, e30, e36, e38, -⟩ h
                    replace h := hk l82 w24 h
                    clear hk
                    refine wpC_seq ?_
                    obtain ⟨J84, h, hk⟩ := h
                    refine wpC_drawJ (by kernel_rfl) (fun (x : Bool) ρ => ρ 42 = (Value.bool x) ∧ ρ 3 = (Sl.v p3) ∧ ρ 4 = (Sl.v p4) ∧ ρ 5 = (Value.int .u8 p5) ∧ ρ 13 = (Value.bool r9) ∧ ρ 14 = (Value.int .i64 ((IntKind.i64.wrap p2).tmod 41)) ∧ ρ 15 = (Value.pointer r13.1) ∧ ρ 17 = (Value.pointer r14.1) ∧ ρ 19 = (Value.pointer r15.1) ∧ ρ 21 = (Value.pointer r16.1) ∧ ρ 23 = (Value.pointer (some (Addr.mk b47 0 none))) ∧ ρ 24 = (Value.pointer (some (Addr.mk b48 0 none))) ∧ ρ 28 = (Value.pointer (some (Addr.mk b55 0 none))) ∧ ρ 29 = (Value.int .i64 l68.1) ∧ ρ 30 = (Value.int .i64 l56.2) ∧ ρ 36 = (Sl.v r66.1) ∧ ρ 38 = (Value.int .i64 l68.2) ∧ ρ 39 = (Value.pointer l82.1) ∧ ρ 40 = (Value.bool l82.2) ∧ True) J84 ?_ ?_
                    · clear hk
                      unfold tk at h
                      generalize w24.drew = w25 at h ⊢
                      obtain ⟨a85, q85, h⟩ := h
                      obtain ⟨x86, q86, x87, q87, h⟩ := h
                      refine wpD_take (v := (Value.agg #[(Value.int .i64 x86), (Sl.v x87)])) 0 (fun w => w.cell? (a85.add 0) = some (Value.int .i64 x86) ∧ w.cell? (a85.add 1) = some (Sl.v x87)) rfl (by kernel_rfl) (by kernel_rfl) (by kernel_rfl) rfl rfl rfl ⟨q86, q87⟩ (fun w ⟨q86, q87⟩ => (x_loadN [(Value.int .i64 x86), (Sl.v x87)] rfl ((e39).trans (congrArg Value.pointer q85)) SH_38 (CellsAt.out (CellsAt.cons q86 (CellsAt.cons q87 CellsAt.nil))))) ?_
                      refine wpD_take (v := (Sl.v r66.1)) 1 (fun _ => True) rfl (by kernel_rfl) (by kernel_rfl) (by kernel_rfl) rfl rfl rfl trivial (fun w _ => (x_move (v := (Sl.v r66.1)) rfl e36)) ?_
                      refine wpD_take (v := (Value.int .i64 l68.2)) 2 (fun _ => True) rfl (by kernel_rfl) (by kernel_rfl) (by kernel_rfl) rfl rfl rfl trivial (fun w _ => (x_move (v := (Value.int .i64 l68.2)) rfl e38)) ?_
                      obtain ⟨q88, z88, r88, h⟩ := h
                      generalize hp88 : z88.add ((l68.2 : Int).toNat * 1) = p88 at h
                      refine wpD_take (v := (Value.pointer (some p88))) 3 (fun _ => True) rfl (by kernel_rfl) (by kernel_rfl) (by kernel_rfl) rfl rfl rfl trivial (fun w _ => ((x_indexAddr (s := r66.1) rfl rfl rfl ES_39 q88 r88).trans (by rw [hp88]))) ?_
                      obtain ⟨x89, q89, h⟩ := h
                      refine wpD_take (v := (Value.int .i64 x89)) 4 (fun w => w.cell? p88 = some (Value.int .i64 x89)) rfl (by kernel_rfl) (by kernel_rfl) (by kernel_rfl) rfl rfl rfl q89 (fun w q89 => (x_load1 rfl rfl SH_3 q89)) ?_
                      refine wpD_take (v := (Value.int .u8 p5)) 5 (fun _ => True) rfl (by kernel_rfl) (by kernel_rfl) (by kernel_rfl) rfl rfl rfl trivial (fun w _ => (x_move (v := (Value.int .u8 p5)) rfl e5)) ?_
                      refine wpD_take (v := (Value.int .u8 (p5.tmod 4))) 6 (fun _ => True) rfl (by kernel_rfl) (by kernel_rfl) (by kernel_rfl) rfl rfl rfl trivial (fun w _ => (x_rem rfl rfl rfl (by decide))) ?_
                      refine wpD_take (v := (Value.int .i64 (IntKind.i64.wrap (p5.tmod 4)))) 7 (fun _ => True) rfl (by kernel_rfl) (by kernel_rfl) (by kernel_rfl) rfl rfl rfl trivial (fun w _ => (x_convI rfl rfl IK_3 IK_5)) ?_
                      refine wpD_all (rs := [8, 12]) (by kernel_rfl) (by simp) (allD_cons ?_ (allD_cons ?_ allD_nil))
                      · replace h := h.1
                        refine stepD_enterL (L' := [(6, fun _ => True), (5, fun _ => True), (3, fun _ => True), (2, fun _ => True), (1, fun _ => True)]) rfl rfl rfl rfl (x_call (vs := [(Value.agg #[(Value.int .i64 x86), (Sl.v x87)]), (Value.int .i64 x89), (Value.int .i64 (IntKind.i64.wrap (p5.tmod 4)))]) rfl rfl (mapl_cons rfl (mapl_cons rfl (mapl_cons rfl mapl_nil))) Tryz.func10 NN_10 NB_10) (by kernel_rfl) (Calls.mono h ?_)
                        rintro _ w26 ⟨r90, rfl, h⟩
                        refine ⟨_, rfl, (held_cons trivial (held_cons trivial (held_cons trivial (held_cons trivial (held_cons trivial held_nil))))), ?_⟩
                        refine wpD_take (v := (Value.tuple #[(Value.agg #[(Value.int .i64 r90.1), (Sl.v r90.2.1)]), (Value.bool r90.2.2)])) 9 (fun _ => True) rfl (by kernel_rfl) (by kernel_rfl) (by kernel_rfl) rfl rfl rfl trivial (fun w _ => (x_move (v := (Value.tuple #[(Value.agg #[(Value.int .i64 r90.1), (Sl.v r90.2.1)]), (Value.bool r90.2.2)])) rfl rfl)) ?_
                        refine wpD_take (v := (Value.agg #[(Value.int .i64 r90.1), (Sl.v r90.2.1)])) 10 (fun _ => True) rfl (by kernel_rfl) (by kernel_rfl) (by kernel_rfl) rfl rfl rfl trivial (fun w _ => (x_extract rfl rfl rfl)) ?_
                        refine wpD_take (v := (Value.bool r90.2.2)) 11 (fun _ => True) rfl (by kernel_rfl) (by kernel_rfl) (by kernel_rfl) rfl rfl rfl trivial (fun w _ => (x_extract rfl rfl rfl)) ?_
                        refine wpD_all (rs := [12]) (by kernel_rfl) (by simp) (allD_cons ?_ allD_nil)
                        obtain ⟨b91, hb91⟩ : ∃ u, u = w26.heap.size := ⟨_, rfl⟩
                        obtain ⟨w27, hw91⟩ : ∃ u, u = w26.alloc (.cells #[(Value.int .i64 0), (Sl.v Sl.nil)] 38) := ⟨_, rfl⟩
                        replace h := h b91 w27 hb91 hw91
                        refine stepD_valL (L' := [(11, fun _ => True), (10, fun _ => True), (9, fun _ => True), (6, fun _ => True), (5, fun _ => True), (3, fun _ => True), (2, fun _ => True), (1, fun _ => True)]) (v := (Value.pointer (some (Addr.mk b91 0 none)))) (w' := w27) rfl rfl rfl rfl ((x_alloc rfl ZV_38).trans (by rw [hb91, hw91]; rfl)) (by kernel_rfl) (held_cons trivial (held_cons trivial (held_cons trivial (held_cons trivial (held_cons trivial (held_cons trivial (held_cons trivial (held_cons trivial held_nil)))))))) ?_
                        refine wpD_all (rs := [13]) (by kernel_rfl) (by simp) (allD_cons ?_ allD_nil)
                        obtain ⟨q92, h⟩ := h
                        obtain ⟨w28, hw92⟩ : ∃ u, u = setAll w27 (Addr.mk b91 0 none) [(Value.int .i64 r90.1), (Sl.v r90.2.1)] 0 := ⟨_, rfl⟩
                        replace h := h w28 hw92
                        refine stepD_skpL (L' := [(11, fun _ => True)]) (w' := w28) rfl rfl rfl ((x_store (v := (Value.agg #[(Value.int .i64 r90.1), (Sl.v r90.2.1)])) rfl rfl rfl SZ_38 (ones (by rfl)) q92).trans (by rw [hw92]; rfl)) (by kernel_rfl) (held_cons trivial held_nil) ?_
                        refine wpD_take (v := (Value.bool r90.2.2)) 14 (fun _ => True) rfl (by kernel_rfl) (by kernel_rfl) (by kernel_rfl) rfl rfl rfl trivial (fun w _ => (x_assign (v := (Value.bool r90.2.2)) rfl rfl)) ?_
                        exact wpD_done (by kernel_rfl) ⟨r90.2.2, ⟨rfl, e3, e4, e5, e13, e14, e15, e17, e19, e21, e23, e24, e28, e29, e30, e36, e38, e39, e40, trivial⟩, h⟩
                      · replace h := h.2
                        obtain ⟨b93, hb93⟩ : ∃ u, u = w25.heap.size := ⟨_, rfl⟩
                        obtain ⟨w29, hw93⟩ : ∃ u, u = w25.alloc (.cells #[(Value.int .i64 0), (Sl.v Sl.nil)] 38) := ⟨_, rfl⟩
                        replace h := h b93 w29 hb93 hw93
                        obtain ⟨o4, h⟩ := h
                        obtain ⟨o0, h⟩ := h
                        refine stepD_valL (L' := [(7, fun _ => True), (6, fun _ => True), (5, fun _ => True), (4, fun w => w.cell? p88 = some (Value.int .i64 x89)), (3, fun _ => True), (2, fun _ => True), (1, fun _ => True), (0, fun w => w.cell? (a85.add 0) = some (Value.int .i64 x86) ∧ w.cell? (a85.add 1) = some (Sl.v x87))]) (v := (Value.pointer (some (Addr.mk b93 0 none)))) (w' := w29) rfl rfl rfl rfl ((x_alloc rfl ZV_38).trans (by rw [hb93, hw93]; rfl)) (by kernel_rfl) (held_cons trivial (held_cons trivial (held_cons trivial (held_cons o4 (held_cons trivial (held_cons trivial (held_cons trivial (held_cons o0 held_nil)))))))) ?_
                        refine wpD_all (rs := [8]) (by kernel_rfl) (by simp) (allD_cons ?_ allD_nil)
                        refine stepD_enterL (L' := [(6, fun _ => True), (5, fun _ => True), (3, fun _ => True), (2, fun _ => True), (1, fun _ => True)]) rfl rfl rfl rfl (x_call (vs := [(Value.agg #[(Value.int .i64 x86), (Sl.v x87)]), (Value.int .i64 x89), (Value.int .i64 (IntKind.i64.wrap (p5.tmod 4)))]) rfl rfl (mapl_cons rfl (mapl_cons rfl (mapl_cons rfl mapl_nil))) Tryz.func10 NN_10 NB_10) (by kernel_rfl) (Calls.mono h ?_)
                        rintro _ w30 ⟨r94, rfl, h⟩
                        refine ⟨_, rfl, (held_cons trivial (held_cons trivial (held_cons trivial (held_cons trivial (held_cons trivial held_nil))))), ?_⟩
                        refine wpD_take (v := (Value.tuple #[(Value.agg #[(Value.int .i64 r94.1), (Sl.v r94.2.1)]), (Value.bool r94.2.2)])) 9 (fun _ => True) rfl (by kernel_rfl) (by kernel_rfl) (by kernel_rfl) rfl rfl rfl trivial (fun w _ => (x_move (v := (Value.tuple #[(Value.agg #[(Value.int .i64 r94.1), (Sl.v r94.2.1)]), (Value.bool r94.2.2)])) rfl rfl)) ?_
                        refine wpD_take (v := (Value.agg #[(Value.int .i64 r94.1), (Sl.v r94.2.1)])) 10 (fun _ => True) rfl (by kernel_rfl) (by kernel_rfl) (by kernel_rfl) rfl rfl rfl trivial (fun w _ => (x_extract rfl rfl rfl)) ?_
                        refine wpD_take (v := (Value.bool r94.2.2)) 11 (fun _ => True) rfl (by kernel_rfl) (by kernel_rfl) (by kernel_rfl) rfl rfl rfl trivial (fun w _ => (x_extract rfl rfl rfl)) ?_
                        refine wpD_all (rs := [13]) (by kernel_rfl) (by simp) (allD_cons ?_ allD_nil)
                        obtain ⟨q95, h⟩ := h
                        obtain ⟨w31, hw95⟩ : ∃ u, u = setAll w30 (Addr.mk b93 0 none) [(Value.int .i64 r94.1), (Sl.v r94.2.1)] 0 := ⟨_, rfl⟩
                        replace h := h w31 hw95
                        refine stepD_skpL (L' := [(11, fun _ => True)]) (w' := w31) rfl rfl rfl ((x_store (v := (Value.agg #[(Value.int .i64 r94.1), (Sl.v r94.2.1)])) rfl rfl rfl SZ_38 (ones (by rfl)) q95).trans (by rw [hw95]; rfl)) (by kernel_rfl) (held_cons trivial held_nil) ?_
                        refine wpD_take (v := (Value.bool r94.2.2)) 14 (fun _ => True) rfl (by kernel_rfl) (by kernel_rfl) (by kernel_rfl) rfl rfl rfl trivial (fun w _ => (x_assign (v := (Value.bool r94.2.2)) rfl rfl)) ?_
                        exact wpD_done (by kernel_rfl) ⟨r94.2.2, ⟨rfl, e3, e4, e5, e13, e14, e15, e17, e19, e21, e23, e24, e28, e29, e30, e36, e38, e39, e40, trivial⟩, h⟩
                    clear h
                    rintro l96 ρ w32 ⟨e42, e3, e4, e5, e13, e14, e15, e17, e19, e21, e23, e24, e28, e29, e30, e36, e38, e39, e40, -⟩ h
                    replace h := hk l96 w32 h
                    clear hk
                    refine wpC_seq ?_
                    refine wpC_seq ?_
                    refine wpC_region ?_
                    refine rv (Sl.v r66.1) w32 rfl rfl rfl (x_move rfl e36) ?_
                    refine rv (Value.int .i64 l68.2) w32 rfl rfl rfl (x_move rfl e38) ?_
                    obtain ⟨q97, z97, r97, h⟩ := h
                    generalize hp97 : z97.add ((l68.2 : Int).toNat * 1) = p97 at h
                    refine rv (Value.pointer (some p97)) w32 rfl rfl rfl ((x_indexAddr (s := r66.1) rfl rfl rfl ES_39 q97 r97).trans (by rw [hp97])) ?_
                    obtain ⟨x98, q98, h⟩ := h
                    refine rv (Value.int .i64 x98) w32 rfl rfl rfl (x_load1 rfl rfl SH_3 q98) ?_
                    refine rv (Value.int .i64 l68.1) w32 rfl rfl rfl (x_move rfl e29) ?_
                    refine rv (Value.bool (!decide (x98 = l68.1))) w32 rfl rfl rfl (x_neq rfl rfl rfl) ?_
                    refine rv (Value.bool (!decide (x98 = l68.1))) w32 rfl rfl rfl (x_move rfl rfl) ?_
                    refine wpR_joinJ 3 (fun (_ : Unit) ρ => ρ 240 = Value.bool ((!decide (x98 = l68.1)) || (!l82.2)) ∧ ρ 3 = (Sl.v p3) ∧ ρ 4 = (Sl.v p4) ∧ ρ 5 = (Value.int .u8 p5) ∧ ρ 13 = (Value.bool r9) ∧ ρ 14 = (Value.int .i64 ((IntKind.i64.wrap p2).tmod 41)) ∧ ρ 15 = (Value.pointer r13.1) ∧ ρ 17 = (Value.pointer r14.1) ∧ ρ 19 = (Value.pointer r15.1) ∧ ρ 21 = (Value.pointer r16.1) ∧ ρ 23 = (Value.pointer (some (Addr.mk b47 0 none))) ∧ ρ 24 = (Value.pointer (some (Addr.mk b48 0 none))) ∧ ρ 28 = (Value.pointer (some (Addr.mk b55 0 none))) ∧ ρ 29 = (Value.int .i64 l68.1) ∧ ρ 30 = (Value.int .i64 l56.2) ∧ ρ 36 = (Sl.v r66.1) ∧ ρ 38 = (Value.int .i64 l68.2) ∧ ρ 39 = (Value.pointer l82.1) ∧ ρ 42 = (Value.bool l96) ∧ True) (fun _ w => w32 = w) ?_ ?_
                    · clear h
                      rcases Bool.eq_false_or_eq_true (!decide (x98 = l68.1)) with hc100 | hc100
                      · skip
                        refine wpR_pass (wantN rfl rfl rfl hc100) rfl rfl ?_
                        refine wpR_pass (wantN rfl rfl rfl hc100) rfl rfl ?_
                        refine rv (Value.bool true) w32 rfl rfl rfl (x_pickT (v := (Value.bool true)) rfl rfl hc100 rfl) ?_
                        refine wpR_nil ?_
                        exact ⟨(), ⟨(by rw [hc100]; rfl), e3, e4, e5, e13, e14, e15, e17, e19, e21, e23, e24, e28, e29, e30, e36, e38, e39, e42, trivial⟩, rfl⟩
                      · skip
                        refine wpR_val (v := (Value.bool l82.2)) (w' := w32) (wantG rfl rfl rfl hc100) rfl rfl (x_move rfl e40) ?_
                        refine wpR_val (v := (Value.bool (!l82.2))) (w' := w32) (wantG rfl rfl rfl hc100) rfl rfl (x_not rfl rfl) ?_
                        refine rv (Value.bool (!l82.2)) w32 rfl rfl rfl (x_pickF (v := (Value.bool (!l82.2))) rfl rfl hc100 rfl) ?_
                        refine wpR_nil ?_
                        exact ⟨(), ⟨(by rw [hc100]; rfl), e3, e4, e5, e13, e14, e15, e17, e19, e21, e23, e24, e28, e29, e30, e36, e38, e39, e42, trivial⟩, rfl⟩
                    rintro _ ρ wj ⟨e240, e3, e4, e5, e13, e14, e15, e17, e19, e21, e23, e24, e28, e29, e30, e36, e38, e39, e42, -⟩ rfl
                    refine rv (Value.bool ((!decide (x98 = l68.1)) || (!l82.2))) w32 rfl rfl rfl (x_move rfl e240) ?_
                    refine wpR_joinJ 2 (fun (_ : Unit) ρ => ρ 243 = Value.bool (((!decide (x98 = l68.1)) || (!l82.2)) || l96) ∧ ρ 3 = (Sl.v p3) ∧ ρ 4 = (Sl.v p4) ∧ ρ 5 = (Value.int .u8 p5) ∧ ρ 13 = (Value.bool r9) ∧ ρ 14 = (Value.int .i64 ((IntKind.i64.wrap p2).tmod 41)) ∧ ρ 15 = (Value.pointer r13.1) ∧ ρ 17 = (Value.pointer r14.1) ∧ ρ 19 = (Value.pointer r15.1) ∧ ρ 21 = (Value.pointer r16.1) ∧ ρ 23 = (Value.pointer (some (Addr.mk b47 0 none))) ∧ ρ 24 = (Value.pointer (some (Addr.mk b48 0 none))) ∧ ρ 28 = (Value.pointer (some (Addr.mk b55 0 none))) ∧ ρ 29 = (Value.int .i64 l68.1) ∧ ρ 30 = (Value.int .i64 l56.2) ∧ ρ 36 = (Sl.v r66.1) ∧ ρ 38 = (Value.int .i64 l68.2) ∧ ρ 39 = (Value.pointer l82.1) ∧ True) (fun _ w => w32 = w) ?_ ?_
                    · clear h
                      rcases Bool.eq_false_or_eq_true ((!decide (x98 = l68.1)) || (!l82.2)) with hc102 | hc102
                      · skip
                        refine wpR_pass (wantN rfl rfl rfl hc102) rfl rfl ?_
                        refine rv (Value.bool true) w32 rfl rfl rfl (x_pickT (v := (Value.bool true)) rfl rfl hc102 rfl) ?_
                        refine wpR_nil ?_
                        exact ⟨(), ⟨(by rw [hc102]; rfl), e3, e4, e5, e13, e14, e15, e17, e19, e21, e23, e24, e28, e29, e30, e36, e38, e39, trivial⟩, rfl⟩
                      · skip
                        refine wpR_val (v := (Value.bool l96)) (w' := w32) (wantG rfl rfl rfl hc102) rfl rfl (x_move rfl e42) ?_
                        refine rv (Value.bool l96) w32 rfl rfl rfl (x_pickF (v := (Value.bool l96)) rfl rfl hc102 rfl) ?_
                        refine wpR_nil ?_
                        exact ⟨(), ⟨(by rw [hc102]; rfl), e3, e4, e5, e13, e14, e15, e17, e19, e21, e23, e24, e28, e29, e30, e36, e38, e39, trivial⟩, rfl⟩
                    rintro _ ρ wj ⟨e243, e3, e4, e5, e13, e14, e15, e17, e19, e21, e23, e24, e28, e29, e30, e36, e38, e39, -⟩ rfl
                    refine wpR_nil ?_
                    refine wpC_cond (b := ((!decide (x98 = l68.1)) || (!l82.2)) || l96) e243 (fun hc103 => ?_) (fun hc103 => ?_)
                    · replace h := h.1 hc103
                      refine wpC_seq ?_
                      refine wpC_region ?_
                      refine rv (Value.bool false) w32 rfl rfl rfl (x_assign rfl rfl) ?_
                      refine wpR_nil ?_
                      refine wpC_ret ?_
                      exact ⟨.inl rfl, fun a ha => ⟨_, results_rep1 rfl ha rfl, false, rfl, h⟩⟩
                    · replace h := h.2 hc103
                      refine wpC_skip ?_
                      refine wpC_seq ?_
                      refine wpC_region ?_
                      obtain ⟨a104, q104, h⟩ := h
                      obtain ⟨x105, q105, x106, q106, h⟩ := h
                      refine rv (Value.agg #[(Value.int .i64 x105), (Sl.v x106)]) w32 rfl rfl rfl (x_loadN [(Value.int .i64 x105), (Sl.v x106)] rfl ((e39).trans (congrArg Value.pointer q104)) SH_38 (CellsAt.out (CellsAt.cons q105 (CellsAt.cons q106 CellsAt.nil)))) ?_
                      obtain ⟨q107, h⟩ := h
                      obtain ⟨w33, hw107⟩ : ∃ u, u = setAll w32 (Addr.mk b55 0 none) [(Value.int .i64 x105), (Sl.v x106)] 0 := ⟨_, rfl⟩
                      replace h := h w33 hw107
                      refine wpR_skp (w' := w33) rfl rfl ((x_store (v := (Value.agg #[(Value.int .i64 x105), (Sl.v x106)])) rfl e28 rfl SZ_38 (ones (by rfl)) q107).trans (by rw [hw107]; rfl)) ?_
                      refine wpR_nil ?_
                      refine wpC_cut (fun ρ => ρ 3 = (Sl.v p3) ∧ ρ 4 = (Sl.v p4) ∧ ρ 5 = (Value.int .u8 p5) ∧ ρ 13 = (Value.bool r9) ∧ ρ 14 = (Value.int .i64 ((IntKind.i64.wrap p2).tmod 41)) ∧ ρ 15 = (Value.pointer r13.1) ∧ ρ 17 = (Value.pointer r14.1) ∧ ρ 19 = (Value.pointer r15.1) ∧ ρ 21 = (Value.pointer r16.1) ∧ ρ 23 = (Value.pointer (some (Addr.mk b47 0 none))) ∧ ρ 24 = (Value.pointer (some (Addr.mk b48 0 none))) ∧ ρ 28 = (Value.pointer (some (Addr.mk b55 0 none))) ∧ ρ 29 = (Value.int .i64 l68.1) ∧ ρ 30 = (Value.int .i64 l56.2) ∧ ρ 36 = (Sl.v r66.1) ∧ ρ 38 = (Value.int .i64 l68.2) ∧ True) ⟨e3, e4, e5, e13, e14, e15, e17, e19, e21, e23, e24, e28, e29, e30, e36, e38, trivial⟩ ?_
                      rintro ρ ⟨e3, e4, e5, e13, e14, e15, e17, e19, e21, e23, e24, e28, e29, e30, e36, e38, -⟩
                      refine wpC_region ?_
                      refine rv (Value.int .i64 l68.1) w33 rfl rfl rfl (x_move rfl e29) ?_
                      refine rv (Value.int .i64 (IntKind.i64.wrap (l68.1 + 1))) w33 rfl rfl rfl (x_add rfl rfl rfl) ?_
                      refine rv (Value.int .i64 (IntKind.i64.wrap (l68.1 + 1))) w33 rfl rfl rfl (x_assign rfl rfl) ?_
                      refine wpR_nil ?_
                      refine wpC_cut (fun ρ => ρ 3 = (Sl.v p3) ∧ ρ 4 = (Sl.v p4) ∧ ρ 5 = (Value.int .u8 p5) ∧ ρ 13 = (Value.bool r9) ∧ ρ 14 = (Value.int .i64 ((IntKind.i64.wrap p2).tmod 41)) ∧ ρ 15 = (Value.pointer r13.1) ∧ ρ 17 = (Value.pointer r14.1) ∧ ρ 19 = (Value.pointer r15.1) ∧ ρ 21 = (Value.pointer r16.1) ∧ ρ 23 = (Value.pointer (some (Addr.mk b47 0 none))) ∧ ρ 24 = (Value.pointer (some (Addr.mk b48 0 none))) ∧ ρ 28 = (Value.pointer (some (Addr.mk b55 0 none))) ∧ ρ 29 = (Value.int .i64 (IntKind.i64.wrap (l68.1 + 1))) ∧ ρ 30 = (Value.int .i64 l56.2) ∧ ρ 36 = (Sl.v r66.1) ∧ ρ 38 = (Value.int .i64 l68.2) ∧ True) ⟨e3, e4, e5, e13, e14, e15, e17, e19, e21, e23, e24, e28, rfl, e30, e36, e38, trivial⟩ ?_
                      rintro ρ ⟨e3, e4, e5, e13, e14, e15, e17, e19, e21, e23, e24, e28, e29, e30, e36, e38, -⟩
                      refine wpC_region ?_
                      refine rv (Value.int .i64 l68.2) w33 rfl rfl rfl (x_move rfl e38) ?_
                      refine rv (Value.int .i64 (IntKind.i64.wrap (l68.2 + 1))) w33 rfl rfl rfl (x_add rfl rfl rfl) ?_
                      refine rv (Value.int .i64 (IntKind.i64.wrap (l68.2 + 1))) w33 rfl rfl rfl (x_assign rfl rfl) ?_
                      refine wpR_nil ?_
                      exact ⟨(IntKind.i64.wrap (l68.1 + 1), IntKind.i64.wrap (l68.2 + 1)), ⟨e29, rfl, e3, e4, e5, e13, e14, e15, e17, e19, e21, e23, e24, e28, e30, e36, trivial⟩, h⟩
                  · replace h := h.2 hc69
                    refine wpC_exit ?_
                    refine wpC_cut (fun ρ => ρ 3 = (Sl.v p3) ∧ ρ 4 = (Sl.v p4) ∧ ρ 5 = (Value.int .u8 p5) ∧ ρ 13 = (Value.bool r9) ∧ ρ 14 = (Value.int .i64 ((IntKind.i64.wrap p2).tmod 41)) ∧ ρ 15 = (Value.pointer r13.1) ∧ ρ 17 = (Value.pointer r14.1) ∧ ρ 19 = (Value.pointer r15.1) ∧ ρ 21 = (Value.pointer r16.1) ∧ ρ 23 = (Value.pointer (some (Addr.mk b47 0 none))) ∧ ρ 24 = (Value.pointer (some (Addr.mk b48 0 none))) ∧ ρ 28 = (Value.pointer (some (Addr.mk b55 0 none))) ∧ ρ 29 = (Value.int .i64 l68.1) ∧ ρ 30 = (Value.int .i64 l56.2) ∧ True) ⟨e3, e4, e5, e13, e14, e15, e17, e19, e21, e23, e24, e28, e29, e30, trivial⟩ ?_
                    rintro ρ ⟨e3, e4, e5, e13, e14, e15, e17, e19, e21, e23, e24, e28, e29, e30, -⟩
                    refine wpC_region ?_
                    refine rv (Value.int .i64 l56.2) w16 rfl rfl rfl (x_move rfl e30) ?_
                    refine rv (Value.int .i64 (IntKind.i64.wrap (l56.2 + 1))) w16 rfl rfl rfl (x_add rfl rfl rfl) ?_
                    refine rv (Value.int .i64 (IntKind.i64.wrap (l56.2 + 1))) w16 rfl rfl rfl (x_assign rfl rfl) ?_
                    refine wpR_nil ?_
                    exact ⟨(l68.1, IntKind.i64.wrap (l56.2 + 1)), ⟨e29, rfl, e3, e4, e5, e13, e14, e15, e17, e19, e21, e23, e24, e28, trivial⟩, h⟩
          · replace h := h.2 hc59
            refine wpC_exit ?_
            refine wpC_seq ?_
            refine wpC_region ?_
            refine rv (Value.bool r9) w11 rfl rfl rfl (x_move rfl e13) ?_
            refine rv (Value.bool r9) w11 rfl rfl rfl (x_move rfl rfl) ?_
            refine wpR_joinJ 4 (fun (_ : Unit) ρ => ρ 252 = Value.bool (r9 && (decide (l56.1 = ((IntKind.i64.wrap p2).tmod 41)))) ∧ ρ 14 = (Value.int .i64 ((IntKind.i64.wrap p2).tmod 41)) ∧ ρ 15 = (Value.pointer r13.1) ∧ ρ 17 = (Value.pointer r14.1) ∧ ρ 21 = (Value.pointer r16.1) ∧ ρ 28 = (Value.pointer (some (Addr.mk b55 0 none))) ∧ True) (fun _ w => w11 = w) ?_ ?_
            · clear h
              rcases Bool.eq_false_or_eq_true (r9) with hc109 | hc109
              · skip
                refine wpR_val (v := (Value.int .i64 l56.1)) (w' := w11) (wantG rfl rfl rfl hc109) rfl rfl (x_move rfl e29) ?_
                refine wpR_val (v := (Value.int .i64 ((IntKind.i64.wrap p2).tmod 41))) (w' := w11) (wantG rfl rfl rfl hc109) rfl rfl (x_move rfl e14) ?_
                refine wpR_val (v := (Value.bool (decide (l56.1 = ((IntKind.i64.wrap p2).tmod 41))))) (w' := w11) (wantG rfl rfl rfl hc109) rfl rfl (x_eql rfl rfl rfl) ?_
                refine rv (Value.bool (decide (l56.1 = ((IntKind.i64.wrap p2).tmod 41)))) w11 rfl rfl rfl (x_pickT (v := (Value.bool (decide (l56.1 = ((IntKind.i64.wrap p2).tmod 41))))) rfl rfl hc109 rfl) ?_
                refine wpR_nil ?_
                exact ⟨(), ⟨(by rw [hc109]; rfl), e14, e15, e17, e21, e28, trivial⟩, rfl⟩
              · skip
                refine wpR_pass (wantN rfl rfl rfl hc109) rfl rfl ?_
                refine wpR_pass (wantN rfl rfl rfl hc109) rfl rfl ?_
                refine wpR_pass (wantN rfl rfl rfl hc109) rfl rfl ?_
                refine rv (Value.bool false) w11 rfl rfl rfl (x_pickF (v := (Value.bool false)) rfl rfl hc109 rfl) ?_
                refine wpR_nil ?_
                exact ⟨(), ⟨(by rw [hc109]; rfl), e14, e15, e17, e21, e28, trivial⟩, rfl⟩
            rintro _ ρ wj ⟨e252, e14, e15, e17, e21, e28, -⟩ rfl
            refine rv (Value.bool (r9 && (decide (l56.1 = ((IntKind.i64.wrap p2).tmod 41))))) w11 rfl rfl rfl (x_move rfl e252) ?_
            obtain ⟨J110, h, hk⟩ := h
            refine wpR_joinJ 5 (fun x ρ => ρ 258 = Value.bool x ∧ ρ 14 = (Value.int .i64 ((IntKind.i64.wrap p2).tmod 41)) ∧ ρ 15 = (Value.pointer r13.1) ∧ ρ 17 = (Value.pointer r14.1) ∧ ρ 21 = (Value.pointer r16.1) ∧ True) (J110) ?_ ?_
            · clear hk
              rcases Bool.eq_false_or_eq_true (r9 && (decide (l56.1 = ((IntKind.i64.wrap p2).tmod 41)))) with hc111 | hc111
              · replace h := h.1 hc111
                obtain ⟨x112, q112, x113, q113, h⟩ := h
                refine wpR_val (v := (Value.agg #[(Value.int .i64 x112), (Sl.v x113)])) (w' := w11) (wantG rfl rfl rfl hc111) rfl rfl (x_loadN [(Value.int .i64 x112), (Sl.v x113)] rfl e28 SH_38 (CellsAt.out (CellsAt.cons q112 (CellsAt.cons q113 CellsAt.nil)))) ?_
                refine wpR_enter (wantG rfl rfl rfl hc111) rfl rfl (x_call (vs := [(Value.agg #[(Value.int .i64 x112), (Sl.v x113)])]) rfl rfl (mapl_cons rfl mapl_nil) Tryz.func11 NN_11 NB_11) (Calls.mono h ?_)
                rintro _ w34 ⟨r114, rfl, h⟩
                refine ⟨_, rfl, ?_⟩
                refine wpR_val (v := (Value.int .i64 ((IntKind.i64.wrap p2).tmod 41))) (w' := w34) (wantG rfl rfl rfl hc111) rfl rfl (x_move rfl e14) ?_
                refine wpR_val (v := (Value.bool (decide (r114 = ((IntKind.i64.wrap p2).tmod 41))))) (w' := w34) (wantG rfl rfl rfl hc111) rfl rfl (x_eql rfl rfl rfl) ?_
                refine rv (Value.bool (decide (r114 = ((IntKind.i64.wrap p2).tmod 41)))) w34 rfl rfl rfl (x_pickT (v := (Value.bool (decide (r114 = ((IntKind.i64.wrap p2).tmod 41))))) rfl rfl hc111 rfl) ?_
                refine wpR_nil ?_
                exact ⟨decide (r114 = ((IntKind.i64.wrap p2).tmod 41)), ⟨rfl, e14, e15, e17, e21, trivial⟩, h⟩
              · replace h := h.2 hc111
                refine wpR_pass (wantN rfl rfl rfl hc111) rfl rfl ?_
                refine wpR_pass (wantN rfl rfl rfl hc111) rfl rfl ?_
                refine wpR_pass (wantN rfl rfl rfl hc111) rfl rfl ?_
                refine wpR_pass (wantN rfl rfl rfl hc111) rfl rfl ?_
                refine rv (Value.bool false) w11 rfl rfl rfl (x_pickF (v := (Value.bool false)) rfl rfl hc111 rfl) ?_
                refine wpR_nil ?_
                exact ⟨false, ⟨rfl, e14, e15, e17, e21, trivial⟩, h⟩
            clear h
            rintro c115 ρ w35 ⟨e258, e14, e15, e17, e21, -⟩ h
            replace h := hk c115 w35 h
            clear hk
            refine rv (Value.bool c115) w35 rfl rfl rfl (x_move rfl e258) ?_
            obtain ⟨J116, h, hk⟩ := h
            refine wpR_joinJ 5 (fun x ρ => ρ 264 = Value.bool x ∧ ρ 14 = (Value.int .i64 ((IntKind.i64.wrap p2).tmod 41)) ∧ ρ 17 = (Value.pointer r14.1) ∧ ρ 21 = (Value.pointer r16.1) ∧ True) (J116) ?_ ?_
            · clear hk
              rcases Bool.eq_false_or_eq_true (c115) with hc117 | hc117
              · replace h := h.1 hc117
                refine wpR_val (v := (Value.pointer r13.1)) (w' := w35) (wantG rfl rfl rfl hc117) rfl rfl (x_move rfl e15) ?_
                refine wpR_enter (wantG rfl rfl rfl hc117) rfl rfl (x_call (vs := [(Value.pointer r13.1)]) rfl rfl (mapl_cons rfl mapl_nil) Tryz.func12 NN_12 NB_12) (Calls.mono h ?_)
                rintro _ w36 ⟨r118, rfl, h⟩
                refine ⟨_, rfl, ?_⟩
                refine wpR_val (v := (Value.int .i64 ((IntKind.i64.wrap p2).tmod 41))) (w' := w36) (wantG rfl rfl rfl hc117) rfl rfl (x_move rfl e14) ?_
                refine wpR_val (v := (Value.bool (decide (r118 ≤ ((IntKind.i64.wrap p2).tmod 41))))) (w' := w36) (wantG rfl rfl rfl hc117) rfl rfl (x_leq rfl rfl rfl) ?_
                refine rv (Value.bool (decide (r118 ≤ ((IntKind.i64.wrap p2).tmod 41)))) w36 rfl rfl rfl (x_pickT (v := (Value.bool (decide (r118 ≤ ((IntKind.i64.wrap p2).tmod 41))))) rfl rfl hc117 rfl) ?_
                refine wpR_nil ?_
                exact ⟨decide (r118 ≤ ((IntKind.i64.wrap p2).tmod 41)), ⟨rfl, e14, e17, e21, trivial⟩, h⟩
              · replace h := h.2 hc117
                refine wpR_pass (wantN rfl rfl rfl hc117) rfl rfl ?_
                refine wpR_pass (wantN rfl rfl rfl hc117) rfl rfl ?_
                refine wpR_pass (wantN rfl rfl rfl hc117) rfl rfl ?_
                refine wpR_pass (wantN rfl rfl rfl hc117) rfl rfl ?_
                refine rv (Value.bool false) w35 rfl rfl rfl (x_pickF (v := (Value.bool false)) rfl rfl hc117 rfl) ?_
                refine wpR_nil ?_
                exact ⟨false, ⟨rfl, e14, e17, e21, trivial⟩, h⟩
            clear h
            rintro c119 ρ w37 ⟨e264, e14, e17, e21, -⟩ h
            replace h := hk c119 w37 h
            clear hk
            refine rv (Value.bool c119) w37 rfl rfl rfl (x_move rfl e264) ?_
            obtain ⟨J120, h, hk⟩ := h
            refine wpR_joinJ 5 (fun x ρ => ρ 270 = Value.bool x ∧ ρ 14 = (Value.int .i64 ((IntKind.i64.wrap p2).tmod 41)) ∧ ρ 21 = (Value.pointer r16.1) ∧ True) (J120) ?_ ?_
            · clear hk
              rcases Bool.eq_false_or_eq_true (c119) with hc121 | hc121
              · replace h := h.1 hc121
                refine wpR_val (v := (Value.pointer r14.1)) (w' := w37) (wantG rfl rfl rfl hc121) rfl rfl (x_move rfl e17) ?_
                refine wpR_enter (wantG rfl rfl rfl hc121) rfl rfl (x_call (vs := [(Value.pointer r14.1)]) rfl rfl (mapl_cons rfl mapl_nil) Tryz.func13 NN_13 NB_13) (Calls.mono h ?_)
                rintro _ w38 ⟨r122, rfl, h⟩
                refine ⟨_, rfl, ?_⟩
                refine wpR_val (v := (Value.int .i64 ((IntKind.i64.wrap p2).tmod 41))) (w' := w38) (wantG rfl rfl rfl hc121) rfl rfl (x_move rfl e14) ?_
                refine wpR_val (v := (Value.bool (decide (r122 = ((IntKind.i64.wrap p2).tmod 41))))) (w' := w38) (wantG rfl rfl rfl hc121) rfl rfl (x_eql rfl rfl rfl) ?_
                refine rv (Value.bool (decide (r122 = ((IntKind.i64.wrap p2).tmod 41)))) w38 rfl rfl rfl (x_pickT (v := (Value.bool (decide (r122 = ((IntKind.i64.wrap p2).tmod 41))))) rfl rfl hc121 rfl) ?_
                refine wpR_nil ?_
                exact ⟨decide (r122 = ((IntKind.i64.wrap p2).tmod 41)), ⟨rfl, e14, e21, trivial⟩, h⟩
              · replace h := h.2 hc121
                refine wpR_pass (wantN rfl rfl rfl hc121) rfl rfl ?_
                refine wpR_pass (wantN rfl rfl rfl hc121) rfl rfl ?_
                refine wpR_pass (wantN rfl rfl rfl hc121) rfl rfl ?_
                refine wpR_pass (wantN rfl rfl rfl hc121) rfl rfl ?_
                refine rv (Value.bool false) w37 rfl rfl rfl (x_pickF (v := (Value.bool false)) rfl rfl hc121 rfl) ?_
                refine wpR_nil ?_
                exact ⟨false, ⟨rfl, e14, e21, trivial⟩, h⟩
            clear h
            rintro c123 ρ w39 ⟨e270, e14, e21, -⟩ h
            replace h := hk c123 w39 h
            clear hk
            refine rv (Value.bool c123) w39 rfl rfl rfl (x_move rfl e270) ?_
            obtain ⟨J124, h, hk⟩ := h
            refine wpR_joinJ 5 (fun x ρ => ρ 276 = Value.bool x ∧ True) (J124) ?_ ?_
            · clear hk
              rcases Bool.eq_false_or_eq_true (c123) with hc125 | hc125
              · replace h := h.1 hc125
                refine wpR_val (v := (Value.pointer r16.1)) (w' := w39) (wantG rfl rfl rfl hc125) rfl rfl (x_move rfl e21) ?_
                refine wpR_enter (wantG rfl rfl rfl hc125) rfl rfl (x_call (vs := [(Value.pointer r16.1)]) rfl rfl (mapl_cons rfl mapl_nil) Tryz.func13 NN_13 NB_13) (Calls.mono h ?_)
                rintro _ w40 ⟨r126, rfl, h⟩
                refine ⟨_, rfl, ?_⟩
                refine wpR_val (v := (Value.int .i64 ((IntKind.i64.wrap p2).tmod 41))) (w' := w40) (wantG rfl rfl rfl hc125) rfl rfl (x_move rfl e14) ?_
                refine wpR_val (v := (Value.bool (decide (r126 = ((IntKind.i64.wrap p2).tmod 41))))) (w' := w40) (wantG rfl rfl rfl hc125) rfl rfl (x_eql rfl rfl rfl) ?_
                refine rv (Value.bool (decide (r126 = ((IntKind.i64.wrap p2).tmod 41)))) w40 rfl rfl rfl (x_pickT (v := (Value.bool (decide (r126 = ((IntKind.i64.wrap p2).tmod 41))))) rfl rfl hc125 rfl) ?_
                refine wpR_nil ?_
                exact ⟨decide (r126 = ((IntKind.i64.wrap p2).tmod 41)), ⟨rfl, trivial⟩, h⟩
              · replace h := h.2 hc125
                refine wpR_pass (wantN rfl rfl rfl hc125) rfl rfl ?_
                refine wpR_pass (wantN rfl rfl rfl hc125) rfl rfl ?_
                refine wpR_pass (wantN rfl rfl rfl hc125) rfl rfl ?_
                refine wpR_pass (wantN rfl rfl rfl hc125) rfl rfl ?_
                refine rv (Value.bool false) w39 rfl rfl rfl (x_pickF (v := (Value.bool false)) rfl rfl hc125 rfl) ?_
                refine wpR_nil ?_
                exact ⟨false, ⟨rfl, trivial⟩, h⟩
            clear h
            rintro c127 ρ w41 ⟨e276, -⟩ h
            replace h := hk c127 w41 h
            clear hk
            refine rv (Value.bool c127) w41 rfl rfl rfl (x_assign rfl e276) ?_
            refine wpR_nil ?_
            refine wpC_ret ?_
            exact ⟨.inl rfl, fun a ha => ⟨_, results_rep1 rfl ha rfl, c127, rfl, h⟩⟩

/-- (*linguatop.deliverHop).deliverRound -/
def F9 (p0 : Option Addr) (w0 : World) (K : (Sl × Bool) → World → Prop) : Prop :=
  nn p0 fun a9 =>
  ld Value.pointer (a9.add 0) w0 fun x10 =>
  callC Tryz.prog 25 #[(Value.pointer x10)] (fun (r : Sl) => (Sl.v r)) w0 fun r11 w1 =>
  lp (fun (next12 : (Sl × Int) → World → Prop) l12 w2 =>
    cnd (decide (l12.2 < (IntKind.i64.wrap (2 * (r11.len : Int)))))
      (
      jn (fun (J14 : Sl → World → Prop) =>
        callC Tryz.prog 26 #[(Value.pointer p0)] (fun (r : Bool) => (Value.bool r)) w2 fun r16 w4 =>
        cnd (r16)
          (
          J14 l12.1 w4
          )
          (
          jn (fun (J19 : (Sl × Int) → World → Prop) => tk w4 fun w5 =>
            nn p0 fun a20 =>
            ld Value.pointer (a20.add 1) w5 fun x21 =>
            (r11.len : Int) ≠ 0 ∧
            ix r11 (IntKind.i64.wrap ((IntKind.i64.wrap ((r11.len : Int) - 1)) - (l12.2.tmod (r11.len : Int)))) 1 fun p23 =>
            ld (Value.int .i64) p23 w5 fun x24 =>
            callC Tryz.prog 23 #[(Value.pointer x21), (Value.int .i64 x24)] (fun (r : Sl × Int) => (Value.tuple #[(Sl.v r.1), (Value.int .i64 r.2)])) w5 fun r25 w6 =>
            J19 (r25.1, r25.2) w6
          )
          fun l26 w7 =>
          rn Tryz.prog (Builtin.append_ #[39, 39] 39 #[Sl.v l12.1, Sl.v l26.1]) Sl.v w7 fun r27 w8 =>
          callC Tryz.prog 26 #[(Value.pointer p0)] (fun (r : Bool) => (Value.bool r)) w8 fun r28 w9 =>
          jn (fun J29 => cnd (!r28)
            (
            nn p0 fun a31 =>
            ld Value.pointer (a31.add 0) w9 fun x32 =>
            callC Tryz.prog 24 #[(Value.pointer x32), (Value.int .i64 l26.2)] (fun (r : Int) => (Value.int .i64 r)) w9 fun r33 w10 =>
            J29 (!decide (r33 = 0)) w10
            )
            (
            J29 false w9
            ))
          fun c34 w11 =>
          cnd (c34)
            (
            K (r27, false) w11
            )
            (
            J14 r27 w11
            )
          )
      )
      fun l15 w3 =>
      next12 (l15, IntKind.i64.wrap (l12.2 + 1)) w3
      )
      (
      K (l12.1, true) w2
      )
  ) (Sl.nil, 0) w1
set_option maxRecDepth 100000 in
theorem D9 (p0 : Option Addr) (w0 : World) (K : (Sl × Bool) → World → Prop) (h : F9 p0 w0 K) : callC Tryz.prog 9 #[(Value.pointer p0)] (fun (r : Sl × Bool) => (Value.tuple #[(Sl.v r.1), (Value.bool r.2)])) w0 K := by
  unfold F9 at h
  refine calls_of_wpC Tryz.func9 rfl 62 rfl (by simp) ?_
  intro ρ hρ
  have e0 : ρ 0 = (Value.pointer p0) := hρ 0
  clear hρ
  refine wpC_seq ?_
  refine wpC_region ?_
  refine rv (Sl.v Sl.nil) w0 rfl rfl rfl (x_assign rfl rfl) ?_
  refine rv (Value.bool false) w0 rfl rfl rfl (x_assign rfl rfl) ?_
  refine wpR_nil ?_
  refine wpC_seq ?_
  refine wpC_cut (fun ρ => ρ 0 = (Value.pointer p0) ∧ True) ⟨e0, trivial⟩ ?_
  rintro ρ ⟨e0, -⟩
  refine wpC_region ?_
  refine rv (Sl.v Sl.nil) w0 rfl rfl rfl (x_assign rfl rfl) ?_
  refine wpR_nil ?_
  refine wpC_seq ?_
  refine wpC_cut (fun ρ => ρ 0 = (Value.pointer p0) ∧ ρ 4 = (Sl.v Sl.nil) ∧ True) ⟨e0, rfl, trivial⟩ ?_
  rintro ρ ⟨e0, e4, -⟩
  refine wpC_region ?_
  refine rv (Value.pointer p0) w0 rfl rfl rfl (x_move rfl e0) ?_
  obtain ⟨a9, q9, h⟩ := h
  refine rv (Value.pointer (some a9)) w0 rfl rfl rfl (x_nilCheck rfl rfl q9) ?_
  refine rv (Value.pointer (some (a9.add 0))) w0 rfl rfl rfl (x_fieldAddr rfl rfl FA_33_0) ?_
  obtain ⟨x10, q10, h⟩ := h
  refine rv (Value.pointer x10) w0 rfl rfl rfl (x_load1 rfl rfl SH_24 q10) ?_
  refine wpR_enter rfl rfl rfl (x_call (vs := [(Value.pointer x10)]) rfl rfl (mapl_cons rfl mapl_nil) Tryz.func25 NN_25 NB_25) (Calls.mono h ?_)
  rintro _ w1 ⟨r11, rfl, h⟩
  refine ⟨_, rfl, ?_⟩
  refine rv (Sl.v r11) w1 rfl rfl rfl (x_assign rfl rfl) ?_
  refine wpR_nil ?_
  refine wpC_seq ?_
  refine wpC_seq ?_
  refine wpC_cut (fun ρ => ρ 0 = (Value.pointer p0) ∧ ρ 4 = (Sl.v Sl.nil) ∧ ρ 5 = (Sl.v r11) ∧ True) ⟨e0, e4, rfl, trivial⟩ ?_
  rintro ρ ⟨e0, e4, e5, -⟩
  refine wpC_region ?_
  refine rv (Value.int .i64 0) w1 rfl rfl rfl (x_assign rfl rfl) ?_
  refine wpR_nil ?_
  refine wpC_block ?_
  obtain ⟨I12, μ12, hI12, hr12⟩ := h
  refine wpC_loop (fun (x : Sl × Int) ρ => ρ 4 = (Sl.v x.1) ∧ ρ 6 = (Value.int .i64 x.2) ∧ ρ 0 = (Value.pointer p0) ∧ ρ 5 = (Sl.v r11) ∧ True) I12 μ12 (Sl.nil, 0) ⟨e4, rfl, e0, e5, trivial⟩ hI12 ?_
  rintro l12 ρ w2 ⟨e4, e6, e0, e5, -⟩ h
  replace h := hr12 l12 w2 h
  clear hr12 hI12
  refine wpC_seq ?_
  refine wpC_seq ?_
  refine wpC_region ?_
  refine rv (Value.int .i64 l12.2) w2 rfl rfl rfl (x_move rfl e6) ?_
  refine rv (Sl.v r11) w2 rfl rfl rfl (x_move rfl e5) ?_
  refine rv (Value.int .i64 (r11.len : Int)) w2 rfl rfl rfl (x_lenS (s := r11) rfl rfl isSliceT_39) ?_
  refine rv (Value.int .i64 (IntKind.i64.wrap (2 * (r11.len : Int)))) w2 rfl rfl rfl (x_mul rfl rfl rfl) ?_
  refine rv (Value.bool (decide (l12.2 < (IntKind.i64.wrap (2 * (r11.len : Int)))))) w2 rfl rfl rfl (x_lss rfl rfl rfl) ?_
  refine wpR_nil ?_
  refine wpC_cond (b := decide (l12.2 < (IntKind.i64.wrap (2 * (r11.len : Int))))) rfl (fun hc13 => ?_) (fun hc13 => ?_)
  · replace h := h.1 hc13
    refine wpC_skip ?_
    obtain ⟨J14, h, hk⟩ := h
    refine wpC_seqJ (fun (x : Sl) ρ => ρ 4 = (Sl.v x) ∧ ρ 0 = (Value.pointer p0) ∧ ρ 5 = (Sl.v r11) ∧ ρ 6 = (Value.int .i64 l12.2) ∧ True) J14 ?_ ?_
    · clear hk
      refine wpC_block ?_
      refine wpC_seq ?_
      refine wpC_cut (fun ρ => ρ 0 = (Value.pointer p0) ∧ ρ 4 = (Sl.v l12.1) ∧ ρ 5 = (Sl.v r11) ∧ ρ 6 = (Value.int .i64 l12.2) ∧ True) ⟨e0, e4, e5, e6, trivial⟩ ?_
      rintro ρ ⟨e0, e4, e5, e6, -⟩
      refine wpC_region ?_
      refine rv (Value.pointer p0) w2 rfl rfl rfl (x_move rfl e0) ?_
      refine wpR_enter rfl rfl rfl (x_call (vs := [(Value.pointer p0)]) rfl rfl (mapl_cons rfl mapl_nil) Tryz.func26 NN_26 NB_26) (Calls.mono h ?_)
      rintro _ w4 ⟨r16, rfl, h⟩
      refine ⟨_, rfl, ?_⟩
      refine rv (Value.bool r16) w4 rfl rfl rfl (x_assign rfl rfl) ?_
      refine wpR_nil ?_
      refine wpC_seq ?_
      refine wpC_seq ?_
      refine wpC_cut (fun ρ => ρ 0 = (Value.pointer p0) ∧ ρ 4 = (Sl.v l12.1) ∧ ρ 5 = (Sl.v r11) ∧ ρ 6 = (Value.int .i64 l12.2) ∧ ρ 7 = (Value.bool r16) ∧ True) ⟨e0, e4, e5, e6, rfl, trivial⟩ ?_
      rintro ρ ⟨e0, e4, e5, e6, e7, -⟩
      refine wpC_region ?_
      refine rv (Value.bool r16) w4 rfl rfl rfl (x_move rfl e7) ?_
      refine wpR_nil ?_
      refine wpC_cond (b := r16) rfl (fun hc17 => ?_) (fun hc17 => ?_)
      · replace h := h.1 hc17
        refine wpC_exit ?_
        exact ⟨l12.1, ⟨e4, e0, e5, e6, trivial⟩, h⟩
      · replace h := h.2 hc17
        refine wpC_skip ?_
        refine wpC_seq ?_
        refine wpC_cut (fun ρ => ρ 0 = (Value.pointer p0) ∧ ρ 4 = (Sl.v l12.1) ∧ ρ 5 = (Sl.v r11) ∧ ρ 6 = (Value.int .i64 l12.2) ∧ True) ⟨e0, e4, e5, e6, trivial⟩ ?_
        rintro ρ ⟨e0, e4, e5, e6, -⟩
        obtain ⟨J19, h, hk⟩ := h
        refine wpC_drawJ (by kernel_rfl) (fun (x : Sl × Int) ρ => ρ 8 = (Sl.v x.1) ∧ ρ 9 = (Value.int .i64 x.2) ∧ ρ 0 = (Value.pointer p0) ∧ ρ 4 = (Sl.v l12.1) ∧ ρ 5 = (Sl.v r11) ∧ ρ 6 = (Value.int .i64 l12.2) ∧ True) J19 ?_ ?_
        · clear hk
          unfold tk at h
          generalize w4.drew = w5 at h ⊢
          refine wpD_take (v := (Value.pointer p0)) 0 (fun _ => True) rfl (by kernel_rfl) (by kernel_rfl) (by kernel_rfl) rfl rfl rfl trivial (fun w _ => (x_move (v := (Value.pointer p0)) rfl e0)) ?_
          obtain ⟨a20, q20, h⟩ := h
          refine wpD_take (v := (Value.pointer (some a20))) 1 (fun _ => True) rfl (by kernel_rfl) (by kernel_rfl) (by kernel_rfl) rfl rfl rfl trivial (fun w _ => (x_nilCheck rfl rfl q20)) ?_
          refine wpD_take (v := (Value.pointer (some (a20.add 1)))) 2 (fun _ => True) rfl (by kernel_rfl) (by kernel_rfl) (by kernel_rfl) rfl rfl rfl trivial (fun w _ => (x_fieldAddr rfl rfl FA_33_1)) ?_
          obtain ⟨x21, q21, h⟩ := h
          refine wpD_take (v := (Value.pointer x21)) 3 (fun w => w.cell? (a20.add 1) = some (Value.pointer x21)) rfl (by kernel_rfl) (by kernel_rfl) (by kernel_rfl) rfl rfl rfl q21 (fun w q21 => (x_load1 rfl rfl SH_28 q21)) ?_
          refine wpD_take (v := (Sl.v r11)) 4 (fun _ => True) rfl (by kernel_rfl) (by kernel_rfl) (by kernel_rfl) rfl rfl rfl trivial (fun w _ => (x_move (v := (Sl.v r11)) rfl e5)) ?_
          refine wpD_take (v := (Sl.v r11)) 5 (fun _ => True) rfl (by kernel_rfl) (by kernel_rfl) (by kernel_rfl) rfl rfl rfl trivial (fun w _ => (x_move (v := (Sl.v r11)) rfl e5)) ?_
          refine wpD_take (v := (Value.int .i64 (r11.len : Int))) 6 (fun _ => True) rfl (by kernel_rfl) (by kernel_rfl) (by kernel_rfl) rfl rfl rfl trivial (fun w _ => (x_lenS (s := r11) rfl rfl isSliceT_39)) ?_
          refine wpD_take (v := (Value.int .i64 (IntKind.i64.wrap ((r11.len : Int) - 1)))) 7 (fun _ => True) rfl (by kernel_rfl) (by kernel_rfl) (by kernel_rfl) rfl rfl rfl trivial (fun w _ => (x_sub rfl rfl rfl)) ?_
          refine wpD_take (v := (Value.int .i64 l12.2)) 8 (fun _ => True) rfl (by kernel_rfl) (by kernel_rfl) (by kernel_rfl) rfl rfl rfl trivial (fun w _ => (x_move (v := (Value.int .i64 l12.2)) rfl e6)) ?_
          refine wpD_take (v := (Sl.v r11)) 9 (fun _ => True) rfl (by kernel_rfl) (by kernel_rfl) (by kernel_rfl) rfl rfl rfl trivial (fun w _ => (x_move (v := (Sl.v r11)) rfl e5)) ?_
          refine wpD_take (v := (Value.int .i64 (r11.len : Int))) 10 (fun _ => True) rfl (by kernel_rfl) (by kernel_rfl) (by kernel_rfl) rfl rfl rfl trivial (fun w _ => (x_lenS (s := r11) rfl rfl isSliceT_39)) ?_
          obtain ⟨q22, h⟩ := h
          refine wpD_take (v := (Value.int .i64 (l12.2.tmod (r11.len : Int)))) 11 (fun _ => True) rfl (by kernel_rfl) (by kernel_rfl) (by kernel_rfl) rfl rfl rfl trivial (fun w _ => (x_rem rfl rfl rfl q22)) ?_
          refine wpD_take (v := (Value.int .i64 (IntKind.i64.wrap ((IntKind.i64.wrap ((r11.len : Int) - 1)) - (l12.2.tmod (r11.len : Int)))))) 12 (fun _ => True) rfl (by kernel_rfl) (by kernel_rfl) (by kernel_rfl) rfl rfl rfl trivial (fun w _ => (x_sub rfl rfl rfl)) ?_
          obtain ⟨q23, z23, r23, h⟩ := h
          generalize hp23 : z23.add ((IntKind.i64.wrap ((IntKind.i64.wrap ((r11.len : Int) - 1)) - (l12.2.tmod (r11.len : Int))) : Int).toNat * 1) = p23 at h
          refine wpD_take (v := (Value.pointer (some p23))) 13 (fun _ => True) rfl (by kernel_rfl) (by kernel_rfl) (by kernel_rfl) rfl rfl rfl trivial (fun w _ => ((x_indexAddr (s := r11) rfl rfl rfl ES_39 q23 r23).trans (by rw [hp23]))) ?_
          obtain ⟨x24, q24, h⟩ := h
          refine wpD_take (v := (Value.int .i64 x24)) 14 (fun w => w.cell? p23 = some (Value.int .i64 x24)) rfl (by kernel_rfl) (by kernel_rfl) (by kernel_rfl) rfl rfl rfl q24 (fun w q24 => (x_load1 rfl rfl SH_3 q24)) ?_
          refine wpD_all (rs := [15]) (by kernel_rfl) (by simp) (allD_cons ?_ allD_nil)
          refine stepD_enterL (L' := [(13, fun _ => True), (12, fun _ => True), (11, fun _ => True), (10, fun _ => True), (9, fun _ => True), (8, fun _ => True), (7, fun _ => True), (6, fun _ => True), (5, fun _ => True), (4, fun _ => True), (2, fun _ => True), (1, fun _ => True), (0, fun _ => True)]) rfl rfl rfl rfl (x_call (vs := [(Value.pointer x21), (Value.int .i64 x24)]) rfl rfl (mapl_cons rfl (mapl_cons rfl mapl_nil)) Tryz.func23 NN_23 NB_23) (by kernel_rfl) (Calls.mono h ?_)
          rintro _ w6 ⟨r25, rfl, h⟩
          refine ⟨_, rfl, (held_cons trivial (held_cons trivial (held_cons trivial (held_cons trivial (held_cons trivial (held_cons trivial (held_cons trivial (held_cons trivial (held_cons trivial (held_cons trivial (held_cons trivial (held_cons trivial (held_cons trivial held_nil))))))))))))), ?_⟩
          refine wpD_take (v := (Value.tuple #[(Sl.v r25.1), (Value.int .i64 r25.2)])) 16 (fun _ => True) rfl (by kernel_rfl) (by kernel_rfl) (by kernel_rfl) rfl rfl rfl trivial (fun w _ => (x_move (v := (Value.tuple #[(Sl.v r25.1), (Value.int .i64 r25.2)])) rfl rfl)) ?_
          refine wpD_take (v := (Sl.v r25.1)) 17 (fun _ => True) rfl (by kernel_rfl) (by kernel_rfl) (by kernel_rfl) rfl rfl rfl trivial (fun w _ => (x_extract rfl rfl rfl)) ?_
          refine wpD_take (v := (Value.int .i64 r25.2)) 18 (fun _ => True) rfl (by kernel_rfl) (by kernel_rfl) (by kernel_rfl) rfl rfl rfl trivial (fun w _ => (x_extract rfl rfl rfl)) ?_
          refine wpD_take (v := (Sl.v r25.1)) 19 (fun _ => True) rfl (by kernel_rfl) (by kernel_rfl) (by kernel_rfl) rfl rfl rfl trivial (fun w _ => (x_assign (v := (Sl.v r25.1)) rfl rfl)) ?_
          refine wpD_take (v := (Value.int .i64 r25.2)) 20 (fun _ => True) rfl (by kernel_rfl) (by kernel_rfl) (by kernel_rfl) rfl rfl rfl trivial (fun w _ => (x_assign (v := (Value.int .i64 r25.2)) rfl rfl)) ?_
          exact wpD_done (by kernel_rfl) ⟨(r25.1, r25.2), ⟨rfl, rfl, e0, e4, e5, e6, trivial⟩, h⟩
        clear h
        rintro l26 ρ w7 ⟨e8, e9, e0, e4, e5, e6, -⟩ h
        replace h := hk l26 w7 h
        clear hk
        refine wpC_seq ?_
        refine wpC_region ?_
        refine rv (Sl.v l12.1) w7 rfl rfl rfl (x_move rfl e4) ?_
        refine rv (Sl.v l26.1) w7 rfl rfl rfl (x_move rfl e8) ?_
        obtain ⟨r27, w8, q27, h⟩ := h
        refine rv (Sl.v r27) w8 rfl rfl rfl (x_append (s := l12.1) (u := l26.1) rfl rfl rfl rfl q27) ?_
        refine rv (Sl.v r27) w8 rfl rfl rfl (x_assign rfl rfl) ?_
        refine wpR_nil ?_
        refine wpC_seq ?_
        refine wpC_cut (fun ρ => ρ 0 = (Value.pointer p0) ∧ ρ 4 = (Sl.v r27) ∧ ρ 5 = (Sl.v r11) ∧ ρ 6 = (Value.int .i64 l12.2) ∧ ρ 9 = (Value.int .i64 l26.2) ∧ True) ⟨e0, rfl, e5, e6, e9, trivial⟩ ?_
        rintro ρ ⟨e0, e4, e5, e6, e9, -⟩
        refine wpC_region ?_
        refine rv (Value.pointer p0) w8 rfl rfl rfl (x_move rfl e0) ?_
        refine wpR_enter rfl rfl rfl (x_call (vs := [(Value.pointer p0)]) rfl rfl (mapl_cons rfl mapl_nil) Tryz.func26 NN_26 NB_26) (Calls.mono h ?_)
        rintro _ w9 ⟨r28, rfl, h⟩
        refine ⟨_, rfl, ?_⟩
        refine rv (Value.bool r28) w9 rfl rfl rfl (x_assign rfl rfl) ?_
        refine wpR_nil ?_
        refine wpC_seq ?_
        refine wpC_cut (fun ρ => ρ 0 = (Value.pointer p0) ∧ ρ 4 = (Sl.v r27) ∧ ρ 5 = (Sl.v r11) ∧ ρ 6 = (Value.int .i64 l12.2) ∧ ρ 7 = (Value.bool r28) ∧ ρ 9 = (Value.int .i64 l26.2) ∧ True) ⟨e0, e4, e5, e6, rfl, e9, trivial⟩ ?_
        rintro ρ ⟨e0, e4, e5, e6, e7, e9, -⟩
        refine wpC_region ?_
        refine rv (Value.bool r28) w9 rfl rfl rfl (x_move rfl e7) ?_
        refine rv (Value.bool (!r28)) w9 rfl rfl rfl (x_not rfl rfl) ?_
        refine rv (Value.bool (!r28)) w9 rfl rfl rfl (x_move rfl rfl) ?_
        obtain ⟨J29, h, hk⟩ := h
        refine wpR_joinJ 8 (fun x ρ => ρ 59 = Value.bool x ∧ ρ 0 = (Value.pointer p0) ∧ ρ 4 = (Sl.v r27) ∧ ρ 5 = (Sl.v r11) ∧ ρ 6 = (Value.int .i64 l12.2) ∧ True) (J29) ?_ ?_
        · clear hk
          rcases Bool.eq_false_or_eq_true (!r28) with hc30 | hc30
          · replace h := h.1 hc30
            refine wpR_val (v := (Value.pointer p0)) (w' := w9) (wantG rfl rfl rfl hc30) rfl rfl (x_move rfl e0) ?_
            obtain ⟨a31, q31, h⟩ := h
            refine wpR_val (v := (Value.pointer (some a31))) (w' := w9) (wantG rfl rfl rfl hc30) rfl rfl (x_nilCheck rfl rfl q31) ?_
            refine wpR_val (v := (Value.pointer (some (a31.add 0)))) (w' := w9) (wantG rfl rfl rfl hc30) rfl rfl (x_fieldAddr rfl rfl FA_33_0) ?_
            obtain ⟨x32, q32, h⟩ := h
            refine wpR_val (v := (Value.pointer x32)) (w' := w9) (wantG rfl rfl rfl hc30) rfl rfl (x_load1 rfl rfl SH_24 q32) ?_
            refine wpR_val (v := (Value.int .i64 l26.2)) (w' := w9) (wantG rfl rfl rfl hc30) rfl rfl (x_move rfl e9) ?_
            refine wpR_enter (wantG rfl rfl rfl hc30) rfl rfl (x_call (vs := [(Value.pointer x32), (Value.int .i64 l26.2)]) rfl rfl (mapl_cons rfl (mapl_cons rfl mapl_nil)) Tryz.func24 NN_24 NB_24) (Calls.mono h ?_)
            rintro _ w10 ⟨r33, rfl, h⟩
            refine ⟨_, rfl, ?_⟩
            refine wpR_val (v := (Value.bool (!decide (r33 = 0)))) (w' := w10) (wantG rfl rfl rfl hc30) rfl rfl (x_neq rfl rfl rfl) ?_
            refine rv (Value.bool (!decide (r33 = 0))) w10 rfl rfl rfl (x_pickT (v := (Value.bool (!decide (r33 = 0)))) rfl rfl hc30 rfl) ?_
            refine wpR_nil ?_
            exact ⟨!decide (r33 = 0), ⟨rfl, e0, e4, e5, e6, trivial⟩, h⟩
          · replace h := h.2 hc30
            refine wpR_pass (wantN rfl rfl rfl hc30) rfl rfl ?_
            refine wpR_pass (wantN rfl rfl rfl hc30) rfl rfl ?_
            refine wpR_pass (wantN rfl rfl rfl hc30) rfl rfl ?_
            refine wpR_pass (wantN rfl rfl rfl hc30) rfl rfl ?_
            refine wpR_pass (wantN rfl rfl rfl hc30) rfl rfl ?_
            refine wpR_pass (wantN rfl rfl rfl hc30) rfl rfl ?_
            refine wpR_pass (wantN rfl rfl rfl hc30) rfl rfl ?_
            refine rv (Value.bool false) w9 rfl rfl rfl (x_pickF (v := (Value.bool false)) rfl rfl hc30 rfl) ?_
            refine wpR_nil ?_
            exact ⟨false, ⟨rfl, e0, e4, e5, e6, trivial⟩, h⟩
        clear h
        rintro c34 ρ w11 ⟨e59, e0, e4, e5, e6, -⟩ h
        replace h := hk c34 w11 h
        clear hk
        refine wpR_nil ?_
        refine wpC_cond (b := c34) e59 (fun hc35 => ?_) (fun hc35 => ?_)
        · replace h := h.1 hc35
          refine wpC_seq ?_
          refine wpC_region ?_
          refine rv (Sl.v r27) w11 rfl rfl rfl (x_move rfl e4) ?_
          refine rv (Sl.v r27) w11 rfl rfl rfl (x_assign rfl rfl) ?_
          refine rv (Value.bool false) w11 rfl rfl rfl (x_assign rfl rfl) ?_
          refine wpR_nil ?_
          refine wpC_ret ?_
          exact ⟨.inl rfl, fun a ha => ⟨_, results_rep2 rfl ha rfl rfl, (r27, false), rfl, h⟩⟩
        · replace h := h.2 hc35
          refine wpC_skip ?_
          exact ⟨r27, ⟨e4, e0, e5, e6, trivial⟩, h⟩
    clear h
    rintro l15 ρ w3 ⟨e4, e0, e5, e6, -⟩ h
    replace h := hk l15 w3 h
    clear hk
    refine wpC_region ?_
    refine rv (Value.int .i64 l12.2) w3 rfl rfl rfl (x_move rfl e6) ?_
    refine rv (Value.int .i64 (IntKind.i64.wrap (l12.2 + 1))) w3 rfl rfl rfl (x_add rfl rfl rfl) ?_
    refine rv (Value.int .i64 (IntKind.i64.wrap (l12.2 + 1))) w3 rfl rfl rfl (x_assign rfl rfl) ?_
    refine wpR_nil ?_
    exact ⟨(l15, IntKind.i64.wrap (l12.2 + 1)), ⟨e4, rfl, e0, e5, trivial⟩, h⟩
  · replace h := h.2 hc13
    refine wpC_exit ?_
    refine wpC_seq ?_
    refine wpC_cut (fun ρ => ρ 4 = (Sl.v l12.1) ∧ True) ⟨e4, trivial⟩ ?_
    rintro ρ ⟨e4, -⟩
    refine wpC_region ?_
    refine rv (Sl.v l12.1) w2 rfl rfl rfl (x_move rfl e4) ?_
    refine rv (Sl.v l12.1) w2 rfl rfl rfl (x_assign rfl rfl) ?_
    refine rv (Value.bool true) w2 rfl rfl rfl (x_assign rfl rfl) ?_
    refine wpR_nil ?_
    refine wpC_ret ?_
    exact ⟨.inl rfl, fun a ha => ⟨_, results_rep2 rfl ha rfl rfl, (l12.1, true), rfl, h⟩⟩


end Go.Proofs.YtgbhghoppjfofaaGreat
