import Derived.Test.YtgbhghoppjfofaaRows
import Derived.Test.YtgbhghoppjfofaaDecRaw
namespace Go.Proofs.Ytgbhghoppjfofaa
open Go.Dec
set_option maxHeartbeats 400000
set_option maxRecDepth 100000

@[reducible] def T23 : Type := ByteArray × Int × Int × Int × Bool × Int × Bool × Bool × Int × Int × Int × Int × Sl × Int × Int × Int × Int × Bool × Int × Int × Int × Int
@[reducible] def V23 (x0 : ByteArray) (x1 : Int) (x2 : Int) (x3 : Int) (x4 : Bool) (x5 : Int) (x6 : Bool) (x7 : Bool) (x8 : Int) (x9 : Int) (x10 : Int) (x11 : Int) (x12 : Sl) (x13 : Int) (x14 : Int) (x15 : Int) (x16 : Int) (x17 : Bool) (x18 : Int) (x19 : Int) (x20 : Int) (x21 : Int) : Value := .agg #[.string x0, .int .i64 x1, .int .i64 x2, .int .i64 x3, .bool x4, .int .i64 x5, .bool x6, .bool x7, .int .i64 x8, .int .i64 x9, .int .i64 x10, .int .i64 x11, Sl.v x12, .int .i64 x13, .int .i64 x14, .int .i64 x15, .int .i64 x16, .bool x17, .int .i64 x18, .int .i64 x19, .int .i64 x20, .int .i64 x21]
@[reducible] def A23 (x0 : ByteArray) (x1 : Int) (x2 : Int) (x3 : Int) (x4 : Bool) (x5 : Int) (x6 : Bool) (x7 : Bool) (x8 : Int) (x9 : Int) (x10 : Int) (x11 : Int) (x12 : Sl) (x13 : Int) (x14 : Int) (x15 : Int) (x16 : Int) (x17 : Bool) (x18 : Int) (x19 : Int) (x20 : Int) (x21 : Int) : Array Value := #[.string x0, .int .i64 x1, .int .i64 x2, .int .i64 x3, .bool x4, .int .i64 x5, .bool x6, .bool x7, .int .i64 x8, .int .i64 x9, .int .i64 x10, .int .i64 x11, Sl.v x12, .int .i64 x13, .int .i64 x14, .int .i64 x15, .int .i64 x16, .bool x17, .int .i64 x18, .int .i64 x19, .int .i64 x20, .int .i64 x21]
@[reducible] def S23 (x0 : ByteArray) (x1 : Int) (x2 : Int) (x3 : Int) (x4 : Bool) (x5 : Int) (x6 : Bool) (x7 : Bool) (x8 : Int) (x9 : Int) (x10 : Int) (x11 : Int) (x12 : Sl) (x13 : Int) (x14 : Int) (x15 : Int) (x16 : Int) (x17 : Bool) (x18 : Int) (x19 : Int) (x20 : Int) (x21 : Int) : List Value := [.string x0, .int .i64 x1, .int .i64 x2, .int .i64 x3, .bool x4, .int .i64 x5, .bool x6, .bool x7, .int .i64 x8, .int .i64 x9, .int .i64 x10, .int .i64 x11, Sl.v x12, .int .i64 x13, .int .i64 x14, .int .i64 x15, .int .i64 x16, .bool x17, .int .i64 x18, .int .i64 x19, .int .i64 x20, .int .i64 x21]
@[reducible] def E23 (r : T23) : Value := V23 r.1 r.2.1 r.2.2.1 r.2.2.2.1 r.2.2.2.2.1 r.2.2.2.2.2.1 r.2.2.2.2.2.2.1 r.2.2.2.2.2.2.2.1 r.2.2.2.2.2.2.2.2.1 r.2.2.2.2.2.2.2.2.2.1 r.2.2.2.2.2.2.2.2.2.2.1 r.2.2.2.2.2.2.2.2.2.2.2.1 r.2.2.2.2.2.2.2.2.2.2.2.2.1 r.2.2.2.2.2.2.2.2.2.2.2.2.2.1 r.2.2.2.2.2.2.2.2.2.2.2.2.2.2.1 r.2.2.2.2.2.2.2.2.2.2.2.2.2.2.2.1 r.2.2.2.2.2.2.2.2.2.2.2.2.2.2.2.2.1 r.2.2.2.2.2.2.2.2.2.2.2.2.2.2.2.2.2.1 r.2.2.2.2.2.2.2.2.2.2.2.2.2.2.2.2.2.2.1 r.2.2.2.2.2.2.2.2.2.2.2.2.2.2.2.2.2.2.2.1 r.2.2.2.2.2.2.2.2.2.2.2.2.2.2.2.2.2.2.2.2.1 r.2.2.2.2.2.2.2.2.2.2.2.2.2.2.2.2.2.2.2.2.2
@[reducible] def C23 (p : Addr) (x0 : ByteArray) (x1 : Int) (x2 : Int) (x3 : Int) (x4 : Bool) (x5 : Int) (x6 : Bool) (x7 : Bool) (x8 : Int) (x9 : Int) (x10 : Int) (x11 : Int) (x12 : Sl) (x13 : Int) (x14 : Int) (x15 : Int) (x16 : Int) (x17 : Bool) (x18 : Int) (x19 : Int) (x20 : Int) (x21 : Int) (w : World) : Prop := w.cell? (p.add 0) = some (.string x0) ∧ w.cell? (p.add 1) = some (.int .i64 x1) ∧ w.cell? (p.add 2) = some (.int .i64 x2) ∧ w.cell? (p.add 3) = some (.int .i64 x3) ∧ w.cell? (p.add 4) = some (.bool x4) ∧ w.cell? (p.add 5) = some (.int .i64 x5) ∧ w.cell? (p.add 6) = some (.bool x6) ∧ w.cell? (p.add 7) = some (.bool x7) ∧ w.cell? (p.add 8) = some (.int .i64 x8) ∧ w.cell? (p.add 9) = some (.int .i64 x9) ∧ w.cell? (p.add 10) = some (.int .i64 x10) ∧ w.cell? (p.add 11) = some (.int .i64 x11) ∧ w.cell? (p.add 12) = some (Sl.v x12) ∧ w.cell? (p.add 13) = some (.int .i64 x13) ∧ w.cell? (p.add 14) = some (.int .i64 x14) ∧ w.cell? (p.add 15) = some (.int .i64 x15) ∧ w.cell? (p.add 16) = some (.int .i64 x16) ∧ w.cell? (p.add 17) = some (.bool x17) ∧ w.cell? (p.add 18) = some (.int .i64 x18) ∧ w.cell? (p.add 19) = some (.int .i64 x19) ∧ w.cell? (p.add 20) = some (.int .i64 x20) ∧ w.cell? (p.add 21) = some (.int .i64 x21)
@[reducible] def L23 (p : Addr) (w : World) (K : ByteArray → Int → Int → Int → Bool → Int → Bool → Bool → Int → Int → Int → Int → Sl → Int → Int → Int → Int → Bool → Int → Int → Int → Int → Prop) : Prop := ld Value.string (p.add 0) w fun x0 => ld (Value.int .i64) (p.add 1) w fun x1 => ld (Value.int .i64) (p.add 2) w fun x2 => ld (Value.int .i64) (p.add 3) w fun x3 => ld Value.bool (p.add 4) w fun x4 => ld (Value.int .i64) (p.add 5) w fun x5 => ld Value.bool (p.add 6) w fun x6 => ld Value.bool (p.add 7) w fun x7 => ld (Value.int .i64) (p.add 8) w fun x8 => ld (Value.int .i64) (p.add 9) w fun x9 => ld (Value.int .i64) (p.add 10) w fun x10 => ld (Value.int .i64) (p.add 11) w fun x11 => ld Sl.v (p.add 12) w fun x12 => ld (Value.int .i64) (p.add 13) w fun x13 => ld (Value.int .i64) (p.add 14) w fun x14 => ld (Value.int .i64) (p.add 15) w fun x15 => ld (Value.int .i64) (p.add 16) w fun x16 => ld Value.bool (p.add 17) w fun x17 => ld (Value.int .i64) (p.add 18) w fun x18 => ld (Value.int .i64) (p.add 19) w fun x19 => ld (Value.int .i64) (p.add 20) w fun x20 => ld (Value.int .i64) (p.add 21) w fun x21 => K x0 x1 x2 x3 x4 x5 x6 x7 x8 x9 x10 x11 x12 x13 x14 x15 x16 x17 x18 x19 x20 x21
theorem K23 {w : World} {p : Addr} {x0 : ByteArray} {x1 : Int} {x2 : Int} {x3 : Int} {x4 : Bool} {x5 : Int} {x6 : Bool} {x7 : Bool} {x8 : Int} {x9 : Int} {x10 : Int} {x11 : Int} {x12 : Sl} {x13 : Int} {x14 : Int} {x15 : Int} {x16 : Int} {x17 : Bool} {x18 : Int} {x19 : Int} {x20 : Int} {x21 : Int} (h : C23 p x0 x1 x2 x3 x4 x5 x6 x7 x8 x9 x10 x11 x12 x13 x14 x15 x16 x17 x18 x19 x20 x21 w) : ∀ (j : Nat) (u : Value), (S23 x0 x1 x2 x3 x4 x5 x6 x7 x8 x9 x10 x11 x12 x13 x14 x15 x16 x17 x18 x19 x20 x21)[j]? = some u → w.cell? (p.add j) = some u := by
  obtain ⟨q0, q1, q2, q3, q4, q5, q6, q7, q8, q9, q10, q11, q12, q13, q14, q15, q16, q17, q18, q19, q20, q21⟩ := h
  exact CellsAt.out (CellsAt.cons q0 (CellsAt.cons q1 (CellsAt.cons q2 (CellsAt.cons q3 (CellsAt.cons q4 (CellsAt.cons q5 (CellsAt.cons q6 (CellsAt.cons q7 (CellsAt.cons q8 (CellsAt.cons q9 (CellsAt.cons q10 (CellsAt.cons q11 (CellsAt.cons q12 (CellsAt.cons q13 (CellsAt.cons q14 (CellsAt.cons q15 (CellsAt.cons q16 (CellsAt.cons q17 (CellsAt.cons q18 (CellsAt.cons q19 (CellsAt.cons q20 (CellsAt.cons q21 CellsAt.nil))))))))))))))))))))))

theorem BD_114_0_1 (y0 : Int) (y1 : Int) : ∀ w, (Instr.build 114 #[(0, (Value.int .i64 y0)), (1, (Value.int .i64 y1))]).run Try.prog w = .ok (Value.agg #[(Value.int .i64 y0), (Value.int .i64 y1)]) w := fun w => by kernel_rfl
theorem BD_24_0_8_9_18_20 (y0 : ByteArray) (y8 : Int) (y9 : Int) (y18 : Int) (y20 : Int) : ∀ w, (Instr.build 24 #[(0, (Value.string y0)), (8, (Value.int .i64 y8)), (9, (Value.int .i64 y9)), (18, (Value.int .i64 y18)), (20, (Value.int .i64 y20))]).run Try.prog w = .ok (V23 y0 0 0 0 false 0 false false y8 y9 0 0 Sl.nil 0 0 0 0 false y18 0 y20 0) w := fun w => by kernel_rfl
theorem BD_34_0_2_3 (y0 : Int) (y2 : Int) (y3 : Int) : ∀ w, (Instr.build 34 #[(0, (Value.int .i64 y0)), (2, (Value.int .i64 y2)), (3, (Value.int .i64 y3))]).run Try.prog w = .ok (Value.agg #[(Value.int .i64 y0), (Value.int .i64 0), (Value.int .i64 y2), (Value.int .i64 y3)]) w := fun w => by kernel_rfl
theorem BD_41_0_1_2 (y0 : Int) (y1 : Int) (y2 : Int) : ∀ w, (Instr.build 41 #[(0, (Value.int .i64 y0)), (1, (Value.int .i64 y1)), (2, (Value.int .i64 y2))]).run Try.prog w = .ok (Value.agg #[(Value.int .i64 y0), (Value.int .i64 y1), (Value.int .i64 y2)]) w := fun w => by kernel_rfl
theorem BD_54_0_1_2 (y0 : Int) (y1 : Int) (y2 : Bool) : ∀ w, (Instr.build 54 #[(0, (Value.int .i64 y0)), (1, (Value.int .i64 y1)), (2, (Value.bool y2))]).run Try.prog w = .ok (Value.agg #[(Value.int .i64 y0), (Value.int .i64 y1), (Value.bool y2)]) w := fun w => by kernel_rfl
theorem BD_63_0_2_3_4 (y0 : Int) (y2 : Int) (y3 : Int) (y4 : Int) : ∀ w, (Instr.build 63 #[(0, (Value.int .i64 y0)), (2, (Value.int .i64 y2)), (3, (Value.int .i64 y3)), (4, (Value.int .i64 y4))]).run Try.prog w = .ok (Value.agg #[(Value.int .i64 y0), (Value.int .i64 0), (Value.int .i64 y2), (Value.int .i64 y3), (Value.int .i64 y4)]) w := fun w => by kernel_rfl
theorem BD_63_0_3_4 (y0 : Int) (y3 : Int) (y4 : Int) : ∀ w, (Instr.build 63 #[(0, (Value.int .i64 y0)), (3, (Value.int .i64 y3)), (4, (Value.int .i64 y4))]).run Try.prog w = .ok (Value.agg #[(Value.int .i64 y0), (Value.int .i64 0), (Value.int .i64 0), (Value.int .i64 y3), (Value.int .i64 y4)]) w := fun w => by kernel_rfl
theorem BD_73_0_1_2 (y0 : Int) (y1 : Int) (y2 : Int) : ∀ w, (Instr.build 73 #[(0, (Value.int .i64 y0)), (1, (Value.int .i64 y1)), (2, (Value.int .i64 y2))]).run Try.prog w = .ok (Value.agg #[(Value.int .i64 y0), (Value.int .i64 y1), (Value.int .i64 y2)]) w := fun w => by kernel_rfl
theorem BD_82_0 (y0 : Int) : ∀ w, (Instr.build 82 #[(0, (Value.int .i64 y0))]).run Try.prog w = .ok (Value.agg #[(Value.int .i64 y0), (Value.int .i64 0), (Value.int .i64 0)]) w := fun w => by kernel_rfl
theorem BD_85_0_2 (y0 : Int) (y2 : Option Nat) : ∀ w, (Instr.build 85 #[(0, (Value.int .i64 y0)), (2, (Value.map y2))]).run Try.prog w = .ok (Value.agg #[(Value.int .i64 y0), (Value.int .i64 0), (Value.map y2)]) w := fun w => by kernel_rfl
theorem BD_98_0_1_2 (y0 : Int) (y1 : Int) (y2 : Int) (y3 : Int) (y4 : Int) : ∀ w, (Instr.build 98 #[(0, (Value.agg #[(Value.int .i64 y0), (Value.int .i64 y1), (Value.int .i64 y2)])), (1, (Value.int .i64 y3)), (2, (Value.int .i64 y4))]).run Try.prog w = .ok (Value.agg #[(Value.int .i64 y0), (Value.int .i64 y1), (Value.int .i64 y2), (Value.int .i64 y3), (Value.int .i64 y4)]) w := fun w => by kernel_rfl
theorem BS_115_6_0_1_2_3_4_5 (y0 : Int) (y1 : Int) (y2 : Int) (y3 : Int) (y4 : Int) (y5 : Int) (y6 : Int) (y7 : Int) (y8 : Int) (y9 : Int) (y10 : Int) (y11 : Int) : ∀ w, (Instr.buildSlice 115 6 #[(0, (Value.agg #[(Value.int .i64 y0), (Value.int .i64 y1)])), (1, (Value.agg #[(Value.int .i64 y2), (Value.int .i64 y3)])), (2, (Value.agg #[(Value.int .i64 y4), (Value.int .i64 y5)])), (3, (Value.agg #[(Value.int .i64 y6), (Value.int .i64 y7)])), (4, (Value.agg #[(Value.int .i64 y8), (Value.int .i64 y9)])), (5, (Value.agg #[(Value.int .i64 y10), (Value.int .i64 y11)]))]).run Try.prog w = .ok (.slice (some ⟨w.heap.size, 0, none⟩) 6 6) (w.alloc (.cells #[(Value.int .i64 y0), (Value.int .i64 y1), (Value.int .i64 y2), (Value.int .i64 y3), (Value.int .i64 y4), (Value.int .i64 y5), (Value.int .i64 y6), (Value.int .i64 y7), (Value.int .i64 y8), (Value.int .i64 y9), (Value.int .i64 y10), (Value.int .i64 y11)] 114)) := fun w => by kernel_rfl
theorem BS_25_0_ : ∀ w, (Instr.buildSlice 25 0 #[]).run Try.prog w = .ok (.slice (some ⟨w.heap.size, 0, none⟩) 0 0) (w.alloc (.cells #[] 34)) := fun w => by kernel_rfl
theorem BS_25_1_0 (y0 : Int) (y1 : Int) (y2 : Int) (y3 : Int) : ∀ w, (Instr.buildSlice 25 1 #[(0, (Value.agg #[(Value.int .i64 y0), (Value.int .i64 y1), (Value.int .i64 y2), (Value.int .i64 y3)]))]).run Try.prog w = .ok (.slice (some ⟨w.heap.size, 0, none⟩) 1 1) (w.alloc (.cells #[(Value.int .i64 y0), (Value.int .i64 y1), (Value.int .i64 y2), (Value.int .i64 y3)] 34)) := fun w => by kernel_rfl
theorem BS_27_3_0_1_2 (y0 : Bool) (y1 : Bool) (y2 : Bool) : ∀ w, (Instr.buildSlice 27 3 #[(0, (Value.bool y0)), (1, (Value.bool y1)), (2, (Value.bool y2))]).run Try.prog w = .ok (.slice (some ⟨w.heap.size, 0, none⟩) 3 3) (w.alloc (.cells #[(Value.bool y0), (Value.bool y1), (Value.bool y2)] 4)) := fun w => by kernel_rfl
theorem BS_30_2_0_1 (y0 : ByteArray) (y1 : Int) (y2 : Int) (y3 : Int) (y4 : Bool) (y5 : Int) (y6 : Bool) (y7 : Bool) (y8 : Int) (y9 : Int) (y10 : Int) (y11 : Int) (y12 : Sl) (y13 : Int) (y14 : Int) (y15 : Int) (y16 : Int) (y17 : Bool) (y18 : Int) (y19 : Int) (y20 : Int) (y21 : Int) (y22 : ByteArray) (y23 : Int) (y24 : Int) (y25 : Int) (y26 : Bool) (y27 : Int) (y28 : Bool) (y29 : Bool) (y30 : Int) (y31 : Int) (y32 : Int) (y33 : Int) (y34 : Sl) (y35 : Int) (y36 : Int) (y37 : Int) (y38 : Int) (y39 : Bool) (y40 : Int) (y41 : Int) (y42 : Int) (y43 : Int) : ∀ w, (Instr.buildSlice 30 2 #[(0, (V23 y0 y1 y2 y3 y4 y5 y6 y7 y8 y9 y10 y11 y12 y13 y14 y15 y16 y17 y18 y19 y20 y21)), (1, (V23 y22 y23 y24 y25 y26 y27 y28 y29 y30 y31 y32 y33 y34 y35 y36 y37 y38 y39 y40 y41 y42 y43))]).run Try.prog w = .ok (.slice (some ⟨w.heap.size, 0, none⟩) 2 2) (w.alloc (.cells #[(Value.string y0), (Value.int .i64 y1), (Value.int .i64 y2), (Value.int .i64 y3), (Value.bool y4), (Value.int .i64 y5), (Value.bool y6), (Value.bool y7), (Value.int .i64 y8), (Value.int .i64 y9), (Value.int .i64 y10), (Value.int .i64 y11), (Sl.v y12), (Value.int .i64 y13), (Value.int .i64 y14), (Value.int .i64 y15), (Value.int .i64 y16), (Value.bool y17), (Value.int .i64 y18), (Value.int .i64 y19), (Value.int .i64 y20), (Value.int .i64 y21), (Value.string y22), (Value.int .i64 y23), (Value.int .i64 y24), (Value.int .i64 y25), (Value.bool y26), (Value.int .i64 y27), (Value.bool y28), (Value.bool y29), (Value.int .i64 y30), (Value.int .i64 y31), (Value.int .i64 y32), (Value.int .i64 y33), (Sl.v y34), (Value.int .i64 y35), (Value.int .i64 y36), (Value.int .i64 y37), (Value.int .i64 y38), (Value.bool y39), (Value.int .i64 y40), (Value.int .i64 y41), (Value.int .i64 y42), (Value.int .i64 y43)] 24)) := fun w => by kernel_rfl
theorem BS_31_2_0_1 (y0 : Sl) (y1 : Sl) : ∀ w, (Instr.buildSlice 31 2 #[(0, (Sl.v y0)), (1, (Sl.v y1))]).run Try.prog w = .ok (.slice (some ⟨w.heap.size, 0, none⟩) 2 2) (w.alloc (.cells #[(Sl.v y0), (Sl.v y1)] 27)) := fun w => by kernel_rfl
theorem BS_32_1_0 (y0 : Int) (y1 : Int) (y2 : Int) : ∀ w, (Instr.buildSlice 32 1 #[(0, (Value.agg #[(Value.int .i64 y0), (Value.int .i64 y1), (Value.int .i64 y2)]))]).run Try.prog w = .ok (.slice (some ⟨w.heap.size, 0, none⟩) 1 1) (w.alloc (.cells #[(Value.int .i64 y0), (Value.int .i64 y1), (Value.int .i64 y2)] 41)) := fun w => by kernel_rfl
theorem BS_38_1_0 (y0 : Int) : ∀ w, (Instr.buildSlice 38 1 #[(0, (Value.int .i64 y0))]).run Try.prog w = .ok (.slice (some ⟨w.heap.size, 0, none⟩) 1 1) (w.alloc (.cells #[(Value.int .i64 y0)] 3)) := fun w => by kernel_rfl
theorem BS_38_2_0_1 (y0 : Int) (y1 : Int) : ∀ w, (Instr.buildSlice 38 2 #[(0, (Value.int .i64 y0)), (1, (Value.int .i64 y1))]).run Try.prog w = .ok (.slice (some ⟨w.heap.size, 0, none⟩) 2 2) (w.alloc (.cells #[(Value.int .i64 y0), (Value.int .i64 y1)] 3)) := fun w => by kernel_rfl
theorem BS_38_9_0_1_2_3_4_5_6_7_8 (y0 : Int) (y1 : Int) (y2 : Int) (y3 : Int) (y4 : Int) (y5 : Int) (y6 : Int) (y7 : Int) (y8 : Int) : ∀ w, (Instr.buildSlice 38 9 #[(0, (Value.int .i64 y0)), (1, (Value.int .i64 y1)), (2, (Value.int .i64 y2)), (3, (Value.int .i64 y3)), (4, (Value.int .i64 y4)), (5, (Value.int .i64 y5)), (6, (Value.int .i64 y6)), (7, (Value.int .i64 y7)), (8, (Value.int .i64 y8))]).run Try.prog w = .ok (.slice (some ⟨w.heap.size, 0, none⟩) 9 9) (w.alloc (.cells #[(Value.int .i64 y0), (Value.int .i64 y1), (Value.int .i64 y2), (Value.int .i64 y3), (Value.int .i64 y4), (Value.int .i64 y5), (Value.int .i64 y6), (Value.int .i64 y7), (Value.int .i64 y8)] 3)) := fun w => by kernel_rfl
theorem BS_55_2_0_1 (y0 : Int) (y1 : Int) (y2 : Bool) (y3 : Int) (y4 : Int) (y5 : Bool) : ∀ w, (Instr.buildSlice 55 2 #[(0, (Value.agg #[(Value.int .i64 y0), (Value.int .i64 y1), (Value.bool y2)])), (1, (Value.agg #[(Value.int .i64 y3), (Value.int .i64 y4), (Value.bool y5)]))]).run Try.prog w = .ok (.slice (some ⟨w.heap.size, 0, none⟩) 2 2) (w.alloc (.cells #[(Value.int .i64 y0), (Value.int .i64 y1), (Value.bool y2), (Value.int .i64 y3), (Value.int .i64 y4), (Value.bool y5)] 54)) := fun w => by kernel_rfl
theorem BS_64_1_0 (y0 : Int) (y1 : Int) (y2 : Int) (y3 : Int) (y4 : Int) : ∀ w, (Instr.buildSlice 64 1 #[(0, (Value.agg #[(Value.int .i64 y0), (Value.int .i64 y1), (Value.int .i64 y2), (Value.int .i64 y3), (Value.int .i64 y4)]))]).run Try.prog w = .ok (.slice (some ⟨w.heap.size, 0, none⟩) 1 1) (w.alloc (.cells #[(Value.int .i64 y0), (Value.int .i64 y1), (Value.int .i64 y2), (Value.int .i64 y3), (Value.int .i64 y4)] 63)) := fun w => by kernel_rfl
theorem BS_71_0_ : ∀ w, (Instr.buildSlice 71 0 #[]).run Try.prog w = .ok (.slice (some ⟨w.heap.size, 0, none⟩) 0 0) (w.alloc (.cells #[] 73)) := fun w => by kernel_rfl
theorem BS_71_1_0 (y0 : Int) (y1 : Int) (y2 : Int) : ∀ w, (Instr.buildSlice 71 1 #[(0, (Value.agg #[(Value.int .i64 y0), (Value.int .i64 y1), (Value.int .i64 y2)]))]).run Try.prog w = .ok (.slice (some ⟨w.heap.size, 0, none⟩) 1 1) (w.alloc (.cells #[(Value.int .i64 y0), (Value.int .i64 y1), (Value.int .i64 y2)] 73)) := fun w => by kernel_rfl
theorem BS_94_1_0 (y0 : Int) (y1 : Int) (y2 : Int) (y3 : Int) (y4 : Int) : ∀ w, (Instr.buildSlice 94 1 #[(0, (Value.agg #[(Value.int .i64 y0), (Value.int .i64 y1), (Value.int .i64 y2), (Value.int .i64 y3), (Value.int .i64 y4)]))]).run Try.prog w = .ok (.slice (some ⟨w.heap.size, 0, none⟩) 1 1) (w.alloc (.cells #[(Value.int .i64 y0), (Value.int .i64 y1), (Value.int .i64 y2), (Value.int .i64 y3), (Value.int .i64 y4)] 98)) := fun w => by kernel_rfl
theorem ES_115 : elemSize Try.prog 115 = some 2 := by kernel_rfl
theorem ES_22 : elemSize Try.prog 22 = some 1 := by kernel_rfl
theorem ES_25 : elemSize Try.prog 25 = some 4 := by kernel_rfl
theorem ES_26 : elemSize Try.prog 26 = some 1 := by kernel_rfl
theorem ES_27 : elemSize Try.prog 27 = some 1 := by kernel_rfl
theorem ES_30 : elemSize Try.prog 30 = some 22 := by kernel_rfl
theorem ES_31 : elemSize Try.prog 31 = some 1 := by kernel_rfl
theorem ES_32 : elemSize Try.prog 32 = some 3 := by kernel_rfl
theorem ES_38 : elemSize Try.prog 38 = some 1 := by kernel_rfl
theorem ES_55 : elemSize Try.prog 55 = some 3 := by kernel_rfl
theorem ES_64 : elemSize Try.prog 64 = some 5 := by kernel_rfl
theorem ES_71 : elemSize Try.prog 71 = some 3 := by kernel_rfl
theorem ES_94 : elemSize Try.prog 94 = some 5 := by kernel_rfl
theorem FA_24_0 : fieldOff Try.prog 24 0 = some 0 := by kernel_rfl
theorem FA_24_1 : fieldOff Try.prog 24 1 = some 1 := by kernel_rfl
theorem FA_24_10 : fieldOff Try.prog 24 10 = some 10 := by kernel_rfl
theorem FA_24_11 : fieldOff Try.prog 24 11 = some 11 := by kernel_rfl
theorem FA_24_12 : fieldOff Try.prog 24 12 = some 12 := by kernel_rfl
theorem FA_24_13 : fieldOff Try.prog 24 13 = some 13 := by kernel_rfl
theorem FA_24_14 : fieldOff Try.prog 24 14 = some 14 := by kernel_rfl
theorem FA_24_15 : fieldOff Try.prog 24 15 = some 15 := by kernel_rfl
theorem FA_24_16 : fieldOff Try.prog 24 16 = some 16 := by kernel_rfl
theorem FA_24_18 : fieldOff Try.prog 24 18 = some 18 := by kernel_rfl
theorem FA_24_19 : fieldOff Try.prog 24 19 = some 19 := by kernel_rfl
theorem FA_24_2 : fieldOff Try.prog 24 2 = some 2 := by kernel_rfl
theorem FA_24_20 : fieldOff Try.prog 24 20 = some 20 := by kernel_rfl
theorem FA_24_21 : fieldOff Try.prog 24 21 = some 21 := by kernel_rfl
theorem FA_24_3 : fieldOff Try.prog 24 3 = some 3 := by kernel_rfl
theorem FA_24_5 : fieldOff Try.prog 24 5 = some 5 := by kernel_rfl
theorem FA_24_8 : fieldOff Try.prog 24 8 = some 8 := by kernel_rfl
theorem FA_24_9 : fieldOff Try.prog 24 9 = some 9 := by kernel_rfl
theorem FA_34_0 : fieldOff Try.prog 34 0 = some 0 := by kernel_rfl
theorem FA_34_1 : fieldOff Try.prog 34 1 = some 1 := by kernel_rfl
theorem FA_34_2 : fieldOff Try.prog 34 2 = some 2 := by kernel_rfl
theorem FA_34_3 : fieldOff Try.prog 34 3 = some 3 := by kernel_rfl
theorem FA_54_0 : fieldOff Try.prog 54 0 = some 0 := by kernel_rfl
theorem FA_54_1 : fieldOff Try.prog 54 1 = some 1 := by kernel_rfl
theorem FA_54_2 : fieldOff Try.prog 54 2 = some 2 := by kernel_rfl
theorem FA_63_0 : fieldOff Try.prog 63 0 = some 0 := by kernel_rfl
theorem FA_63_1 : fieldOff Try.prog 63 1 = some 1 := by kernel_rfl
theorem FA_63_2 : fieldOff Try.prog 63 2 = some 2 := by kernel_rfl
theorem FA_63_3 : fieldOff Try.prog 63 3 = some 3 := by kernel_rfl
theorem FA_63_4 : fieldOff Try.prog 63 4 = some 4 := by kernel_rfl
theorem FA_73_0 : fieldOff Try.prog 73 0 = some 0 := by kernel_rfl
theorem FA_73_1 : fieldOff Try.prog 73 1 = some 1 := by kernel_rfl
theorem FA_73_2 : fieldOff Try.prog 73 2 = some 2 := by kernel_rfl
theorem FA_82_0 : fieldOff Try.prog 82 0 = some 0 := by kernel_rfl
theorem FA_82_1 : fieldOff Try.prog 82 1 = some 1 := by kernel_rfl
theorem FA_82_2 : fieldOff Try.prog 82 2 = some 2 := by kernel_rfl
theorem FA_85_0 : fieldOff Try.prog 85 0 = some 0 := by kernel_rfl
theorem FA_85_1 : fieldOff Try.prog 85 1 = some 1 := by kernel_rfl
theorem FA_85_2 : fieldOff Try.prog 85 2 = some 2 := by kernel_rfl
theorem FA_98_0 : fieldOff Try.prog 98 0 = some 0 := by kernel_rfl
theorem FA_98_1 : fieldOff Try.prog 98 1 = some 3 := by kernel_rfl
theorem FA_98_2 : fieldOff Try.prog 98 2 = some 4 := by kernel_rfl
theorem IK_102 : intKindT Try.prog 102 = some .u64 := by kernel_rfl
theorem IK_3 : intKindT Try.prog 3 = some .i64 := by kernel_rfl
theorem IK_5 : intKindT Try.prog 5 = some .u8 := by kernel_rfl
theorem NB_10 : Try.f10.body.isNone = false := by kernel_rfl
theorem NN_10 : (Try.f10.name == "runtime.NumGoroutine") = false := by kernel_rfl
theorem NB_11 : Try.f11.body.isNone = false := by kernel_rfl
theorem NN_11 : (Try.f11.name == "runtime.NumGoroutine") = false := by kernel_rfl
theorem NB_12 : Try.f12.body.isNone = false := by kernel_rfl
theorem NN_12 : (Try.f12.name == "runtime.NumGoroutine") = false := by kernel_rfl
theorem NB_13 : Try.f13.body.isNone = false := by kernel_rfl
theorem NN_13 : (Try.f13.name == "runtime.NumGoroutine") = false := by kernel_rfl
theorem NB_14 : Try.f14.body.isNone = false := by kernel_rfl
theorem NN_14 : (Try.f14.name == "runtime.NumGoroutine") = false := by kernel_rfl
theorem NB_15 : Try.f15.body.isNone = false := by kernel_rfl
theorem NN_15 : (Try.f15.name == "runtime.NumGoroutine") = false := by kernel_rfl
theorem NB_16 : Try.f16.body.isNone = false := by kernel_rfl
theorem NN_16 : (Try.f16.name == "runtime.NumGoroutine") = false := by kernel_rfl
theorem NB_17 : Try.f17.body.isNone = false := by kernel_rfl
theorem NN_17 : (Try.f17.name == "runtime.NumGoroutine") = false := by kernel_rfl
theorem NB_18 : Try.f18.body.isNone = false := by kernel_rfl
theorem NN_18 : (Try.f18.name == "runtime.NumGoroutine") = false := by kernel_rfl
theorem NB_19 : Try.f19.body.isNone = false := by kernel_rfl
theorem NN_19 : (Try.f19.name == "runtime.NumGoroutine") = false := by kernel_rfl
theorem NB_20 : Try.f20.body.isNone = false := by kernel_rfl
theorem NN_20 : (Try.f20.name == "runtime.NumGoroutine") = false := by kernel_rfl
theorem NB_21 : Try.f21.body.isNone = false := by kernel_rfl
theorem NN_21 : (Try.f21.name == "runtime.NumGoroutine") = false := by kernel_rfl
theorem NB_22 : Try.f22.body.isNone = false := by kernel_rfl
theorem NN_22 : (Try.f22.name == "runtime.NumGoroutine") = false := by kernel_rfl
theorem NB_23 : Try.f23.body.isNone = false := by kernel_rfl
theorem NN_23 : (Try.f23.name == "runtime.NumGoroutine") = false := by kernel_rfl
theorem NB_24 : Try.f24.body.isNone = false := by kernel_rfl
theorem NN_24 : (Try.f24.name == "runtime.NumGoroutine") = false := by kernel_rfl
theorem NB_25 : Try.f25.body.isNone = false := by kernel_rfl
theorem NN_25 : (Try.f25.name == "runtime.NumGoroutine") = false := by kernel_rfl
theorem NB_26 : Try.f26.body.isNone = false := by kernel_rfl
theorem NN_26 : (Try.f26.name == "runtime.NumGoroutine") = false := by kernel_rfl
theorem NB_27 : Try.f27.body.isNone = false := by kernel_rfl
theorem NN_27 : (Try.f27.name == "runtime.NumGoroutine") = false := by kernel_rfl
theorem NB_28 : Try.f28.body.isNone = false := by kernel_rfl
theorem NN_28 : (Try.f28.name == "runtime.NumGoroutine") = false := by kernel_rfl
theorem NB_29 : Try.f29.body.isNone = false := by kernel_rfl
theorem NN_29 : (Try.f29.name == "runtime.NumGoroutine") = false := by kernel_rfl
theorem NB_30 : Try.f30.body.isNone = false := by kernel_rfl
theorem NN_30 : (Try.f30.name == "runtime.NumGoroutine") = false := by kernel_rfl
theorem NB_31 : Try.f31.body.isNone = false := by kernel_rfl
theorem NN_31 : (Try.f31.name == "runtime.NumGoroutine") = false := by kernel_rfl
theorem NB_32 : Try.f32.body.isNone = false := by kernel_rfl
theorem NN_32 : (Try.f32.name == "runtime.NumGoroutine") = false := by kernel_rfl
theorem NB_33 : Try.f33.body.isNone = false := by kernel_rfl
theorem NN_33 : (Try.f33.name == "runtime.NumGoroutine") = false := by kernel_rfl
theorem NB_34 : Try.f34.body.isNone = false := by kernel_rfl
theorem NN_34 : (Try.f34.name == "runtime.NumGoroutine") = false := by kernel_rfl
theorem NB_35 : Try.f35.body.isNone = false := by kernel_rfl
theorem NN_35 : (Try.f35.name == "runtime.NumGoroutine") = false := by kernel_rfl
theorem NB_36 : Try.f36.body.isNone = false := by kernel_rfl
theorem NN_36 : (Try.f36.name == "runtime.NumGoroutine") = false := by kernel_rfl
theorem NB_37 : Try.f37.body.isNone = false := by kernel_rfl
theorem NN_37 : (Try.f37.name == "runtime.NumGoroutine") = false := by kernel_rfl
theorem NB_38 : Try.f38.body.isNone = false := by kernel_rfl
theorem NN_38 : (Try.f38.name == "runtime.NumGoroutine") = false := by kernel_rfl
theorem NB_39 : Try.f39.body.isNone = false := by kernel_rfl
theorem NN_39 : (Try.f39.name == "runtime.NumGoroutine") = false := by kernel_rfl
theorem NB_4 : Try.f4.body.isNone = false := by kernel_rfl
theorem NN_4 : (Try.f4.name == "runtime.NumGoroutine") = false := by kernel_rfl
theorem NB_40 : Try.f40.body.isNone = false := by kernel_rfl
theorem NN_40 : (Try.f40.name == "runtime.NumGoroutine") = false := by kernel_rfl
theorem NB_41 : Try.f41.body.isNone = false := by kernel_rfl
theorem NN_41 : (Try.f41.name == "runtime.NumGoroutine") = false := by kernel_rfl
theorem NB_42 : Try.f42.body.isNone = false := by kernel_rfl
theorem NN_42 : (Try.f42.name == "runtime.NumGoroutine") = false := by kernel_rfl
theorem NB_45 : Try.f45.body.isNone = false := by kernel_rfl
theorem NN_45 : (Try.f45.name == "runtime.NumGoroutine") = false := by kernel_rfl
theorem NB_46 : Try.f46.body.isNone = false := by kernel_rfl
theorem NN_46 : (Try.f46.name == "runtime.NumGoroutine") = false := by kernel_rfl
theorem NB_47 : Try.f47.body.isNone = false := by kernel_rfl
theorem NN_47 : (Try.f47.name == "runtime.NumGoroutine") = false := by kernel_rfl
theorem NB_48 : Try.f48.body.isNone = false := by kernel_rfl
theorem NN_48 : (Try.f48.name == "runtime.NumGoroutine") = false := by kernel_rfl
theorem NB_49 : Try.f49.body.isNone = false := by kernel_rfl
theorem NN_49 : (Try.f49.name == "runtime.NumGoroutine") = false := by kernel_rfl
theorem NB_5 : Try.f5.body.isNone = false := by kernel_rfl
theorem NN_5 : (Try.f5.name == "runtime.NumGoroutine") = false := by kernel_rfl
theorem NB_50 : Try.f50.body.isNone = false := by kernel_rfl
theorem NN_50 : (Try.f50.name == "runtime.NumGoroutine") = false := by kernel_rfl
theorem NB_51 : Try.f51.body.isNone = false := by kernel_rfl
theorem NN_51 : (Try.f51.name == "runtime.NumGoroutine") = false := by kernel_rfl
theorem NB_52 : Try.f52.body.isNone = false := by kernel_rfl
theorem NN_52 : (Try.f52.name == "runtime.NumGoroutine") = false := by kernel_rfl
theorem NB_53 : Try.f53.body.isNone = false := by kernel_rfl
theorem NN_53 : (Try.f53.name == "runtime.NumGoroutine") = false := by kernel_rfl
theorem NB_54 : Try.f54.body.isNone = false := by kernel_rfl
theorem NN_54 : (Try.f54.name == "runtime.NumGoroutine") = false := by kernel_rfl
theorem NB_55 : Try.f55.body.isNone = false := by kernel_rfl
theorem NN_55 : (Try.f55.name == "runtime.NumGoroutine") = false := by kernel_rfl
theorem NB_56 : Try.f56.body.isNone = false := by kernel_rfl
theorem NN_56 : (Try.f56.name == "runtime.NumGoroutine") = false := by kernel_rfl
theorem NB_57 : Try.f57.body.isNone = false := by kernel_rfl
theorem NN_57 : (Try.f57.name == "runtime.NumGoroutine") = false := by kernel_rfl
theorem NB_58 : Try.f58.body.isNone = false := by kernel_rfl
theorem NN_58 : (Try.f58.name == "runtime.NumGoroutine") = false := by kernel_rfl
theorem NB_59 : Try.f59.body.isNone = false := by kernel_rfl
theorem NN_59 : (Try.f59.name == "runtime.NumGoroutine") = false := by kernel_rfl
theorem NB_6 : Try.f6.body.isNone = false := by kernel_rfl
theorem NN_6 : (Try.f6.name == "runtime.NumGoroutine") = false := by kernel_rfl
theorem NB_7 : Try.f7.body.isNone = false := by kernel_rfl
theorem NN_7 : (Try.f7.name == "runtime.NumGoroutine") = false := by kernel_rfl
theorem NB_70 : Try.f70.body.isNone = false := by kernel_rfl
theorem NN_70 : (Try.f70.name == "runtime.NumGoroutine") = false := by kernel_rfl
theorem NB_71 : Try.f71.body.isNone = false := by kernel_rfl
theorem NN_71 : (Try.f71.name == "runtime.NumGoroutine") = false := by kernel_rfl
theorem NB_72 : Try.f72.body.isNone = false := by kernel_rfl
theorem NN_72 : (Try.f72.name == "runtime.NumGoroutine") = false := by kernel_rfl
theorem NB_74 : Try.f74.body.isNone = false := by kernel_rfl
theorem NN_74 : (Try.f74.name == "runtime.NumGoroutine") = false := by kernel_rfl
theorem NB_75 : Try.f75.body.isNone = false := by kernel_rfl
theorem NN_75 : (Try.f75.name == "runtime.NumGoroutine") = false := by kernel_rfl
theorem NB_76 : Try.f76.body.isNone = false := by kernel_rfl
theorem NN_76 : (Try.f76.name == "runtime.NumGoroutine") = false := by kernel_rfl
theorem NB_77 : Try.f77.body.isNone = false := by kernel_rfl
theorem NN_77 : (Try.f77.name == "runtime.NumGoroutine") = false := by kernel_rfl
theorem NB_78 : Try.f78.body.isNone = false := by kernel_rfl
theorem NN_78 : (Try.f78.name == "runtime.NumGoroutine") = false := by kernel_rfl
theorem NB_79 : Try.f79.body.isNone = false := by kernel_rfl
theorem NN_79 : (Try.f79.name == "runtime.NumGoroutine") = false := by kernel_rfl
theorem NB_8 : Try.f8.body.isNone = false := by kernel_rfl
theorem NN_8 : (Try.f8.name == "runtime.NumGoroutine") = false := by kernel_rfl
theorem NB_85 : Try.f85.body.isNone = false := by kernel_rfl
theorem NN_85 : (Try.f85.name == "runtime.NumGoroutine") = false := by kernel_rfl
theorem NB_9 : Try.f9.body.isNone = false := by kernel_rfl
theorem NN_9 : (Try.f9.name == "runtime.NumGoroutine") = false := by kernel_rfl
theorem NB_94 : Try.f94.body.isNone = false := by kernel_rfl
theorem NN_94 : (Try.f94.name == "runtime.NumGoroutine") = false := by kernel_rfl
theorem SH_114 : shapeT Try.prog 114 = some 3 := by kernel_rfl
theorem SH_22 : shapeT Try.prog 22 = some 0 := by kernel_rfl
theorem SH_24 : shapeT Try.prog 24 = some 23 := by kernel_rfl
theorem SH_25 : shapeT Try.prog 25 = some 0 := by kernel_rfl
theorem SH_27 : shapeT Try.prog 27 = some 0 := by kernel_rfl
theorem SH_3 : shapeT Try.prog 3 = some 0 := by kernel_rfl
theorem SH_34 : shapeT Try.prog 34 = some 5 := by kernel_rfl
theorem SH_4 : shapeT Try.prog 4 = some 0 := by kernel_rfl
theorem SH_5 : shapeT Try.prog 5 = some 0 := by kernel_rfl
theorem SH_54 : shapeT Try.prog 54 = some 4 := by kernel_rfl
theorem SH_63 : shapeT Try.prog 63 = some 6 := by kernel_rfl
theorem SH_73 : shapeT Try.prog 73 = some 4 := by kernel_rfl
theorem SH_83 : shapeT Try.prog 83 = some 0 := by kernel_rfl
theorem SH_9 : shapeT Try.prog 9 = some 0 := by kernel_rfl
theorem SH_98 : shapeT Try.prog 98 = some 6 := by kernel_rfl
theorem SZ_114 : sizeT Try.prog 114 = some 2 := by kernel_rfl
theorem SZ_24 : sizeT Try.prog 24 = some 22 := by kernel_rfl
theorem SZ_25 : sizeT Try.prog 25 = some 1 := by kernel_rfl
theorem SZ_3 : sizeT Try.prog 3 = some 1 := by kernel_rfl
theorem SZ_34 : sizeT Try.prog 34 = some 4 := by kernel_rfl
theorem SZ_54 : sizeT Try.prog 54 = some 3 := by kernel_rfl
theorem SZ_73 : sizeT Try.prog 73 = some 3 := by kernel_rfl
theorem SZ_98 : sizeT Try.prog 98 = some 5 := by kernel_rfl
theorem ZV_114 : (Try.prog.info? 114).bind (·.zero) = some (Value.agg #[(Value.int .i64 0), (Value.int .i64 0)]) := by kernel_rfl
theorem ZV_24 : (Try.prog.info? 24).bind (·.zero) = some (V23 (ByteArray.mk #[]) 0 0 0 false 0 false false 0 0 0 0 Sl.nil 0 0 0 0 false 0 0 0 0) := by kernel_rfl
theorem ZV_25 : (Try.prog.info? 25).bind (·.zero) = some (Sl.v Sl.nil) := by kernel_rfl
theorem ZV_34 : (Try.prog.info? 34).bind (·.zero) = some (Value.agg #[(Value.int .i64 0), (Value.int .i64 0), (Value.int .i64 0), (Value.int .i64 0)]) := by kernel_rfl
theorem ZV_54 : (Try.prog.info? 54).bind (·.zero) = some (Value.agg #[(Value.int .i64 0), (Value.int .i64 0), (Value.bool false)]) := by kernel_rfl
theorem ZV_73 : (Try.prog.info? 73).bind (·.zero) = some (Value.agg #[(Value.int .i64 0), (Value.int .i64 0), (Value.int .i64 0)]) := by kernel_rfl
theorem ZV_98 : (Try.prog.info? 98).bind (·.zero) = some (Value.agg #[(Value.int .i64 0), (Value.int .i64 0), (Value.int .i64 0), (Value.int .i64 0), (Value.int .i64 0)]) := by kernel_rfl
theorem isBoolT_4 : isBoolT Try.prog 4 = true := by kernel_rfl
theorem isPtrT_45 : isPtrT Try.prog 45 = true := by kernel_rfl
theorem isPtrT_48 : isPtrT Try.prog 48 = true := by kernel_rfl
theorem isSliceT_115 : isSliceT Try.prog 115 = true := by kernel_rfl
theorem isSliceT_22 : isSliceT Try.prog 22 = true := by kernel_rfl
theorem isSliceT_25 : isSliceT Try.prog 25 = true := by kernel_rfl
theorem isSliceT_26 : isSliceT Try.prog 26 = true := by kernel_rfl
theorem isSliceT_27 : isSliceT Try.prog 27 = true := by kernel_rfl
theorem isSliceT_32 : isSliceT Try.prog 32 = true := by kernel_rfl
theorem isSliceT_38 : isSliceT Try.prog 38 = true := by kernel_rfl
theorem isSliceT_55 : isSliceT Try.prog 55 = true := by kernel_rfl
theorem isSliceT_64 : isSliceT Try.prog 64 = true := by kernel_rfl
theorem isSliceT_71 : isSliceT Try.prog 71 = true := by kernel_rfl
theorem isSliceT_94 : isSliceT Try.prog 94 = true := by kernel_rfl
theorem isStrT_9 : isStrT Try.prog 9 = true := by kernel_rfl

/-- linguatop.TopCarried -/
def F3 (p0_0 : ByteArray) (p0_1 : Int) (p0_2 : Int) (p0_3 : Int) (p0_4 : Bool) (p0_5 : Int) (p0_6 : Bool) (p0_7 : Bool) (p0_8 : Int) (p0_9 : Int) (p0_10 : Int) (p0_11 : Int) (p0_12 : Sl) (p0_13 : Int) (p0_14 : Int) (p0_15 : Int) (p0_16 : Int) (p0_17 : Bool) (p0_18 : Int) (p0_19 : Int) (p0_20 : Int) (p0_21 : Int) (p1_0 : ByteArray) (p1_1 : Int) (p1_2 : Int) (p1_3 : Int) (p1_4 : Bool) (p1_5 : Int) (p1_6 : Bool) (p1_7 : Bool) (p1_8 : Int) (p1_9 : Int) (p1_10 : Int) (p1_11 : Int) (p1_12 : Sl) (p1_13 : Int) (p1_14 : Int) (p1_15 : Int) (p1_16 : Int) (p1_17 : Bool) (p1_18 : Int) (p1_19 : Int) (p1_20 : Int) (p1_21 : Int) (p2 : Sl) (p3 : Sl) (p4 : Sl) (p5 : Sl) (w0 : World) (K : Bool → World → Prop) : Prop :=
  nw 24 (A23 p0_0 p0_1 p0_2 p0_3 p0_4 p0_5 p0_6 p0_7 p0_8 p0_9 p0_10 p0_11 p0_12 p0_13 p0_14 p0_15 p0_16 p0_17 p0_18 p0_19 p0_20 p0_21) w0 fun b9 w1 =>
  nw 24 (A23 p1_0 p1_1 p1_2 p1_3 p1_4 p1_5 p1_6 p1_7 p1_8 p1_9 p1_10 p1_11 p1_12 p1_13 p1_14 p1_15 p1_16 p1_17 p1_18 p1_19 p1_20 p1_21) w1 fun b10 w2 =>
  callC Try.prog 4 #[] (fun (r : Bool) => (Value.bool r)) w2 fun r11 w3 =>
  L23 (Addr.mk b9 0 none) w3 fun x12 x13 x14 x15 x16 x17 x18 x19 x20 x21 x22 x23 x24 x25 x26 x27 x28 x29 x30 x31 x32 x33 =>
  callC Try.prog 5 #[(V23 x12 x13 x14 x15 x16 x17 x18 x19 x20 x21 x22 x23 x24 x25 x26 x27 x28 x29 x30 x31 x32 x33)] (fun (r : Bool) => (Value.bool r)) w3 fun r34 w4 =>
  jn (fun J35 => cnd (!r34)
    (
    J35 true w4
    )
    (
    L23 (Addr.mk b10 0 none) w4 fun x37 x38 x39 x40 x41 x42 x43 x44 x45 x46 x47 x48 x49 x50 x51 x52 x53 x54 x55 x56 x57 x58 =>
    callC Try.prog 5 #[(V23 x37 x38 x39 x40 x41 x42 x43 x44 x45 x46 x47 x48 x49 x50 x51 x52 x53 x54 x55 x56 x57 x58)] (fun (r : Bool) => (Value.bool r)) w4 fun r59 w5 =>
    J35 (!r59) w5
    ))
  fun c60 w6 =>
  cnd (((((c60 || (decide (14 < (p2.len : Int)))) || (decide ((p3.len : Int) < (p2.len : Int)))) || (decide (20 < (p3.len : Int)))) || (decide (40 < (p4.len : Int)))) || (!decide ((p5.len : Int) = (p4.len : Int))))
    (
    K r11 w6
    )
    (
    L23 (Addr.mk b9 0 none) w6 fun x72 x73 x74 x75 x76 x77 x78 x79 x80 x81 x82 x83 x84 x85 x86 x87 x88 x89 x90 x91 x92 x93 =>
    L23 (Addr.mk b10 0 none) w6 fun x94 x95 x96 x97 x98 x99 x100 x101 x102 x103 x104 x105 x106 x107 x108 x109 x110 x111 x112 x113 x114 x115 =>
    nw 24 #[(Value.string x72), (Value.int .i64 x73), (Value.int .i64 x74), (Value.int .i64 x75), (Value.bool x76), (Value.int .i64 x77), (Value.bool x78), (Value.bool x79), (Value.int .i64 x80), (Value.int .i64 x81), (Value.int .i64 x82), (Value.int .i64 x83), (Sl.v x84), (Value.int .i64 x85), (Value.int .i64 x86), (Value.int .i64 x87), (Value.int .i64 x88), (Value.bool x89), (Value.int .i64 x90), (Value.int .i64 x91), (Value.int .i64 x92), (Value.int .i64 x93), (Value.string x94), (Value.int .i64 x95), (Value.int .i64 x96), (Value.int .i64 x97), (Value.bool x98), (Value.int .i64 x99), (Value.bool x100), (Value.bool x101), (Value.int .i64 x102), (Value.int .i64 x103), (Value.int .i64 x104), (Value.int .i64 x105), (Sl.v x106), (Value.int .i64 x107), (Value.int .i64 x108), (Value.int .i64 x109), (Value.int .i64 x110), (Value.bool x111), (Value.int .i64 x112), (Value.int .i64 x113), (Value.int .i64 x114), (Value.int .i64 x115)] w6 fun b116 w7 =>
    nw 27 #[(Sl.v p4), (Sl.v p5)] w7 fun b117 w8 =>
    lp (fun (next118 : (Sl × Sl × Sl × Int) → World → Prop) l118 w9 =>
      cnd (decide (l118.2.2.2 < (p4.len : Int)))
        (
        lp (fun (next120 : (Sl × Sl × Int) → World → Prop) l120 w10 =>
          cnd (decide (l120.2.2 < (p2.len : Int)))
            (
            jn (fun (J122 : (Sl × Sl) → World → Prop) =>
              ix p3 l120.2.2 1 fun p124 =>
              ld (Value.int .u8) p124 w10 fun x125 =>
              jp (fun J126 => cnd (!decide (((IntKind.i64.wrap x125).tmod 40) = l118.2.2.2))
                (
                J126 true
                )
                (
                ix p2 l120.2.2 4 fun p128 =>
                ld (Value.int .i64) (p128.add 1) w10 fun x129 =>
                J126 (decide (x129 < 0))
                ))
              fun c130 =>
              jp (fun J131 => cnd (c130)
                (
                J131 true
                )
                (
                ix p2 l120.2.2 4 fun p133 =>
                ld (Value.int .i64) (p133.add 1) w10 fun x134 =>
                J131 (decide (1 < x134))
                ))
              fun c135 =>
              cnd (c135)
                (
                J122 (l120.1, l120.2.1) w10
                )
                (
                jn (fun (J138 : (Sl × Int) → World → Prop) => tk w10 fun w12 =>
                  ix p2 l120.2.2 4 fun p139 =>
                  ld (Value.int .i64) (p139.add 1) w12 fun x140 =>
                  ix (⟨some ⟨b116, 0, none⟩, 2, 2⟩ : Sl) x140 22 fun p141 =>
                  L23 p141 w12 fun x142 x143 x144 x145 x146 x147 x148 x149 x150 x151 x152 x153 x154 x155 x156 x157 x158 x159 x160 x161 x162 x163 =>
                  ix p2 l120.2.2 4 fun p164 =>
                  ld (Value.int .i64) (p164.add 0) w12 fun x165 =>
                  ld (Value.int .i64) (p164.add 1) w12 fun x166 =>
                  ld (Value.int .i64) (p164.add 2) w12 fun x167 =>
                  ld (Value.int .i64) (p164.add 3) w12 fun x168 =>
                  callC Try.prog 6 #[(V23 x142 x143 x144 x145 x146 x147 x148 x149 x150 x151 x152 x153 x154 x155 x156 x157 x158 x159 x160 x161 x162 x163), (Sl.v l120.1), (Value.agg #[(Value.int .i64 x165), (Value.int .i64 x166), (Value.int .i64 x167), (Value.int .i64 x168)]), (Value.int .i64 l118.2.2.2)] (fun (r : Sl × Int) => (Value.tuple #[(Sl.v r.1), (Value.int .i64 r.2)])) w12 fun r169 w13 =>
                  (w13.cell? (p139.add 1) = some (Value.int .i64 x140)) ∧
                  J138 (r169.1, r169.2) w13
                )
                fun l170 w14 =>
                jn (fun (J171 : Sl → World → Prop) =>
                  cnd (decide (l170.2 = 0))
                    (
                    ix p2 l120.2.2 4 fun p174 =>
                    ld (Value.int .i64) (p174.add 0) w14 fun x175 =>
                    ld (Value.int .i64) (p174.add 1) w14 fun x176 =>
                    ld (Value.int .i64) (p174.add 2) w14 fun x177 =>
                    ld (Value.int .i64) (p174.add 3) w14 fun x178 =>
                    nw 34 #[(Value.int .i64 x175), (Value.int .i64 x176), (Value.int .i64 x177), (Value.int .i64 x178)] w14 fun b179 w16 =>
                    rn Try.prog (Builtin.append_ #[25, 25] 25 #[Sl.v l120.2.1, Sl.v (⟨some ⟨b179, 0, none⟩, 1, 1⟩ : Sl)]) Sl.v w16 fun r180 w17 =>
                    J171 r180 w17
                    )
                    (
                    cnd (!decide ((l170.1.len : Int) = (l120.1.len : Int)))
                      (
                      K false w14
                      )
                      (
                      J171 l120.2.1 w14
                      )
                    )
                )
                fun l172 w15 =>
                J122 (l170.1, l172) w15
                )
            )
            fun l123 w11 =>
            next120 (l123.1, l123.2, IntKind.i64.wrap (l120.2.2 + 1)) w11
            )
            (
            lp (fun (next182 : (Sl × Sl × Int) → World → Prop) l182 w18 =>
              cnd (decide (l182.2.2 < 2))
                (
                jn (fun (J185 : (Sl × Sl) → World → Prop) => tk w18 fun w19 =>
                  ix (⟨some ⟨b116, 0, none⟩, 2, 2⟩ : Sl) l182.2.2 22 fun p186 =>
                  L23 p186 w19 fun x187 x188 x189 x190 x191 x192 x193 x194 x195 x196 x197 x198 x199 x200 x201 x202 x203 x204 x205 x206 x207 x208 =>
                  ix (⟨some ⟨b117, 0, none⟩, 2, 2⟩ : Sl) l182.2.2 1 fun p209 =>
                  ld Sl.v p209 w19 fun x210 =>
                  ix x210 l118.2.2.2 1 fun p211 =>
                  ld Value.bool p211 w19 fun x212 =>
                  callC Try.prog 7 #[(V23 x187 x188 x189 x190 x191 x192 x193 x194 x195 x196 x197 x198 x199 x200 x201 x202 x203 x204 x205 x206 x207 x208), (Value.int .i64 l182.2.2), (Sl.v l182.1), (Value.bool x212)] (fun (r : Sl × Sl) => (Value.tuple #[(Sl.v r.1), (Sl.v r.2)])) w19 fun r213 w20 =>
                  (w20.cell? p209 = some (Sl.v x210)) ∧
                  J185 (r213.1, r213.2) w20
                )
                fun l214 w21 =>
                lp (fun (next215 : (Sl × Int) → World → Prop) l215 w22 =>
                  cnd (decide (l215.2 < (l214.1.len : Int)))
                    (
                    ix l214.1 l215.2 1 fun p217 =>
                    ld (Value.int .i64) p217 w22 fun x218 =>
                    nw 41 #[(Value.int .i64 x218), (Value.int .i64 l182.2.2), (Value.int .i64 l118.2.2.2)] w22 fun b219 w23 =>
                    rn Try.prog (Builtin.append_ #[32, 32] 32 #[Sl.v l215.1, Sl.v (⟨some ⟨b219, 0, none⟩, 1, 1⟩ : Sl)]) Sl.v w23 fun r220 w24 =>
                    next215 (r220, IntKind.i64.wrap (l215.2 + 1)) w24
                    )
                    (
                    cnd (!decide ((IntKind.i64.wrap ((l214.2.len : Int) + (l214.1.len : Int))) = (l182.1.len : Int)))
                      (
                      K false w22
                      )
                      (
                      next182 (l214.2, l215.1, IntKind.i64.wrap (l182.2.2 + 1)) w22
                      )
                    )
                ) (l182.2.1, 0) w21
                )
                (
                next118 (l182.1, l120.2.1, l182.2.1, IntKind.i64.wrap (l118.2.2.2 + 1)) w18
                )
            ) (l120.1, l118.2.2.1, 0) w10
            )
        ) (l118.1, l118.2.1, 0) w9
        )
        (
        cnd (!decide ((IntKind.i64.wrap ((l118.2.2.1.len : Int) + (l118.1.len : Int))) = (l118.2.1.len : Int)))
          (
          K false w9
          )
          (
          lp (fun (next223 : Int → World → Prop) l223 w25 =>
            cnd (decide (l223 < (l118.2.1.len : Int)))
              (
              jn (fun (J225 : Unit → World → Prop) =>
                ix l118.2.1 l223 4 fun p227 =>
                ld (Value.int .i64) (p227.add 0) w25 fun x228 =>
                ld (Value.int .i64) (p227.add 1) w25 fun x229 =>
                ld (Value.int .i64) (p227.add 2) w25 fun x230 =>
                ld (Value.int .i64) (p227.add 3) w25 fun x231 =>
                nw 34 #[(Value.int .i64 0), (Value.int .i64 0), (Value.int .i64 0), (Value.int .i64 0)] w25 fun b232 w27 =>
                st (Addr.mk b232 0 none) [(Value.int .i64 x228), (Value.int .i64 x229), (Value.int .i64 x230), (Value.int .i64 x231)] w27 fun w28 =>
                jn (fun (J235 : Bool → World → Prop) => tk w28 fun w29 =>
                  ld (Value.int .i64) ((Addr.mk b232 0 none).add 3) w29 fun x236 =>
                  cnd (decide ((p4.len : Int) < x236))
                    (
                    J235 true w29
                    )
                    (
                    ld (Value.int .i64) ((Addr.mk b232 0 none).add 1) w29 fun x238 =>
                    ix (⟨some ⟨b116, 0, none⟩, 2, 2⟩ : Sl) x238 22 fun p239 =>
                    L23 p239 w29 fun x240 x241 x242 x243 x244 x245 x246 x247 x248 x249 x250 x251 x252 x253 x254 x255 x256 x257 x258 x259 x260 x261 =>
                    ld (Value.int .i64) ((Addr.mk b232 0 none).add 1) w29 fun x262 =>
                    ix (⟨some ⟨b117, 0, none⟩, 2, 2⟩ : Sl) x262 1 fun p263 =>
                    ld Sl.v p263 w29 fun x264 =>
                    callC Try.prog 8 #[(V23 x240 x241 x242 x243 x244 x245 x246 x247 x248 x249 x250 x251 x252 x253 x254 x255 x256 x257 x258 x259 x260 x261), (Sl.v x264)] (fun (r : Bool) => (Value.bool r)) w29 fun r265 w30 =>
                    (w30.cell? ((Addr.mk b232 0 none).add 1) = some (Value.int .i64 x262)) ∧
                    (w30.cell? ((Addr.mk b232 0 none).add 1) = some (Value.int .i64 x238)) ∧
                    (w30.cell? ((Addr.mk b232 0 none).add 3) = some (Value.int .i64 x236)) ∧
                    J235 (!r265) w30
                    )
                )
                fun l266 w31 =>
                cnd (l266)
                  (
                  J225 () w31
                  )
                  (
                  ld (Value.int .i64) ((Addr.mk b232 0 none).add 0) w31 fun x268 =>
                  ld (Value.int .i64) ((Addr.mk b232 0 none).add 1) w31 fun x269 =>
                  callC Try.prog 9 #[(Sl.v l118.2.2.1), (Value.int .i64 x268), (Value.int .i64 x269)] (fun (r : Int) => (Value.int .i64 r)) w31 fun r270 w32 =>
                  jp (fun J271 => cnd (decide (r270 < 0))
                    (
                    J271 true
                    )
                    (
                    ld (Value.int .i64) ((Addr.mk b232 0 none).add 3) w32 fun x273 =>
                    J271 (decide (x273 ≤ r270))
                    ))
                  fun c274 =>
                  cnd (c274)
                    (
                    K false w32
                    )
                    (
                    J225 () w32
                    )
                  )
              )
              fun _l226 w26 =>
              next223 (IntKind.i64.wrap (l223 + 1)) w26
              )
              (
              K r11 w25
              )
          ) 0 w9
          )
        )
    ) (Sl.nil, Sl.nil, Sl.nil, 0) w8
    )
set_option maxRecDepth 100000 in
theorem D3 (p0_0 : ByteArray) (p0_1 : Int) (p0_2 : Int) (p0_3 : Int) (p0_4 : Bool) (p0_5 : Int) (p0_6 : Bool) (p0_7 : Bool) (p0_8 : Int) (p0_9 : Int) (p0_10 : Int) (p0_11 : Int) (p0_12 : Sl) (p0_13 : Int) (p0_14 : Int) (p0_15 : Int) (p0_16 : Int) (p0_17 : Bool) (p0_18 : Int) (p0_19 : Int) (p0_20 : Int) (p0_21 : Int) (p1_0 : ByteArray) (p1_1 : Int) (p1_2 : Int) (p1_3 : Int) (p1_4 : Bool) (p1_5 : Int) (p1_6 : Bool) (p1_7 : Bool) (p1_8 : Int) (p1_9 : Int) (p1_10 : Int) (p1_11 : Int) (p1_12 : Sl) (p1_13 : Int) (p1_14 : Int) (p1_15 : Int) (p1_16 : Int) (p1_17 : Bool) (p1_18 : Int) (p1_19 : Int) (p1_20 : Int) (p1_21 : Int) (p2 : Sl) (p3 : Sl) (p4 : Sl) (p5 : Sl) (w0 : World) (K : Bool → World → Prop) (h : F3 p0_0 p0_1 p0_2 p0_3 p0_4 p0_5 p0_6 p0_7 p0_8 p0_9 p0_10 p0_11 p0_12 p0_13 p0_14 p0_15 p0_16 p0_17 p0_18 p0_19 p0_20 p0_21 p1_0 p1_1 p1_2 p1_3 p1_4 p1_5 p1_6 p1_7 p1_8 p1_9 p1_10 p1_11 p1_12 p1_13 p1_14 p1_15 p1_16 p1_17 p1_18 p1_19 p1_20 p1_21 p2 p3 p4 p5 w0 K) : callC Try.prog 3 #[(V23 p0_0 p0_1 p0_2 p0_3 p0_4 p0_5 p0_6 p0_7 p0_8 p0_9 p0_10 p0_11 p0_12 p0_13 p0_14 p0_15 p0_16 p0_17 p0_18 p0_19 p0_20 p0_21), (V23 p1_0 p1_1 p1_2 p1_3 p1_4 p1_5 p1_6 p1_7 p1_8 p1_9 p1_10 p1_11 p1_12 p1_13 p1_14 p1_15 p1_16 p1_17 p1_18 p1_19 p1_20 p1_21), (Sl.v p2), (Sl.v p3), (Sl.v p4), (Sl.v p5)] (fun (r : Bool) => (Value.bool r)) w0 K := by
  unfold F3 at h
  refine calls_of_wpC Try.func3 rfl 242 rfl (by simp) ?_
  intro ρ hρ
  have e0 : ρ 0 = (V23 p0_0 p0_1 p0_2 p0_3 p0_4 p0_5 p0_6 p0_7 p0_8 p0_9 p0_10 p0_11 p0_12 p0_13 p0_14 p0_15 p0_16 p0_17 p0_18 p0_19 p0_20 p0_21) := hρ 0
  have e1 : ρ 1 = (V23 p1_0 p1_1 p1_2 p1_3 p1_4 p1_5 p1_6 p1_7 p1_8 p1_9 p1_10 p1_11 p1_12 p1_13 p1_14 p1_15 p1_16 p1_17 p1_18 p1_19 p1_20 p1_21) := hρ 1
  have e2 : ρ 2 = (Sl.v p2) := hρ 2
  have e3 : ρ 3 = (Sl.v p3) := hρ 3
  have e4 : ρ 4 = (Sl.v p4) := hρ 4
  have e5 : ρ 5 = (Sl.v p5) := hρ 5
  clear hρ
  refine wpC_seq ?_
  refine wpC_region ?_
  obtain ⟨b9, hb9⟩ : ∃ u, u = w0.heap.size := ⟨_, rfl⟩
  obtain ⟨w1, hw9⟩ : ∃ u, u = w0.alloc (.cells (A23 p0_0 p0_1 p0_2 p0_3 p0_4 p0_5 p0_6 p0_7 p0_8 p0_9 p0_10 p0_11 p0_12 p0_13 p0_14 p0_15 p0_16 p0_17 p0_18 p0_19 p0_20 p0_21) 24) := ⟨_, rfl⟩
  replace h := h b9 w1 hb9 hw9
  refine wpR_val (v := (Value.pointer (some (Addr.mk b9 0 none)))) (w' := w1) rfl rfl rfl ((x_box (v := (V23 p0_0 p0_1 p0_2 p0_3 p0_4 p0_5 p0_6 p0_7 p0_8 p0_9 p0_10 p0_11 p0_12 p0_13 p0_14 p0_15 p0_16 p0_17 p0_18 p0_19 p0_20 p0_21)) rfl e0).trans (by rw [hb9, hw9]; rfl)) ?_
  obtain ⟨b10, hb10⟩ : ∃ u, u = w1.heap.size := ⟨_, rfl⟩
  obtain ⟨w2, hw10⟩ : ∃ u, u = w1.alloc (.cells (A23 p1_0 p1_1 p1_2 p1_3 p1_4 p1_5 p1_6 p1_7 p1_8 p1_9 p1_10 p1_11 p1_12 p1_13 p1_14 p1_15 p1_16 p1_17 p1_18 p1_19 p1_20 p1_21) 24) := ⟨_, rfl⟩
  replace h := h b10 w2 hb10 hw10
  refine wpR_val (v := (Value.pointer (some (Addr.mk b10 0 none)))) (w' := w2) rfl rfl rfl ((x_box (v := (V23 p1_0 p1_1 p1_2 p1_3 p1_4 p1_5 p1_6 p1_7 p1_8 p1_9 p1_10 p1_11 p1_12 p1_13 p1_14 p1_15 p1_16 p1_17 p1_18 p1_19 p1_20 p1_21)) rfl e1).trans (by rw [hb10, hw10]; rfl)) ?_
  refine wpR_val (v := (Value.bool false)) (w' := w2) rfl rfl rfl (x_assign (v := (Value.bool false)) rfl rfl) ?_
  refine wpR_nil ?_
  refine wpC_seq ?_
  refine wpC_cut (fun ρ => ρ 2 = (Sl.v p2) ∧ ρ 3 = (Sl.v p3) ∧ ρ 4 = (Sl.v p4) ∧ ρ 5 = (Sl.v p5) ∧ ρ 6 = (Value.pointer (some (Addr.mk b9 0 none))) ∧ ρ 7 = (Value.pointer (some (Addr.mk b10 0 none))) ∧ True) ⟨e2, e3, e4, e5, rfl, rfl, trivial⟩ ?_
  rintro ρ ⟨e2, e3, e4, e5, e6, e7, -⟩
  refine wpC_region ?_
  refine wpR_enter rfl rfl rfl (x_call (vs := []) rfl rfl mapl_nil Try.func4 NN_4 NB_4) (Calls.mono h ?_)
  rintro _ w3 ⟨r11, rfl, h⟩
  refine ⟨_, rfl, ?_⟩
  refine wpR_val (v := (Value.bool r11)) (w' := w3) rfl rfl rfl (x_assign (v := (Value.bool r11)) rfl rfl) ?_
  refine wpR_nil ?_
  refine wpC_seq ?_
  refine wpC_seq ?_
  refine wpC_cut (fun ρ => ρ 2 = (Sl.v p2) ∧ ρ 3 = (Sl.v p3) ∧ ρ 4 = (Sl.v p4) ∧ ρ 5 = (Sl.v p5) ∧ ρ 6 = (Value.pointer (some (Addr.mk b9 0 none))) ∧ ρ 7 = (Value.pointer (some (Addr.mk b10 0 none))) ∧ ρ 13 = (Value.bool r11) ∧ True) ⟨e2, e3, e4, e5, e6, e7, rfl, trivial⟩ ?_
  rintro ρ ⟨e2, e3, e4, e5, e6, e7, e13, -⟩
  refine wpC_region ?_
  obtain ⟨x12, q12, x13, q13, x14, q14, x15, q15, x16, q16, x17, q17, x18, q18, x19, q19, x20, q20, x21, q21, x22, q22, x23, q23, x24, q24, x25, q25, x26, q26, x27, q27, x28, q28, x29, q29, x30, q30, x31, q31, x32, q32, x33, q33, h⟩ := h
  refine wpR_val (v := (V23 x12 x13 x14 x15 x16 x17 x18 x19 x20 x21 x22 x23 x24 x25 x26 x27 x28 x29 x30 x31 x32 x33)) (w' := w3) rfl rfl rfl (x_loadN (S23 x12 x13 x14 x15 x16 x17 x18 x19 x20 x21 x22 x23 x24 x25 x26 x27 x28 x29 x30 x31 x32 x33) rfl e6 SH_24 (K23 ⟨q12, q13, q14, q15, q16, q17, q18, q19, q20, q21, q22, q23, q24, q25, q26, q27, q28, q29, q30, q31, q32, q33⟩)) ?_
  refine wpR_enter rfl rfl rfl (x_call (vs := [(V23 x12 x13 x14 x15 x16 x17 x18 x19 x20 x21 x22 x23 x24 x25 x26 x27 x28 x29 x30 x31 x32 x33)]) rfl rfl (mapl_cons rfl mapl_nil) Try.func5 NN_5 NB_5) (Calls.mono h ?_)
  rintro _ w4 ⟨r34, rfl, h⟩
  refine ⟨_, rfl, ?_⟩
  refine wpR_val (v := (Value.bool (!r34))) (w' := w4) rfl rfl rfl (x_not rfl rfl) ?_
  refine wpR_val (v := (Value.bool (!r34))) (w' := w4) rfl rfl rfl (x_move (v := (Value.bool (!r34))) rfl rfl) ?_
  obtain ⟨J35, h, hk⟩ := h
  refine wpR_joinJ 4 (fun x ρ => ρ 38 = Value.bool x ∧ ρ 2 = (Sl.v p2) ∧ ρ 3 = (Sl.v p3) ∧ ρ 4 = (Sl.v p4) ∧ ρ 5 = (Sl.v p5) ∧ ρ 6 = (Value.pointer (some (Addr.mk b9 0 none))) ∧ ρ 7 = (Value.pointer (some (Addr.mk b10 0 none))) ∧ ρ 13 = (Value.bool r11) ∧ True) (J35) ?_ ?_
  · clear hk
    rcases Bool.eq_false_or_eq_true (!r34) with hc36 | hc36
    · replace h := h.1 hc36
      refine wpR_pass (wantN rfl rfl rfl hc36) rfl rfl ?_
      refine wpR_pass (wantN rfl rfl rfl hc36) rfl rfl ?_
      refine wpR_pass (wantN rfl rfl rfl hc36) rfl rfl ?_
      refine wpR_val (v := (Value.bool true)) (w' := w4) rfl rfl rfl (x_pickT (v := (Value.bool true)) rfl rfl hc36 rfl) ?_
      refine wpR_nil ?_
      exact ⟨true, ⟨rfl, e2, e3, e4, e5, e6, e7, e13, trivial⟩, h⟩
    · replace h := h.2 hc36
      obtain ⟨x37, q37, x38, q38, x39, q39, x40, q40, x41, q41, x42, q42, x43, q43, x44, q44, x45, q45, x46, q46, x47, q47, x48, q48, x49, q49, x50, q50, x51, q51, x52, q52, x53, q53, x54, q54, x55, q55, x56, q56, x57, q57, x58, q58, h⟩ := h
      refine wpR_val (v := (V23 x37 x38 x39 x40 x41 x42 x43 x44 x45 x46 x47 x48 x49 x50 x51 x52 x53 x54 x55 x56 x57 x58)) (w' := w4) (wantG rfl rfl rfl hc36) rfl rfl (x_loadN (S23 x37 x38 x39 x40 x41 x42 x43 x44 x45 x46 x47 x48 x49 x50 x51 x52 x53 x54 x55 x56 x57 x58) rfl e7 SH_24 (K23 ⟨q37, q38, q39, q40, q41, q42, q43, q44, q45, q46, q47, q48, q49, q50, q51, q52, q53, q54, q55, q56, q57, q58⟩)) ?_
      refine wpR_enter (wantG rfl rfl rfl hc36) rfl rfl (x_call (vs := [(V23 x37 x38 x39 x40 x41 x42 x43 x44 x45 x46 x47 x48 x49 x50 x51 x52 x53 x54 x55 x56 x57 x58)]) rfl rfl (mapl_cons rfl mapl_nil) Try.func5 NN_5 NB_5) (Calls.mono h ?_)
      rintro _ w5 ⟨r59, rfl, h⟩
      refine ⟨_, rfl, ?_⟩
      refine wpR_val (v := (Value.bool (!r59))) (w' := w5) (wantG rfl rfl rfl hc36) rfl rfl (x_not rfl rfl) ?_
      refine wpR_val (v := (Value.bool (!r59))) (w' := w5) rfl rfl rfl (x_pickF (v := (Value.bool (!r59))) rfl rfl hc36 rfl) ?_
      refine wpR_nil ?_
      exact ⟨!r59, ⟨rfl, e2, e3, e4, e5, e6, e7, e13, trivial⟩, h⟩
  clear h
  rintro c60 ρ w6 ⟨e38, e2, e3, e4, e5, e6, e7, e13, -⟩ h
  replace h := hk c60 w6 h
  clear hk
  refine wpR_val (v := (Value.bool c60)) (w' := w6) rfl rfl rfl (x_move (v := (Value.bool c60)) rfl e38) ?_
  refine wpR_joinJ 4 (fun (_ : Unit) ρ => ρ 43 = Value.bool (c60 || (decide (14 < (p2.len : Int)))) ∧ ρ 2 = (Sl.v p2) ∧ ρ 3 = (Sl.v p3) ∧ ρ 4 = (Sl.v p4) ∧ ρ 5 = (Sl.v p5) ∧ ρ 6 = (Value.pointer (some (Addr.mk b9 0 none))) ∧ ρ 7 = (Value.pointer (some (Addr.mk b10 0 none))) ∧ ρ 13 = (Value.bool r11) ∧ True) (fun _ w => w6 = w) ?_ ?_
  · clear h
    rcases Bool.eq_false_or_eq_true (c60) with hc62 | hc62
    · skip
      refine wpR_pass (wantN rfl rfl rfl hc62) rfl rfl ?_
      refine wpR_pass (wantN rfl rfl rfl hc62) rfl rfl ?_
      refine wpR_pass (wantN rfl rfl rfl hc62) rfl rfl ?_
      refine wpR_val (v := (Value.bool true)) (w' := w6) rfl rfl rfl (x_pickT (v := (Value.bool true)) rfl rfl hc62 rfl) ?_
      refine wpR_nil ?_
      exact ⟨(), ⟨(by rw [hc62]; rfl), e2, e3, e4, e5, e6, e7, e13, trivial⟩, rfl⟩
    · skip
      refine wpR_val (v := (Sl.v p2)) (w' := w6) (wantG rfl rfl rfl hc62) rfl rfl (x_move (v := (Sl.v p2)) rfl e2) ?_
      refine wpR_val (v := (Value.int .i64 (p2.len : Int))) (w' := w6) (wantG rfl rfl rfl hc62) rfl rfl (x_lenS (s := p2) rfl rfl isSliceT_25) ?_
      refine wpR_val (v := (Value.bool (decide (14 < (p2.len : Int))))) (w' := w6) (wantG rfl rfl rfl hc62) rfl rfl (x_gtr rfl rfl rfl) ?_
      refine wpR_val (v := (Value.bool (decide (14 < (p2.len : Int))))) (w' := w6) rfl rfl rfl (x_pickF (v := (Value.bool (decide (14 < (p2.len : Int))))) rfl rfl hc62 rfl) ?_
      refine wpR_nil ?_
      exact ⟨(), ⟨(by rw [hc62]; rfl), e2, e3, e4, e5, e6, e7, e13, trivial⟩, rfl⟩
  rintro _ ρ wj ⟨e43, e2, e3, e4, e5, e6, e7, e13, -⟩ rfl
  refine wpR_val (v := (Value.bool (c60 || (decide (14 < (p2.len : Int)))))) (w' := w6) rfl rfl rfl (x_move (v := (Value.bool (c60 || (decide (14 < (p2.len : Int)))))) rfl e43) ?_
  refine wpR_joinJ 6 (fun (_ : Unit) ρ => ρ 50 = Value.bool ((c60 || (decide (14 < (p2.len : Int)))) || (decide ((p3.len : Int) < (p2.len : Int)))) ∧ ρ 2 = (Sl.v p2) ∧ ρ 3 = (Sl.v p3) ∧ ρ 4 = (Sl.v p4) ∧ ρ 5 = (Sl.v p5) ∧ ρ 6 = (Value.pointer (some (Addr.mk b9 0 none))) ∧ ρ 7 = (Value.pointer (some (Addr.mk b10 0 none))) ∧ ρ 13 = (Value.bool r11) ∧ True) (fun _ w => w6 = w) ?_ ?_
  · clear h
    rcases Bool.eq_false_or_eq_true (c60 || (decide (14 < (p2.len : Int)))) with hc64 | hc64
    · skip
      refine wpR_pass (wantN rfl rfl rfl hc64) rfl rfl ?_
      refine wpR_pass (wantN rfl rfl rfl hc64) rfl rfl ?_
      refine wpR_pass (wantN rfl rfl rfl hc64) rfl rfl ?_
      refine wpR_pass (wantN rfl rfl rfl hc64) rfl rfl ?_
      refine wpR_pass (wantN rfl rfl rfl hc64) rfl rfl ?_
      refine wpR_val (v := (Value.bool true)) (w' := w6) rfl rfl rfl (x_pickT (v := (Value.bool true)) rfl rfl hc64 rfl) ?_
      refine wpR_nil ?_
      exact ⟨(), ⟨(by rw [hc64]; rfl), e2, e3, e4, e5, e6, e7, e13, trivial⟩, rfl⟩
    · skip
      refine wpR_val (v := (Sl.v p3)) (w' := w6) (wantG rfl rfl rfl hc64) rfl rfl (x_move (v := (Sl.v p3)) rfl e3) ?_
      refine wpR_val (v := (Value.int .i64 (p3.len : Int))) (w' := w6) (wantG rfl rfl rfl hc64) rfl rfl (x_lenS (s := p3) rfl rfl isSliceT_26) ?_
      refine wpR_val (v := (Sl.v p2)) (w' := w6) (wantG rfl rfl rfl hc64) rfl rfl (x_move (v := (Sl.v p2)) rfl e2) ?_
      refine wpR_val (v := (Value.int .i64 (p2.len : Int))) (w' := w6) (wantG rfl rfl rfl hc64) rfl rfl (x_lenS (s := p2) rfl rfl isSliceT_25) ?_
      refine wpR_val (v := (Value.bool (decide ((p3.len : Int) < (p2.len : Int))))) (w' := w6) (wantG rfl rfl rfl hc64) rfl rfl (x_lss rfl rfl rfl) ?_
      refine wpR_val (v := (Value.bool (decide ((p3.len : Int) < (p2.len : Int))))) (w' := w6) rfl rfl rfl (x_pickF (v := (Value.bool (decide ((p3.len : Int) < (p2.len : Int))))) rfl rfl hc64 rfl) ?_
      refine wpR_nil ?_
      exact ⟨(), ⟨(by rw [hc64]; rfl), e2, e3, e4, e5, e6, e7, e13, trivial⟩, rfl⟩
  rintro _ ρ wj ⟨e50, e2, e3, e4, e5, e6, e7, e13, -⟩ rfl
  refine wpR_val (v := (Value.bool ((c60 || (decide (14 < (p2.len : Int)))) || (decide ((p3.len : Int) < (p2.len : Int)))))) (w' := w6) rfl rfl rfl (x_move (v := (Value.bool ((c60 || (decide (14 < (p2.len : Int)))) || (decide ((p3.len : Int) < (p2.len : Int)))))) rfl e50) ?_
  refine wpR_joinJ 4 (fun (_ : Unit) ρ => ρ 55 = Value.bool (((c60 || (decide (14 < (p2.len : Int)))) || (decide ((p3.len : Int) < (p2.len : Int)))) || (decide (20 < (p3.len : Int)))) ∧ ρ 2 = (Sl.v p2) ∧ ρ 3 = (Sl.v p3) ∧ ρ 4 = (Sl.v p4) ∧ ρ 5 = (Sl.v p5) ∧ ρ 6 = (Value.pointer (some (Addr.mk b9 0 none))) ∧ ρ 7 = (Value.pointer (some (Addr.mk b10 0 none))) ∧ ρ 13 = (Value.bool r11) ∧ True) (fun _ w => w6 = w) ?_ ?_
  · clear h
    rcases Bool.eq_false_or_eq_true ((c60 || (decide (14 < (p2.len : Int)))) || (decide ((p3.len : Int) < (p2.len : Int)))) with hc66 | hc66
    · skip
      refine wpR_pass (wantN rfl rfl rfl hc66) rfl rfl ?_
      refine wpR_pass (wantN rfl rfl rfl hc66) rfl rfl ?_
      refine wpR_pass (wantN rfl rfl rfl hc66) rfl rfl ?_
      refine wpR_val (v := (Value.bool true)) (w' := w6) rfl rfl rfl (x_pickT (v := (Value.bool true)) rfl rfl hc66 rfl) ?_
      refine wpR_nil ?_
      exact ⟨(), ⟨(by rw [hc66]; rfl), e2, e3, e4, e5, e6, e7, e13, trivial⟩, rfl⟩
    · skip
      refine wpR_val (v := (Sl.v p3)) (w' := w6) (wantG rfl rfl rfl hc66) rfl rfl (x_move (v := (Sl.v p3)) rfl e3) ?_
      refine wpR_val (v := (Value.int .i64 (p3.len : Int))) (w' := w6) (wantG rfl rfl rfl hc66) rfl rfl (x_lenS (s := p3) rfl rfl isSliceT_26) ?_
      refine wpR_val (v := (Value.bool (decide (20 < (p3.len : Int))))) (w' := w6) (wantG rfl rfl rfl hc66) rfl rfl (x_gtr rfl rfl rfl) ?_
      refine wpR_val (v := (Value.bool (decide (20 < (p3.len : Int))))) (w' := w6) rfl rfl rfl (x_pickF (v := (Value.bool (decide (20 < (p3.len : Int))))) rfl rfl hc66 rfl) ?_
      refine wpR_nil ?_
      exact ⟨(), ⟨(by rw [hc66]; rfl), e2, e3, e4, e5, e6, e7, e13, trivial⟩, rfl⟩
  rintro _ ρ wj ⟨e55, e2, e3, e4, e5, e6, e7, e13, -⟩ rfl
  refine wpR_val (v := (Value.bool (((c60 || (decide (14 < (p2.len : Int)))) || (decide ((p3.len : Int) < (p2.len : Int)))) || (decide (20 < (p3.len : Int)))))) (w' := w6) rfl rfl rfl (x_move (v := (Value.bool (((c60 || (decide (14 < (p2.len : Int)))) || (decide ((p3.len : Int) < (p2.len : Int)))) || (decide (20 < (p3.len : Int)))))) rfl e55) ?_
  refine wpR_joinJ 4 (fun (_ : Unit) ρ => ρ 60 = Value.bool ((((c60 || (decide (14 < (p2.len : Int)))) || (decide ((p3.len : Int) < (p2.len : Int)))) || (decide (20 < (p3.len : Int)))) || (decide (40 < (p4.len : Int)))) ∧ ρ 2 = (Sl.v p2) ∧ ρ 3 = (Sl.v p3) ∧ ρ 4 = (Sl.v p4) ∧ ρ 5 = (Sl.v p5) ∧ ρ 6 = (Value.pointer (some (Addr.mk b9 0 none))) ∧ ρ 7 = (Value.pointer (some (Addr.mk b10 0 none))) ∧ ρ 13 = (Value.bool r11) ∧ True) (fun _ w => w6 = w) ?_ ?_
  · clear h
    rcases Bool.eq_false_or_eq_true (((c60 || (decide (14 < (p2.len : Int)))) || (decide ((p3.len : Int) < (p2.len : Int)))) || (decide (20 < (p3.len : Int)))) with hc68 | hc68
    · skip
      refine wpR_pass (wantN rfl rfl rfl hc68) rfl rfl ?_
      refine wpR_pass (wantN rfl rfl rfl hc68) rfl rfl ?_
      refine wpR_pass (wantN rfl rfl rfl hc68) rfl rfl ?_
      refine wpR_val (v := (Value.bool true)) (w' := w6) rfl rfl rfl (x_pickT (v := (Value.bool true)) rfl rfl hc68 rfl) ?_
      refine wpR_nil ?_
      exact ⟨(), ⟨(by rw [hc68]; rfl), e2, e3, e4, e5, e6, e7, e13, trivial⟩, rfl⟩
    · skip
      refine wpR_val (v := (Sl.v p4)) (w' := w6) (wantG rfl rfl rfl hc68) rfl rfl (x_move (v := (Sl.v p4)) rfl e4) ?_
      refine wpR_val (v := (Value.int .i64 (p4.len : Int))) (w' := w6) (wantG rfl rfl rfl hc68) rfl rfl (x_lenS (s := p4) rfl rfl isSliceT_27) ?_
      refine wpR_val (v := (Value.bool (decide (40 < (p4.len : Int))))) (w' := w6) (wantG rfl rfl rfl hc68) rfl rfl (x_gtr rfl rfl rfl) ?_
      refine wpR_val (v := (Value.bool (decide (40 < (p4.len : Int))))) (w' := w6) rfl rfl rfl (x_pickF (v := (Value.bool (decide (40 < (p4.len : Int))))) rfl rfl hc68 rfl) ?_
      refine wpR_nil ?_
      exact ⟨(), ⟨(by rw [hc68]; rfl), e2, e3, e4, e5, e6, e7, e13, trivial⟩, rfl⟩
  rintro _ ρ wj ⟨e60, e2, e3, e4, e5, e6, e7, e13, -⟩ rfl
  refine wpR_val (v := (Value.bool ((((c60 || (decide (14 < (p2.len : Int)))) || (decide ((p3.len : Int) < (p2.len : Int)))) || (decide (20 < (p3.len : Int)))) || (decide (40 < (p4.len : Int)))))) (w' := w6) rfl rfl rfl (x_move (v := (Value.bool ((((c60 || (decide (14 < (p2.len : Int)))) || (decide ((p3.len : Int) < (p2.len : Int)))) || (decide (20 < (p3.len : Int)))) || (decide (40 < (p4.len : Int)))))) rfl e60) ?_
  refine wpR_joinJ 6 (fun (_ : Unit) ρ => ρ 67 = Value.bool (((((c60 || (decide (14 < (p2.len : Int)))) || (decide ((p3.len : Int) < (p2.len : Int)))) || (decide (20 < (p3.len : Int)))) || (decide (40 < (p4.len : Int)))) || (!decide ((p5.len : Int) = (p4.len : Int)))) ∧ ρ 2 = (Sl.v p2) ∧ ρ 3 = (Sl.v p3) ∧ ρ 4 = (Sl.v p4) ∧ ρ 5 = (Sl.v p5) ∧ ρ 6 = (Value.pointer (some (Addr.mk b9 0 none))) ∧ ρ 7 = (Value.pointer (some (Addr.mk b10 0 none))) ∧ ρ 13 = (Value.bool r11) ∧ True) (fun _ w => w6 = w) ?_ ?_
  · clear h
    rcases Bool.eq_false_or_eq_true ((((c60 || (decide (14 < (p2.len : Int)))) || (decide ((p3.len : Int) < (p2.len : Int)))) || (decide (20 < (p3.len : Int)))) || (decide (40 < (p4.len : Int)))) with hc70 | hc70
    · skip
      refine wpR_pass (wantN rfl rfl rfl hc70) rfl rfl ?_
      refine wpR_pass (wantN rfl rfl rfl hc70) rfl rfl ?_
      refine wpR_pass (wantN rfl rfl rfl hc70) rfl rfl ?_
      refine wpR_pass (wantN rfl rfl rfl hc70) rfl rfl ?_
      refine wpR_pass (wantN rfl rfl rfl hc70) rfl rfl ?_
      refine wpR_val (v := (Value.bool true)) (w' := w6) rfl rfl rfl (x_pickT (v := (Value.bool true)) rfl rfl hc70 rfl) ?_
      refine wpR_nil ?_
      exact ⟨(), ⟨(by rw [hc70]; rfl), e2, e3, e4, e5, e6, e7, e13, trivial⟩, rfl⟩
    · skip
      refine wpR_val (v := (Sl.v p5)) (w' := w6) (wantG rfl rfl rfl hc70) rfl rfl (x_move (v := (Sl.v p5)) rfl e5) ?_
      refine wpR_val (v := (Value.int .i64 (p5.len : Int))) (w' := w6) (wantG rfl rfl rfl hc70) rfl rfl (x_lenS (s := p5) rfl rfl isSliceT_27) ?_
      refine wpR_val (v := (Sl.v p4)) (w' := w6) (wantG rfl rfl rfl hc70) rfl rfl (x_move (v := (Sl.v p4)) rfl e4) ?_
      refine wpR_val (v := (Value.int .i64 (p4.len : Int))) (w' := w6) (wantG rfl rfl rfl hc70) rfl rfl (x_lenS (s := p4) rfl rfl isSliceT_27) ?_
      refine wpR_val (v := (Value.bool (!decide ((p5.len : Int) = (p4.len : Int))))) (w' := w6) (wantG rfl rfl rfl hc70) rfl rfl (x_neq rfl rfl rfl) ?_
      refine wpR_val (v := (Value.bool (!decide ((p5.len : Int) = (p4.len : Int))))) (w' := w6) rfl rfl rfl (x_pickF (v := (Value.bool (!decide ((p5.len : Int) = (p4.len : Int))))) rfl rfl hc70 rfl) ?_
      refine wpR_nil ?_
      exact ⟨(), ⟨(by rw [hc70]; rfl), e2, e3, e4, e5, e6, e7, e13, trivial⟩, rfl⟩
  rintro _ ρ wj ⟨e67, e2, e3, e4, e5, e6, e7, e13, -⟩ rfl
  refine wpR_nil ?_
  refine wpC_cond (b := ((((c60 || (decide (14 < (p2.len : Int)))) || (decide ((p3.len : Int) < (p2.len : Int)))) || (decide (20 < (p3.len : Int)))) || (decide (40 < (p4.len : Int)))) || (!decide ((p5.len : Int) = (p4.len : Int)))) e67 (fun hc71 => ?_) (fun hc71 => ?_)
  · replace h := h.1 hc71
    refine wpC_seq ?_
    refine wpC_region ?_
    refine wpR_val (v := (Value.bool r11)) (w' := w6) rfl rfl rfl (x_move (v := (Value.bool r11)) rfl e13) ?_
    refine wpR_val (v := (Value.bool r11)) (w' := w6) rfl rfl rfl (x_assign (v := (Value.bool r11)) rfl rfl) ?_
    refine wpR_nil ?_
    refine wpC_ret ?_
    exact ⟨.inl rfl, fun a ha => ⟨_, results_rep1 rfl ha rfl, r11, rfl, h⟩⟩
  · replace h := h.2 hc71
    refine wpC_skip ?_
    refine wpC_seq ?_
    refine wpC_region ?_
    obtain ⟨x72, q72, x73, q73, x74, q74, x75, q75, x76, q76, x77, q77, x78, q78, x79, q79, x80, q80, x81, q81, x82, q82, x83, q83, x84, q84, x85, q85, x86, q86, x87, q87, x88, q88, x89, q89, x90, q90, x91, q91, x92, q92, x93, q93, h⟩ := h
    refine wpR_val (v := (V23 x72 x73 x74 x75 x76 x77 x78 x79 x80 x81 x82 x83 x84 x85 x86 x87 x88 x89 x90 x91 x92 x93)) (w' := w6) rfl rfl rfl (x_loadN (S23 x72 x73 x74 x75 x76 x77 x78 x79 x80 x81 x82 x83 x84 x85 x86 x87 x88 x89 x90 x91 x92 x93) rfl e6 SH_24 (K23 ⟨q72, q73, q74, q75, q76, q77, q78, q79, q80, q81, q82, q83, q84, q85, q86, q87, q88, q89, q90, q91, q92, q93⟩)) ?_
    obtain ⟨x94, q94, x95, q95, x96, q96, x97, q97, x98, q98, x99, q99, x100, q100, x101, q101, x102, q102, x103, q103, x104, q104, x105, q105, x106, q106, x107, q107, x108, q108, x109, q109, x110, q110, x111, q111, x112, q112, x113, q113, x114, q114, x115, q115, h⟩ := h
    refine wpR_val (v := (V23 x94 x95 x96 x97 x98 x99 x100 x101 x102 x103 x104 x105 x106 x107 x108 x109 x110 x111 x112 x113 x114 x115)) (w' := w6) rfl rfl rfl (x_loadN (S23 x94 x95 x96 x97 x98 x99 x100 x101 x102 x103 x104 x105 x106 x107 x108 x109 x110 x111 x112 x113 x114 x115) rfl e7 SH_24 (K23 ⟨q94, q95, q96, q97, q98, q99, q100, q101, q102, q103, q104, q105, q106, q107, q108, q109, q110, q111, q112, q113, q114, q115⟩)) ?_
    obtain ⟨b116, hb116⟩ : ∃ u, u = w6.heap.size := ⟨_, rfl⟩
    obtain ⟨w7, hw116⟩ : ∃ u, u = w6.alloc (.cells #[(Value.string x72), (Value.int .i64 x73), (Value.int .i64 x74), (Value.int .i64 x75), (Value.bool x76), (Value.int .i64 x77), (Value.bool x78), (Value.bool x79), (Value.int .i64 x80), (Value.int .i64 x81), (Value.int .i64 x82), (Value.int .i64 x83), (Sl.v x84), (Value.int .i64 x85), (Value.int .i64 x86), (Value.int .i64 x87), (Value.int .i64 x88), (Value.bool x89), (Value.int .i64 x90), (Value.int .i64 x91), (Value.int .i64 x92), (Value.int .i64 x93), (Value.string x94), (Value.int .i64 x95), (Value.int .i64 x96), (Value.int .i64 x97), (Value.bool x98), (Value.int .i64 x99), (Value.bool x100), (Value.bool x101), (Value.int .i64 x102), (Value.int .i64 x103), (Value.int .i64 x104), (Value.int .i64 x105), (Sl.v x106), (Value.int .i64 x107), (Value.int .i64 x108), (Value.int .i64 x109), (Value.int .i64 x110), (Value.bool x111), (Value.int .i64 x112), (Value.int .i64 x113), (Value.int .i64 x114), (Value.int .i64 x115)] 24) := ⟨_, rfl⟩
    replace h := h b116 w7 hb116 hw116
    refine wpR_val (v := (Sl.v (⟨some ⟨b116, 0, none⟩, 2, 2⟩ : Sl))) (w' := w7) rfl rfl rfl ((x_buildSlice (qs := [(0, (V23 x72 x73 x74 x75 x76 x77 x78 x79 x80 x81 x82 x83 x84 x85 x86 x87 x88 x89 x90 x91 x92 x93)), (1, (V23 x94 x95 x96 x97 x98 x99 x100 x101 x102 x103 x104 x105 x106 x107 x108 x109 x110 x111 x112 x113 x114 x115))]) rfl (by rfl) (BS_30_2_0_1 x72 x73 x74 x75 x76 x77 x78 x79 x80 x81 x82 x83 x84 x85 x86 x87 x88 x89 x90 x91 x92 x93 x94 x95 x96 x97 x98 x99 x100 x101 x102 x103 x104 x105 x106 x107 x108 x109 x110 x111 x112 x113 x114 x115)).trans (by rw [← hb116, ← hw116])) ?_
    refine wpR_val (v := (Sl.v (⟨some ⟨b116, 0, none⟩, 2, 2⟩ : Sl))) (w' := w7) rfl rfl rfl (x_assign (v := (Sl.v (⟨some ⟨b116, 0, none⟩, 2, 2⟩ : Sl))) rfl rfl) ?_
    refine wpR_nil ?_
    refine wpC_seq ?_
    refine wpC_cut (fun ρ => ρ 2 = (Sl.v p2) ∧ ρ 3 = (Sl.v p3) ∧ ρ 4 = (Sl.v p4) ∧ ρ 5 = (Sl.v p5) ∧ ρ 13 = (Value.bool r11) ∧ ρ 14 = (Sl.v (⟨some ⟨b116, 0, none⟩, 2, 2⟩ : Sl)) ∧ True) ⟨e2, e3, e4, e5, e13, rfl, trivial⟩ ?_
    rintro ρ ⟨e2, e3, e4, e5, e13, e14, -⟩
    refine wpC_region ?_
    refine wpR_val (v := (Sl.v p4)) (w' := w7) rfl rfl rfl (x_move (v := (Sl.v p4)) rfl e4) ?_
    refine wpR_val (v := (Sl.v p5)) (w' := w7) rfl rfl rfl (x_move (v := (Sl.v p5)) rfl e5) ?_
    obtain ⟨b117, hb117⟩ : ∃ u, u = w7.heap.size := ⟨_, rfl⟩
    obtain ⟨w8, hw117⟩ : ∃ u, u = w7.alloc (.cells #[(Sl.v p4), (Sl.v p5)] 27) := ⟨_, rfl⟩
    replace h := h b117 w8 hb117 hw117
    refine wpR_val (v := (Sl.v (⟨some ⟨b117, 0, none⟩, 2, 2⟩ : Sl))) (w' := w8) rfl rfl rfl ((x_buildSlice (qs := [(0, (Sl.v p4)), (1, (Sl.v p5))]) rfl (by rfl) (BS_31_2_0_1 p4 p5)).trans (by rw [← hb117, ← hw117])) ?_
    refine wpR_val (v := (Sl.v (⟨some ⟨b117, 0, none⟩, 2, 2⟩ : Sl))) (w' := w8) rfl rfl rfl (x_assign (v := (Sl.v (⟨some ⟨b117, 0, none⟩, 2, 2⟩ : Sl))) rfl rfl) ?_
    refine wpR_nil ?_
    refine wpC_seq ?_
    refine wpC_cut (fun ρ => ρ 2 = (Sl.v p2) ∧ ρ 3 = (Sl.v p3) ∧ ρ 4 = (Sl.v p4) ∧ ρ 13 = (Value.bool r11) ∧ ρ 14 = (Sl.v (⟨some ⟨b116, 0, none⟩, 2, 2⟩ : Sl)) ∧ ρ 15 = (Sl.v (⟨some ⟨b117, 0, none⟩, 2, 2⟩ : Sl)) ∧ True) ⟨e2, e3, e4, e13, e14, rfl, trivial⟩ ?_
    rintro ρ ⟨e2, e3, e4, e13, e14, e15, -⟩
    refine wpC_region ?_
    refine wpR_val (v := (Sl.v Sl.nil)) (w' := w8) rfl rfl rfl (x_assign (v := (Sl.v Sl.nil)) rfl rfl) ?_
    refine wpR_nil ?_
    refine wpC_seq ?_
    refine wpC_cut (fun ρ => ρ 2 = (Sl.v p2) ∧ ρ 3 = (Sl.v p3) ∧ ρ 4 = (Sl.v p4) ∧ ρ 13 = (Value.bool r11) ∧ ρ 14 = (Sl.v (⟨some ⟨b116, 0, none⟩, 2, 2⟩ : Sl)) ∧ ρ 15 = (Sl.v (⟨some ⟨b117, 0, none⟩, 2, 2⟩ : Sl)) ∧ ρ 16 = (Sl.v Sl.nil) ∧ True) ⟨e2, e3, e4, e13, e14, e15, rfl, trivial⟩ ?_
    rintro ρ ⟨e2, e3, e4, e13, e14, e15, e16, -⟩
    refine wpC_region ?_
    refine wpR_val (v := (Sl.v Sl.nil)) (w' := w8) rfl rfl rfl (x_assign (v := (Sl.v Sl.nil)) rfl rfl) ?_
    refine wpR_nil ?_
    refine wpC_seq ?_
    refine wpC_cut (fun ρ => ρ 2 = (Sl.v p2) ∧ ρ 3 = (Sl.v p3) ∧ ρ 4 = (Sl.v p4) ∧ ρ 13 = (Value.bool r11) ∧ ρ 14 = (Sl.v (⟨some ⟨b116, 0, none⟩, 2, 2⟩ : Sl)) ∧ ρ 15 = (Sl.v (⟨some ⟨b117, 0, none⟩, 2, 2⟩ : Sl)) ∧ ρ 16 = (Sl.v Sl.nil) ∧ ρ 17 = (Sl.v Sl.nil) ∧ True) ⟨e2, e3, e4, e13, e14, e15, e16, rfl, trivial⟩ ?_
    rintro ρ ⟨e2, e3, e4, e13, e14, e15, e16, e17, -⟩
    refine wpC_region ?_
    refine wpR_val (v := (Sl.v Sl.nil)) (w' := w8) rfl rfl rfl (x_assign (v := (Sl.v Sl.nil)) rfl rfl) ?_
    refine wpR_nil ?_
    refine wpC_seq ?_
    refine wpC_seq ?_
    refine wpC_cut (fun ρ => ρ 2 = (Sl.v p2) ∧ ρ 3 = (Sl.v p3) ∧ ρ 4 = (Sl.v p4) ∧ ρ 13 = (Value.bool r11) ∧ ρ 14 = (Sl.v (⟨some ⟨b116, 0, none⟩, 2, 2⟩ : Sl)) ∧ ρ 15 = (Sl.v (⟨some ⟨b117, 0, none⟩, 2, 2⟩ : Sl)) ∧ ρ 16 = (Sl.v Sl.nil) ∧ ρ 17 = (Sl.v Sl.nil) ∧ ρ 18 = (Sl.v Sl.nil) ∧ True) ⟨e2, e3, e4, e13, e14, e15, e16, e17, rfl, trivial⟩ ?_
    rintro ρ ⟨e2, e3, e4, e13, e14, e15, e16, e17, e18, -⟩
    refine wpC_region ?_
    refine wpR_val (v := (Value.int .i64 0)) (w' := w8) rfl rfl rfl (x_assign (v := (Value.int .i64 0)) rfl rfl) ?_
    refine wpR_nil ?_
    refine wpC_block ?_
    obtain ⟨I118, μ118, hI118, hr118⟩ := h
    refine wpC_loop (fun (x : Sl × Sl × Sl × Int) ρ => ρ 16 = (Sl.v x.1) ∧ ρ 17 = (Sl.v x.2.1) ∧ ρ 18 = (Sl.v x.2.2.1) ∧ ρ 19 = (Value.int .i64 x.2.2.2) ∧ ρ 2 = (Sl.v p2) ∧ ρ 3 = (Sl.v p3) ∧ ρ 4 = (Sl.v p4) ∧ ρ 13 = (Value.bool r11) ∧ ρ 14 = (Sl.v (⟨some ⟨b116, 0, none⟩, 2, 2⟩ : Sl)) ∧ ρ 15 = (Sl.v (⟨some ⟨b117, 0, none⟩, 2, 2⟩ : Sl)) ∧ True) I118 μ118 (Sl.nil, Sl.nil, Sl.nil, 0) ⟨e16, e17, e18, rfl, e2, e3, e4, e13, e14, e15, trivial⟩ hI118 ?_
    rintro l118 ρ w9 ⟨e16, e17, e18, e19, e2, e3, e4, e13, e14, e15, -⟩ h
    replace h := hr118 l118 w9 h
    clear hr118 hI118
    refine wpC_seq ?_
    refine wpC_seq ?_
    refine wpC_region ?_
    refine wpR_val (v := (Value.int .i64 l118.2.2.2)) (w' := w9) rfl rfl rfl (x_move (v := (Value.int .i64 l118.2.2.2)) rfl e19) ?_
    refine wpR_val (v := (Sl.v p4)) (w' := w9) rfl rfl rfl (x_move (v := (Sl.v p4)) rfl e4) ?_
    refine wpR_val (v := (Value.int .i64 (p4.len : Int))) (w' := w9) rfl rfl rfl (x_lenS (s := p4) rfl rfl isSliceT_27) ?_
    refine wpR_val (v := (Value.bool (decide (l118.2.2.2 < (p4.len : Int))))) (w' := w9) rfl rfl rfl (x_lss rfl rfl rfl) ?_
    refine wpR_nil ?_
    refine wpC_cond (b := decide (l118.2.2.2 < (p4.len : Int))) rfl (fun hc119 => ?_) (fun hc119 => ?_)
    · replace h := h.1 hc119
      refine wpC_skip ?_
      refine wpC_seq ?_
      refine wpC_block ?_
      refine wpC_seq ?_
      refine wpC_seq ?_
      refine wpC_cut (fun ρ => ρ 2 = (Sl.v p2) ∧ ρ 3 = (Sl.v p3) ∧ ρ 4 = (Sl.v p4) ∧ ρ 13 = (Value.bool r11) ∧ ρ 14 = (Sl.v (⟨some ⟨b116, 0, none⟩, 2, 2⟩ : Sl)) ∧ ρ 15 = (Sl.v (⟨some ⟨b117, 0, none⟩, 2, 2⟩ : Sl)) ∧ ρ 16 = (Sl.v l118.1) ∧ ρ 17 = (Sl.v l118.2.1) ∧ ρ 18 = (Sl.v l118.2.2.1) ∧ ρ 19 = (Value.int .i64 l118.2.2.2) ∧ True) ⟨e2, e3, e4, e13, e14, e15, e16, e17, e18, e19, trivial⟩ ?_
      rintro ρ ⟨e2, e3, e4, e13, e14, e15, e16, e17, e18, e19, -⟩
      refine wpC_region ?_
      refine wpR_val (v := (Value.int .i64 0)) (w' := w9) rfl rfl rfl (x_assign (v := (Value.int .i64 0)) rfl rfl) ?_
      refine wpR_nil ?_
      refine wpC_block ?_
      obtain ⟨I120, μ120, hI120, hr120⟩ := h
      refine wpC_loop (fun (x : Sl × Sl × Int) ρ => ρ 16 = (Sl.v x.1) ∧ ρ 17 = (Sl.v x.2.1) ∧ ρ 20 = (Value.int .i64 x.2.2) ∧ ρ 2 = (Sl.v p2) ∧ ρ 3 = (Sl.v p3) ∧ ρ 4 = (Sl.v p4) ∧ ρ 13 = (Value.bool r11) ∧ ρ 14 = (Sl.v (⟨some ⟨b116, 0, none⟩, 2, 2⟩ : Sl)) ∧ ρ 15 = (Sl.v (⟨some ⟨b117, 0, none⟩, 2, 2⟩ : Sl)) ∧ ρ 18 = (Sl.v l118.2.2.1) ∧ ρ 19 = (Value.int .i64 l118.2.2.2) ∧ True) I120 μ120 (l118.1, l118.2.1, 0) ⟨e16, e17, rfl, e2, e3, e4, e13, e14, e15, e18, e19, trivial⟩ hI120 ?_
      rintro l120 ρ w10 ⟨e16, e17, e20, e2, e3, e4, e13, e14, e15, e18, e19, -⟩ h
      replace h := hr120 l120 w10 h
      clear hr120 hI120
      refine wpC_seq ?_
      refine wpC_seq ?_
      refine wpC_region ?_
      refine wpR_val (v := (Value.int .i64 l120.2.2)) (w' := w10) rfl rfl rfl (x_move (v := (Value.int .i64 l120.2.2)) rfl e20) ?_
      refine wpR_val (v := (Sl.v p2)) (w' := w10) rfl rfl rfl (x_move (v := (Sl.v p2)) rfl e2) ?_
      refine wpR_val (v := (Value.int .i64 (p2.len : Int))) (w' := w10) rfl rfl rfl (x_lenS (s := p2) rfl rfl isSliceT_25) ?_
      refine wpR_val (v := (Value.bool (decide (l120.2.2 < (p2.len : Int))))) (w' := w10) rfl rfl rfl (x_lss rfl rfl rfl) ?_
      refine wpR_nil ?_
      refine wpC_cond (b := decide (l120.2.2 < (p2.len : Int))) rfl (fun hc121 => ?_) (fun hc121 => ?_)
      · replace h := h.1 hc121
        refine wpC_skip ?_
        obtain ⟨J122, h, hk⟩ := h
        refine wpC_seqJ (fun (x : Sl × Sl) ρ => ρ 16 = (Sl.v x.1) ∧ ρ 17 = (Sl.v x.2) ∧ ρ 2 = (Sl.v p2) ∧ ρ 3 = (Sl.v p3) ∧ ρ 4 = (Sl.v p4) ∧ ρ 13 = (Value.bool r11) ∧ ρ 14 = (Sl.v (⟨some ⟨b116, 0, none⟩, 2, 2⟩ : Sl)) ∧ ρ 15 = (Sl.v (⟨some ⟨b117, 0, none⟩, 2, 2⟩ : Sl)) ∧ ρ 18 = (Sl.v l118.2.2.1) ∧ ρ 19 = (Value.int .i64 l118.2.2.2) ∧ ρ 20 = (Value.int .i64 l120.2.2) ∧ True) J122 ?_ ?_
        · clear hk
          refine wpC_block ?_
          refine wpC_seq ?_
          refine wpC_seq ?_
          refine wpC_cut (fun ρ => ρ 2 = (Sl.v p2) ∧ ρ 3 = (Sl.v p3) ∧ ρ 4 = (Sl.v p4) ∧ ρ 13 = (Value.bool r11) ∧ ρ 14 = (Sl.v (⟨some ⟨b116, 0, none⟩, 2, 2⟩ : Sl)) ∧ ρ 15 = (Sl.v (⟨some ⟨b117, 0, none⟩, 2, 2⟩ : Sl)) ∧ ρ 16 = (Sl.v l120.1) ∧ ρ 17 = (Sl.v l120.2.1) ∧ ρ 18 = (Sl.v l118.2.2.1) ∧ ρ 19 = (Value.int .i64 l118.2.2.2) ∧ ρ 20 = (Value.int .i64 l120.2.2) ∧ True) ⟨e2, e3, e4, e13, e14, e15, e16, e17, e18, e19, e20, trivial⟩ ?_
          rintro ρ ⟨e2, e3, e4, e13, e14, e15, e16, e17, e18, e19, e20, -⟩
          refine wpC_region ?_
          refine wpR_val (v := (Sl.v p3)) (w' := w10) rfl rfl rfl (x_move (v := (Sl.v p3)) rfl e3) ?_
          refine wpR_val (v := (Value.int .i64 l120.2.2)) (w' := w10) rfl rfl rfl (x_move (v := (Value.int .i64 l120.2.2)) rfl e20) ?_
          obtain ⟨q124, z124, r124, h⟩ := h
          generalize hp124 : z124.add ((l120.2.2 : Int).toNat * 1) = p124 at h
          refine wpR_val (v := (Value.pointer (some p124))) (w' := w10) rfl rfl rfl ((x_indexAddr (s := p3) rfl rfl rfl ES_26 q124 r124).trans (by rw [hp124])) ?_
          obtain ⟨x125, q125, h⟩ := h
          refine wpR_val (v := (Value.int .u8 x125)) (w' := w10) rfl rfl rfl (x_load1 rfl rfl SH_5 q125) ?_
          refine wpR_val (v := (Value.int .i64 (IntKind.i64.wrap x125))) (w' := w10) rfl rfl rfl (x_convI rfl rfl IK_3 IK_5) ?_
          refine wpR_val (v := (Value.int .i64 ((IntKind.i64.wrap x125).tmod 40))) (w' := w10) rfl rfl rfl (x_rem rfl rfl rfl (by decide)) ?_
          refine wpR_val (v := (Value.int .i64 l118.2.2.2)) (w' := w10) rfl rfl rfl (x_move (v := (Value.int .i64 l118.2.2.2)) rfl e19) ?_
          refine wpR_val (v := (Value.bool (!decide (((IntKind.i64.wrap x125).tmod 40) = l118.2.2.2)))) (w' := w10) rfl rfl rfl (x_neq rfl rfl rfl) ?_
          refine wpR_val (v := (Value.bool (!decide (((IntKind.i64.wrap x125).tmod 40) = l118.2.2.2)))) (w' := w10) rfl rfl rfl (x_move (v := (Value.bool (!decide (((IntKind.i64.wrap x125).tmod 40) = l118.2.2.2)))) rfl rfl) ?_
          obtain ⟨J126, h, hk⟩ := h
          refine wpR_joinJ 7 (fun x ρ => ρ 102 = Value.bool x ∧ ρ 2 = (Sl.v p2) ∧ ρ 3 = (Sl.v p3) ∧ ρ 4 = (Sl.v p4) ∧ ρ 13 = (Value.bool r11) ∧ ρ 14 = (Sl.v (⟨some ⟨b116, 0, none⟩, 2, 2⟩ : Sl)) ∧ ρ 15 = (Sl.v (⟨some ⟨b117, 0, none⟩, 2, 2⟩ : Sl)) ∧ ρ 16 = (Sl.v l120.1) ∧ ρ 17 = (Sl.v l120.2.1) ∧ ρ 18 = (Sl.v l118.2.2.1) ∧ ρ 19 = (Value.int .i64 l118.2.2.2) ∧ ρ 20 = (Value.int .i64 l120.2.2) ∧ True) (fun x w => J126 x ∧ w10 = w) ?_ ?_
          · clear hk
            rcases Bool.eq_false_or_eq_true (!decide (((IntKind.i64.wrap x125).tmod 40) = l118.2.2.2)) with hc127 | hc127
            · replace h := h.1 hc127
              refine wpR_pass (wantN rfl rfl rfl hc127) rfl rfl ?_
              refine wpR_pass (wantN rfl rfl rfl hc127) rfl rfl ?_
              refine wpR_pass (wantN rfl rfl rfl hc127) rfl rfl ?_
              refine wpR_pass (wantN rfl rfl rfl hc127) rfl rfl ?_
              refine wpR_pass (wantN rfl rfl rfl hc127) rfl rfl ?_
              refine wpR_pass (wantN rfl rfl rfl hc127) rfl rfl ?_
              refine wpR_val (v := (Value.bool true)) (w' := w10) rfl rfl rfl (x_pickT (v := (Value.bool true)) rfl rfl hc127 rfl) ?_
              refine wpR_nil ?_
              exact ⟨true, ⟨rfl, e2, e3, e4, e13, e14, e15, e16, e17, e18, e19, e20, trivial⟩, h, rfl⟩
            · replace h := h.2 hc127
              refine wpR_val (v := (Sl.v p2)) (w' := w10) (wantG rfl rfl rfl hc127) rfl rfl (x_move (v := (Sl.v p2)) rfl e2) ?_
              refine wpR_val (v := (Value.int .i64 l120.2.2)) (w' := w10) (wantG rfl rfl rfl hc127) rfl rfl (x_move (v := (Value.int .i64 l120.2.2)) rfl e20) ?_
              obtain ⟨q128, z128, r128, h⟩ := h
              generalize hp128 : z128.add ((l120.2.2 : Int).toNat * 4) = p128 at h
              refine wpR_val (v := (Value.pointer (some p128))) (w' := w10) (wantG rfl rfl rfl hc127) rfl rfl ((x_indexAddr (s := p2) rfl rfl rfl ES_25 q128 r128).trans (by rw [hp128])) ?_
              refine wpR_val (v := (Value.pointer (some (p128.add 1)))) (w' := w10) (wantG rfl rfl rfl hc127) rfl rfl (x_fieldAddr rfl rfl FA_34_1) ?_
              obtain ⟨x129, q129, h⟩ := h
              refine wpR_val (v := (Value.int .i64 x129)) (w' := w10) (wantG rfl rfl rfl hc127) rfl rfl (x_load1 rfl rfl SH_3 q129) ?_
              refine wpR_val (v := (Value.bool (decide (x129 < 0)))) (w' := w10) (wantG rfl rfl rfl hc127) rfl rfl (x_lss rfl rfl rfl) ?_
              refine wpR_val (v := (Value.bool (decide (x129 < 0)))) (w' := w10) rfl rfl rfl (x_pickF (v := (Value.bool (decide (x129 < 0)))) rfl rfl hc127 rfl) ?_
              refine wpR_nil ?_
              exact ⟨decide (x129 < 0), ⟨rfl, e2, e3, e4, e13, e14, e15, e16, e17, e18, e19, e20, trivial⟩, h, rfl⟩
          clear h
          rintro c130 ρ wj ⟨e102, e2, e3, e4, e13, e14, e15, e16, e17, e18, e19, e20, -⟩ ⟨h, rfl⟩
          replace h := hk c130 h
          clear hk
          refine wpR_val (v := (Value.bool c130)) (w' := w10) rfl rfl rfl (x_move (v := (Value.bool c130)) rfl e102) ?_
          obtain ⟨J131, h, hk⟩ := h
          refine wpR_joinJ 7 (fun x ρ => ρ 110 = Value.bool x ∧ ρ 2 = (Sl.v p2) ∧ ρ 3 = (Sl.v p3) ∧ ρ 4 = (Sl.v p4) ∧ ρ 13 = (Value.bool r11) ∧ ρ 14 = (Sl.v (⟨some ⟨b116, 0, none⟩, 2, 2⟩ : Sl)) ∧ ρ 15 = (Sl.v (⟨some ⟨b117, 0, none⟩, 2, 2⟩ : Sl)) ∧ ρ 16 = (Sl.v l120.1) ∧ ρ 17 = (Sl.v l120.2.1) ∧ ρ 18 = (Sl.v l118.2.2.1) ∧ ρ 19 = (Value.int .i64 l118.2.2.2) ∧ ρ 20 = (Value.int .i64 l120.2.2) ∧ True) (fun x w => J131 x ∧ w10 = w) ?_ ?_
          · clear hk
            rcases Bool.eq_false_or_eq_true (c130) with hc132 | hc132
            · replace h := h.1 hc132
              refine wpR_pass (wantN rfl rfl rfl hc132) rfl rfl ?_
              refine wpR_pass (wantN rfl rfl rfl hc132) rfl rfl ?_
              refine wpR_pass (wantN rfl rfl rfl hc132) rfl rfl ?_
              refine wpR_pass (wantN rfl rfl rfl hc132) rfl rfl ?_
              refine wpR_pass (wantN rfl rfl rfl hc132) rfl rfl ?_
              refine wpR_pass (wantN rfl rfl rfl hc132) rfl rfl ?_
              refine wpR_val (v := (Value.bool true)) (w' := w10) rfl rfl rfl (x_pickT (v := (Value.bool true)) rfl rfl hc132 rfl) ?_
              refine wpR_nil ?_
              exact ⟨true, ⟨rfl, e2, e3, e4, e13, e14, e15, e16, e17, e18, e19, e20, trivial⟩, h, rfl⟩
            · replace h := h.2 hc132
              refine wpR_val (v := (Sl.v p2)) (w' := w10) (wantG rfl rfl rfl hc132) rfl rfl (x_move (v := (Sl.v p2)) rfl e2) ?_
              refine wpR_val (v := (Value.int .i64 l120.2.2)) (w' := w10) (wantG rfl rfl rfl hc132) rfl rfl (x_move (v := (Value.int .i64 l120.2.2)) rfl e20) ?_
              obtain ⟨q133, z133, r133, h⟩ := h
              generalize hp133 : z133.add ((l120.2.2 : Int).toNat * 4) = p133 at h
              refine wpR_val (v := (Value.pointer (some p133))) (w' := w10) (wantG rfl rfl rfl hc132) rfl rfl ((x_indexAddr (s := p2) rfl rfl rfl ES_25 q133 r133).trans (by rw [hp133])) ?_
              refine wpR_val (v := (Value.pointer (some (p133.add 1)))) (w' := w10) (wantG rfl rfl rfl hc132) rfl rfl (x_fieldAddr rfl rfl FA_34_1) ?_
              obtain ⟨x134, q134, h⟩ := h
              refine wpR_val (v := (Value.int .i64 x134)) (w' := w10) (wantG rfl rfl rfl hc132) rfl rfl (x_load1 rfl rfl SH_3 q134) ?_
              refine wpR_val (v := (Value.bool (decide (1 < x134)))) (w' := w10) (wantG rfl rfl rfl hc132) rfl rfl (x_gtr rfl rfl rfl) ?_
              refine wpR_val (v := (Value.bool (decide (1 < x134)))) (w' := w10) rfl rfl rfl (x_pickF (v := (Value.bool (decide (1 < x134)))) rfl rfl hc132 rfl) ?_
              refine wpR_nil ?_
              exact ⟨decide (1 < x134), ⟨rfl, e2, e3, e4, e13, e14, e15, e16, e17, e18, e19, e20, trivial⟩, h, rfl⟩
          clear h
          rintro c135 ρ wj ⟨e110, e2, e3, e4, e13, e14, e15, e16, e17, e18, e19, e20, -⟩ ⟨h, rfl⟩
          replace h := hk c135 h
          clear hk
          refine wpR_nil ?_
          refine wpC_cond (b := c135) e110 (fun hc136 => ?_) (fun hc136 => ?_)
          · replace h := h.1 hc136
            refine wpC_exit ?_
            exact ⟨(l120.1, l120.2.1), ⟨e16, e17, e2, e3, e4, e13, e14, e15, e18, e19, e20, trivial⟩, h⟩
          · replace h := h.2 hc136
            refine wpC_skip ?_
            refine wpC_seq ?_
            obtain ⟨J138, h, hk⟩ := h
            refine wpC_drawJ (by kernel_rfl) (fun (x : Sl × Int) ρ => ρ 21 = (Sl.v x.1) ∧ ρ 22 = (Value.int .i64 x.2) ∧ ρ 2 = (Sl.v p2) ∧ ρ 3 = (Sl.v p3) ∧ ρ 4 = (Sl.v p4) ∧ ρ 13 = (Value.bool r11) ∧ ρ 14 = (Sl.v (⟨some ⟨b116, 0, none⟩, 2, 2⟩ : Sl)) ∧ ρ 15 = (Sl.v (⟨some ⟨b117, 0, none⟩, 2, 2⟩ : Sl)) ∧ ρ 16 = (Sl.v l120.1) ∧ ρ 17 = (Sl.v l120.2.1) ∧ ρ 18 = (Sl.v l118.2.2.1) ∧ ρ 19 = (Value.int .i64 l118.2.2.2) ∧ ρ 20 = (Value.int .i64 l120.2.2) ∧ True) J138 ?_ ?_
            · clear hk
              unfold tk at h
              generalize w10.drew = w12 at h ⊢
              refine wpD_take (v := (Sl.v (⟨some ⟨b116, 0, none⟩, 2, 2⟩ : Sl))) 0 (fun _ => True) rfl (by kernel_rfl) (by kernel_rfl) (by kernel_rfl) rfl rfl rfl trivial (fun w _ => (x_move (v := (Sl.v (⟨some ⟨b116, 0, none⟩, 2, 2⟩ : Sl))) rfl e14)) ?_
              refine wpD_take (v := (Sl.v p2)) 1 (fun _ => True) rfl (by kernel_rfl) (by kernel_rfl) (by kernel_rfl) rfl rfl rfl trivial (fun w _ => (x_move (v := (Sl.v p2)) rfl e2)) ?_
              refine wpD_take (v := (Value.int .i64 l120.2.2)) 2 (fun _ => True) rfl (by kernel_rfl) (by kernel_rfl) (by kernel_rfl) rfl rfl rfl trivial (fun w _ => (x_move (v := (Value.int .i64 l120.2.2)) rfl e20)) ?_
              obtain ⟨q139, z139, r139, h⟩ := h
              generalize hp139 : z139.add ((l120.2.2 : Int).toNat * 4) = p139 at h
              refine wpD_take (v := (Value.pointer (some p139))) 3 (fun _ => True) rfl (by kernel_rfl) (by kernel_rfl) (by kernel_rfl) rfl rfl rfl trivial (fun w _ => ((x_indexAddr (s := p2) rfl rfl rfl ES_25 q139 r139).trans (by rw [hp139]))) ?_
              refine wpD_take (v := (Value.pointer (some (p139.add 1)))) 4 (fun _ => True) rfl (by kernel_rfl) (by kernel_rfl) (by kernel_rfl) rfl rfl rfl trivial (fun w _ => (x_fieldAddr rfl rfl FA_34_1)) ?_
              obtain ⟨x140, q140, h⟩ := h
              refine wpD_take (v := (Value.int .i64 x140)) 5 (fun w => w.cell? (p139.add 1) = some (Value.int .i64 x140)) rfl (by kernel_rfl) (by kernel_rfl) (by kernel_rfl) rfl rfl rfl q140 (fun w q140 => (x_load1 rfl rfl SH_3 q140)) ?_
              obtain ⟨q141, z141, r141, h⟩ := h
              generalize hp141 : z141.add ((x140 : Int).toNat * 22) = p141 at h
              refine wpD_take (v := (Value.pointer (some p141))) 6 (fun _ => True) rfl (by kernel_rfl) (by kernel_rfl) (by kernel_rfl) rfl rfl rfl trivial (fun w _ => ((x_indexAddr (s := (⟨some ⟨b116, 0, none⟩, 2, 2⟩ : Sl)) rfl rfl rfl ES_30 q141 r141).trans (by rw [hp141]))) ?_
              obtain ⟨x142, q142, x143, q143, x144, q144, x145, q145, x146, q146, x147, q147, x148, q148, x149, q149, x150, q150, x151, q151, x152, q152, x153, q153, x154, q154, x155, q155, x156, q156, x157, q157, x158, q158, x159, q159, x160, q160, x161, q161, x162, q162, x163, q163, h⟩ := h
              refine wpD_take (v := (V23 x142 x143 x144 x145 x146 x147 x148 x149 x150 x151 x152 x153 x154 x155 x156 x157 x158 x159 x160 x161 x162 x163)) 7 (fun w => C23 p141 x142 x143 x144 x145 x146 x147 x148 x149 x150 x151 x152 x153 x154 x155 x156 x157 x158 x159 x160 x161 x162 x163 w) rfl (by kernel_rfl) (by kernel_rfl) (by kernel_rfl) rfl rfl rfl ⟨q142, q143, q144, q145, q146, q147, q148, q149, q150, q151, q152, q153, q154, q155, q156, q157, q158, q159, q160, q161, q162, q163⟩ (fun w q => (x_loadN (S23 x142 x143 x144 x145 x146 x147 x148 x149 x150 x151 x152 x153 x154 x155 x156 x157 x158 x159 x160 x161 x162 x163) rfl rfl SH_24 (K23 q))) ?_
              refine wpD_take (v := (Sl.v l120.1)) 8 (fun _ => True) rfl (by kernel_rfl) (by kernel_rfl) (by kernel_rfl) rfl rfl rfl trivial (fun w _ => (x_move (v := (Sl.v l120.1)) rfl e16)) ?_
              refine wpD_take (v := (Sl.v p2)) 9 (fun _ => True) rfl (by kernel_rfl) (by kernel_rfl) (by kernel_rfl) rfl rfl rfl trivial (fun w _ => (x_move (v := (Sl.v p2)) rfl e2)) ?_
              refine wpD_take (v := (Value.int .i64 l120.2.2)) 10 (fun _ => True) rfl (by kernel_rfl) (by kernel_rfl) (by kernel_rfl) rfl rfl rfl trivial (fun w _ => (x_move (v := (Value.int .i64 l120.2.2)) rfl e20)) ?_
              obtain ⟨q164, z164, r164, h⟩ := h
              generalize hp164 : z164.add ((l120.2.2 : Int).toNat * 4) = p164 at h
              refine wpD_take (v := (Value.pointer (some p164))) 11 (fun _ => True) rfl (by kernel_rfl) (by kernel_rfl) (by kernel_rfl) rfl rfl rfl trivial (fun w _ => ((x_indexAddr (s := p2) rfl rfl rfl ES_25 q164 r164).trans (by rw [hp164]))) ?_
              obtain ⟨x165, q165, x166, q166, x167, q167, x168, q168, h⟩ := h
              refine wpD_take (v := (Value.agg #[(Value.int .i64 x165), (Value.int .i64 x166), (Value.int .i64 x167), (Value.int .i64 x168)])) 12 (fun w => w.cell? (p164.add 0) = some (Value.int .i64 x165) ∧ w.cell? (p164.add 1) = some (Value.int .i64 x166) ∧ w.cell? (p164.add 2) = some (Value.int .i64 x167) ∧ w.cell? (p164.add 3) = some (Value.int .i64 x168)) rfl (by kernel_rfl) (by kernel_rfl) (by kernel_rfl) rfl rfl rfl ⟨q165, q166, q167, q168⟩ (fun w ⟨q165, q166, q167, q168⟩ => (x_loadN [(Value.int .i64 x165), (Value.int .i64 x166), (Value.int .i64 x167), (Value.int .i64 x168)] rfl rfl SH_34 (CellsAt.out (CellsAt.cons q165 (CellsAt.cons q166 (CellsAt.cons q167 (CellsAt.cons q168 CellsAt.nil))))))) ?_
              refine wpD_take (v := (Value.int .i64 l118.2.2.2)) 13 (fun _ => True) rfl (by kernel_rfl) (by kernel_rfl) (by kernel_rfl) rfl rfl rfl trivial (fun w _ => (x_move (v := (Value.int .i64 l118.2.2.2)) rfl e19)) ?_
              refine wpD_all (rs := [14]) (by kernel_rfl) (by simp) (allD_cons ?_ allD_nil)
              refine stepD_enterL (L' := [(11, fun _ => True), (10, fun _ => True), (9, fun _ => True), (6, fun _ => True), (5, fun w => w.cell? (p139.add 1) = some (Value.int .i64 x140)), (4, fun _ => True), (3, fun _ => True), (2, fun _ => True), (1, fun _ => True), (0, fun _ => True)]) rfl rfl rfl rfl (x_call (vs := [(V23 x142 x143 x144 x145 x146 x147 x148 x149 x150 x151 x152 x153 x154 x155 x156 x157 x158 x159 x160 x161 x162 x163), (Sl.v l120.1), (Value.agg #[(Value.int .i64 x165), (Value.int .i64 x166), (Value.int .i64 x167), (Value.int .i64 x168)]), (Value.int .i64 l118.2.2.2)]) rfl rfl (mapl_cons rfl (mapl_cons rfl (mapl_cons rfl (mapl_cons rfl mapl_nil)))) Try.func6 NN_6 NB_6) (by kernel_rfl) (Calls.mono h ?_)
              rintro _ w13 ⟨r169, rfl, h⟩
              obtain ⟨o5, h⟩ := h
              refine ⟨_, rfl, (held_cons trivial (held_cons trivial (held_cons trivial (held_cons trivial (held_cons o5 (held_cons trivial (held_cons trivial (held_cons trivial (held_cons trivial (held_cons trivial held_nil)))))))))), ?_⟩
              refine wpD_take (v := (Value.tuple #[(Sl.v r169.1), (Value.int .i64 r169.2)])) 15 (fun _ => True) rfl (by kernel_rfl) (by kernel_rfl) (by kernel_rfl) rfl rfl rfl trivial (fun w _ => (x_move (v := (Value.tuple #[(Sl.v r169.1), (Value.int .i64 r169.2)])) rfl rfl)) ?_
              refine wpD_take (v := (Sl.v r169.1)) 16 (fun _ => True) rfl (by kernel_rfl) (by kernel_rfl) (by kernel_rfl) rfl rfl rfl trivial (fun w _ => (x_extract rfl rfl rfl)) ?_
              refine wpD_take (v := (Value.int .i64 r169.2)) 17 (fun _ => True) rfl (by kernel_rfl) (by kernel_rfl) (by kernel_rfl) rfl rfl rfl trivial (fun w _ => (x_extract rfl rfl rfl)) ?_
              refine wpD_take (v := (Sl.v r169.1)) 18 (fun _ => True) rfl (by kernel_rfl) (by kernel_rfl) (by kernel_rfl) rfl rfl rfl trivial (fun w _ => (x_assign (v := (Sl.v r169.1)) rfl rfl)) ?_
              refine wpD_take (v := (Value.int .i64 r169.2)) 19 (fun _ => True) rfl (by kernel_rfl) (by kernel_rfl) (by kernel_rfl) rfl rfl rfl trivial (fun w _ => (x_assign (v := (Value.int .i64 r169.2)) rfl rfl)) ?_
              exact wpD_done (by kernel_rfl) ⟨(r169.1, r169.2), ⟨rfl, rfl, e2, e3, e4, e13, e14, e15, e16, e17, e18, e19, e20, trivial⟩, h⟩
            clear h
            rintro l170 ρ w14 ⟨e21, e22, e2, e3, e4, e13, e14, e15, e16, e17, e18, e19, e20, -⟩ h
            replace h := hk l170 w14 h
            clear hk
            obtain ⟨J171, h, hk⟩ := h
            refine wpC_seqJ (fun (x : Sl) ρ => ρ 17 = (Sl.v x) ∧ ρ 2 = (Sl.v p2) ∧ ρ 3 = (Sl.v p3) ∧ ρ 4 = (Sl.v p4) ∧ ρ 13 = (Value.bool r11) ∧ ρ 14 = (Sl.v (⟨some ⟨b116, 0, none⟩, 2, 2⟩ : Sl)) ∧ ρ 15 = (Sl.v (⟨some ⟨b117, 0, none⟩, 2, 2⟩ : Sl)) ∧ ρ 18 = (Sl.v l118.2.2.1) ∧ ρ 19 = (Value.int .i64 l118.2.2.2) ∧ ρ 20 = (Value.int .i64 l120.2.2) ∧ ρ 21 = (Sl.v l170.1) ∧ True) J171 ?_ ?_
            · clear hk
              refine wpC_seq ?_
              refine wpC_region ?_
              refine wpR_val (v := (Value.int .i64 l170.2)) (w' := w14) rfl rfl rfl (x_move (v := (Value.int .i64 l170.2)) rfl e22) ?_
              refine wpR_val (v := (Value.bool (decide (l170.2 = 0)))) (w' := w14) rfl rfl rfl (x_eql rfl rfl rfl) ?_
              refine wpR_nil ?_
              refine wpC_cond (b := decide (l170.2 = 0)) rfl (fun hc173 => ?_) (fun hc173 => ?_)
              · replace h := h.1 hc173
                refine wpC_cut (fun ρ => ρ 2 = (Sl.v p2) ∧ ρ 3 = (Sl.v p3) ∧ ρ 4 = (Sl.v p4) ∧ ρ 13 = (Value.bool r11) ∧ ρ 14 = (Sl.v (⟨some ⟨b116, 0, none⟩, 2, 2⟩ : Sl)) ∧ ρ 15 = (Sl.v (⟨some ⟨b117, 0, none⟩, 2, 2⟩ : Sl)) ∧ ρ 17 = (Sl.v l120.2.1) ∧ ρ 18 = (Sl.v l118.2.2.1) ∧ ρ 19 = (Value.int .i64 l118.2.2.2) ∧ ρ 20 = (Value.int .i64 l120.2.2) ∧ ρ 21 = (Sl.v l170.1) ∧ True) ⟨e2, e3, e4, e13, e14, e15, e17, e18, e19, e20, e21, trivial⟩ ?_
                rintro ρ ⟨e2, e3, e4, e13, e14, e15, e17, e18, e19, e20, e21, -⟩
                refine wpC_region ?_
                refine wpR_val (v := (Sl.v l120.2.1)) (w' := w14) rfl rfl rfl (x_move (v := (Sl.v l120.2.1)) rfl e17) ?_
                refine wpR_val (v := (Sl.v p2)) (w' := w14) rfl rfl rfl (x_move (v := (Sl.v p2)) rfl e2) ?_
                refine wpR_val (v := (Value.int .i64 l120.2.2)) (w' := w14) rfl rfl rfl (x_move (v := (Value.int .i64 l120.2.2)) rfl e20) ?_
                obtain ⟨q174, z174, r174, h⟩ := h
                generalize hp174 : z174.add ((l120.2.2 : Int).toNat * 4) = p174 at h
                refine wpR_val (v := (Value.pointer (some p174))) (w' := w14) rfl rfl rfl ((x_indexAddr (s := p2) rfl rfl rfl ES_25 q174 r174).trans (by rw [hp174])) ?_
                obtain ⟨x175, q175, x176, q176, x177, q177, x178, q178, h⟩ := h
                refine wpR_val (v := (Value.agg #[(Value.int .i64 x175), (Value.int .i64 x176), (Value.int .i64 x177), (Value.int .i64 x178)])) (w' := w14) rfl rfl rfl (x_loadN [(Value.int .i64 x175), (Value.int .i64 x176), (Value.int .i64 x177), (Value.int .i64 x178)] rfl rfl SH_34 (CellsAt.out (CellsAt.cons q175 (CellsAt.cons q176 (CellsAt.cons q177 (CellsAt.cons q178 CellsAt.nil)))))) ?_
                obtain ⟨b179, hb179⟩ : ∃ u, u = w14.heap.size := ⟨_, rfl⟩
                obtain ⟨w16, hw179⟩ : ∃ u, u = w14.alloc (.cells #[(Value.int .i64 x175), (Value.int .i64 x176), (Value.int .i64 x177), (Value.int .i64 x178)] 34) := ⟨_, rfl⟩
                replace h := h b179 w16 hb179 hw179
                refine wpR_val (v := (Sl.v (⟨some ⟨b179, 0, none⟩, 1, 1⟩ : Sl))) (w' := w16) rfl rfl rfl ((x_buildSlice (qs := [(0, (Value.agg #[(Value.int .i64 x175), (Value.int .i64 x176), (Value.int .i64 x177), (Value.int .i64 x178)]))]) rfl (by rfl) (BS_25_1_0 x175 x176 x177 x178)).trans (by rw [← hb179, ← hw179])) ?_
                obtain ⟨r180, w17, q180, h⟩ := h
                refine wpR_val (v := (Sl.v r180)) (w' := w17) rfl rfl rfl (x_append (s := l120.2.1) (u := (⟨some ⟨b179, 0, none⟩, 1, 1⟩ : Sl)) rfl rfl rfl rfl q180) ?_
                refine wpR_val (v := (Sl.v r180)) (w' := w17) rfl rfl rfl (x_assign (v := (Sl.v r180)) rfl rfl) ?_
                refine wpR_nil ?_
                exact ⟨r180, ⟨rfl, e2, e3, e4, e13, e14, e15, e18, e19, e20, e21, trivial⟩, h⟩
              · replace h := h.2 hc173
                refine wpC_seq ?_
                refine wpC_cut (fun ρ => ρ 2 = (Sl.v p2) ∧ ρ 3 = (Sl.v p3) ∧ ρ 4 = (Sl.v p4) ∧ ρ 13 = (Value.bool r11) ∧ ρ 14 = (Sl.v (⟨some ⟨b116, 0, none⟩, 2, 2⟩ : Sl)) ∧ ρ 15 = (Sl.v (⟨some ⟨b117, 0, none⟩, 2, 2⟩ : Sl)) ∧ ρ 16 = (Sl.v l120.1) ∧ ρ 17 = (Sl.v l120.2.1) ∧ ρ 18 = (Sl.v l118.2.2.1) ∧ ρ 19 = (Value.int .i64 l118.2.2.2) ∧ ρ 20 = (Value.int .i64 l120.2.2) ∧ ρ 21 = (Sl.v l170.1) ∧ True) ⟨e2, e3, e4, e13, e14, e15, e16, e17, e18, e19, e20, e21, trivial⟩ ?_
                rintro ρ ⟨e2, e3, e4, e13, e14, e15, e16, e17, e18, e19, e20, e21, -⟩
                refine wpC_region ?_
                refine wpR_val (v := (Sl.v l170.1)) (w' := w14) rfl rfl rfl (x_move (v := (Sl.v l170.1)) rfl e21) ?_
                refine wpR_val (v := (Value.int .i64 (l170.1.len : Int))) (w' := w14) rfl rfl rfl (x_lenS (s := l170.1) rfl rfl isSliceT_25) ?_
                refine wpR_val (v := (Sl.v l120.1)) (w' := w14) rfl rfl rfl (x_move (v := (Sl.v l120.1)) rfl e16) ?_
                refine wpR_val (v := (Value.int .i64 (l120.1.len : Int))) (w' := w14) rfl rfl rfl (x_lenS (s := l120.1) rfl rfl isSliceT_25) ?_
                refine wpR_val (v := (Value.bool (!decide ((l170.1.len : Int) = (l120.1.len : Int))))) (w' := w14) rfl rfl rfl (x_neq rfl rfl rfl) ?_
                refine wpR_nil ?_
                refine wpC_cond (b := !decide ((l170.1.len : Int) = (l120.1.len : Int))) rfl (fun hc181 => ?_) (fun hc181 => ?_)
                · replace h := h.1 hc181
                  refine wpC_seq ?_
                  refine wpC_cut (fun ρ => True) trivial ?_
                  rintro ρ -
                  refine wpC_region ?_
                  refine wpR_val (v := (Value.bool false)) (w' := w14) rfl rfl rfl (x_assign (v := (Value.bool false)) rfl rfl) ?_
                  refine wpR_nil ?_
                  refine wpC_ret ?_
                  exact ⟨.inl rfl, fun a ha => ⟨_, results_rep1 rfl ha rfl, false, rfl, h⟩⟩
                · replace h := h.2 hc181
                  refine wpC_skip ?_
                  exact ⟨l120.2.1, ⟨e17, e2, e3, e4, e13, e14, e15, e18, e19, e20, e21, trivial⟩, h⟩
            clear h
            rintro l172 ρ w15 ⟨e17, e2, e3, e4, e13, e14, e15, e18, e19, e20, e21, -⟩ h
            replace h := hk l172 w15 h
            clear hk
            refine wpC_region ?_
            refine wpR_val (v := (Sl.v l170.1)) (w' := w15) rfl rfl rfl (x_move (v := (Sl.v l170.1)) rfl e21) ?_
            refine wpR_val (v := (Sl.v l170.1)) (w' := w15) rfl rfl rfl (x_assign (v := (Sl.v l170.1)) rfl rfl) ?_
            refine wpR_nil ?_
            exact ⟨(l170.1, l172), ⟨rfl, e17, e2, e3, e4, e13, e14, e15, e18, e19, e20, trivial⟩, h⟩
        clear h
        rintro l123 ρ w11 ⟨e16, e17, e2, e3, e4, e13, e14, e15, e18, e19, e20, -⟩ h
        replace h := hk l123 w11 h
        clear hk
        refine wpC_region ?_
        refine wpR_val (v := (Value.int .i64 l120.2.2)) (w' := w11) rfl rfl rfl (x_move (v := (Value.int .i64 l120.2.2)) rfl e20) ?_
        refine wpR_val (v := (Value.int .i64 (IntKind.i64.wrap (l120.2.2 + 1)))) (w' := w11) rfl rfl rfl (x_add rfl rfl rfl) ?_
        refine wpR_val (v := (Value.int .i64 (IntKind.i64.wrap (l120.2.2 + 1)))) (w' := w11) rfl rfl rfl (x_assign (v := (Value.int .i64 (IntKind.i64.wrap (l120.2.2 + 1)))) rfl rfl) ?_
        refine wpR_nil ?_
        exact ⟨(l123.1, l123.2, IntKind.i64.wrap (l120.2.2 + 1)), ⟨e16, e17, rfl, e2, e3, e4, e13, e14, e15, e18, e19, trivial⟩, h⟩
      · replace h := h.2 hc121
        refine wpC_exit ?_
        refine wpC_seq ?_
        refine wpC_cut (fun ρ => ρ 2 = (Sl.v p2) ∧ ρ 3 = (Sl.v p3) ∧ ρ 4 = (Sl.v p4) ∧ ρ 13 = (Value.bool r11) ∧ ρ 14 = (Sl.v (⟨some ⟨b116, 0, none⟩, 2, 2⟩ : Sl)) ∧ ρ 15 = (Sl.v (⟨some ⟨b117, 0, none⟩, 2, 2⟩ : Sl)) ∧ ρ 16 = (Sl.v l120.1) ∧ ρ 17 = (Sl.v l120.2.1) ∧ ρ 18 = (Sl.v l118.2.2.1) ∧ ρ 19 = (Value.int .i64 l118.2.2.2) ∧ True) ⟨e2, e3, e4, e13, e14, e15, e16, e17, e18, e19, trivial⟩ ?_
        rintro ρ ⟨e2, e3, e4, e13, e14, e15, e16, e17, e18, e19, -⟩
        refine wpC_region ?_
        refine wpR_val (v := (Value.int .i64 0)) (w' := w10) rfl rfl rfl (x_assign (v := (Value.int .i64 0)) rfl rfl) ?_
        refine wpR_nil ?_
        refine wpC_block ?_
        obtain ⟨I182, μ182, hI182, hr182⟩ := h
        refine wpC_loop (fun (x : Sl × Sl × Int) ρ => ρ 16 = (Sl.v x.1) ∧ ρ 18 = (Sl.v x.2.1) ∧ ρ 23 = (Value.int .i64 x.2.2) ∧ ρ 2 = (Sl.v p2) ∧ ρ 3 = (Sl.v p3) ∧ ρ 4 = (Sl.v p4) ∧ ρ 13 = (Value.bool r11) ∧ ρ 14 = (Sl.v (⟨some ⟨b116, 0, none⟩, 2, 2⟩ : Sl)) ∧ ρ 15 = (Sl.v (⟨some ⟨b117, 0, none⟩, 2, 2⟩ : Sl)) ∧ ρ 17 = (Sl.v l120.2.1) ∧ ρ 19 = (Value.int .i64 l118.2.2.2) ∧ True) I182 μ182 (l120.1, l118.2.2.1, 0) ⟨e16, e18, rfl, e2, e3, e4, e13, e14, e15, e17, e19, trivial⟩ hI182 ?_
        rintro l182 ρ w18 ⟨e16, e18, e23, e2, e3, e4, e13, e14, e15, e17, e19, -⟩ h
        replace h := hr182 l182 w18 h
        clear hr182 hI182
        refine wpC_seq ?_
        refine wpC_seq ?_
        refine wpC_region ?_
        refine wpR_val (v := (Value.int .i64 l182.2.2)) (w' := w18) rfl rfl rfl (x_move (v := (Value.int .i64 l182.2.2)) rfl e23) ?_
        refine wpR_val (v := (Value.bool (decide (l182.2.2 < 2)))) (w' := w18) rfl rfl rfl (x_lss rfl rfl rfl) ?_
        refine wpR_nil ?_
        refine wpC_cond (b := decide (l182.2.2 < 2)) rfl (fun hc183 => ?_) (fun hc183 => ?_)
        · replace h := h.1 hc183
          refine wpC_skip ?_
          refine wpC_seq ?_
          refine wpC_block ?_
          refine wpC_seq ?_
          refine wpC_cut (fun ρ => ρ 2 = (Sl.v p2) ∧ ρ 3 = (Sl.v p3) ∧ ρ 4 = (Sl.v p4) ∧ ρ 13 = (Value.bool r11) ∧ ρ 14 = (Sl.v (⟨some ⟨b116, 0, none⟩, 2, 2⟩ : Sl)) ∧ ρ 15 = (Sl.v (⟨some ⟨b117, 0, none⟩, 2, 2⟩ : Sl)) ∧ ρ 16 = (Sl.v l182.1) ∧ ρ 17 = (Sl.v l120.2.1) ∧ ρ 18 = (Sl.v l182.2.1) ∧ ρ 19 = (Value.int .i64 l118.2.2.2) ∧ ρ 23 = (Value.int .i64 l182.2.2) ∧ True) ⟨e2, e3, e4, e13, e14, e15, e16, e17, e18, e19, e23, trivial⟩ ?_
          rintro ρ ⟨e2, e3, e4, e13, e14, e15, e16, e17, e18, e19, e23, -⟩
          obtain ⟨J185, h, hk⟩ := h
          refine wpC_drawJ (by kernel_rfl) (fun (x : Sl × Sl) ρ => ρ 24 = (Sl.v x.1) ∧ ρ 25 = (Sl.v x.2) ∧ ρ 2 = (Sl.v p2) ∧ ρ 3 = (Sl.v p3) ∧ ρ 4 = (Sl.v p4) ∧ ρ 13 = (Value.bool r11) ∧ ρ 14 = (Sl.v (⟨some ⟨b116, 0, none⟩, 2, 2⟩ : Sl)) ∧ ρ 15 = (Sl.v (⟨some ⟨b117, 0, none⟩, 2, 2⟩ : Sl)) ∧ ρ 16 = (Sl.v l182.1) ∧ ρ 17 = (Sl.v l120.2.1) ∧ ρ 18 = (Sl.v l182.2.1) ∧ ρ 19 = (Value.int .i64 l118.2.2.2) ∧ ρ 23 = (Value.int .i64 l182.2.2) ∧ True) J185 ?_ ?_
          · clear hk
            unfold tk at h
            generalize w18.drew = w19 at h ⊢
            refine wpD_take (v := (Sl.v (⟨some ⟨b116, 0, none⟩, 2, 2⟩ : Sl))) 0 (fun _ => True) rfl (by kernel_rfl) (by kernel_rfl) (by kernel_rfl) rfl rfl rfl trivial (fun w _ => (x_move (v := (Sl.v (⟨some ⟨b116, 0, none⟩, 2, 2⟩ : Sl))) rfl e14)) ?_
            refine wpD_take (v := (Value.int .i64 l182.2.2)) 1 (fun _ => True) rfl (by kernel_rfl) (by kernel_rfl) (by kernel_rfl) rfl rfl rfl trivial (fun w _ => (x_move (v := (Value.int .i64 l182.2.2)) rfl e23)) ?_
            obtain ⟨q186, z186, r186, h⟩ := h
            generalize hp186 : z186.add ((l182.2.2 : Int).toNat * 22) = p186 at h
            refine wpD_take (v := (Value.pointer (some p186))) 2 (fun _ => True) rfl (by kernel_rfl) (by kernel_rfl) (by kernel_rfl) rfl rfl rfl trivial (fun w _ => ((x_indexAddr (s := (⟨some ⟨b116, 0, none⟩, 2, 2⟩ : Sl)) rfl rfl rfl ES_30 q186 r186).trans (by rw [hp186]))) ?_
            obtain ⟨x187, q187, x188, q188, x189, q189, x190, q190, x191, q191, x192, q192, x193, q193, x194, q194, x195, q195, x196, q196, x197, q197, x198, q198, x199, q199, x200, q200, x201, q201, x202, q202, x203, q203, x204, q204, x205, q205, x206, q206, x207, q207, x208, q208, h⟩ := h
            refine wpD_take (v := (V23 x187 x188 x189 x190 x191 x192 x193 x194 x195 x196 x197 x198 x199 x200 x201 x202 x203 x204 x205 x206 x207 x208)) 3 (fun w => C23 p186 x187 x188 x189 x190 x191 x192 x193 x194 x195 x196 x197 x198 x199 x200 x201 x202 x203 x204 x205 x206 x207 x208 w) rfl (by kernel_rfl) (by kernel_rfl) (by kernel_rfl) rfl rfl rfl ⟨q187, q188, q189, q190, q191, q192, q193, q194, q195, q196, q197, q198, q199, q200, q201, q202, q203, q204, q205, q206, q207, q208⟩ (fun w q => (x_loadN (S23 x187 x188 x189 x190 x191 x192 x193 x194 x195 x196 x197 x198 x199 x200 x201 x202 x203 x204 x205 x206 x207 x208) rfl rfl SH_24 (K23 q))) ?_
            refine wpD_take (v := (Value.int .i64 l182.2.2)) 4 (fun _ => True) rfl (by kernel_rfl) (by kernel_rfl) (by kernel_rfl) rfl rfl rfl trivial (fun w _ => (x_move (v := (Value.int .i64 l182.2.2)) rfl e23)) ?_
            refine wpD_take (v := (Sl.v l182.1)) 5 (fun _ => True) rfl (by kernel_rfl) (by kernel_rfl) (by kernel_rfl) rfl rfl rfl trivial (fun w _ => (x_move (v := (Sl.v l182.1)) rfl e16)) ?_
            refine wpD_take (v := (Sl.v (⟨some ⟨b117, 0, none⟩, 2, 2⟩ : Sl))) 6 (fun _ => True) rfl (by kernel_rfl) (by kernel_rfl) (by kernel_rfl) rfl rfl rfl trivial (fun w _ => (x_move (v := (Sl.v (⟨some ⟨b117, 0, none⟩, 2, 2⟩ : Sl))) rfl e15)) ?_
            refine wpD_take (v := (Value.int .i64 l182.2.2)) 7 (fun _ => True) rfl (by kernel_rfl) (by kernel_rfl) (by kernel_rfl) rfl rfl rfl trivial (fun w _ => (x_move (v := (Value.int .i64 l182.2.2)) rfl e23)) ?_
            obtain ⟨q209, z209, r209, h⟩ := h
            generalize hp209 : z209.add ((l182.2.2 : Int).toNat * 1) = p209 at h
            refine wpD_take (v := (Value.pointer (some p209))) 8 (fun _ => True) rfl (by kernel_rfl) (by kernel_rfl) (by kernel_rfl) rfl rfl rfl trivial (fun w _ => ((x_indexAddr (s := (⟨some ⟨b117, 0, none⟩, 2, 2⟩ : Sl)) rfl rfl rfl ES_31 q209 r209).trans (by rw [hp209]))) ?_
            obtain ⟨x210, q210, h⟩ := h
            refine wpD_take (v := (Sl.v x210)) 9 (fun w => w.cell? p209 = some (Sl.v x210)) rfl (by kernel_rfl) (by kernel_rfl) (by kernel_rfl) rfl rfl rfl q210 (fun w q210 => (x_load1 rfl rfl SH_27 q210)) ?_
            refine wpD_take (v := (Value.int .i64 l118.2.2.2)) 10 (fun _ => True) rfl (by kernel_rfl) (by kernel_rfl) (by kernel_rfl) rfl rfl rfl trivial (fun w _ => (x_move (v := (Value.int .i64 l118.2.2.2)) rfl e19)) ?_
            obtain ⟨q211, z211, r211, h⟩ := h
            generalize hp211 : z211.add ((l118.2.2.2 : Int).toNat * 1) = p211 at h
            refine wpD_take (v := (Value.pointer (some p211))) 11 (fun _ => True) rfl (by kernel_rfl) (by kernel_rfl) (by kernel_rfl) rfl rfl rfl trivial (fun w _ => ((x_indexAddr (s := x210) rfl rfl rfl ES_27 q211 r211).trans (by rw [hp211]))) ?_
            obtain ⟨x212, q212, h⟩ := h
            refine wpD_take (v := (Value.bool x212)) 12 (fun w => w.cell? p211 = some (Value.bool x212)) rfl (by kernel_rfl) (by kernel_rfl) (by kernel_rfl) rfl rfl rfl q212 (fun w q212 => (x_load1 rfl rfl SH_4 q212)) ?_
            refine wpD_all (rs := [13]) (by kernel_rfl) (by simp) (allD_cons ?_ allD_nil)
            refine stepD_enterL (L' := [(11, fun _ => True), (10, fun _ => True), (9, fun w => w.cell? p209 = some (Sl.v x210)), (8, fun _ => True), (7, fun _ => True), (6, fun _ => True), (2, fun _ => True), (1, fun _ => True), (0, fun _ => True)]) rfl rfl rfl rfl (x_call (vs := [(V23 x187 x188 x189 x190 x191 x192 x193 x194 x195 x196 x197 x198 x199 x200 x201 x202 x203 x204 x205 x206 x207 x208), (Value.int .i64 l182.2.2), (Sl.v l182.1), (Value.bool x212)]) rfl rfl (mapl_cons rfl (mapl_cons rfl (mapl_cons rfl (mapl_cons rfl mapl_nil)))) Try.func7 NN_7 NB_7) (by kernel_rfl) (Calls.mono h ?_)
            rintro _ w20 ⟨r213, rfl, h⟩
            obtain ⟨o9, h⟩ := h
            refine ⟨_, rfl, (held_cons trivial (held_cons trivial (held_cons o9 (held_cons trivial (held_cons trivial (held_cons trivial (held_cons trivial (held_cons trivial (held_cons trivial held_nil))))))))), ?_⟩
            refine wpD_take (v := (Value.tuple #[(Sl.v r213.1), (Sl.v r213.2)])) 14 (fun _ => True) rfl (by kernel_rfl) (by kernel_rfl) (by kernel_rfl) rfl rfl rfl trivial (fun w _ => (x_move (v := (Value.tuple #[(Sl.v r213.1), (Sl.v r213.2)])) rfl rfl)) ?_
            refine wpD_take (v := (Sl.v r213.1)) 15 (fun _ => True) rfl (by kernel_rfl) (by kernel_rfl) (by kernel_rfl) rfl rfl rfl trivial (fun w _ => (x_extract rfl rfl rfl)) ?_
            refine wpD_take (v := (Sl.v r213.2)) 16 (fun _ => True) rfl (by kernel_rfl) (by kernel_rfl) (by kernel_rfl) rfl rfl rfl trivial (fun w _ => (x_extract rfl rfl rfl)) ?_
            refine wpD_take (v := (Sl.v r213.1)) 17 (fun _ => True) rfl (by kernel_rfl) (by kernel_rfl) (by kernel_rfl) rfl rfl rfl trivial (fun w _ => (x_assign (v := (Sl.v r213.1)) rfl rfl)) ?_
            refine wpD_take (v := (Sl.v r213.2)) 18 (fun _ => True) rfl (by kernel_rfl) (by kernel_rfl) (by kernel_rfl) rfl rfl rfl trivial (fun w _ => (x_assign (v := (Sl.v r213.2)) rfl rfl)) ?_
            exact wpD_done (by kernel_rfl) ⟨(r213.1, r213.2), ⟨rfl, rfl, e2, e3, e4, e13, e14, e15, e16, e17, e18, e19, e23, trivial⟩, h⟩
          clear h
          rintro l214 ρ w21 ⟨e24, e25, e2, e3, e4, e13, e14, e15, e16, e17, e18, e19, e23, -⟩ h
          replace h := hk l214 w21 h
          clear hk
          refine wpC_seq ?_
          refine wpC_seq ?_
          refine wpC_region ?_
          refine wpR_val (v := (Value.int .i64 0)) (w' := w21) rfl rfl rfl (x_assign (v := (Value.int .i64 0)) rfl rfl) ?_
          refine wpR_nil ?_
          refine wpC_block ?_
          obtain ⟨I215, μ215, hI215, hr215⟩ := h
          refine wpC_loop (fun (x : Sl × Int) ρ => ρ 18 = (Sl.v x.1) ∧ ρ 26 = (Value.int .i64 x.2) ∧ ρ 2 = (Sl.v p2) ∧ ρ 3 = (Sl.v p3) ∧ ρ 4 = (Sl.v p4) ∧ ρ 13 = (Value.bool r11) ∧ ρ 14 = (Sl.v (⟨some ⟨b116, 0, none⟩, 2, 2⟩ : Sl)) ∧ ρ 15 = (Sl.v (⟨some ⟨b117, 0, none⟩, 2, 2⟩ : Sl)) ∧ ρ 16 = (Sl.v l182.1) ∧ ρ 17 = (Sl.v l120.2.1) ∧ ρ 19 = (Value.int .i64 l118.2.2.2) ∧ ρ 23 = (Value.int .i64 l182.2.2) ∧ ρ 24 = (Sl.v l214.1) ∧ ρ 25 = (Sl.v l214.2) ∧ True) I215 μ215 (l182.2.1, 0) ⟨e18, rfl, e2, e3, e4, e13, e14, e15, e16, e17, e19, e23, e24, e25, trivial⟩ hI215 ?_
          rintro l215 ρ w22 ⟨e18, e26, e2, e3, e4, e13, e14, e15, e16, e17, e19, e23, e24, e25, -⟩ h
          replace h := hr215 l215 w22 h
          clear hr215 hI215
          refine wpC_seq ?_
          refine wpC_seq ?_
          refine wpC_region ?_
          refine wpR_val (v := (Value.int .i64 l215.2)) (w' := w22) rfl rfl rfl (x_move (v := (Value.int .i64 l215.2)) rfl e26) ?_
          refine wpR_val (v := (Sl.v l214.1)) (w' := w22) rfl rfl rfl (x_move (v := (Sl.v l214.1)) rfl e24) ?_
          refine wpR_val (v := (Value.int .i64 (l214.1.len : Int))) (w' := w22) rfl rfl rfl (x_lenS (s := l214.1) rfl rfl isSliceT_38) ?_
          refine wpR_val (v := (Value.bool (decide (l215.2 < (l214.1.len : Int))))) (w' := w22) rfl rfl rfl (x_lss rfl rfl rfl) ?_
          refine wpR_nil ?_
          refine wpC_cond (b := decide (l215.2 < (l214.1.len : Int))) rfl (fun hc216 => ?_) (fun hc216 => ?_)
          · replace h := h.1 hc216
            refine wpC_skip ?_
            refine wpC_seq ?_
            refine wpC_block ?_
            refine wpC_cut (fun ρ => ρ 2 = (Sl.v p2) ∧ ρ 3 = (Sl.v p3) ∧ ρ 4 = (Sl.v p4) ∧ ρ 13 = (Value.bool r11) ∧ ρ 14 = (Sl.v (⟨some ⟨b116, 0, none⟩, 2, 2⟩ : Sl)) ∧ ρ 15 = (Sl.v (⟨some ⟨b117, 0, none⟩, 2, 2⟩ : Sl)) ∧ ρ 16 = (Sl.v l182.1) ∧ ρ 17 = (Sl.v l120.2.1) ∧ ρ 18 = (Sl.v l215.1) ∧ ρ 19 = (Value.int .i64 l118.2.2.2) ∧ ρ 23 = (Value.int .i64 l182.2.2) ∧ ρ 24 = (Sl.v l214.1) ∧ ρ 25 = (Sl.v l214.2) ∧ ρ 26 = (Value.int .i64 l215.2) ∧ True) ⟨e2, e3, e4, e13, e14, e15, e16, e17, e18, e19, e23, e24, e25, e26, trivial⟩ ?_
            rintro ρ ⟨e2, e3, e4, e13, e14, e15, e16, e17, e18, e19, e23, e24, e25, e26, -⟩
            refine wpC_region ?_
            refine wpR_val (v := (Sl.v l215.1)) (w' := w22) rfl rfl rfl (x_move (v := (Sl.v l215.1)) rfl e18) ?_
            refine wpR_val (v := (Sl.v l214.1)) (w' := w22) rfl rfl rfl (x_move (v := (Sl.v l214.1)) rfl e24) ?_
            refine wpR_val (v := (Value.int .i64 l215.2)) (w' := w22) rfl rfl rfl (x_move (v := (Value.int .i64 l215.2)) rfl e26) ?_
            obtain ⟨q217, z217, r217, h⟩ := h
            generalize hp217 : z217.add ((l215.2 : Int).toNat * 1) = p217 at h
            refine wpR_val (v := (Value.pointer (some p217))) (w' := w22) rfl rfl rfl ((x_indexAddr (s := l214.1) rfl rfl rfl ES_38 q217 r217).trans (by rw [hp217])) ?_
            obtain ⟨x218, q218, h⟩ := h
            refine wpR_val (v := (Value.int .i64 x218)) (w' := w22) rfl rfl rfl (x_load1 rfl rfl SH_3 q218) ?_
            refine wpR_val (v := (Value.int .i64 l182.2.2)) (w' := w22) rfl rfl rfl (x_move (v := (Value.int .i64 l182.2.2)) rfl e23) ?_
            refine wpR_val (v := (Value.int .i64 l118.2.2.2)) (w' := w22) rfl rfl rfl (x_move (v := (Value.int .i64 l118.2.2.2)) rfl e19) ?_
            refine wpR_val (v := (Value.agg #[(Value.int .i64 x218), (Value.int .i64 l182.2.2), (Value.int .i64 l118.2.2.2)])) (w' := w22) rfl rfl rfl (x_build (qs := [(0, (Value.int .i64 x218)), (1, (Value.int .i64 l182.2.2)), (2, (Value.int .i64 l118.2.2.2))]) rfl (by rfl) (BD_41_0_1_2 x218 l182.2.2 l118.2.2.2 _)) ?_
            obtain ⟨b219, hb219⟩ : ∃ u, u = w22.heap.size := ⟨_, rfl⟩
            obtain ⟨w23, hw219⟩ : ∃ u, u = w22.alloc (.cells #[(Value.int .i64 x218), (Value.int .i64 l182.2.2), (Value.int .i64 l118.2.2.2)] 41) := ⟨_, rfl⟩
            replace h := h b219 w23 hb219 hw219
            refine wpR_val (v := (Sl.v (⟨some ⟨b219, 0, none⟩, 1, 1⟩ : Sl))) (w' := w23) rfl rfl rfl ((x_buildSlice (qs := [(0, (Value.agg #[(Value.int .i64 x218), (Value.int .i64 l182.2.2), (Value.int .i64 l118.2.2.2)]))]) rfl (by rfl) (BS_32_1_0 x218 l182.2.2 l118.2.2.2)).trans (by rw [← hb219, ← hw219])) ?_
            obtain ⟨r220, w24, q220, h⟩ := h
            refine wpR_val (v := (Sl.v r220)) (w' := w24) rfl rfl rfl (x_append (s := l215.1) (u := (⟨some ⟨b219, 0, none⟩, 1, 1⟩ : Sl)) rfl rfl rfl rfl q220) ?_
            refine wpR_val (v := (Sl.v r220)) (w' := w24) rfl rfl rfl (x_assign (v := (Sl.v r220)) rfl rfl) ?_
            refine wpR_nil ?_
            refine wpC_cut (fun ρ => ρ 2 = (Sl.v p2) ∧ ρ 3 = (Sl.v p3) ∧ ρ 4 = (Sl.v p4) ∧ ρ 13 = (Value.bool r11) ∧ ρ 14 = (Sl.v (⟨some ⟨b116, 0, none⟩, 2, 2⟩ : Sl)) ∧ ρ 15 = (Sl.v (⟨some ⟨b117, 0, none⟩, 2, 2⟩ : Sl)) ∧ ρ 16 = (Sl.v l182.1) ∧ ρ 17 = (Sl.v l120.2.1) ∧ ρ 18 = (Sl.v r220) ∧ ρ 19 = (Value.int .i64 l118.2.2.2) ∧ ρ 23 = (Value.int .i64 l182.2.2) ∧ ρ 24 = (Sl.v l214.1) ∧ ρ 25 = (Sl.v l214.2) ∧ ρ 26 = (Value.int .i64 l215.2) ∧ True) ⟨e2, e3, e4, e13, e14, e15, e16, e17, rfl, e19, e23, e24, e25, e26, trivial⟩ ?_
            rintro ρ ⟨e2, e3, e4, e13, e14, e15, e16, e17, e18, e19, e23, e24, e25, e26, -⟩
            refine wpC_region ?_
            refine wpR_val (v := (Value.int .i64 l215.2)) (w' := w24) rfl rfl rfl (x_move (v := (Value.int .i64 l215.2)) rfl e26) ?_
            refine wpR_val (v := (Value.int .i64 (IntKind.i64.wrap (l215.2 + 1)))) (w' := w24) rfl rfl rfl (x_add rfl rfl rfl) ?_
            refine wpR_val (v := (Value.int .i64 (IntKind.i64.wrap (l215.2 + 1)))) (w' := w24) rfl rfl rfl (x_assign (v := (Value.int .i64 (IntKind.i64.wrap (l215.2 + 1)))) rfl rfl) ?_
            refine wpR_nil ?_
            exact ⟨(r220, IntKind.i64.wrap (l215.2 + 1)), ⟨e18, rfl, e2, e3, e4, e13, e14, e15, e16, e17, e19, e23, e24, e25, trivial⟩, h⟩
          · replace h := h.2 hc216
            refine wpC_exit ?_
            refine wpC_seq ?_
            refine wpC_seq ?_
            refine wpC_cut (fun ρ => ρ 2 = (Sl.v p2) ∧ ρ 3 = (Sl.v p3) ∧ ρ 4 = (Sl.v p4) ∧ ρ 13 = (Value.bool r11) ∧ ρ 14 = (Sl.v (⟨some ⟨b116, 0, none⟩, 2, 2⟩ : Sl)) ∧ ρ 15 = (Sl.v (⟨some ⟨b117, 0, none⟩, 2, 2⟩ : Sl)) ∧ ρ 16 = (Sl.v l182.1) ∧ ρ 17 = (Sl.v l120.2.1) ∧ ρ 18 = (Sl.v l215.1) ∧ ρ 19 = (Value.int .i64 l118.2.2.2) ∧ ρ 23 = (Value.int .i64 l182.2.2) ∧ ρ 24 = (Sl.v l214.1) ∧ ρ 25 = (Sl.v l214.2) ∧ True) ⟨e2, e3, e4, e13, e14, e15, e16, e17, e18, e19, e23, e24, e25, trivial⟩ ?_
            rintro ρ ⟨e2, e3, e4, e13, e14, e15, e16, e17, e18, e19, e23, e24, e25, -⟩
            refine wpC_region ?_
            refine wpR_val (v := (Sl.v l214.2)) (w' := w22) rfl rfl rfl (x_move (v := (Sl.v l214.2)) rfl e25) ?_
            refine wpR_val (v := (Value.int .i64 (l214.2.len : Int))) (w' := w22) rfl rfl rfl (x_lenS (s := l214.2) rfl rfl isSliceT_25) ?_
            refine wpR_val (v := (Sl.v l214.1)) (w' := w22) rfl rfl rfl (x_move (v := (Sl.v l214.1)) rfl e24) ?_
            refine wpR_val (v := (Value.int .i64 (l214.1.len : Int))) (w' := w22) rfl rfl rfl (x_lenS (s := l214.1) rfl rfl isSliceT_38) ?_
            refine wpR_val (v := (Value.int .i64 (IntKind.i64.wrap ((l214.2.len : Int) + (l214.1.len : Int))))) (w' := w22) rfl rfl rfl (x_add rfl rfl rfl) ?_
            refine wpR_val (v := (Sl.v l182.1)) (w' := w22) rfl rfl rfl (x_move (v := (Sl.v l182.1)) rfl e16) ?_
            refine wpR_val (v := (Value.int .i64 (l182.1.len : Int))) (w' := w22) rfl rfl rfl (x_lenS (s := l182.1) rfl rfl isSliceT_25) ?_
            refine wpR_val (v := (Value.bool (!decide ((IntKind.i64.wrap ((l214.2.len : Int) + (l214.1.len : Int))) = (l182.1.len : Int))))) (w' := w22) rfl rfl rfl (x_neq rfl rfl rfl) ?_
            refine wpR_nil ?_
            refine wpC_cond (b := !decide ((IntKind.i64.wrap ((l214.2.len : Int) + (l214.1.len : Int))) = (l182.1.len : Int))) rfl (fun hc221 => ?_) (fun hc221 => ?_)
            · replace h := h.1 hc221
              refine wpC_seq ?_
              refine wpC_cut (fun ρ => True) trivial ?_
              rintro ρ -
              refine wpC_region ?_
              refine wpR_val (v := (Value.bool false)) (w' := w22) rfl rfl rfl (x_assign (v := (Value.bool false)) rfl rfl) ?_
              refine wpR_nil ?_
              refine wpC_ret ?_
              exact ⟨.inl rfl, fun a ha => ⟨_, results_rep1 rfl ha rfl, false, rfl, h⟩⟩
            · replace h := h.2 hc221
              refine wpC_skip ?_
              refine wpC_cut (fun ρ => ρ 2 = (Sl.v p2) ∧ ρ 3 = (Sl.v p3) ∧ ρ 4 = (Sl.v p4) ∧ ρ 13 = (Value.bool r11) ∧ ρ 14 = (Sl.v (⟨some ⟨b116, 0, none⟩, 2, 2⟩ : Sl)) ∧ ρ 15 = (Sl.v (⟨some ⟨b117, 0, none⟩, 2, 2⟩ : Sl)) ∧ ρ 17 = (Sl.v l120.2.1) ∧ ρ 18 = (Sl.v l215.1) ∧ ρ 19 = (Value.int .i64 l118.2.2.2) ∧ ρ 23 = (Value.int .i64 l182.2.2) ∧ ρ 25 = (Sl.v l214.2) ∧ True) ⟨e2, e3, e4, e13, e14, e15, e17, e18, e19, e23, e25, trivial⟩ ?_
              rintro ρ ⟨e2, e3, e4, e13, e14, e15, e17, e18, e19, e23, e25, -⟩
              refine wpC_region ?_
              refine wpR_val (v := (Sl.v l214.2)) (w' := w22) rfl rfl rfl (x_move (v := (Sl.v l214.2)) rfl e25) ?_
              refine wpR_val (v := (Sl.v l214.2)) (w' := w22) rfl rfl rfl (x_assign (v := (Sl.v l214.2)) rfl rfl) ?_
              refine wpR_nil ?_
              refine wpC_cut (fun ρ => ρ 2 = (Sl.v p2) ∧ ρ 3 = (Sl.v p3) ∧ ρ 4 = (Sl.v p4) ∧ ρ 13 = (Value.bool r11) ∧ ρ 14 = (Sl.v (⟨some ⟨b116, 0, none⟩, 2, 2⟩ : Sl)) ∧ ρ 15 = (Sl.v (⟨some ⟨b117, 0, none⟩, 2, 2⟩ : Sl)) ∧ ρ 16 = (Sl.v l214.2) ∧ ρ 17 = (Sl.v l120.2.1) ∧ ρ 18 = (Sl.v l215.1) ∧ ρ 19 = (Value.int .i64 l118.2.2.2) ∧ ρ 23 = (Value.int .i64 l182.2.2) ∧ True) ⟨e2, e3, e4, e13, e14, e15, rfl, e17, e18, e19, e23, trivial⟩ ?_
              rintro ρ ⟨e2, e3, e4, e13, e14, e15, e16, e17, e18, e19, e23, -⟩
              refine wpC_region ?_
              refine wpR_val (v := (Value.int .i64 l182.2.2)) (w' := w22) rfl rfl rfl (x_move (v := (Value.int .i64 l182.2.2)) rfl e23) ?_
              refine wpR_val (v := (Value.int .i64 (IntKind.i64.wrap (l182.2.2 + 1)))) (w' := w22) rfl rfl rfl (x_add rfl rfl rfl) ?_
              refine wpR_val (v := (Value.int .i64 (IntKind.i64.wrap (l182.2.2 + 1)))) (w' := w22) rfl rfl rfl (x_assign (v := (Value.int .i64 (IntKind.i64.wrap (l182.2.2 + 1)))) rfl rfl) ?_
              refine wpR_nil ?_
              exact ⟨(l214.2, l215.1, IntKind.i64.wrap (l182.2.2 + 1)), ⟨e16, e18, rfl, e2, e3, e4, e13, e14, e15, e17, e19, trivial⟩, h⟩
        · replace h := h.2 hc183
          refine wpC_exit ?_
          refine wpC_cut (fun ρ => ρ 2 = (Sl.v p2) ∧ ρ 3 = (Sl.v p3) ∧ ρ 4 = (Sl.v p4) ∧ ρ 13 = (Value.bool r11) ∧ ρ 14 = (Sl.v (⟨some ⟨b116, 0, none⟩, 2, 2⟩ : Sl)) ∧ ρ 15 = (Sl.v (⟨some ⟨b117, 0, none⟩, 2, 2⟩ : Sl)) ∧ ρ 16 = (Sl.v l182.1) ∧ ρ 17 = (Sl.v l120.2.1) ∧ ρ 18 = (Sl.v l182.2.1) ∧ ρ 19 = (Value.int .i64 l118.2.2.2) ∧ True) ⟨e2, e3, e4, e13, e14, e15, e16, e17, e18, e19, trivial⟩ ?_
          rintro ρ ⟨e2, e3, e4, e13, e14, e15, e16, e17, e18, e19, -⟩
          refine wpC_region ?_
          refine wpR_val (v := (Value.int .i64 l118.2.2.2)) (w' := w18) rfl rfl rfl (x_move (v := (Value.int .i64 l118.2.2.2)) rfl e19) ?_
          refine wpR_val (v := (Value.int .i64 (IntKind.i64.wrap (l118.2.2.2 + 1)))) (w' := w18) rfl rfl rfl (x_add rfl rfl rfl) ?_
          refine wpR_val (v := (Value.int .i64 (IntKind.i64.wrap (l118.2.2.2 + 1)))) (w' := w18) rfl rfl rfl (x_assign (v := (Value.int .i64 (IntKind.i64.wrap (l118.2.2.2 + 1)))) rfl rfl) ?_
          refine wpR_nil ?_
          exact ⟨(l182.1, l120.2.1, l182.2.1, IntKind.i64.wrap (l118.2.2.2 + 1)), ⟨e16, e17, e18, rfl, e2, e3, e4, e13, e14, e15, trivial⟩, h⟩
    · replace h := h.2 hc119
      refine wpC_exit ?_
      refine wpC_seq ?_
      refine wpC_seq ?_
      refine wpC_cut (fun ρ => ρ 4 = (Sl.v p4) ∧ ρ 13 = (Value.bool r11) ∧ ρ 14 = (Sl.v (⟨some ⟨b116, 0, none⟩, 2, 2⟩ : Sl)) ∧ ρ 15 = (Sl.v (⟨some ⟨b117, 0, none⟩, 2, 2⟩ : Sl)) ∧ ρ 16 = (Sl.v l118.1) ∧ ρ 17 = (Sl.v l118.2.1) ∧ ρ 18 = (Sl.v l118.2.2.1) ∧ True) ⟨e4, e13, e14, e15, e16, e17, e18, trivial⟩ ?_
      rintro ρ ⟨e4, e13, e14, e15, e16, e17, e18, -⟩
      refine wpC_region ?_
      refine wpR_val (v := (Sl.v l118.2.2.1)) (w' := w9) rfl rfl rfl (x_move (v := (Sl.v l118.2.2.1)) rfl e18) ?_
      refine wpR_val (v := (Value.int .i64 (l118.2.2.1.len : Int))) (w' := w9) rfl rfl rfl (x_lenS (s := l118.2.2.1) rfl rfl isSliceT_32) ?_
      refine wpR_val (v := (Sl.v l118.1)) (w' := w9) rfl rfl rfl (x_move (v := (Sl.v l118.1)) rfl e16) ?_
      refine wpR_val (v := (Value.int .i64 (l118.1.len : Int))) (w' := w9) rfl rfl rfl (x_lenS (s := l118.1) rfl rfl isSliceT_25) ?_
      refine wpR_val (v := (Value.int .i64 (IntKind.i64.wrap ((l118.2.2.1.len : Int) + (l118.1.len : Int))))) (w' := w9) rfl rfl rfl (x_add rfl rfl rfl) ?_
      refine wpR_val (v := (Sl.v l118.2.1)) (w' := w9) rfl rfl rfl (x_move (v := (Sl.v l118.2.1)) rfl e17) ?_
      refine wpR_val (v := (Value.int .i64 (l118.2.1.len : Int))) (w' := w9) rfl rfl rfl (x_lenS (s := l118.2.1) rfl rfl isSliceT_25) ?_
      refine wpR_val (v := (Value.bool (!decide ((IntKind.i64.wrap ((l118.2.2.1.len : Int) + (l118.1.len : Int))) = (l118.2.1.len : Int))))) (w' := w9) rfl rfl rfl (x_neq rfl rfl rfl) ?_
      refine wpR_nil ?_
      refine wpC_cond (b := !decide ((IntKind.i64.wrap ((l118.2.2.1.len : Int) + (l118.1.len : Int))) = (l118.2.1.len : Int))) rfl (fun hc222 => ?_) (fun hc222 => ?_)
      · replace h := h.1 hc222
        refine wpC_seq ?_
        refine wpC_cut (fun ρ => True) trivial ?_
        rintro ρ -
        refine wpC_region ?_
        refine wpR_val (v := (Value.bool false)) (w' := w9) rfl rfl rfl (x_assign (v := (Value.bool false)) rfl rfl) ?_
        refine wpR_nil ?_
        refine wpC_ret ?_
        exact ⟨.inl rfl, fun a ha => ⟨_, results_rep1 rfl ha rfl, false, rfl, h⟩⟩
      · replace h := h.2 hc222
        refine wpC_skip ?_
        refine wpC_seq ?_
        refine wpC_seq ?_
        refine wpC_cut (fun ρ => ρ 4 = (Sl.v p4) ∧ ρ 13 = (Value.bool r11) ∧ ρ 14 = (Sl.v (⟨some ⟨b116, 0, none⟩, 2, 2⟩ : Sl)) ∧ ρ 15 = (Sl.v (⟨some ⟨b117, 0, none⟩, 2, 2⟩ : Sl)) ∧ ρ 17 = (Sl.v l118.2.1) ∧ ρ 18 = (Sl.v l118.2.2.1) ∧ True) ⟨e4, e13, e14, e15, e17, e18, trivial⟩ ?_
        rintro ρ ⟨e4, e13, e14, e15, e17, e18, -⟩
        refine wpC_region ?_
        refine wpR_val (v := (Value.int .i64 0)) (w' := w9) rfl rfl rfl (x_assign (v := (Value.int .i64 0)) rfl rfl) ?_
        refine wpR_nil ?_
        refine wpC_block ?_
        obtain ⟨I223, μ223, hI223, hr223⟩ := h
        refine wpC_loop (fun (x : Int) ρ => ρ 27 = (Value.int .i64 x) ∧ ρ 4 = (Sl.v p4) ∧ ρ 13 = (Value.bool r11) ∧ ρ 14 = (Sl.v (⟨some ⟨b116, 0, none⟩, 2, 2⟩ : Sl)) ∧ ρ 15 = (Sl.v (⟨some ⟨b117, 0, none⟩, 2, 2⟩ : Sl)) ∧ ρ 17 = (Sl.v l118.2.1) ∧ ρ 18 = (Sl.v l118.2.2.1) ∧ True) I223 μ223 0 ⟨rfl, e4, e13, e14, e15, e17, e18, trivial⟩ hI223 ?_
        rintro l223 ρ w25 ⟨e27, e4, e13, e14, e15, e17, e18, -⟩ h
        replace h := hr223 l223 w25 h
        clear hr223 hI223
        refine wpC_seq ?_
        refine wpC_seq ?_
        refine wpC_region ?_
        refine wpR_val (v := (Value.int .i64 l223)) (w' := w25) rfl rfl rfl (x_move (v := (Value.int .i64 l223)) rfl e27) ?_
        refine wpR_val (v := (Sl.v l118.2.1)) (w' := w25) rfl rfl rfl (x_move (v := (Sl.v l118.2.1)) rfl e17) ?_
        refine wpR_val (v := (Value.int .i64 (l118.2.1.len : Int))) (w' := w25) rfl rfl rfl (x_lenS (s := l118.2.1) rfl rfl isSliceT_25) ?_
        refine wpR_val (v := (Value.bool (decide (l223 < (l118.2.1.len : Int))))) (w' := w25) rfl rfl rfl (x_lss rfl rfl rfl) ?_
        refine wpR_nil ?_
        refine wpC_cond (b := decide (l223 < (l118.2.1.len : Int))) rfl (fun hc224 => ?_) (fun hc224 => ?_)
        · replace h := h.1 hc224
          refine wpC_skip ?_
          obtain ⟨J225, h, hk⟩ := h
          refine wpC_seqJ (fun (x : Unit) ρ => ρ 4 = (Sl.v p4) ∧ ρ 13 = (Value.bool r11) ∧ ρ 14 = (Sl.v (⟨some ⟨b116, 0, none⟩, 2, 2⟩ : Sl)) ∧ ρ 15 = (Sl.v (⟨some ⟨b117, 0, none⟩, 2, 2⟩ : Sl)) ∧ ρ 17 = (Sl.v l118.2.1) ∧ ρ 18 = (Sl.v l118.2.2.1) ∧ ρ 27 = (Value.int .i64 l223) ∧ True) J225 ?_ ?_
          · clear hk
            refine wpC_block ?_
            refine wpC_seq ?_
            refine wpC_cut (fun ρ => ρ 4 = (Sl.v p4) ∧ ρ 13 = (Value.bool r11) ∧ ρ 14 = (Sl.v (⟨some ⟨b116, 0, none⟩, 2, 2⟩ : Sl)) ∧ ρ 15 = (Sl.v (⟨some ⟨b117, 0, none⟩, 2, 2⟩ : Sl)) ∧ ρ 17 = (Sl.v l118.2.1) ∧ ρ 18 = (Sl.v l118.2.2.1) ∧ ρ 27 = (Value.int .i64 l223) ∧ True) ⟨e4, e13, e14, e15, e17, e18, e27, trivial⟩ ?_
            rintro ρ ⟨e4, e13, e14, e15, e17, e18, e27, -⟩
            refine wpC_region ?_
            refine wpR_val (v := (Sl.v l118.2.1)) (w' := w25) rfl rfl rfl (x_move (v := (Sl.v l118.2.1)) rfl e17) ?_
            refine wpR_val (v := (Value.int .i64 l223)) (w' := w25) rfl rfl rfl (x_move (v := (Value.int .i64 l223)) rfl e27) ?_
            obtain ⟨q227, z227, r227, h⟩ := h
            generalize hp227 : z227.add ((l223 : Int).toNat * 4) = p227 at h
            refine wpR_val (v := (Value.pointer (some p227))) (w' := w25) rfl rfl rfl ((x_indexAddr (s := l118.2.1) rfl rfl rfl ES_25 q227 r227).trans (by rw [hp227])) ?_
            obtain ⟨x228, q228, x229, q229, x230, q230, x231, q231, h⟩ := h
            refine wpR_val (v := (Value.agg #[(Value.int .i64 x228), (Value.int .i64 x229), (Value.int .i64 x230), (Value.int .i64 x231)])) (w' := w25) rfl rfl rfl (x_loadN [(Value.int .i64 x228), (Value.int .i64 x229), (Value.int .i64 x230), (Value.int .i64 x231)] rfl rfl SH_34 (CellsAt.out (CellsAt.cons q228 (CellsAt.cons q229 (CellsAt.cons q230 (CellsAt.cons q231 CellsAt.nil)))))) ?_
            obtain ⟨b232, hb232⟩ : ∃ u, u = w25.heap.size := ⟨_, rfl⟩
            obtain ⟨w27, hw232⟩ : ∃ u, u = w25.alloc (.cells #[(Value.int .i64 0), (Value.int .i64 0), (Value.int .i64 0), (Value.int .i64 0)] 34) := ⟨_, rfl⟩
            replace h := h b232 w27 hb232 hw232
            refine wpR_val (v := (Value.pointer (some (Addr.mk b232 0 none)))) (w' := w27) rfl rfl rfl ((x_alloc rfl ZV_34).trans (by rw [hb232, hw232]; rfl)) ?_
            obtain ⟨q233, h⟩ := h
            obtain ⟨w28, hw233⟩ : ∃ u, u = setAll w27 (Addr.mk b232 0 none) [(Value.int .i64 x228), (Value.int .i64 x229), (Value.int .i64 x230), (Value.int .i64 x231)] 0 := ⟨_, rfl⟩
            replace h := h w28 hw233
            refine wpR_skp (w' := w28) rfl rfl ((x_store (v := (Value.agg #[(Value.int .i64 x228), (Value.int .i64 x229), (Value.int .i64 x230), (Value.int .i64 x231)])) rfl rfl rfl SZ_34 (ones (by rfl)) q233).trans (by rw [hw233]; rfl)) ?_
            refine wpR_nil ?_
            refine wpC_seq ?_
            refine wpC_seq ?_
            refine wpC_cut (fun ρ => ρ 4 = (Sl.v p4) ∧ ρ 13 = (Value.bool r11) ∧ ρ 14 = (Sl.v (⟨some ⟨b116, 0, none⟩, 2, 2⟩ : Sl)) ∧ ρ 15 = (Sl.v (⟨some ⟨b117, 0, none⟩, 2, 2⟩ : Sl)) ∧ ρ 17 = (Sl.v l118.2.1) ∧ ρ 18 = (Sl.v l118.2.2.1) ∧ ρ 27 = (Value.int .i64 l223) ∧ ρ 28 = (Value.pointer (some (Addr.mk b232 0 none))) ∧ True) ⟨e4, e13, e14, e15, e17, e18, e27, rfl, trivial⟩ ?_
            rintro ρ ⟨e4, e13, e14, e15, e17, e18, e27, e28, -⟩
            obtain ⟨J235, h, hk⟩ := h
            refine wpC_drawJ (by kernel_rfl) (fun (x : Bool) ρ => ρ 226 = (Value.bool x) ∧ ρ 4 = (Sl.v p4) ∧ ρ 13 = (Value.bool r11) ∧ ρ 14 = (Sl.v (⟨some ⟨b116, 0, none⟩, 2, 2⟩ : Sl)) ∧ ρ 15 = (Sl.v (⟨some ⟨b117, 0, none⟩, 2, 2⟩ : Sl)) ∧ ρ 17 = (Sl.v l118.2.1) ∧ ρ 18 = (Sl.v l118.2.2.1) ∧ ρ 27 = (Value.int .i64 l223) ∧ ρ 28 = (Value.pointer (some (Addr.mk b232 0 none))) ∧ True) J235 ?_ ?_
            · clear hk
              unfold tk at h
              generalize w28.drew = w29 at h ⊢
              refine wpD_take (v := (Value.pointer (some ((Addr.mk b232 0 none).add 3)))) 0 (fun _ => True) rfl (by kernel_rfl) (by kernel_rfl) (by kernel_rfl) rfl rfl rfl trivial (fun w _ => (x_fieldAddr rfl e28 FA_34_3)) ?_
              obtain ⟨x236, q236, h⟩ := h
              refine wpD_take (v := (Value.int .i64 x236)) 1 (fun w => w.cell? ((Addr.mk b232 0 none).add 3) = some (Value.int .i64 x236)) rfl (by kernel_rfl) (by kernel_rfl) (by kernel_rfl) rfl rfl rfl q236 (fun w q236 => (x_load1 rfl rfl SH_3 q236)) ?_
              refine wpD_take (v := (Sl.v p4)) 2 (fun _ => True) rfl (by kernel_rfl) (by kernel_rfl) (by kernel_rfl) rfl rfl rfl trivial (fun w _ => (x_move (v := (Sl.v p4)) rfl e4)) ?_
              refine wpD_take (v := (Value.int .i64 (p4.len : Int))) 3 (fun _ => True) rfl (by kernel_rfl) (by kernel_rfl) (by kernel_rfl) rfl rfl rfl trivial (fun w _ => (x_lenS (s := p4) rfl rfl isSliceT_27)) ?_
              refine wpD_take (v := (Value.bool (decide ((p4.len : Int) < x236)))) 4 (fun _ => True) rfl (by kernel_rfl) (by kernel_rfl) (by kernel_rfl) rfl rfl rfl trivial (fun w _ => (x_gtr rfl rfl rfl)) ?_
              refine wpD_take (v := (Value.bool (decide ((p4.len : Int) < x236)))) 5 (fun _ => True) rfl (by kernel_rfl) (by kernel_rfl) (by kernel_rfl) rfl rfl rfl trivial (fun w _ => (x_move (v := (Value.bool (decide ((p4.len : Int) < x236)))) rfl rfl)) ?_
              rcases Bool.eq_false_or_eq_true (decide ((p4.len : Int) < x236)) with hc237 | hc237
              · replace h := h.1 hc237
                refine wpD_pass 6 rfl (by kernel_rfl) (by kernel_rfl) (by kernel_rfl) (wantN rfl rfl rfl hc237) rfl rfl ?_
                refine wpD_pass 7 rfl (by kernel_rfl) (by kernel_rfl) (by kernel_rfl) (wantN rfl rfl rfl hc237) rfl rfl ?_
                refine wpD_pass 8 rfl (by kernel_rfl) (by kernel_rfl) (by kernel_rfl) (wantN rfl rfl rfl hc237) rfl rfl ?_
                refine wpD_pass 9 rfl (by kernel_rfl) (by kernel_rfl) (by kernel_rfl) (wantN rfl rfl rfl hc237) rfl rfl ?_
                refine wpD_pass 10 rfl (by kernel_rfl) (by kernel_rfl) (by kernel_rfl) (wantN rfl rfl rfl hc237) rfl rfl ?_
                refine wpD_pass 11 rfl (by kernel_rfl) (by kernel_rfl) (by kernel_rfl) (wantN rfl rfl rfl hc237) rfl rfl ?_
                refine wpD_pass 12 rfl (by kernel_rfl) (by kernel_rfl) (by kernel_rfl) (wantN rfl rfl rfl hc237) rfl rfl ?_
                refine wpD_pass 13 rfl (by kernel_rfl) (by kernel_rfl) (by kernel_rfl) (wantN rfl rfl rfl hc237) rfl rfl ?_
                refine wpD_pass 14 rfl (by kernel_rfl) (by kernel_rfl) (by kernel_rfl) (wantN rfl rfl rfl hc237) rfl rfl ?_
                refine wpD_pass 15 rfl (by kernel_rfl) (by kernel_rfl) (by kernel_rfl) (wantN rfl rfl rfl hc237) rfl rfl ?_
                refine wpD_pass 16 rfl (by kernel_rfl) (by kernel_rfl) (by kernel_rfl) (wantN rfl rfl rfl hc237) rfl rfl ?_
                refine wpD_pass 17 rfl (by kernel_rfl) (by kernel_rfl) (by kernel_rfl) (wantN rfl rfl rfl hc237) rfl rfl ?_
                refine wpD_take (v := (Value.bool true)) 18 (fun _ => True) rfl (by kernel_rfl) (by kernel_rfl) (by kernel_rfl) rfl rfl rfl trivial (fun w _ => (x_pickT (v := (Value.bool true)) rfl rfl hc237 rfl)) ?_
                exact wpD_done (by kernel_rfl) ⟨true, ⟨rfl, e4, e13, e14, e15, e17, e18, e27, e28, trivial⟩, h⟩
              · replace h := h.2 hc237
                refine wpD_take (v := (Sl.v (⟨some ⟨b116, 0, none⟩, 2, 2⟩ : Sl))) 6 (fun _ => True) rfl (by kernel_rfl) (by kernel_rfl) (by kernel_rfl) (wantG rfl rfl rfl hc237) rfl rfl trivial (fun w _ => (x_move (v := (Sl.v (⟨some ⟨b116, 0, none⟩, 2, 2⟩ : Sl))) rfl e14)) ?_
                refine wpD_take (v := (Value.pointer (some ((Addr.mk b232 0 none).add 1)))) 7 (fun _ => True) rfl (by kernel_rfl) (by kernel_rfl) (by kernel_rfl) (wantG rfl rfl rfl hc237) rfl rfl trivial (fun w _ => (x_fieldAddr rfl e28 FA_34_1)) ?_
                obtain ⟨x238, q238, h⟩ := h
                refine wpD_take (v := (Value.int .i64 x238)) 8 (fun w => w.cell? ((Addr.mk b232 0 none).add 1) = some (Value.int .i64 x238)) rfl (by kernel_rfl) (by kernel_rfl) (by kernel_rfl) (wantG rfl rfl rfl hc237) rfl rfl q238 (fun w q238 => (x_load1 rfl rfl SH_3 q238)) ?_
                obtain ⟨q239, z239, r239, h⟩ := h
                generalize hp239 : z239.add ((x238 : Int).toNat * 22) = p239 at h
                refine wpD_take (v := (Value.pointer (some p239))) 9 (fun _ => True) rfl (by kernel_rfl) (by kernel_rfl) (by kernel_rfl) (wantG rfl rfl rfl hc237) rfl rfl trivial (fun w _ => ((x_indexAddr (s := (⟨some ⟨b116, 0, none⟩, 2, 2⟩ : Sl)) rfl rfl rfl ES_30 q239 r239).trans (by rw [hp239]))) ?_
                obtain ⟨x240, q240, x241, q241, x242, q242, x243, q243, x244, q244, x245, q245, x246, q246, x247, q247, x248, q248, x249, q249, x250, q250, x251, q251, x252, q252, x253, q253, x254, q254, x255, q255, x256, q256, x257, q257, x258, q258, x259, q259, x260, q260, x261, q261, h⟩ := h
                refine wpD_take (v := (V23 x240 x241 x242 x243 x244 x245 x246 x247 x248 x249 x250 x251 x252 x253 x254 x255 x256 x257 x258 x259 x260 x261)) 10 (fun w => C23 p239 x240 x241 x242 x243 x244 x245 x246 x247 x248 x249 x250 x251 x252 x253 x254 x255 x256 x257 x258 x259 x260 x261 w) rfl (by kernel_rfl) (by kernel_rfl) (by kernel_rfl) (wantG rfl rfl rfl hc237) rfl rfl ⟨q240, q241, q242, q243, q244, q245, q246, q247, q248, q249, q250, q251, q252, q253, q254, q255, q256, q257, q258, q259, q260, q261⟩ (fun w q => (x_loadN (S23 x240 x241 x242 x243 x244 x245 x246 x247 x248 x249 x250 x251 x252 x253 x254 x255 x256 x257 x258 x259 x260 x261) rfl rfl SH_24 (K23 q))) ?_
                refine wpD_take (v := (Sl.v (⟨some ⟨b117, 0, none⟩, 2, 2⟩ : Sl))) 11 (fun _ => True) rfl (by kernel_rfl) (by kernel_rfl) (by kernel_rfl) (wantG rfl rfl rfl hc237) rfl rfl trivial (fun w _ => (x_move (v := (Sl.v (⟨some ⟨b117, 0, none⟩, 2, 2⟩ : Sl))) rfl e15)) ?_
                refine wpD_take (v := (Value.pointer (some ((Addr.mk b232 0 none).add 1)))) 12 (fun _ => True) rfl (by kernel_rfl) (by kernel_rfl) (by kernel_rfl) (wantG rfl rfl rfl hc237) rfl rfl trivial (fun w _ => (x_fieldAddr rfl e28 FA_34_1)) ?_
                obtain ⟨x262, q262, h⟩ := h
                refine wpD_take (v := (Value.int .i64 x262)) 13 (fun w => w.cell? ((Addr.mk b232 0 none).add 1) = some (Value.int .i64 x262)) rfl (by kernel_rfl) (by kernel_rfl) (by kernel_rfl) (wantG rfl rfl rfl hc237) rfl rfl q262 (fun w q262 => (x_load1 rfl rfl SH_3 q262)) ?_
                obtain ⟨q263, z263, r263, h⟩ := h
                generalize hp263 : z263.add ((x262 : Int).toNat * 1) = p263 at h
                refine wpD_take (v := (Value.pointer (some p263))) 14 (fun _ => True) rfl (by kernel_rfl) (by kernel_rfl) (by kernel_rfl) (wantG rfl rfl rfl hc237) rfl rfl trivial (fun w _ => ((x_indexAddr (s := (⟨some ⟨b117, 0, none⟩, 2, 2⟩ : Sl)) rfl rfl rfl ES_31 q263 r263).trans (by rw [hp263]))) ?_
                obtain ⟨x264, q264, h⟩ := h
                refine wpD_take (v := (Sl.v x264)) 15 (fun w => w.cell? p263 = some (Sl.v x264)) rfl (by kernel_rfl) (by kernel_rfl) (by kernel_rfl) (wantG rfl rfl rfl hc237) rfl rfl q264 (fun w q264 => (x_load1 rfl rfl SH_27 q264)) ?_
                refine wpD_all (rs := [16]) (by kernel_rfl) (by simp) (allD_cons ?_ allD_nil)
                refine stepD_enterL (L' := [(14, fun _ => True), (13, fun w => w.cell? ((Addr.mk b232 0 none).add 1) = some (Value.int .i64 x262)), (12, fun _ => True), (11, fun _ => True), (9, fun _ => True), (8, fun w => w.cell? ((Addr.mk b232 0 none).add 1) = some (Value.int .i64 x238)), (7, fun _ => True), (6, fun _ => True), (4, fun _ => True), (3, fun _ => True), (2, fun _ => True), (1, fun w => w.cell? ((Addr.mk b232 0 none).add 3) = some (Value.int .i64 x236)), (0, fun _ => True)]) rfl (wantG rfl rfl rfl hc237) rfl rfl (x_call (vs := [(V23 x240 x241 x242 x243 x244 x245 x246 x247 x248 x249 x250 x251 x252 x253 x254 x255 x256 x257 x258 x259 x260 x261), (Sl.v x264)]) rfl rfl (mapl_cons rfl (mapl_cons rfl mapl_nil)) Try.func8 NN_8 NB_8) (by kernel_rfl) (Calls.mono h ?_)
                rintro _ w30 ⟨r265, rfl, h⟩
                obtain ⟨o13, h⟩ := h
                obtain ⟨o8, h⟩ := h
                obtain ⟨o1, h⟩ := h
                refine ⟨_, rfl, (held_cons trivial (held_cons o13 (held_cons trivial (held_cons trivial (held_cons trivial (held_cons o8 (held_cons trivial (held_cons trivial (held_cons trivial (held_cons trivial (held_cons trivial (held_cons o1 (held_cons trivial held_nil))))))))))))), ?_⟩
                refine wpD_take (v := (Value.bool (!r265))) 17 (fun _ => True) rfl (by kernel_rfl) (by kernel_rfl) (by kernel_rfl) (wantG rfl rfl rfl hc237) rfl rfl trivial (fun w _ => (x_not rfl rfl)) ?_
                refine wpD_take (v := (Value.bool (!r265))) 18 (fun _ => True) rfl (by kernel_rfl) (by kernel_rfl) (by kernel_rfl) rfl rfl rfl trivial (fun w _ => (x_pickF (v := (Value.bool (!r265))) rfl rfl hc237 rfl)) ?_
                exact wpD_done (by kernel_rfl) ⟨!r265, ⟨rfl, e4, e13, e14, e15, e17, e18, e27, e28, trivial⟩, h⟩
            clear h
            rintro l266 ρ w31 ⟨e226, e4, e13, e14, e15, e17, e18, e27, e28, -⟩ h
            replace h := hk l266 w31 h
            clear hk
            refine wpC_cond (b := l266) e226 (fun hc267 => ?_) (fun hc267 => ?_)
            · replace h := h.1 hc267
              refine wpC_exit ?_
              exact ⟨(), ⟨e4, e13, e14, e15, e17, e18, e27, trivial⟩, h⟩
            · replace h := h.2 hc267
              refine wpC_skip ?_
              refine wpC_seq ?_
              refine wpC_region ?_
              refine wpR_val (v := (Sl.v l118.2.2.1)) (w' := w31) rfl rfl rfl (x_move (v := (Sl.v l118.2.2.1)) rfl e18) ?_
              refine wpR_val (v := (Value.pointer (some ((Addr.mk b232 0 none).add 0)))) (w' := w31) rfl rfl rfl (x_fieldAddr rfl e28 FA_34_0) ?_
              obtain ⟨x268, q268, h⟩ := h
              refine wpR_val (v := (Value.int .i64 x268)) (w' := w31) rfl rfl rfl (x_load1 rfl rfl SH_3 q268) ?_
              refine wpR_val (v := (Value.pointer (some ((Addr.mk b232 0 none).add 1)))) (w' := w31) rfl rfl rfl (x_fieldAddr rfl e28 FA_34_1) ?_
              obtain ⟨x269, q269, h⟩ := h
              refine wpR_val (v := (Value.int .i64 x269)) (w' := w31) rfl rfl rfl (x_load1 rfl rfl SH_3 q269) ?_
              refine wpR_enter rfl rfl rfl (x_call (vs := [(Sl.v l118.2.2.1), (Value.int .i64 x268), (Value.int .i64 x269)]) rfl rfl (mapl_cons rfl (mapl_cons rfl (mapl_cons rfl mapl_nil))) Try.func9 NN_9 NB_9) (Calls.mono h ?_)
              rintro _ w32 ⟨r270, rfl, h⟩
              refine ⟨_, rfl, ?_⟩
              refine wpR_val (v := (Value.int .i64 r270)) (w' := w32) rfl rfl rfl (x_assign (v := (Value.int .i64 r270)) rfl rfl) ?_
              refine wpR_nil ?_
              refine wpC_seq ?_
              refine wpC_cut (fun ρ => ρ 4 = (Sl.v p4) ∧ ρ 13 = (Value.bool r11) ∧ ρ 14 = (Sl.v (⟨some ⟨b116, 0, none⟩, 2, 2⟩ : Sl)) ∧ ρ 15 = (Sl.v (⟨some ⟨b117, 0, none⟩, 2, 2⟩ : Sl)) ∧ ρ 17 = (Sl.v l118.2.1) ∧ ρ 18 = (Sl.v l118.2.2.1) ∧ ρ 27 = (Value.int .i64 l223) ∧ ρ 28 = (Value.pointer (some (Addr.mk b232 0 none))) ∧ ρ 29 = (Value.int .i64 r270) ∧ True) ⟨e4, e13, e14, e15, e17, e18, e27, e28, rfl, trivial⟩ ?_
              rintro ρ ⟨e4, e13, e14, e15, e17, e18, e27, e28, e29, -⟩
              refine wpC_region ?_
              refine wpR_val (v := (Value.int .i64 r270)) (w' := w32) rfl rfl rfl (x_move (v := (Value.int .i64 r270)) rfl e29) ?_
              refine wpR_val (v := (Value.bool (decide (r270 < 0)))) (w' := w32) rfl rfl rfl (x_lss rfl rfl rfl) ?_
              refine wpR_val (v := (Value.bool (decide (r270 < 0)))) (w' := w32) rfl rfl rfl (x_move (v := (Value.bool (decide (r270 < 0)))) rfl rfl) ?_
              obtain ⟨J271, h, hk⟩ := h
              refine wpR_joinJ 5 (fun x ρ => ρ 240 = Value.bool x ∧ ρ 4 = (Sl.v p4) ∧ ρ 13 = (Value.bool r11) ∧ ρ 14 = (Sl.v (⟨some ⟨b116, 0, none⟩, 2, 2⟩ : Sl)) ∧ ρ 15 = (Sl.v (⟨some ⟨b117, 0, none⟩, 2, 2⟩ : Sl)) ∧ ρ 17 = (Sl.v l118.2.1) ∧ ρ 18 = (Sl.v l118.2.2.1) ∧ ρ 27 = (Value.int .i64 l223) ∧ True) (fun x w => J271 x ∧ w32 = w) ?_ ?_
              · clear hk
                rcases Bool.eq_false_or_eq_true (decide (r270 < 0)) with hc272 | hc272
                · replace h := h.1 hc272
                  refine wpR_pass (wantN rfl rfl rfl hc272) rfl rfl ?_
                  refine wpR_pass (wantN rfl rfl rfl hc272) rfl rfl ?_
                  refine wpR_pass (wantN rfl rfl rfl hc272) rfl rfl ?_
                  refine wpR_pass (wantN rfl rfl rfl hc272) rfl rfl ?_
                  refine wpR_val (v := (Value.bool true)) (w' := w32) rfl rfl rfl (x_pickT (v := (Value.bool true)) rfl rfl hc272 rfl) ?_
                  refine wpR_nil ?_
                  exact ⟨true, ⟨rfl, e4, e13, e14, e15, e17, e18, e27, trivial⟩, h, rfl⟩
                · replace h := h.2 hc272
                  refine wpR_val (v := (Value.int .i64 r270)) (w' := w32) (wantG rfl rfl rfl hc272) rfl rfl (x_move (v := (Value.int .i64 r270)) rfl e29) ?_
                  refine wpR_val (v := (Value.pointer (some ((Addr.mk b232 0 none).add 3)))) (w' := w32) (wantG rfl rfl rfl hc272) rfl rfl (x_fieldAddr rfl e28 FA_34_3) ?_
                  obtain ⟨x273, q273, h⟩ := h
                  refine wpR_val (v := (Value.int .i64 x273)) (w' := w32) (wantG rfl rfl rfl hc272) rfl rfl (x_load1 rfl rfl SH_3 q273) ?_
                  refine wpR_val (v := (Value.bool (decide (x273 ≤ r270)))) (w' := w32) (wantG rfl rfl rfl hc272) rfl rfl (x_geq rfl rfl rfl) ?_
                  refine wpR_val (v := (Value.bool (decide (x273 ≤ r270)))) (w' := w32) rfl rfl rfl (x_pickF (v := (Value.bool (decide (x273 ≤ r270)))) rfl rfl hc272 rfl) ?_
                  refine wpR_nil ?_
                  exact ⟨decide (x273 ≤ r270), ⟨rfl, e4, e13, e14, e15, e17, e18, e27, trivial⟩, h, rfl⟩
              clear h
              rintro c274 ρ wj ⟨e240, e4, e13, e14, e15, e17, e18, e27, -⟩ ⟨h, rfl⟩
              replace h := hk c274 h
              clear hk
              refine wpR_nil ?_
              refine wpC_cond (b := c274) e240 (fun hc275 => ?_) (fun hc275 => ?_)
              · replace h := h.1 hc275
                refine wpC_seq ?_
                refine wpC_region ?_
                refine wpR_val (v := (Value.bool false)) (w' := w32) rfl rfl rfl (x_assign (v := (Value.bool false)) rfl rfl) ?_
                refine wpR_nil ?_
                refine wpC_ret ?_
                exact ⟨.inl rfl, fun a ha => ⟨_, results_rep1 rfl ha rfl, false, rfl, h⟩⟩
              · replace h := h.2 hc275
                refine wpC_skip ?_
                exact ⟨(), ⟨e4, e13, e14, e15, e17, e18, e27, trivial⟩, h⟩
          clear h
          rintro l226 ρ w26 ⟨e4, e13, e14, e15, e17, e18, e27, -⟩ h
          replace h := hk l226 w26 h
          clear hk
          refine wpC_region ?_
          refine wpR_val (v := (Value.int .i64 l223)) (w' := w26) rfl rfl rfl (x_move (v := (Value.int .i64 l223)) rfl e27) ?_
          refine wpR_val (v := (Value.int .i64 (IntKind.i64.wrap (l223 + 1)))) (w' := w26) rfl rfl rfl (x_add rfl rfl rfl) ?_
          refine wpR_val (v := (Value.int .i64 (IntKind.i64.wrap (l223 + 1)))) (w' := w26) rfl rfl rfl (x_assign (v := (Value.int .i64 (IntKind.i64.wrap (l223 + 1)))) rfl rfl) ?_
          refine wpR_nil ?_
          exact ⟨IntKind.i64.wrap (l223 + 1), ⟨rfl, e4, e13, e14, e15, e17, e18, trivial⟩, h⟩
        · replace h := h.2 hc224
          refine wpC_exit ?_
          refine wpC_seq ?_
          refine wpC_cut (fun ρ => ρ 13 = (Value.bool r11) ∧ True) ⟨e13, trivial⟩ ?_
          rintro ρ ⟨e13, -⟩
          refine wpC_region ?_
          refine wpR_val (v := (Value.bool r11)) (w' := w25) rfl rfl rfl (x_move (v := (Value.bool r11)) rfl e13) ?_
          refine wpR_val (v := (Value.bool r11)) (w' := w25) rfl rfl rfl (x_assign (v := (Value.bool r11)) rfl rfl) ?_
          refine wpR_nil ?_
          refine wpC_ret ?_
          exact ⟨.inl rfl, fun a ha => ⟨_, results_rep1 rfl ha rfl, r11, rfl, h⟩⟩


end Go.Proofs.Ytgbhghoppjfofaa
