import Derived.Test.YtnoahloppffndaaRows
import Derived.Test.YtnoahloppffndaaDecRaw
namespace Go.Proofs.Ytnoahloppffndaa
open Go.Dec
set_option maxHeartbeats 400000
set_option maxRecDepth 100000

@[reducible] def T23 : Type := ByteArray × Int × Int × Int × Bool × Int × Bool × Bool × Int × Int × Int × Int × Sl × Int × Int × Int × Int × Bool × Int × Int × Int × Int
@[reducible] def V23 (x0 : ByteArray) (x1 : Int) (x2 : Int) (x3 : Int) (x4 : Bool) (x5 : Int) (x6 : Bool) (x7 : Bool) (x8 : Int) (x9 : Int) (x10 : Int) (x11 : Int) (x12 : Sl) (x13 : Int) (x14 : Int) (x15 : Int) (x16 : Int) (x17 : Bool) (x18 : Int) (x19 : Int) (x20 : Int) (x21 : Int) : Value := .agg #[.string x0, .int .i64 x1, .int .i64 x2, .int .i64 x3, .bool x4, .int .i64 x5, .bool x6, .bool x7, .int .i64 x8, .int .i64 x9, .int .i64 x10, .int .i64 x11, Sl.v x12, .int .i64 x13, .int .i64 x14, .int .i64 x15, .int .i64 x16, .bool x17, .int .i64 x18, .int .i64 x19, .int .i64 x20, .int .i64 x21]
@[reducible] def A23 (x0 : ByteArray) (x1 : Int) (x2 : Int) (x3 : Int) (x4 : Bool) (x5 : Int) (x6 : Bool) (x7 : Bool) (x8 : Int) (x9 : Int) (x10 : Int) (x11 : Int) (x12 : Sl) (x13 : Int) (x14 : Int) (x15 : Int) (x16 : Int) (x17 : Bool) (x18 : Int) (x19 : Int) (x20 : Int) (x21 : Int) : Array Value := #[.string x0, .int .i64 x1, .int .i64 x2, .int .i64 x3, .bool x4, .int .i64 x5, .bool x6, .bool x7, .int .i64 x8, .int .i64 x9, .int .i64 x10, .int .i64 x11, Sl.v x12, .int .i64 x13, .int .i64 x14, .int .i64 x15, .int .i64 x16, .bool x17, .int .i64 x18, .int .i64 x19, .int .i64 x20, .int .i64 x21]
@[reducible] def S23 (x0 : ByteArray) (x1 : Int) (x2 : Int) (x3 : Int) (x4 : Bool) (x5 : Int) (x6 : Bool) (x7 : Bool) (x8 : Int) (x9 : Int) (x10 : Int) (x11 : Int) (x12 : Sl) (x13 : Int) (x14 : Int) (x15 : Int) (x16 : Int) (x17 : Bool) (x18 : Int) (x19 : Int) (x20 : Int) (x21 : Int) : List Value := [.string x0, .int .i64 x1, .int .i64 x2, .int .i64 x3, .bool x4, .int .i64 x5, .bool x6, .bool x7, .int .i64 x8, .int .i64 x9, .int .i64 x10, .int .i64 x11, Sl.v x12, .int .i64 x13, .int .i64 x14, .int .i64 x15, .int .i64 x16, .bool x17, .int .i64 x18, .int .i64 x19, .int .i64 x20, .int .i64 x21]
@[reducible] def E23 (r : T23) : Value := V23 r.1 r.2.1 r.2.2.1 r.2.2.2.1 r.2.2.2.2.1 r.2.2.2.2.2.1 r.2.2.2.2.2.2.1 r.2.2.2.2.2.2.2.1 r.2.2.2.2.2.2.2.2.1 r.2.2.2.2.2.2.2.2.2.1 r.2.2.2.2.2.2.2.2.2.2.1 r.2.2.2.2.2.2.2.2.2.2.2.1 r.2.2.2.2.2.2.2.2.2.2.2.2.1 r.2.2.2.2.2.2.2.2.2.2.2.2.2.1 r.2.2.2.2.2.2.2.2.2.2.2.2.2.2.1 r.2.2.2.2.2.2.2.2.2.2.2.2.2.2.2.1 r.2.2.2.2.2.2.2.2.2.2.2.2.2.2.2.2.1 r.2.2.2.2.2.2.2.2.2.2.2.2.2.2.2.2.2.1 r.2.2.2.2.2.2.2.2.2.2.2.2.2.2.2.2.2.2.1 r.2.2.2.2.2.2.2.2.2.2.2.2.2.2.2.2.2.2.2.1 r.2.2.2.2.2.2.2.2.2.2.2.2.2.2.2.2.2.2.2.2.1 r.2.2.2.2.2.2.2.2.2.2.2.2.2.2.2.2.2.2.2.2.2
@[reducible] def C23 (p : Addr) (x0 : ByteArray) (x1 : Int) (x2 : Int) (x3 : Int) (x4 : Bool) (x5 : Int) (x6 : Bool) (x7 : Bool) (x8 : Int) (x9 : Int) (x10 : Int) (x11 : Int) (x12 : Sl) (x13 : Int) (x14 : Int) (x15 : Int) (x16 : Int) (x17 : Bool) (x18 : Int) (x19 : Int) (x20 : Int) (x21 : Int) (w : World) : Prop := w.cell? (p.add 0) = some (.string x0) ∧ w.cell? (p.add 1) = some (.int .i64 x1) ∧ w.cell? (p.add 2) = some (.int .i64 x2) ∧ w.cell? (p.add 3) = some (.int .i64 x3) ∧ w.cell? (p.add 4) = some (.bool x4) ∧ w.cell? (p.add 5) = some (.int .i64 x5) ∧ w.cell? (p.add 6) = some (.bool x6) ∧ w.cell? (p.add 7) = some (.bool x7) ∧ w.cell? (p.add 8) = some (.int .i64 x8) ∧ w.cell? (p.add 9) = some (.int .i64 x9) ∧ w.cell? (p.add 10) = some (.int .i64 x10) ∧ w.cell? (p.add 11) = some (.int .i64 x11) ∧ w.cell? (p.add 12) = some (Sl.v x12) ∧ w.cell? (p.add 13) = some (.int .i64 x13) ∧ w.cell? (p.add 14) = some (.int .i64 x14) ∧ w.cell? (p.add 15) = some (.int .i64 x15) ∧ w.cell? (p.add 16) = some (.int .i64 x16) ∧ w.cell? (p.add 17) = some (.bool x17) ∧ w.cell? (p.add 18) = some (.int .i64 x18) ∧ w.cell? (p.add 19) = some (.int .i64 x19) ∧ w.cell? (p.add 20) = some (.int .i64 x20) ∧ w.cell? (p.add 21) = some (.int .i64 x21)
@[reducible] def L23 (p : Addr) (w : World) (K : ByteArray → Int → Int → Int → Bool → Int → Bool → Bool → Int → Int → Int → Int → Sl → Int → Int → Int → Int → Bool → Int → Int → Int → Int → Prop) : Prop := ld Value.string (p.add 0) w fun x0 => ld (Value.int .i64) (p.add 1) w fun x1 => ld (Value.int .i64) (p.add 2) w fun x2 => ld (Value.int .i64) (p.add 3) w fun x3 => ld Value.bool (p.add 4) w fun x4 => ld (Value.int .i64) (p.add 5) w fun x5 => ld Value.bool (p.add 6) w fun x6 => ld Value.bool (p.add 7) w fun x7 => ld (Value.int .i64) (p.add 8) w fun x8 => ld (Value.int .i64) (p.add 9) w fun x9 => ld (Value.int .i64) (p.add 10) w fun x10 => ld (Value.int .i64) (p.add 11) w fun x11 => ld Sl.v (p.add 12) w fun x12 => ld (Value.int .i64) (p.add 13) w fun x13 => ld (Value.int .i64) (p.add 14) w fun x14 => ld (Value.int .i64) (p.add 15) w fun x15 => ld (Value.int .i64) (p.add 16) w fun x16 => ld Value.bool (p.add 17) w fun x17 => ld (Value.int .i64) (p.add 18) w fun x18 => ld (Value.int .i64) (p.add 19) w fun x19 => ld (Value.int .i64) (p.add 20) w fun x20 => ld (Value.int .i64) (p.add 21) w fun x21 => K x0 x1 x2 x3 x4 x5 x6 x7 x8 x9 x10 x11 x12 x13 x14 x15 x16 x17 x18 x19 x20 x21
theorem K23 {w : World} {p : Addr} {x0 : ByteArray} {x1 : Int} {x2 : Int} {x3 : Int} {x4 : Bool} {x5 : Int} {x6 : Bool} {x7 : Bool} {x8 : Int} {x9 : Int} {x10 : Int} {x11 : Int} {x12 : Sl} {x13 : Int} {x14 : Int} {x15 : Int} {x16 : Int} {x17 : Bool} {x18 : Int} {x19 : Int} {x20 : Int} {x21 : Int} (h : C23 p x0 x1 x2 x3 x4 x5 x6 x7 x8 x9 x10 x11 x12 x13 x14 x15 x16 x17 x18 x19 x20 x21 w) : ∀ (j : Nat) (u : Value), (S23 x0 x1 x2 x3 x4 x5 x6 x7 x8 x9 x10 x11 x12 x13 x14 x15 x16 x17 x18 x19 x20 x21)[j]? = some u → w.cell? (p.add j) = some u := by
  obtain ⟨q0, q1, q2, q3, q4, q5, q6, q7, q8, q9, q10, q11, q12, q13, q14, q15, q16, q17, q18, q19, q20, q21⟩ := h
  exact CellsAt.out (CellsAt.cons q0 (CellsAt.cons q1 (CellsAt.cons q2 (CellsAt.cons q3 (CellsAt.cons q4 (CellsAt.cons q5 (CellsAt.cons q6 (CellsAt.cons q7 (CellsAt.cons q8 (CellsAt.cons q9 (CellsAt.cons q10 (CellsAt.cons q11 (CellsAt.cons q12 (CellsAt.cons q13 (CellsAt.cons q14 (CellsAt.cons q15 (CellsAt.cons q16 (CellsAt.cons q17 (CellsAt.cons q18 (CellsAt.cons q19 (CellsAt.cons q20 (CellsAt.cons q21 CellsAt.nil))))))))))))))))))))))

theorem BD_24_ : ∀ w, (Instr.build 24 #[]).run Try.prog w = .ok (V23 (ByteArray.mk #[]) 0 0 0 false 0 false false 0 0 0 0 Sl.nil 0 0 0 0 false 0 0 0 0) w := fun w => by kernel_rfl
theorem BD_24_0_1_4_5_6_8_9_10_11_12_18_20 (y0 : ByteArray) (y1 : Int) (y4 : Bool) (y5 : Int) (y6 : Bool) (y8 : Int) (y9 : Int) (y10 : Int) (y11 : Int) (y12 : Sl) (y18 : Int) (y20 : Int) : ∀ w, (Instr.build 24 #[(0, (Value.string y0)), (1, (Value.int .i64 y1)), (4, (Value.bool y4)), (5, (Value.int .i64 y5)), (6, (Value.bool y6)), (8, (Value.int .i64 y8)), (9, (Value.int .i64 y9)), (10, (Value.int .i64 y10)), (11, (Value.int .i64 y11)), (12, (Sl.v y12)), (18, (Value.int .i64 y18)), (20, (Value.int .i64 y20))]).run Try.prog w = .ok (V23 y0 y1 0 0 y4 y5 y6 false y8 y9 y10 y11 y12 0 0 0 0 false y18 0 y20 0) w := fun w => by kernel_rfl
theorem BD_44_0_1_2 (y0 : Int) (y1 : Int) (y2 : Int) : ∀ w, (Instr.build 44 #[(0, (Value.int .i64 y0)), (1, (Value.int .i64 y1)), (2, (Value.int .i64 y2))]).run Try.prog w = .ok (Value.agg #[(Value.int .i64 y0), (Value.int .i64 y1), (Value.int .i64 y2)]) w := fun w => by kernel_rfl
theorem BD_46_ : ∀ w, (Instr.build 46 #[]).run Try.prog w = .ok (Value.agg #[(Value.int .i64 0), (Value.int .i64 0)]) w := fun w => by kernel_rfl
theorem BD_46_0_1 (y0 : Int) (y1 : Int) : ∀ w, (Instr.build 46 #[(0, (Value.int .i64 y0)), (1, (Value.int .i64 y1))]).run Try.prog w = .ok (Value.agg #[(Value.int .i64 y0), (Value.int .i64 y1)]) w := fun w => by kernel_rfl
theorem BD_55_0_1 (y0 : Int) (y1 : Int) (y2 : Bool) : ∀ w, (Instr.build 55 #[(0, (Value.agg #[(Value.int .i64 y0), (Value.int .i64 y1)])), (1, (Value.bool y2))]).run Try.prog w = .ok (Value.agg #[(Value.int .i64 y0), (Value.int .i64 y1), (Value.bool y2)]) w := fun w => by kernel_rfl
theorem BD_72_0_1 (y0 : Bool) (y1 : Int) (y2 : Int) : ∀ w, (Instr.build 72 #[(0, (Value.bool y0)), (1, (Value.agg #[(Value.int .i64 y1), (Value.int .i64 y2)]))]).run Try.prog w = .ok (Value.agg #[(Value.bool y0), (Value.int .i64 y1), (Value.int .i64 y2)]) w := fun w => by kernel_rfl
theorem BD_82_0_1 (y0 : Int) (y1 : Int) : ∀ w, (Instr.build 82 #[(0, (Value.int .i64 y0)), (1, (Value.int .i64 y1))]).run Try.prog w = .ok (Value.agg #[(Value.int .i64 y0), (Value.int .i64 y1)]) w := fun w => by kernel_rfl
theorem BS_22_0_ : ∀ w, (Instr.buildSlice 22 0 #[]).run Try.prog w = .ok (.slice (some ⟨w.heap.size, 0, none⟩) 0 0) (w.alloc (.cells #[] 9)) := fun w => by kernel_rfl
theorem BS_22_1_0 (y0 : ByteArray) : ∀ w, (Instr.buildSlice 22 1 #[(0, (Value.string y0))]).run Try.prog w = .ok (.slice (some ⟨w.heap.size, 0, none⟩) 1 1) (w.alloc (.cells #[(Value.string y0)] 9)) := fun w => by kernel_rfl
theorem BS_25_0_ : ∀ w, (Instr.buildSlice 25 0 #[]).run Try.prog w = .ok (.slice (some ⟨w.heap.size, 0, none⟩) 0 0) (w.alloc (.cells #[] 46)) := fun w => by kernel_rfl
theorem BS_26_1_0 (y0 : Int) (y1 : Int) (y2 : Int) : ∀ w, (Instr.buildSlice 26 1 #[(0, (Value.agg #[(Value.int .i64 y0), (Value.int .i64 y1), (Value.int .i64 y2)]))]).run Try.prog w = .ok (.slice (some ⟨w.heap.size, 0, none⟩) 1 1) (w.alloc (.cells #[(Value.int .i64 y0), (Value.int .i64 y1), (Value.int .i64 y2)] 44)) := fun w => by kernel_rfl
theorem BS_26_5_0_1_2_3_4 (y0 : Int) (y1 : Int) (y2 : Int) (y3 : Int) (y4 : Int) (y5 : Int) (y6 : Int) (y7 : Int) (y8 : Int) (y9 : Int) (y10 : Int) (y11 : Int) (y12 : Int) (y13 : Int) (y14 : Int) : ∀ w, (Instr.buildSlice 26 5 #[(0, (Value.agg #[(Value.int .i64 y0), (Value.int .i64 y1), (Value.int .i64 y2)])), (1, (Value.agg #[(Value.int .i64 y3), (Value.int .i64 y4), (Value.int .i64 y5)])), (2, (Value.agg #[(Value.int .i64 y6), (Value.int .i64 y7), (Value.int .i64 y8)])), (3, (Value.agg #[(Value.int .i64 y9), (Value.int .i64 y10), (Value.int .i64 y11)])), (4, (Value.agg #[(Value.int .i64 y12), (Value.int .i64 y13), (Value.int .i64 y14)]))]).run Try.prog w = .ok (.slice (some ⟨w.heap.size, 0, none⟩) 5 5) (w.alloc (.cells #[(Value.int .i64 y0), (Value.int .i64 y1), (Value.int .i64 y2), (Value.int .i64 y3), (Value.int .i64 y4), (Value.int .i64 y5), (Value.int .i64 y6), (Value.int .i64 y7), (Value.int .i64 y8), (Value.int .i64 y9), (Value.int .i64 y10), (Value.int .i64 y11), (Value.int .i64 y12), (Value.int .i64 y13), (Value.int .i64 y14)] 44)) := fun w => by kernel_rfl
theorem BS_51_1_0 (y0 : Int) (y1 : Int) (y2 : Bool) : ∀ w, (Instr.buildSlice 51 1 #[(0, (Value.agg #[(Value.int .i64 y0), (Value.int .i64 y1), (Value.bool y2)]))]).run Try.prog w = .ok (.slice (some ⟨w.heap.size, 0, none⟩) 1 1) (w.alloc (.cells #[(Value.int .i64 y0), (Value.int .i64 y1), (Value.bool y2)] 55)) := fun w => by kernel_rfl
theorem BS_51_2_0_1 (y0 : Int) (y1 : Int) (y2 : Bool) (y3 : Int) (y4 : Int) (y5 : Bool) : ∀ w, (Instr.buildSlice 51 2 #[(0, (Value.agg #[(Value.int .i64 y0), (Value.int .i64 y1), (Value.bool y2)])), (1, (Value.agg #[(Value.int .i64 y3), (Value.int .i64 y4), (Value.bool y5)]))]).run Try.prog w = .ok (.slice (some ⟨w.heap.size, 0, none⟩) 2 2) (w.alloc (.cells #[(Value.int .i64 y0), (Value.int .i64 y1), (Value.bool y2), (Value.int .i64 y3), (Value.int .i64 y4), (Value.bool y5)] 55)) := fun w => by kernel_rfl
theorem BS_51_3_0_1_2 (y0 : Int) (y1 : Int) (y2 : Bool) (y3 : Int) (y4 : Int) (y5 : Bool) (y6 : Int) (y7 : Int) (y8 : Bool) : ∀ w, (Instr.buildSlice 51 3 #[(0, (Value.agg #[(Value.int .i64 y0), (Value.int .i64 y1), (Value.bool y2)])), (1, (Value.agg #[(Value.int .i64 y3), (Value.int .i64 y4), (Value.bool y5)])), (2, (Value.agg #[(Value.int .i64 y6), (Value.int .i64 y7), (Value.bool y8)]))]).run Try.prog w = .ok (.slice (some ⟨w.heap.size, 0, none⟩) 3 3) (w.alloc (.cells #[(Value.int .i64 y0), (Value.int .i64 y1), (Value.bool y2), (Value.int .i64 y3), (Value.int .i64 y4), (Value.bool y5), (Value.int .i64 y6), (Value.int .i64 y7), (Value.bool y8)] 55)) := fun w => by kernel_rfl
theorem BS_63_9_0_1_2_3_4_5_6_7_8 (y0 : Int) (y1 : Int) (y2 : Int) (y3 : Int) (y4 : Int) (y5 : Int) (y6 : Int) (y7 : Int) (y8 : Int) : ∀ w, (Instr.buildSlice 63 9 #[(0, (Value.int .i64 y0)), (1, (Value.int .i64 y1)), (2, (Value.int .i64 y2)), (3, (Value.int .i64 y3)), (4, (Value.int .i64 y4)), (5, (Value.int .i64 y5)), (6, (Value.int .i64 y6)), (7, (Value.int .i64 y7)), (8, (Value.int .i64 y8))]).run Try.prog w = .ok (.slice (some ⟨w.heap.size, 0, none⟩) 9 9) (w.alloc (.cells #[(Value.int .i64 y0), (Value.int .i64 y1), (Value.int .i64 y2), (Value.int .i64 y3), (Value.int .i64 y4), (Value.int .i64 y5), (Value.int .i64 y6), (Value.int .i64 y7), (Value.int .i64 y8)] 3)) := fun w => by kernel_rfl
theorem BS_83_6_0_1_2_3_4_5 (y0 : Int) (y1 : Int) (y2 : Int) (y3 : Int) (y4 : Int) (y5 : Int) (y6 : Int) (y7 : Int) (y8 : Int) (y9 : Int) (y10 : Int) (y11 : Int) : ∀ w, (Instr.buildSlice 83 6 #[(0, (Value.agg #[(Value.int .i64 y0), (Value.int .i64 y1)])), (1, (Value.agg #[(Value.int .i64 y2), (Value.int .i64 y3)])), (2, (Value.agg #[(Value.int .i64 y4), (Value.int .i64 y5)])), (3, (Value.agg #[(Value.int .i64 y6), (Value.int .i64 y7)])), (4, (Value.agg #[(Value.int .i64 y8), (Value.int .i64 y9)])), (5, (Value.agg #[(Value.int .i64 y10), (Value.int .i64 y11)]))]).run Try.prog w = .ok (.slice (some ⟨w.heap.size, 0, none⟩) 6 6) (w.alloc (.cells #[(Value.int .i64 y0), (Value.int .i64 y1), (Value.int .i64 y2), (Value.int .i64 y3), (Value.int .i64 y4), (Value.int .i64 y5), (Value.int .i64 y6), (Value.int .i64 y7), (Value.int .i64 y8), (Value.int .i64 y9), (Value.int .i64 y10), (Value.int .i64 y11)] 82)) := fun w => by kernel_rfl
theorem BS_85_2_0_1 (y0 : Bool) (y1 : Int) (y2 : Int) (y3 : Bool) (y4 : Int) (y5 : Int) : ∀ w, (Instr.buildSlice 85 2 #[(0, (Value.agg #[(Value.bool y0), (Value.int .i64 y1), (Value.int .i64 y2)])), (1, (Value.agg #[(Value.bool y3), (Value.int .i64 y4), (Value.int .i64 y5)]))]).run Try.prog w = .ok (.slice (some ⟨w.heap.size, 0, none⟩) 2 2) (w.alloc (.cells #[(Value.bool y0), (Value.int .i64 y1), (Value.int .i64 y2), (Value.bool y3), (Value.int .i64 y4), (Value.int .i64 y5)] 72)) := fun w => by kernel_rfl
theorem BS_85_3_0_1_2 (y0 : Bool) (y1 : Int) (y2 : Int) (y3 : Bool) (y4 : Int) (y5 : Int) (y6 : Bool) (y7 : Int) (y8 : Int) : ∀ w, (Instr.buildSlice 85 3 #[(0, (Value.agg #[(Value.bool y0), (Value.int .i64 y1), (Value.int .i64 y2)])), (1, (Value.agg #[(Value.bool y3), (Value.int .i64 y4), (Value.int .i64 y5)])), (2, (Value.agg #[(Value.bool y6), (Value.int .i64 y7), (Value.int .i64 y8)]))]).run Try.prog w = .ok (.slice (some ⟨w.heap.size, 0, none⟩) 3 3) (w.alloc (.cells #[(Value.bool y0), (Value.int .i64 y1), (Value.int .i64 y2), (Value.bool y3), (Value.int .i64 y4), (Value.int .i64 y5), (Value.bool y6), (Value.int .i64 y7), (Value.int .i64 y8)] 72)) := fun w => by kernel_rfl
theorem EQ1_44 : Try.prog.underlying 44 = some (.struct (Try.prog.fieldsOf 44)) := by kernel_rfl
theorem EQ1_46 : Try.prog.underlying 46 = some (.struct (Try.prog.fieldsOf 46)) := by kernel_rfl
theorem EQ1_55 : Try.prog.underlying 55 = some (.struct (Try.prog.fieldsOf 55)) := by kernel_rfl
theorem EQ2_44 : Try.prog.stoodInHeld 44 = false := by kernel_rfl
theorem EQ2_46 : Try.prog.stoodInHeld 46 = false := by kernel_rfl
theorem EQ2_55 : Try.prog.stoodInHeld 55 = false := by kernel_rfl
theorem EQ3_44 : Try.prog.eqGuardType Try.prog.depth 44 = false := by kernel_rfl
theorem EQ3_46 : Try.prog.eqGuardType Try.prog.depth 46 = false := by kernel_rfl
theorem EQ3_55 : Try.prog.eqGuardType Try.prog.depth 55 = false := by kernel_rfl
theorem EQ_44 (y0 : Int) (y1 : Int) (y2 : Int) (z0 : Int) (z1 : Int) (z2 : Int) : fieldsEq Try.prog #[(Value.int .i64 y0), (Value.int .i64 y1), (Value.int .i64 y2)] #[(Value.int .i64 z0), (Value.int .i64 z1), (Value.int .i64 z2)] (Try.prog.fieldsOf 44).toList = some (decide (y0 = z0) && (decide (y1 = z1) && (decide (y2 = z2) && true))) := by kernel_rfl
theorem EQ_46 (y0 : Int) (y1 : Int) (z0 : Int) (z1 : Int) : fieldsEq Try.prog #[(Value.int .i64 y0), (Value.int .i64 y1)] #[(Value.int .i64 z0), (Value.int .i64 z1)] (Try.prog.fieldsOf 46).toList = some (decide (y0 = z0) && (decide (y1 = z1) && true)) := by kernel_rfl
theorem EQ_55 (y0 : Int) (y1 : Int) (y2 : Bool) (z0 : Int) (z1 : Int) (z2 : Bool) : fieldsEq Try.prog #[(Value.int .i64 y0), (Value.int .i64 y1), (Value.bool y2)] #[(Value.int .i64 z0), (Value.int .i64 z1), (Value.bool z2)] (Try.prog.fieldsOf 55).toList = some ((decide (y0 = z0) && (decide (y1 = z1) && true)) && ((y2 == z2) && true)) := by kernel_rfl
theorem ES_22 : elemSize Try.prog 22 = some 1 := by kernel_rfl
theorem ES_25 : elemSize Try.prog 25 = some 2 := by kernel_rfl
theorem ES_26 : elemSize Try.prog 26 = some 3 := by kernel_rfl
theorem ES_51 : elemSize Try.prog 51 = some 3 := by kernel_rfl
theorem ES_63 : elemSize Try.prog 63 = some 1 := by kernel_rfl
theorem ES_83 : elemSize Try.prog 83 = some 2 := by kernel_rfl
theorem ES_85 : elemSize Try.prog 85 = some 3 := by kernel_rfl
theorem FA_24_0 : fieldOff Try.prog 24 0 = some 0 := by kernel_rfl
theorem FA_24_1 : fieldOff Try.prog 24 1 = some 1 := by kernel_rfl
theorem FA_24_10 : fieldOff Try.prog 24 10 = some 10 := by kernel_rfl
theorem FA_24_11 : fieldOff Try.prog 24 11 = some 11 := by kernel_rfl
theorem FA_24_12 : fieldOff Try.prog 24 12 = some 12 := by kernel_rfl
theorem FA_24_13 : fieldOff Try.prog 24 13 = some 13 := by kernel_rfl
theorem FA_24_14 : fieldOff Try.prog 24 14 = some 14 := by kernel_rfl
theorem FA_24_15 : fieldOff Try.prog 24 15 = some 15 := by kernel_rfl
theorem FA_24_16 : fieldOff Try.prog 24 16 = some 16 := by kernel_rfl
theorem FA_24_18 : fieldOff Try.prog 24 18 = some 18 := by kernel_rfl
theorem FA_24_19 : fieldOff Try.prog 24 19 = some 19 := by kernel_rfl
theorem FA_24_2 : fieldOff Try.prog 24 2 = some 2 := by kernel_rfl
theorem FA_24_20 : fieldOff Try.prog 24 20 = some 20 := by kernel_rfl
theorem FA_24_21 : fieldOff Try.prog 24 21 = some 21 := by kernel_rfl
theorem FA_24_3 : fieldOff Try.prog 24 3 = some 3 := by kernel_rfl
theorem FA_24_4 : fieldOff Try.prog 24 4 = some 4 := by kernel_rfl
theorem FA_24_5 : fieldOff Try.prog 24 5 = some 5 := by kernel_rfl
theorem FA_24_6 : fieldOff Try.prog 24 6 = some 6 := by kernel_rfl
theorem FA_24_7 : fieldOff Try.prog 24 7 = some 7 := by kernel_rfl
theorem FA_24_8 : fieldOff Try.prog 24 8 = some 8 := by kernel_rfl
theorem FA_24_9 : fieldOff Try.prog 24 9 = some 9 := by kernel_rfl
theorem FA_44_0 : fieldOff Try.prog 44 0 = some 0 := by kernel_rfl
theorem FA_44_1 : fieldOff Try.prog 44 1 = some 1 := by kernel_rfl
theorem FA_44_2 : fieldOff Try.prog 44 2 = some 2 := by kernel_rfl
theorem FA_46_0 : fieldOff Try.prog 46 0 = some 0 := by kernel_rfl
theorem FA_46_1 : fieldOff Try.prog 46 1 = some 1 := by kernel_rfl
theorem FA_55_0 : fieldOff Try.prog 55 0 = some 0 := by kernel_rfl
theorem FA_55_1 : fieldOff Try.prog 55 1 = some 2 := by kernel_rfl
theorem FA_72_0 : fieldOff Try.prog 72 0 = some 0 := by kernel_rfl
theorem FA_72_1 : fieldOff Try.prog 72 1 = some 1 := by kernel_rfl
theorem NB_10 : Try.f10.body.isNone = false := by kernel_rfl
theorem NN_10 : (Try.f10.name == "runtime.NumGoroutine") = false := by kernel_rfl
theorem NB_12 : Try.f12.body.isNone = false := by kernel_rfl
theorem NN_12 : (Try.f12.name == "runtime.NumGoroutine") = false := by kernel_rfl
theorem NB_13 : Try.f13.body.isNone = false := by kernel_rfl
theorem NN_13 : (Try.f13.name == "runtime.NumGoroutine") = false := by kernel_rfl
theorem NB_15 : Try.f15.body.isNone = false := by kernel_rfl
theorem NN_15 : (Try.f15.name == "runtime.NumGoroutine") = false := by kernel_rfl
theorem NB_17 : Try.f17.body.isNone = false := by kernel_rfl
theorem NN_17 : (Try.f17.name == "runtime.NumGoroutine") = false := by kernel_rfl
theorem NB_18 : Try.f18.body.isNone = false := by kernel_rfl
theorem NN_18 : (Try.f18.name == "runtime.NumGoroutine") = false := by kernel_rfl
theorem NB_19 : Try.f19.body.isNone = false := by kernel_rfl
theorem NN_19 : (Try.f19.name == "runtime.NumGoroutine") = false := by kernel_rfl
theorem NB_20 : Try.f20.body.isNone = false := by kernel_rfl
theorem NN_20 : (Try.f20.name == "runtime.NumGoroutine") = false := by kernel_rfl
theorem NB_21 : Try.f21.body.isNone = false := by kernel_rfl
theorem NN_21 : (Try.f21.name == "runtime.NumGoroutine") = false := by kernel_rfl
theorem NB_22 : Try.f22.body.isNone = false := by kernel_rfl
theorem NN_22 : (Try.f22.name == "runtime.NumGoroutine") = false := by kernel_rfl
theorem NB_23 : Try.f23.body.isNone = false := by kernel_rfl
theorem NN_23 : (Try.f23.name == "runtime.NumGoroutine") = false := by kernel_rfl
theorem NB_24 : Try.f24.body.isNone = false := by kernel_rfl
theorem NN_24 : (Try.f24.name == "runtime.NumGoroutine") = false := by kernel_rfl
theorem NB_25 : Try.f25.body.isNone = false := by kernel_rfl
theorem NN_25 : (Try.f25.name == "runtime.NumGoroutine") = false := by kernel_rfl
theorem NB_26 : Try.f26.body.isNone = false := by kernel_rfl
theorem NN_26 : (Try.f26.name == "runtime.NumGoroutine") = false := by kernel_rfl
theorem NB_29 : Try.f29.body.isNone = false := by kernel_rfl
theorem NN_29 : (Try.f29.name == "runtime.NumGoroutine") = false := by kernel_rfl
theorem NB_30 : Try.f30.body.isNone = false := by kernel_rfl
theorem NN_30 : (Try.f30.name == "runtime.NumGoroutine") = false := by kernel_rfl
theorem NB_31 : Try.f31.body.isNone = false := by kernel_rfl
theorem NN_31 : (Try.f31.name == "runtime.NumGoroutine") = false := by kernel_rfl
theorem NB_32 : Try.f32.body.isNone = false := by kernel_rfl
theorem NN_32 : (Try.f32.name == "runtime.NumGoroutine") = false := by kernel_rfl
theorem NB_33 : Try.f33.body.isNone = false := by kernel_rfl
theorem NN_33 : (Try.f33.name == "runtime.NumGoroutine") = false := by kernel_rfl
theorem NB_36 : Try.f36.body.isNone = false := by kernel_rfl
theorem NN_36 : (Try.f36.name == "runtime.NumGoroutine") = false := by kernel_rfl
theorem NB_39 : Try.f39.body.isNone = false := by kernel_rfl
theorem NN_39 : (Try.f39.name == "runtime.NumGoroutine") = false := by kernel_rfl
theorem NB_40 : Try.f40.body.isNone = false := by kernel_rfl
theorem NN_40 : (Try.f40.name == "runtime.NumGoroutine") = false := by kernel_rfl
theorem NB_41 : Try.f41.body.isNone = false := by kernel_rfl
theorem NN_41 : (Try.f41.name == "runtime.NumGoroutine") = false := by kernel_rfl
theorem NB_42 : Try.f42.body.isNone = false := by kernel_rfl
theorem NN_42 : (Try.f42.name == "runtime.NumGoroutine") = false := by kernel_rfl
theorem NB_43 : Try.f43.body.isNone = false := by kernel_rfl
theorem NN_43 : (Try.f43.name == "runtime.NumGoroutine") = false := by kernel_rfl
theorem NB_44 : Try.f44.body.isNone = false := by kernel_rfl
theorem NN_44 : (Try.f44.name == "runtime.NumGoroutine") = false := by kernel_rfl
theorem NB_45 : Try.f45.body.isNone = false := by kernel_rfl
theorem NN_45 : (Try.f45.name == "runtime.NumGoroutine") = false := by kernel_rfl
theorem NB_46 : Try.f46.body.isNone = false := by kernel_rfl
theorem NN_46 : (Try.f46.name == "runtime.NumGoroutine") = false := by kernel_rfl
theorem NB_47 : Try.f47.body.isNone = false := by kernel_rfl
theorem NN_47 : (Try.f47.name == "runtime.NumGoroutine") = false := by kernel_rfl
theorem NB_48 : Try.f48.body.isNone = false := by kernel_rfl
theorem NN_48 : (Try.f48.name == "runtime.NumGoroutine") = false := by kernel_rfl
theorem NB_49 : Try.f49.body.isNone = false := by kernel_rfl
theorem NN_49 : (Try.f49.name == "runtime.NumGoroutine") = false := by kernel_rfl
theorem NB_51 : Try.f51.body.isNone = false := by kernel_rfl
theorem NN_51 : (Try.f51.name == "runtime.NumGoroutine") = false := by kernel_rfl
theorem NB_53 : Try.f53.body.isNone = false := by kernel_rfl
theorem NN_53 : (Try.f53.name == "runtime.NumGoroutine") = false := by kernel_rfl
theorem NB_54 : Try.f54.body.isNone = false := by kernel_rfl
theorem NN_54 : (Try.f54.name == "runtime.NumGoroutine") = false := by kernel_rfl
theorem NB_55 : Try.f55.body.isNone = false := by kernel_rfl
theorem NN_55 : (Try.f55.name == "runtime.NumGoroutine") = false := by kernel_rfl
theorem NB_56 : Try.f56.body.isNone = false := by kernel_rfl
theorem NN_56 : (Try.f56.name == "runtime.NumGoroutine") = false := by kernel_rfl
theorem NB_57 : Try.f57.body.isNone = false := by kernel_rfl
theorem NN_57 : (Try.f57.name == "runtime.NumGoroutine") = false := by kernel_rfl
theorem NB_60 : Try.f60.body.isNone = false := by kernel_rfl
theorem NN_60 : (Try.f60.name == "runtime.NumGoroutine") = false := by kernel_rfl
theorem NB_61 : Try.f61.body.isNone = false := by kernel_rfl
theorem NN_61 : (Try.f61.name == "runtime.NumGoroutine") = false := by kernel_rfl
theorem NB_62 : Try.f62.body.isNone = false := by kernel_rfl
theorem NN_62 : (Try.f62.name == "runtime.NumGoroutine") = false := by kernel_rfl
theorem NB_63 : Try.f63.body.isNone = false := by kernel_rfl
theorem NN_63 : (Try.f63.name == "runtime.NumGoroutine") = false := by kernel_rfl
theorem NB_8 : Try.f8.body.isNone = false := by kernel_rfl
theorem NN_8 : (Try.f8.name == "runtime.NumGoroutine") = false := by kernel_rfl
theorem NB_9 : Try.f9.body.isNone = false := by kernel_rfl
theorem NN_9 : (Try.f9.name == "runtime.NumGoroutine") = false := by kernel_rfl
theorem SH_22 : shapeT Try.prog 22 = some 0 := by kernel_rfl
theorem SH_24 : shapeT Try.prog 24 = some 23 := by kernel_rfl
theorem SH_3 : shapeT Try.prog 3 = some 0 := by kernel_rfl
theorem SH_4 : shapeT Try.prog 4 = some 0 := by kernel_rfl
theorem SH_44 : shapeT Try.prog 44 = some 4 := by kernel_rfl
theorem SH_46 : shapeT Try.prog 46 = some 3 := by kernel_rfl
theorem SH_55 : shapeT Try.prog 55 = some 4 := by kernel_rfl
theorem SH_72 : shapeT Try.prog 72 = some 4 := by kernel_rfl
theorem SH_82 : shapeT Try.prog 82 = some 3 := by kernel_rfl
theorem SH_9 : shapeT Try.prog 9 = some 0 := by kernel_rfl
theorem SZ_22 : sizeT Try.prog 22 = some 1 := by kernel_rfl
theorem SZ_24 : sizeT Try.prog 24 = some 22 := by kernel_rfl
theorem SZ_3 : sizeT Try.prog 3 = some 1 := by kernel_rfl
theorem SZ_4 : sizeT Try.prog 4 = some 1 := by kernel_rfl
theorem SZ_44 : sizeT Try.prog 44 = some 3 := by kernel_rfl
theorem SZ_46 : sizeT Try.prog 46 = some 2 := by kernel_rfl
theorem SZ_55 : sizeT Try.prog 55 = some 3 := by kernel_rfl
theorem SZ_72 : sizeT Try.prog 72 = some 3 := by kernel_rfl
theorem SZ_82 : sizeT Try.prog 82 = some 2 := by kernel_rfl
theorem ZV_24 : (Try.prog.info? 24).bind (·.zero) = some (V23 (ByteArray.mk #[]) 0 0 0 false 0 false false 0 0 0 0 Sl.nil 0 0 0 0 false 0 0 0 0) := by kernel_rfl
theorem ZV_44 : (Try.prog.info? 44).bind (·.zero) = some (Value.agg #[(Value.int .i64 0), (Value.int .i64 0), (Value.int .i64 0)]) := by kernel_rfl
theorem ZV_46 : (Try.prog.info? 46).bind (·.zero) = some (Value.agg #[(Value.int .i64 0), (Value.int .i64 0)]) := by kernel_rfl
theorem ZV_55 : (Try.prog.info? 55).bind (·.zero) = some (Value.agg #[(Value.int .i64 0), (Value.int .i64 0), (Value.bool false)]) := by kernel_rfl
theorem ZV_72 : (Try.prog.info? 72).bind (·.zero) = some (Value.agg #[(Value.bool false), (Value.int .i64 0), (Value.int .i64 0)]) := by kernel_rfl
theorem ZV_82 : (Try.prog.info? 82).bind (·.zero) = some (Value.agg #[(Value.int .i64 0), (Value.int .i64 0)]) := by kernel_rfl
theorem isBoolT_4 : isBoolT Try.prog 4 = true := by kernel_rfl
theorem isSliceT_22 : isSliceT Try.prog 22 = true := by kernel_rfl
theorem isSliceT_25 : isSliceT Try.prog 25 = true := by kernel_rfl
theorem isSliceT_26 : isSliceT Try.prog 26 = true := by kernel_rfl
theorem isSliceT_51 : isSliceT Try.prog 51 = true := by kernel_rfl
theorem isSliceT_63 : isSliceT Try.prog 63 = true := by kernel_rfl
theorem isSliceT_83 : isSliceT Try.prog 83 = true := by kernel_rfl
theorem isSliceT_85 : isSliceT Try.prog 85 = true := by kernel_rfl
theorem isStrT_9 : isStrT Try.prog 9 = true := by kernel_rfl

/-- lingualaw20.LossOne -/
def F4 (p0_0 : ByteArray) (p0_1 : Int) (p0_2 : Int) (p0_3 : Int) (p0_4 : Bool) (p0_5 : Int) (p0_6 : Bool) (p0_7 : Bool) (p0_8 : Int) (p0_9 : Int) (p0_10 : Int) (p0_11 : Int) (p0_12 : Sl) (p0_13 : Int) (p0_14 : Int) (p0_15 : Int) (p0_16 : Int) (p0_17 : Bool) (p0_18 : Int) (p0_19 : Int) (p0_20 : Int) (p0_21 : Int) (p1 : Sl) (p2 : Sl) (w0 : World) (K : Bool → World → Prop) : Prop :=
  nw 24 (A23 p0_0 p0_1 p0_2 p0_3 p0_4 p0_5 p0_6 p0_7 p0_8 p0_9 p0_10 p0_11 p0_12 p0_13 p0_14 p0_15 p0_16 p0_17 p0_18 p0_19 p0_20 p0_21) w0 fun b9 w1 =>
  callC Try.prog 8 #[] (fun (r : Bool) => (Value.bool r)) w1 fun r10 w2 =>
  L23 (Addr.mk b9 0 none) w2 fun x11 x12 x13 x14 x15 x16 x17 x18 x19 x20 x21 x22 x23 x24 x25 x26 x27 x28 x29 x30 x31 x32 =>
  callC Try.prog 9 #[(V23 x11 x12 x13 x14 x15 x16 x17 x18 x19 x20 x21 x22 x23 x24 x25 x26 x27 x28 x29 x30 x31 x32)] (fun (r : Bool) => (Value.bool r)) w2 fun r33 w3 =>
  jn (fun J38 => cnd (((!r33) || (decide (20 < (p1.len : Int)))) || (decide (20 < (p2.len : Int))))
    (
    J38 true w3
    )
    (
    L23 (Addr.mk b9 0 none) w3 fun x40 x41 x42 x43 x44 x45 x46 x47 x48 x49 x50 x51 x52 x53 x54 x55 x56 x57 x58 x59 x60 x61 =>
    callC Try.prog 17 #[(V23 x40 x41 x42 x43 x44 x45 x46 x47 x48 x49 x50 x51 x52 x53 x54 x55 x56 x57 x58 x59 x60 x61)] (fun (r : Int) => (Value.int .i64 r)) w3 fun r62 w4 =>
    J38 (!decide (r62 = 0)) w4
    ))
  fun c63 w5 =>
  cnd (c63)
    (
    K r10 w5
    )
    (
    L23 (Addr.mk b9 0 none) w5 fun x65 x66 x67 x68 x69 x70 x71 x72 x73 x74 x75 x76 x77 x78 x79 x80 x81 x82 x83 x84 x85 x86 =>
    callC Try.prog 18 #[(V23 x65 x66 x67 x68 x69 x70 x71 x72 x73 x74 x75 x76 x77 x78 x79 x80 x81 x82 x83 x84 x85 x86)] (fun (r : Sl × Int) => (Value.tuple #[(Sl.v r.1), (Value.int .i64 r.2)])) w5 fun r87 w6 =>
    L23 (Addr.mk b9 0 none) w6 fun x88 x89 x90 x91 x92 x93 x94 x95 x96 x97 x98 x99 x100 x101 x102 x103 x104 x105 x106 x107 x108 x109 =>
    callC Try.prog 10 #[(V23 x88 x89 x90 x91 x92 x93 x94 x95 x96 x97 x98 x99 x100 x101 x102 x103 x104 x105 x106 x107 x108 x109), (Sl.v r87.1)] (fun (r : Sl × Int) => (Value.tuple #[(Sl.v r.1), (Value.int .i64 r.2)])) w6 fun r110 w7 =>
    jn (fun J113 => cnd ((!decide (r87.2 = 0)) || (!decide (r110.2 = 0)))
      (
      J113 true w7
      )
      (
      L23 (Addr.mk b9 0 none) w7 fun x115 x116 x117 x118 x119 x120 x121 x122 x123 x124 x125 x126 x127 x128 x129 x130 x131 x132 x133 x134 x135 x136 =>
      callC Try.prog 13 #[(V23 x115 x116 x117 x118 x119 x120 x121 x122 x123 x124 x125 x126 x127 x128 x129 x130 x131 x132 x133 x134 x135 x136), (Sl.v r87.1), (Sl.v r110.1)] (fun (r : Int) => (Value.int .i64 r)) w7 fun r137 w8 =>
      J113 (!decide (r137 = 0)) w8
      ))
    fun c138 w9 =>
    cnd (c138)
      (
      K false w9
      )
      (
      L23 (Addr.mk b9 0 none) w9 fun x140 x141 x142 x143 x144 x145 x146 x147 x148 x149 x150 x151 x152 x153 x154 x155 x156 x157 x158 x159 x160 x161 =>
      callC Try.prog 13 #[(V23 x140 x141 x142 x143 x144 x145 x146 x147 x148 x149 x150 x151 x152 x153 x154 x155 x156 x157 x158 x159 x160 x161), (Sl.v r87.1), (Sl.v p2)] (fun (r : Int) => (Value.int .i64 r)) w9 fun r162 w10 =>
      callC Try.prog 12 #[(Sl.v p2), (Sl.v r110.1)] (fun (r : Bool) => (Value.bool r)) w10 fun r163 w11 =>
      cnd (!((decide (r162 = 0)) == r163))
        (
        K false w11
        )
        (
        L23 (Addr.mk b9 0 none) w11 fun x165 x166 x167 x168 x169 x170 x171 x172 x173 x174 x175 x176 x177 x178 x179 x180 x181 x182 x183 x184 x185 x186 =>
        callC Try.prog 10 #[(V23 x165 x166 x167 x168 x169 x170 x171 x172 x173 x174 x175 x176 x177 x178 x179 x180 x181 x182 x183 x184 x185 x186), (Sl.v p1)] (fun (r : Sl × Int) => (Value.tuple #[(Sl.v r.1), (Value.int .i64 r.2)])) w11 fun r187 w12 =>
        L23 (Addr.mk b9 0 none) w12 fun x188 x189 x190 x191 x192 x193 x194 x195 x196 x197 x198 x199 x200 x201 x202 x203 x204 x205 x206 x207 x208 x209 =>
        callC Try.prog 13 #[(V23 x188 x189 x190 x191 x192 x193 x194 x195 x196 x197 x198 x199 x200 x201 x202 x203 x204 x205 x206 x207 x208 x209), (Sl.v p1), (Sl.v p2)] (fun (r : Int) => (Value.int .i64 r)) w12 fun r210 w13 =>
        L23 (Addr.mk b9 0 none) w13 fun x211 x212 x213 x214 x215 x216 x217 x218 x219 x220 x221 x222 x223 x224 x225 x226 x227 x228 x229 x230 x231 x232 =>
        callC Try.prog 13 #[(V23 x211 x212 x213 x214 x215 x216 x217 x218 x219 x220 x221 x222 x223 x224 x225 x226 x227 x228 x229 x230 x231 x232), (Sl.v p1), (Sl.v r187.1)] (fun (r : Int) => (Value.int .i64 r)) w13 fun r233 w14 =>
        callC Try.prog 19 #[(Sl.v p1), (Sl.v r87.1)] (fun (r : Bool) => (Value.bool r)) w14 fun r234 w15 =>
        K ((r10 && ((!(decide (r210 = 0))) || r234)) && ((decide (r233 = 0)) == r234)) w15
        )
      )
    )
set_option maxRecDepth 100000 in
theorem D4 (p0_0 : ByteArray) (p0_1 : Int) (p0_2 : Int) (p0_3 : Int) (p0_4 : Bool) (p0_5 : Int) (p0_6 : Bool) (p0_7 : Bool) (p0_8 : Int) (p0_9 : Int) (p0_10 : Int) (p0_11 : Int) (p0_12 : Sl) (p0_13 : Int) (p0_14 : Int) (p0_15 : Int) (p0_16 : Int) (p0_17 : Bool) (p0_18 : Int) (p0_19 : Int) (p0_20 : Int) (p0_21 : Int) (p1 : Sl) (p2 : Sl) (w0 : World) (K : Bool → World → Prop) (h : F4 p0_0 p0_1 p0_2 p0_3 p0_4 p0_5 p0_6 p0_7 p0_8 p0_9 p0_10 p0_11 p0_12 p0_13 p0_14 p0_15 p0_16 p0_17 p0_18 p0_19 p0_20 p0_21 p1 p2 w0 K) : callC Try.prog 4 #[(V23 p0_0 p0_1 p0_2 p0_3 p0_4 p0_5 p0_6 p0_7 p0_8 p0_9 p0_10 p0_11 p0_12 p0_13 p0_14 p0_15 p0_16 p0_17 p0_18 p0_19 p0_20 p0_21), (Sl.v p1), (Sl.v p2)] (fun (r : Bool) => (Value.bool r)) w0 K := by
  unfold F4 at h
  refine calls_of_wpC Try.func4 rfl 102 rfl (by simp) ?_
  intro ρ hρ
  have e0 : ρ 0 = (V23 p0_0 p0_1 p0_2 p0_3 p0_4 p0_5 p0_6 p0_7 p0_8 p0_9 p0_10 p0_11 p0_12 p0_13 p0_14 p0_15 p0_16 p0_17 p0_18 p0_19 p0_20 p0_21) := hρ 0
  have e1 : ρ 1 = (Sl.v p1) := hρ 1
  have e2 : ρ 2 = (Sl.v p2) := hρ 2
  clear hρ
  refine wpC_seq ?_
  refine wpC_region ?_
  obtain ⟨b9, hb9⟩ : ∃ u, u = w0.heap.size := ⟨_, rfl⟩
  obtain ⟨w1, hw9⟩ : ∃ u, u = w0.alloc (.cells (A23 p0_0 p0_1 p0_2 p0_3 p0_4 p0_5 p0_6 p0_7 p0_8 p0_9 p0_10 p0_11 p0_12 p0_13 p0_14 p0_15 p0_16 p0_17 p0_18 p0_19 p0_20 p0_21) 24) := ⟨_, rfl⟩
  replace h := h b9 w1 hb9 hw9
  refine wpR_val (v := (Value.pointer (some (Addr.mk b9 0 none)))) (w' := w1) rfl rfl rfl ((x_box (v := (V23 p0_0 p0_1 p0_2 p0_3 p0_4 p0_5 p0_6 p0_7 p0_8 p0_9 p0_10 p0_11 p0_12 p0_13 p0_14 p0_15 p0_16 p0_17 p0_18 p0_19 p0_20 p0_21)) rfl e0).trans (by rw [hb9, hw9]; rfl)) ?_
  refine wpR_val (v := (Value.bool false)) (w' := w1) rfl rfl rfl (x_assign (v := (Value.bool false)) rfl rfl) ?_
  refine wpR_nil ?_
  refine wpC_seq ?_
  refine wpC_cut (fun ρ => ρ 1 = (Sl.v p1) ∧ ρ 2 = (Sl.v p2) ∧ ρ 3 = (Value.pointer (some (Addr.mk b9 0 none))) ∧ True) ⟨e1, e2, rfl, trivial⟩ ?_
  rintro ρ ⟨e1, e2, e3, -⟩
  refine wpC_region ?_
  refine wpR_enter rfl rfl rfl (x_call (vs := []) rfl rfl mapl_nil Try.func8 NN_8 NB_8) (Calls.mono h ?_)
  rintro _ w2 ⟨r10, rfl, h⟩
  refine ⟨_, rfl, ?_⟩
  refine wpR_val (v := (Value.bool r10)) (w' := w2) rfl rfl rfl (x_assign (v := (Value.bool r10)) rfl rfl) ?_
  refine wpR_nil ?_
  refine wpC_seq ?_
  refine wpC_seq ?_
  refine wpC_cut (fun ρ => ρ 1 = (Sl.v p1) ∧ ρ 2 = (Sl.v p2) ∧ ρ 3 = (Value.pointer (some (Addr.mk b9 0 none))) ∧ ρ 7 = (Value.bool r10) ∧ True) ⟨e1, e2, e3, rfl, trivial⟩ ?_
  rintro ρ ⟨e1, e2, e3, e7, -⟩
  refine wpC_region ?_
  obtain ⟨x11, q11, x12, q12, x13, q13, x14, q14, x15, q15, x16, q16, x17, q17, x18, q18, x19, q19, x20, q20, x21, q21, x22, q22, x23, q23, x24, q24, x25, q25, x26, q26, x27, q27, x28, q28, x29, q29, x30, q30, x31, q31, x32, q32, h⟩ := h
  refine wpR_val (v := (V23 x11 x12 x13 x14 x15 x16 x17 x18 x19 x20 x21 x22 x23 x24 x25 x26 x27 x28 x29 x30 x31 x32)) (w' := w2) rfl rfl rfl (x_loadN (S23 x11 x12 x13 x14 x15 x16 x17 x18 x19 x20 x21 x22 x23 x24 x25 x26 x27 x28 x29 x30 x31 x32) rfl e3 SH_24 (K23 ⟨q11, q12, q13, q14, q15, q16, q17, q18, q19, q20, q21, q22, q23, q24, q25, q26, q27, q28, q29, q30, q31, q32⟩)) ?_
  refine wpR_enter rfl rfl rfl (x_call (vs := [(V23 x11 x12 x13 x14 x15 x16 x17 x18 x19 x20 x21 x22 x23 x24 x25 x26 x27 x28 x29 x30 x31 x32)]) rfl rfl (mapl_cons rfl mapl_nil) Try.func9 NN_9 NB_9) (Calls.mono h ?_)
  rintro _ w3 ⟨r33, rfl, h⟩
  refine ⟨_, rfl, ?_⟩
  refine wpR_val (v := (Value.bool (!r33))) (w' := w3) rfl rfl rfl (x_not rfl rfl) ?_
  refine wpR_val (v := (Value.bool (!r33))) (w' := w3) rfl rfl rfl (x_move (v := (Value.bool (!r33))) rfl rfl) ?_
  refine wpR_joinJ 4 (fun (_ : Unit) ρ => ρ 25 = Value.bool ((!r33) || (decide (20 < (p1.len : Int)))) ∧ ρ 1 = (Sl.v p1) ∧ ρ 2 = (Sl.v p2) ∧ ρ 3 = (Value.pointer (some (Addr.mk b9 0 none))) ∧ ρ 7 = (Value.bool r10) ∧ True) (fun _ w => w3 = w) ?_ ?_
  · clear h
    rcases Bool.eq_false_or_eq_true (!r33) with hc35 | hc35
    · skip
      refine wpR_pass (wantN rfl rfl rfl hc35) rfl rfl ?_
      refine wpR_pass (wantN rfl rfl rfl hc35) rfl rfl ?_
      refine wpR_pass (wantN rfl rfl rfl hc35) rfl rfl ?_
      refine wpR_val (v := (Value.bool true)) (w' := w3) rfl rfl rfl (x_pickT (v := (Value.bool true)) rfl rfl hc35 rfl) ?_
      refine wpR_nil ?_
      exact ⟨(), ⟨(by rw [hc35]; rfl), e1, e2, e3, e7, trivial⟩, rfl⟩
    · skip
      refine wpR_val (v := (Sl.v p1)) (w' := w3) (wantG rfl rfl rfl hc35) rfl rfl (x_move (v := (Sl.v p1)) rfl e1) ?_
      refine wpR_val (v := (Value.int .i64 (p1.len : Int))) (w' := w3) (wantG rfl rfl rfl hc35) rfl rfl (x_lenS (s := p1) rfl rfl isSliceT_25) ?_
      refine wpR_val (v := (Value.bool (decide (20 < (p1.len : Int))))) (w' := w3) (wantG rfl rfl rfl hc35) rfl rfl (x_gtr rfl rfl rfl) ?_
      refine wpR_val (v := (Value.bool (decide (20 < (p1.len : Int))))) (w' := w3) rfl rfl rfl (x_pickF (v := (Value.bool (decide (20 < (p1.len : Int))))) rfl rfl hc35 rfl) ?_
      refine wpR_nil ?_
      exact ⟨(), ⟨(by rw [hc35]; rfl), e1, e2, e3, e7, trivial⟩, rfl⟩
  rintro _ ρ wj ⟨e25, e1, e2, e3, e7, -⟩ rfl
  refine wpR_val (v := (Value.bool ((!r33) || (decide (20 < (p1.len : Int)))))) (w' := w3) rfl rfl rfl (x_move (v := (Value.bool ((!r33) || (decide (20 < (p1.len : Int)))))) rfl e25) ?_
  refine wpR_joinJ 4 (fun (_ : Unit) ρ => ρ 30 = Value.bool (((!r33) || (decide (20 < (p1.len : Int)))) || (decide (20 < (p2.len : Int)))) ∧ ρ 1 = (Sl.v p1) ∧ ρ 2 = (Sl.v p2) ∧ ρ 3 = (Value.pointer (some (Addr.mk b9 0 none))) ∧ ρ 7 = (Value.bool r10) ∧ True) (fun _ w => w3 = w) ?_ ?_
  · clear h
    rcases Bool.eq_false_or_eq_true ((!r33) || (decide (20 < (p1.len : Int)))) with hc37 | hc37
    · skip
      refine wpR_pass (wantN rfl rfl rfl hc37) rfl rfl ?_
      refine wpR_pass (wantN rfl rfl rfl hc37) rfl rfl ?_
      refine wpR_pass (wantN rfl rfl rfl hc37) rfl rfl ?_
      refine wpR_val (v := (Value.bool true)) (w' := w3) rfl rfl rfl (x_pickT (v := (Value.bool true)) rfl rfl hc37 rfl) ?_
      refine wpR_nil ?_
      exact ⟨(), ⟨(by rw [hc37]; rfl), e1, e2, e3, e7, trivial⟩, rfl⟩
    · skip
      refine wpR_val (v := (Sl.v p2)) (w' := w3) (wantG rfl rfl rfl hc37) rfl rfl (x_move (v := (Sl.v p2)) rfl e2) ?_
      refine wpR_val (v := (Value.int .i64 (p2.len : Int))) (w' := w3) (wantG rfl rfl rfl hc37) rfl rfl (x_lenS (s := p2) rfl rfl isSliceT_26) ?_
      refine wpR_val (v := (Value.bool (decide (20 < (p2.len : Int))))) (w' := w3) (wantG rfl rfl rfl hc37) rfl rfl (x_gtr rfl rfl rfl) ?_
      refine wpR_val (v := (Value.bool (decide (20 < (p2.len : Int))))) (w' := w3) rfl rfl rfl (x_pickF (v := (Value.bool (decide (20 < (p2.len : Int))))) rfl rfl hc37 rfl) ?_
      refine wpR_nil ?_
      exact ⟨(), ⟨(by rw [hc37]; rfl), e1, e2, e3, e7, trivial⟩, rfl⟩
  rintro _ ρ wj ⟨e30, e1, e2, e3, e7, -⟩ rfl
  refine wpR_val (v := (Value.bool (((!r33) || (decide (20 < (p1.len : Int)))) || (decide (20 < (p2.len : Int)))))) (w' := w3) rfl rfl rfl (x_move (v := (Value.bool (((!r33) || (decide (20 < (p1.len : Int)))) || (decide (20 < (p2.len : Int)))))) rfl e30) ?_
  obtain ⟨J38, h, hk⟩ := h
  refine wpR_joinJ 4 (fun x ρ => ρ 35 = Value.bool x ∧ ρ 1 = (Sl.v p1) ∧ ρ 2 = (Sl.v p2) ∧ ρ 3 = (Value.pointer (some (Addr.mk b9 0 none))) ∧ ρ 7 = (Value.bool r10) ∧ True) (J38) ?_ ?_
  · clear hk
    rcases Bool.eq_false_or_eq_true (((!r33) || (decide (20 < (p1.len : Int)))) || (decide (20 < (p2.len : Int)))) with hc39 | hc39
    · replace h := h.1 hc39
      refine wpR_pass (wantN rfl rfl rfl hc39) rfl rfl ?_
      refine wpR_pass (wantN rfl rfl rfl hc39) rfl rfl ?_
      refine wpR_pass (wantN rfl rfl rfl hc39) rfl rfl ?_
      refine wpR_val (v := (Value.bool true)) (w' := w3) rfl rfl rfl (x_pickT (v := (Value.bool true)) rfl rfl hc39 rfl) ?_
      refine wpR_nil ?_
      exact ⟨true, ⟨rfl, e1, e2, e3, e7, trivial⟩, h⟩
    · replace h := h.2 hc39
      obtain ⟨x40, q40, x41, q41, x42, q42, x43, q43, x44, q44, x45, q45, x46, q46, x47, q47, x48, q48, x49, q49, x50, q50, x51, q51, x52, q52, x53, q53, x54, q54, x55, q55, x56, q56, x57, q57, x58, q58, x59, q59, x60, q60, x61, q61, h⟩ := h
      refine wpR_val (v := (V23 x40 x41 x42 x43 x44 x45 x46 x47 x48 x49 x50 x51 x52 x53 x54 x55 x56 x57 x58 x59 x60 x61)) (w' := w3) (wantG rfl rfl rfl hc39) rfl rfl (x_loadN (S23 x40 x41 x42 x43 x44 x45 x46 x47 x48 x49 x50 x51 x52 x53 x54 x55 x56 x57 x58 x59 x60 x61) rfl e3 SH_24 (K23 ⟨q40, q41, q42, q43, q44, q45, q46, q47, q48, q49, q50, q51, q52, q53, q54, q55, q56, q57, q58, q59, q60, q61⟩)) ?_
      refine wpR_enter (wantG rfl rfl rfl hc39) rfl rfl (x_call (vs := [(V23 x40 x41 x42 x43 x44 x45 x46 x47 x48 x49 x50 x51 x52 x53 x54 x55 x56 x57 x58 x59 x60 x61)]) rfl rfl (mapl_cons rfl mapl_nil) Try.func17 NN_17 NB_17) (Calls.mono h ?_)
      rintro _ w4 ⟨r62, rfl, h⟩
      refine ⟨_, rfl, ?_⟩
      refine wpR_val (v := (Value.bool (!decide (r62 = 0)))) (w' := w4) (wantG rfl rfl rfl hc39) rfl rfl (x_neq rfl rfl rfl) ?_
      refine wpR_val (v := (Value.bool (!decide (r62 = 0)))) (w' := w4) rfl rfl rfl (x_pickF (v := (Value.bool (!decide (r62 = 0)))) rfl rfl hc39 rfl) ?_
      refine wpR_nil ?_
      exact ⟨!decide (r62 = 0), ⟨rfl, e1, e2, e3, e7, trivial⟩, h⟩
  clear h
  rintro c63 ρ w5 ⟨e35, e1, e2, e3, e7, -⟩ h
  replace h := hk c63 w5 h
  clear hk
  refine wpR_nil ?_
  refine wpC_cond (b := c63) e35 (fun hc64 => ?_) (fun hc64 => ?_)
  · replace h := h.1 hc64
    refine wpC_seq ?_
    refine wpC_region ?_
    refine wpR_val (v := (Value.bool r10)) (w' := w5) rfl rfl rfl (x_move (v := (Value.bool r10)) rfl e7) ?_
    refine wpR_val (v := (Value.bool r10)) (w' := w5) rfl rfl rfl (x_assign (v := (Value.bool r10)) rfl rfl) ?_
    refine wpR_nil ?_
    refine wpC_ret ?_
    exact ⟨.inl rfl, fun a ha => ⟨_, results_rep1 rfl ha rfl, r10, rfl, h⟩⟩
  · replace h := h.2 hc64
    refine wpC_skip ?_
    refine wpC_seq ?_
    refine wpC_region ?_
    obtain ⟨x65, q65, x66, q66, x67, q67, x68, q68, x69, q69, x70, q70, x71, q71, x72, q72, x73, q73, x74, q74, x75, q75, x76, q76, x77, q77, x78, q78, x79, q79, x80, q80, x81, q81, x82, q82, x83, q83, x84, q84, x85, q85, x86, q86, h⟩ := h
    refine wpR_val (v := (V23 x65 x66 x67 x68 x69 x70 x71 x72 x73 x74 x75 x76 x77 x78 x79 x80 x81 x82 x83 x84 x85 x86)) (w' := w5) rfl rfl rfl (x_loadN (S23 x65 x66 x67 x68 x69 x70 x71 x72 x73 x74 x75 x76 x77 x78 x79 x80 x81 x82 x83 x84 x85 x86) rfl e3 SH_24 (K23 ⟨q65, q66, q67, q68, q69, q70, q71, q72, q73, q74, q75, q76, q77, q78, q79, q80, q81, q82, q83, q84, q85, q86⟩)) ?_
    refine wpR_enter rfl rfl rfl (x_call (vs := [(V23 x65 x66 x67 x68 x69 x70 x71 x72 x73 x74 x75 x76 x77 x78 x79 x80 x81 x82 x83 x84 x85 x86)]) rfl rfl (mapl_cons rfl mapl_nil) Try.func18 NN_18 NB_18) (Calls.mono h ?_)
    rintro _ w6 ⟨r87, rfl, h⟩
    refine ⟨_, rfl, ?_⟩
    refine wpR_val (v := (Value.tuple #[(Sl.v r87.1), (Value.int .i64 r87.2)])) (w' := w6) rfl rfl rfl (x_move (v := (Value.tuple #[(Sl.v r87.1), (Value.int .i64 r87.2)])) rfl rfl) ?_
    refine wpR_val (v := (Sl.v r87.1)) (w' := w6) rfl rfl rfl (x_extract rfl rfl rfl) ?_
    refine wpR_val (v := (Value.int .i64 r87.2)) (w' := w6) rfl rfl rfl (x_extract rfl rfl rfl) ?_
    refine wpR_val (v := (Sl.v r87.1)) (w' := w6) rfl rfl rfl (x_assign (v := (Sl.v r87.1)) rfl rfl) ?_
    refine wpR_val (v := (Value.int .i64 r87.2)) (w' := w6) rfl rfl rfl (x_assign (v := (Value.int .i64 r87.2)) rfl rfl) ?_
    refine wpR_nil ?_
    refine wpC_seq ?_
    refine wpC_cut (fun ρ => ρ 1 = (Sl.v p1) ∧ ρ 2 = (Sl.v p2) ∧ ρ 3 = (Value.pointer (some (Addr.mk b9 0 none))) ∧ ρ 7 = (Value.bool r10) ∧ ρ 8 = (Sl.v r87.1) ∧ ρ 9 = (Value.int .i64 r87.2) ∧ True) ⟨e1, e2, e3, e7, rfl, rfl, trivial⟩ ?_
    rintro ρ ⟨e1, e2, e3, e7, e8, e9, -⟩
    refine wpC_region ?_
    obtain ⟨x88, q88, x89, q89, x90, q90, x91, q91, x92, q92, x93, q93, x94, q94, x95, q95, x96, q96, x97, q97, x98, q98, x99, q99, x100, q100, x101, q101, x102, q102, x103, q103, x104, q104, x105, q105, x106, q106, x107, q107, x108, q108, x109, q109, h⟩ := h
    refine wpR_val (v := (V23 x88 x89 x90 x91 x92 x93 x94 x95 x96 x97 x98 x99 x100 x101 x102 x103 x104 x105 x106 x107 x108 x109)) (w' := w6) rfl rfl rfl (x_loadN (S23 x88 x89 x90 x91 x92 x93 x94 x95 x96 x97 x98 x99 x100 x101 x102 x103 x104 x105 x106 x107 x108 x109) rfl e3 SH_24 (K23 ⟨q88, q89, q90, q91, q92, q93, q94, q95, q96, q97, q98, q99, q100, q101, q102, q103, q104, q105, q106, q107, q108, q109⟩)) ?_
    refine wpR_val (v := (Sl.v r87.1)) (w' := w6) rfl rfl rfl (x_move (v := (Sl.v r87.1)) rfl e8) ?_
    refine wpR_enter rfl rfl rfl (x_call (vs := [(V23 x88 x89 x90 x91 x92 x93 x94 x95 x96 x97 x98 x99 x100 x101 x102 x103 x104 x105 x106 x107 x108 x109), (Sl.v r87.1)]) rfl rfl (mapl_cons rfl (mapl_cons rfl mapl_nil)) Try.func10 NN_10 NB_10) (Calls.mono h ?_)
    rintro _ w7 ⟨r110, rfl, h⟩
    refine ⟨_, rfl, ?_⟩
    refine wpR_val (v := (Value.tuple #[(Sl.v r110.1), (Value.int .i64 r110.2)])) (w' := w7) rfl rfl rfl (x_move (v := (Value.tuple #[(Sl.v r110.1), (Value.int .i64 r110.2)])) rfl rfl) ?_
    refine wpR_val (v := (Sl.v r110.1)) (w' := w7) rfl rfl rfl (x_extract rfl rfl rfl) ?_
    refine wpR_val (v := (Value.int .i64 r110.2)) (w' := w7) rfl rfl rfl (x_extract rfl rfl rfl) ?_
    refine wpR_val (v := (Sl.v r110.1)) (w' := w7) rfl rfl rfl (x_assign (v := (Sl.v r110.1)) rfl rfl) ?_
    refine wpR_val (v := (Value.int .i64 r110.2)) (w' := w7) rfl rfl rfl (x_assign (v := (Value.int .i64 r110.2)) rfl rfl) ?_
    refine wpR_nil ?_
    refine wpC_seq ?_
    refine wpC_seq ?_
    refine wpC_cut (fun ρ => ρ 1 = (Sl.v p1) ∧ ρ 2 = (Sl.v p2) ∧ ρ 3 = (Value.pointer (some (Addr.mk b9 0 none))) ∧ ρ 7 = (Value.bool r10) ∧ ρ 8 = (Sl.v r87.1) ∧ ρ 9 = (Value.int .i64 r87.2) ∧ ρ 10 = (Sl.v r110.1) ∧ ρ 11 = (Value.int .i64 r110.2) ∧ True) ⟨e1, e2, e3, e7, e8, e9, rfl, rfl, trivial⟩ ?_
    rintro ρ ⟨e1, e2, e3, e7, e8, e9, e10, e11, -⟩
    refine wpC_region ?_
    refine wpR_val (v := (Value.int .i64 r87.2)) (w' := w7) rfl rfl rfl (x_move (v := (Value.int .i64 r87.2)) rfl e9) ?_
    refine wpR_val (v := (Value.bool (!decide (r87.2 = 0)))) (w' := w7) rfl rfl rfl (x_neq rfl rfl rfl) ?_
    refine wpR_val (v := (Value.bool (!decide (r87.2 = 0)))) (w' := w7) rfl rfl rfl (x_move (v := (Value.bool (!decide (r87.2 = 0)))) rfl rfl) ?_
    refine wpR_joinJ 3 (fun (_ : Unit) ρ => ρ 53 = Value.bool ((!decide (r87.2 = 0)) || (!decide (r110.2 = 0))) ∧ ρ 1 = (Sl.v p1) ∧ ρ 2 = (Sl.v p2) ∧ ρ 3 = (Value.pointer (some (Addr.mk b9 0 none))) ∧ ρ 7 = (Value.bool r10) ∧ ρ 8 = (Sl.v r87.1) ∧ ρ 10 = (Sl.v r110.1) ∧ True) (fun _ w => w7 = w) ?_ ?_
    · clear h
      rcases Bool.eq_false_or_eq_true (!decide (r87.2 = 0)) with hc112 | hc112
      · skip
        refine wpR_pass (wantN rfl rfl rfl hc112) rfl rfl ?_
        refine wpR_pass (wantN rfl rfl rfl hc112) rfl rfl ?_
        refine wpR_val (v := (Value.bool true)) (w' := w7) rfl rfl rfl (x_pickT (v := (Value.bool true)) rfl rfl hc112 rfl) ?_
        refine wpR_nil ?_
        exact ⟨(), ⟨(by rw [hc112]; rfl), e1, e2, e3, e7, e8, e10, trivial⟩, rfl⟩
      · skip
        refine wpR_val (v := (Value.int .i64 r110.2)) (w' := w7) (wantG rfl rfl rfl hc112) rfl rfl (x_move (v := (Value.int .i64 r110.2)) rfl e11) ?_
        refine wpR_val (v := (Value.bool (!decide (r110.2 = 0)))) (w' := w7) (wantG rfl rfl rfl hc112) rfl rfl (x_neq rfl rfl rfl) ?_
        refine wpR_val (v := (Value.bool (!decide (r110.2 = 0)))) (w' := w7) rfl rfl rfl (x_pickF (v := (Value.bool (!decide (r110.2 = 0)))) rfl rfl hc112 rfl) ?_
        refine wpR_nil ?_
        exact ⟨(), ⟨(by rw [hc112]; rfl), e1, e2, e3, e7, e8, e10, trivial⟩, rfl⟩
    rintro _ ρ wj ⟨e53, e1, e2, e3, e7, e8, e10, -⟩ rfl
    refine wpR_val (v := (Value.bool ((!decide (r87.2 = 0)) || (!decide (r110.2 = 0))))) (w' := w7) rfl rfl rfl (x_move (v := (Value.bool ((!decide (r87.2 = 0)) || (!decide (r110.2 = 0))))) rfl e53) ?_
    obtain ⟨J113, h, hk⟩ := h
    refine wpR_joinJ 6 (fun x ρ => ρ 60 = Value.bool x ∧ ρ 1 = (Sl.v p1) ∧ ρ 2 = (Sl.v p2) ∧ ρ 3 = (Value.pointer (some (Addr.mk b9 0 none))) ∧ ρ 7 = (Value.bool r10) ∧ ρ 8 = (Sl.v r87.1) ∧ ρ 10 = (Sl.v r110.1) ∧ True) (J113) ?_ ?_
    · clear hk
      rcases Bool.eq_false_or_eq_true ((!decide (r87.2 = 0)) || (!decide (r110.2 = 0))) with hc114 | hc114
      · replace h := h.1 hc114
        refine wpR_pass (wantN rfl rfl rfl hc114) rfl rfl ?_
        refine wpR_pass (wantN rfl rfl rfl hc114) rfl rfl ?_
        refine wpR_pass (wantN rfl rfl rfl hc114) rfl rfl ?_
        refine wpR_pass (wantN rfl rfl rfl hc114) rfl rfl ?_
        refine wpR_pass (wantN rfl rfl rfl hc114) rfl rfl ?_
        refine wpR_val (v := (Value.bool true)) (w' := w7) rfl rfl rfl (x_pickT (v := (Value.bool true)) rfl rfl hc114 rfl) ?_
        refine wpR_nil ?_
        exact ⟨true, ⟨rfl, e1, e2, e3, e7, e8, e10, trivial⟩, h⟩
      · replace h := h.2 hc114
        obtain ⟨x115, q115, x116, q116, x117, q117, x118, q118, x119, q119, x120, q120, x121, q121, x122, q122, x123, q123, x124, q124, x125, q125, x126, q126, x127, q127, x128, q128, x129, q129, x130, q130, x131, q131, x132, q132, x133, q133, x134, q134, x135, q135, x136, q136, h⟩ := h
        refine wpR_val (v := (V23 x115 x116 x117 x118 x119 x120 x121 x122 x123 x124 x125 x126 x127 x128 x129 x130 x131 x132 x133 x134 x135 x136)) (w' := w7) (wantG rfl rfl rfl hc114) rfl rfl (x_loadN (S23 x115 x116 x117 x118 x119 x120 x121 x122 x123 x124 x125 x126 x127 x128 x129 x130 x131 x132 x133 x134 x135 x136) rfl e3 SH_24 (K23 ⟨q115, q116, q117, q118, q119, q120, q121, q122, q123, q124, q125, q126, q127, q128, q129, q130, q131, q132, q133, q134, q135, q136⟩)) ?_
        refine wpR_val (v := (Sl.v r87.1)) (w' := w7) (wantG rfl rfl rfl hc114) rfl rfl (x_move (v := (Sl.v r87.1)) rfl e8) ?_
        refine wpR_val (v := (Sl.v r110.1)) (w' := w7) (wantG rfl rfl rfl hc114) rfl rfl (x_move (v := (Sl.v r110.1)) rfl e10) ?_
        refine wpR_enter (wantG rfl rfl rfl hc114) rfl rfl (x_call (vs := [(V23 x115 x116 x117 x118 x119 x120 x121 x122 x123 x124 x125 x126 x127 x128 x129 x130 x131 x132 x133 x134 x135 x136), (Sl.v r87.1), (Sl.v r110.1)]) rfl rfl (mapl_cons rfl (mapl_cons rfl (mapl_cons rfl mapl_nil))) Try.func13 NN_13 NB_13) (Calls.mono h ?_)
        rintro _ w8 ⟨r137, rfl, h⟩
        refine ⟨_, rfl, ?_⟩
        refine wpR_val (v := (Value.bool (!decide (r137 = 0)))) (w' := w8) (wantG rfl rfl rfl hc114) rfl rfl (x_neq rfl rfl rfl) ?_
        refine wpR_val (v := (Value.bool (!decide (r137 = 0)))) (w' := w8) rfl rfl rfl (x_pickF (v := (Value.bool (!decide (r137 = 0)))) rfl rfl hc114 rfl) ?_
        refine wpR_nil ?_
        exact ⟨!decide (r137 = 0), ⟨rfl, e1, e2, e3, e7, e8, e10, trivial⟩, h⟩
    clear h
    rintro c138 ρ w9 ⟨e60, e1, e2, e3, e7, e8, e10, -⟩ h
    replace h := hk c138 w9 h
    clear hk
    refine wpR_nil ?_
    refine wpC_cond (b := c138) e60 (fun hc139 => ?_) (fun hc139 => ?_)
    · replace h := h.1 hc139
      refine wpC_seq ?_
      refine wpC_region ?_
      refine wpR_val (v := (Value.bool false)) (w' := w9) rfl rfl rfl (x_assign (v := (Value.bool false)) rfl rfl) ?_
      refine wpR_nil ?_
      refine wpC_ret ?_
      exact ⟨.inl rfl, fun a ha => ⟨_, results_rep1 rfl ha rfl, false, rfl, h⟩⟩
    · replace h := h.2 hc139
      refine wpC_skip ?_
      refine wpC_seq ?_
      refine wpC_seq ?_
      refine wpC_region ?_
      obtain ⟨x140, q140, x141, q141, x142, q142, x143, q143, x144, q144, x145, q145, x146, q146, x147, q147, x148, q148, x149, q149, x150, q150, x151, q151, x152, q152, x153, q153, x154, q154, x155, q155, x156, q156, x157, q157, x158, q158, x159, q159, x160, q160, x161, q161, h⟩ := h
      refine wpR_val (v := (V23 x140 x141 x142 x143 x144 x145 x146 x147 x148 x149 x150 x151 x152 x153 x154 x155 x156 x157 x158 x159 x160 x161)) (w' := w9) rfl rfl rfl (x_loadN (S23 x140 x141 x142 x143 x144 x145 x146 x147 x148 x149 x150 x151 x152 x153 x154 x155 x156 x157 x158 x159 x160 x161) rfl e3 SH_24 (K23 ⟨q140, q141, q142, q143, q144, q145, q146, q147, q148, q149, q150, q151, q152, q153, q154, q155, q156, q157, q158, q159, q160, q161⟩)) ?_
      refine wpR_val (v := (Sl.v r87.1)) (w' := w9) rfl rfl rfl (x_move (v := (Sl.v r87.1)) rfl e8) ?_
      refine wpR_val (v := (Sl.v p2)) (w' := w9) rfl rfl rfl (x_move (v := (Sl.v p2)) rfl e2) ?_
      refine wpR_enter rfl rfl rfl (x_call (vs := [(V23 x140 x141 x142 x143 x144 x145 x146 x147 x148 x149 x150 x151 x152 x153 x154 x155 x156 x157 x158 x159 x160 x161), (Sl.v r87.1), (Sl.v p2)]) rfl rfl (mapl_cons rfl (mapl_cons rfl (mapl_cons rfl mapl_nil))) Try.func13 NN_13 NB_13) (Calls.mono h ?_)
      rintro _ w10 ⟨r162, rfl, h⟩
      refine ⟨_, rfl, ?_⟩
      refine wpR_val (v := (Value.bool (decide (r162 = 0)))) (w' := w10) rfl rfl rfl (x_eql rfl rfl rfl) ?_
      refine wpR_val (v := (Sl.v p2)) (w' := w10) rfl rfl rfl (x_move (v := (Sl.v p2)) rfl e2) ?_
      refine wpR_val (v := (Sl.v r110.1)) (w' := w10) rfl rfl rfl (x_move (v := (Sl.v r110.1)) rfl e10) ?_
      refine wpR_enter rfl rfl rfl (x_call (vs := [(Sl.v p2), (Sl.v r110.1)]) rfl rfl (mapl_cons rfl (mapl_cons rfl mapl_nil)) Try.func12 NN_12 NB_12) (Calls.mono h ?_)
      rintro _ w11 ⟨r163, rfl, h⟩
      refine ⟨_, rfl, ?_⟩
      refine wpR_val (v := (Value.bool (!((decide (r162 = 0)) == r163)))) (w' := w11) rfl rfl rfl (x_neqB rfl rfl rfl isBoolT_4) ?_
      refine wpR_nil ?_
      refine wpC_cond (b := !((decide (r162 = 0)) == r163)) rfl (fun hc164 => ?_) (fun hc164 => ?_)
      · replace h := h.1 hc164
        refine wpC_seq ?_
        refine wpC_cut (fun ρ => True) trivial ?_
        rintro ρ -
        refine wpC_region ?_
        refine wpR_val (v := (Value.bool false)) (w' := w11) rfl rfl rfl (x_assign (v := (Value.bool false)) rfl rfl) ?_
        refine wpR_nil ?_
        refine wpC_ret ?_
        exact ⟨.inl rfl, fun a ha => ⟨_, results_rep1 rfl ha rfl, false, rfl, h⟩⟩
      · replace h := h.2 hc164
        refine wpC_skip ?_
        refine wpC_seq ?_
        refine wpC_cut (fun ρ => ρ 1 = (Sl.v p1) ∧ ρ 2 = (Sl.v p2) ∧ ρ 3 = (Value.pointer (some (Addr.mk b9 0 none))) ∧ ρ 7 = (Value.bool r10) ∧ ρ 8 = (Sl.v r87.1) ∧ True) ⟨e1, e2, e3, e7, e8, trivial⟩ ?_
        rintro ρ ⟨e1, e2, e3, e7, e8, -⟩
        refine wpC_region ?_
        obtain ⟨x165, q165, x166, q166, x167, q167, x168, q168, x169, q169, x170, q170, x171, q171, x172, q172, x173, q173, x174, q174, x175, q175, x176, q176, x177, q177, x178, q178, x179, q179, x180, q180, x181, q181, x182, q182, x183, q183, x184, q184, x185, q185, x186, q186, h⟩ := h
        refine wpR_val (v := (V23 x165 x166 x167 x168 x169 x170 x171 x172 x173 x174 x175 x176 x177 x178 x179 x180 x181 x182 x183 x184 x185 x186)) (w' := w11) rfl rfl rfl (x_loadN (S23 x165 x166 x167 x168 x169 x170 x171 x172 x173 x174 x175 x176 x177 x178 x179 x180 x181 x182 x183 x184 x185 x186) rfl e3 SH_24 (K23 ⟨q165, q166, q167, q168, q169, q170, q171, q172, q173, q174, q175, q176, q177, q178, q179, q180, q181, q182, q183, q184, q185, q186⟩)) ?_
        refine wpR_val (v := (Sl.v p1)) (w' := w11) rfl rfl rfl (x_move (v := (Sl.v p1)) rfl e1) ?_
        refine wpR_enter rfl rfl rfl (x_call (vs := [(V23 x165 x166 x167 x168 x169 x170 x171 x172 x173 x174 x175 x176 x177 x178 x179 x180 x181 x182 x183 x184 x185 x186), (Sl.v p1)]) rfl rfl (mapl_cons rfl (mapl_cons rfl mapl_nil)) Try.func10 NN_10 NB_10) (Calls.mono h ?_)
        rintro _ w12 ⟨r187, rfl, h⟩
        refine ⟨_, rfl, ?_⟩
        refine wpR_val (v := (Value.tuple #[(Sl.v r187.1), (Value.int .i64 r187.2)])) (w' := w12) rfl rfl rfl (x_move (v := (Value.tuple #[(Sl.v r187.1), (Value.int .i64 r187.2)])) rfl rfl) ?_
        refine wpR_val (v := (Sl.v r187.1)) (w' := w12) rfl rfl rfl (x_extract rfl rfl rfl) ?_
        refine wpR_val (v := (Value.int .i64 r187.2)) (w' := w12) rfl rfl rfl (x_extract rfl rfl rfl) ?_
        refine wpR_val (v := (Sl.v r187.1)) (w' := w12) rfl rfl rfl (x_assign (v := (Sl.v r187.1)) rfl rfl) ?_
        refine wpR_val (v := (Value.int .i64 r187.2)) (w' := w12) rfl rfl rfl (x_assign (v := (Value.int .i64 r187.2)) rfl rfl) ?_
        refine wpR_nil ?_
        refine wpC_seq ?_
        refine wpC_cut (fun ρ => ρ 1 = (Sl.v p1) ∧ ρ 2 = (Sl.v p2) ∧ ρ 3 = (Value.pointer (some (Addr.mk b9 0 none))) ∧ ρ 7 = (Value.bool r10) ∧ ρ 8 = (Sl.v r87.1) ∧ ρ 12 = (Sl.v r187.1) ∧ True) ⟨e1, e2, e3, e7, e8, rfl, trivial⟩ ?_
        rintro ρ ⟨e1, e2, e3, e7, e8, e12, -⟩
        refine wpC_region ?_
        obtain ⟨x188, q188, x189, q189, x190, q190, x191, q191, x192, q192, x193, q193, x194, q194, x195, q195, x196, q196, x197, q197, x198, q198, x199, q199, x200, q200, x201, q201, x202, q202, x203, q203, x204, q204, x205, q205, x206, q206, x207, q207, x208, q208, x209, q209, h⟩ := h
        refine wpR_val (v := (V23 x188 x189 x190 x191 x192 x193 x194 x195 x196 x197 x198 x199 x200 x201 x202 x203 x204 x205 x206 x207 x208 x209)) (w' := w12) rfl rfl rfl (x_loadN (S23 x188 x189 x190 x191 x192 x193 x194 x195 x196 x197 x198 x199 x200 x201 x202 x203 x204 x205 x206 x207 x208 x209) rfl e3 SH_24 (K23 ⟨q188, q189, q190, q191, q192, q193, q194, q195, q196, q197, q198, q199, q200, q201, q202, q203, q204, q205, q206, q207, q208, q209⟩)) ?_
        refine wpR_val (v := (Sl.v p1)) (w' := w12) rfl rfl rfl (x_move (v := (Sl.v p1)) rfl e1) ?_
        refine wpR_val (v := (Sl.v p2)) (w' := w12) rfl rfl rfl (x_move (v := (Sl.v p2)) rfl e2) ?_
        refine wpR_enter rfl rfl rfl (x_call (vs := [(V23 x188 x189 x190 x191 x192 x193 x194 x195 x196 x197 x198 x199 x200 x201 x202 x203 x204 x205 x206 x207 x208 x209), (Sl.v p1), (Sl.v p2)]) rfl rfl (mapl_cons rfl (mapl_cons rfl (mapl_cons rfl mapl_nil))) Try.func13 NN_13 NB_13) (Calls.mono h ?_)
        rintro _ w13 ⟨r210, rfl, h⟩
        refine ⟨_, rfl, ?_⟩
        refine wpR_val (v := (Value.bool (decide (r210 = 0)))) (w' := w13) rfl rfl rfl (x_eql rfl rfl rfl) ?_
        refine wpR_val (v := (Value.bool (decide (r210 = 0)))) (w' := w13) rfl rfl rfl (x_assign (v := (Value.bool (decide (r210 = 0)))) rfl rfl) ?_
        refine wpR_nil ?_
        refine wpC_seq ?_
        refine wpC_cut (fun ρ => ρ 1 = (Sl.v p1) ∧ ρ 3 = (Value.pointer (some (Addr.mk b9 0 none))) ∧ ρ 7 = (Value.bool r10) ∧ ρ 8 = (Sl.v r87.1) ∧ ρ 12 = (Sl.v r187.1) ∧ ρ 14 = (Value.bool (decide (r210 = 0))) ∧ True) ⟨e1, e3, e7, e8, e12, rfl, trivial⟩ ?_
        rintro ρ ⟨e1, e3, e7, e8, e12, e14, -⟩
        refine wpC_region ?_
        obtain ⟨x211, q211, x212, q212, x213, q213, x214, q214, x215, q215, x216, q216, x217, q217, x218, q218, x219, q219, x220, q220, x221, q221, x222, q222, x223, q223, x224, q224, x225, q225, x226, q226, x227, q227, x228, q228, x229, q229, x230, q230, x231, q231, x232, q232, h⟩ := h
        refine wpR_val (v := (V23 x211 x212 x213 x214 x215 x216 x217 x218 x219 x220 x221 x222 x223 x224 x225 x226 x227 x228 x229 x230 x231 x232)) (w' := w13) rfl rfl rfl (x_loadN (S23 x211 x212 x213 x214 x215 x216 x217 x218 x219 x220 x221 x222 x223 x224 x225 x226 x227 x228 x229 x230 x231 x232) rfl e3 SH_24 (K23 ⟨q211, q212, q213, q214, q215, q216, q217, q218, q219, q220, q221, q222, q223, q224, q225, q226, q227, q228, q229, q230, q231, q232⟩)) ?_
        refine wpR_val (v := (Sl.v p1)) (w' := w13) rfl rfl rfl (x_move (v := (Sl.v p1)) rfl e1) ?_
        refine wpR_val (v := (Sl.v r187.1)) (w' := w13) rfl rfl rfl (x_move (v := (Sl.v r187.1)) rfl e12) ?_
        refine wpR_enter rfl rfl rfl (x_call (vs := [(V23 x211 x212 x213 x214 x215 x216 x217 x218 x219 x220 x221 x222 x223 x224 x225 x226 x227 x228 x229 x230 x231 x232), (Sl.v p1), (Sl.v r187.1)]) rfl rfl (mapl_cons rfl (mapl_cons rfl (mapl_cons rfl mapl_nil))) Try.func13 NN_13 NB_13) (Calls.mono h ?_)
        rintro _ w14 ⟨r233, rfl, h⟩
        refine ⟨_, rfl, ?_⟩
        refine wpR_val (v := (Value.bool (decide (r233 = 0)))) (w' := w14) rfl rfl rfl (x_eql rfl rfl rfl) ?_
        refine wpR_val (v := (Value.bool (decide (r233 = 0)))) (w' := w14) rfl rfl rfl (x_assign (v := (Value.bool (decide (r233 = 0)))) rfl rfl) ?_
        refine wpR_nil ?_
        refine wpC_seq ?_
        refine wpC_cut (fun ρ => ρ 1 = (Sl.v p1) ∧ ρ 7 = (Value.bool r10) ∧ ρ 8 = (Sl.v r87.1) ∧ ρ 14 = (Value.bool (decide (r210 = 0))) ∧ ρ 15 = (Value.bool (decide (r233 = 0))) ∧ True) ⟨e1, e7, e8, e14, rfl, trivial⟩ ?_
        rintro ρ ⟨e1, e7, e8, e14, e15, -⟩
        refine wpC_region ?_
        refine wpR_val (v := (Sl.v p1)) (w' := w14) rfl rfl rfl (x_move (v := (Sl.v p1)) rfl e1) ?_
        refine wpR_val (v := (Sl.v r87.1)) (w' := w14) rfl rfl rfl (x_move (v := (Sl.v r87.1)) rfl e8) ?_
        refine wpR_enter rfl rfl rfl (x_call (vs := [(Sl.v p1), (Sl.v r87.1)]) rfl rfl (mapl_cons rfl (mapl_cons rfl mapl_nil)) Try.func19 NN_19 NB_19) (Calls.mono h ?_)
        rintro _ w15 ⟨r234, rfl, h⟩
        refine ⟨_, rfl, ?_⟩
        refine wpR_val (v := (Value.bool r234)) (w' := w15) rfl rfl rfl (x_assign (v := (Value.bool r234)) rfl rfl) ?_
        refine wpR_nil ?_
        refine wpC_seq ?_
        refine wpC_cut (fun ρ => ρ 7 = (Value.bool r10) ∧ ρ 14 = (Value.bool (decide (r210 = 0))) ∧ ρ 15 = (Value.bool (decide (r233 = 0))) ∧ ρ 16 = (Value.bool r234) ∧ True) ⟨e7, e14, e15, rfl, trivial⟩ ?_
        rintro ρ ⟨e7, e14, e15, e16, -⟩
        refine wpC_region ?_
        refine wpR_val (v := (Value.bool r10)) (w' := w15) rfl rfl rfl (x_move (v := (Value.bool r10)) rfl e7) ?_
        refine wpR_val (v := (Value.bool r10)) (w' := w15) rfl rfl rfl (x_move (v := (Value.bool r10)) rfl rfl) ?_
        refine wpR_joinJ 6 (fun (_ : Unit) ρ => ρ 96 = Value.bool (r10 && ((!(decide (r210 = 0))) || r234)) ∧ ρ 15 = (Value.bool (decide (r233 = 0))) ∧ ρ 16 = (Value.bool r234) ∧ True) (fun _ w => w15 = w) ?_ ?_
        · clear h
          rcases Bool.eq_false_or_eq_true (r10) with hc236 | hc236
          · skip
            refine wpR_val (v := (Value.bool (decide (r210 = 0)))) (w' := w15) (wantG rfl rfl rfl hc236) rfl rfl (x_move (v := (Value.bool (decide (r210 = 0)))) rfl e14) ?_
            refine wpR_val (v := (Value.bool (!(decide (r210 = 0))))) (w' := w15) (wantG rfl rfl rfl hc236) rfl rfl (x_not rfl rfl) ?_
            refine wpR_val (v := (Value.bool (!(decide (r210 = 0))))) (w' := w15) (wantG rfl rfl rfl hc236) rfl rfl (x_move (v := (Value.bool (!(decide (r210 = 0))))) rfl rfl) ?_
            refine wpR_joinJ 2 (fun (_ : Unit) ρ => ρ 95 = Value.bool ((!(decide (r210 = 0))) || r234) ∧ ρ 15 = (Value.bool (decide (r233 = 0))) ∧ ρ 16 = (Value.bool r234) ∧ ρ 90 = (Value.bool r10) ∧ True) (fun _ w => w15 = w) ?_ ?_
            · clear h
              rcases Bool.eq_false_or_eq_true (!(decide (r210 = 0))) with hc242 | hc242
              · skip
                refine wpR_pass (wantN rfl rfl rfl hc242) rfl rfl ?_
                refine wpR_val (v := (Value.bool true)) (w' := w15) (wantG rfl rfl rfl hc236) rfl rfl (x_pickT (v := (Value.bool true)) rfl rfl hc242 rfl) ?_
                refine wpR_nil ?_
                exact ⟨(), ⟨(by rw [hc242]; rfl), e15, e16, rfl, trivial⟩, rfl⟩
              · skip
                refine wpR_val (v := (Value.bool r234)) (w' := w15) (wantG rfl rfl rfl hc242) rfl rfl (x_move (v := (Value.bool r234)) rfl e16) ?_
                refine wpR_val (v := (Value.bool r234)) (w' := w15) (wantG rfl rfl rfl hc236) rfl rfl (x_pickF (v := (Value.bool r234)) rfl rfl hc242 rfl) ?_
                refine wpR_nil ?_
                exact ⟨(), ⟨(by rw [hc242]; rfl), e15, e16, rfl, trivial⟩, rfl⟩
            rintro _ ρ wj ⟨e95, e15, e16, e90, -⟩ rfl
            refine wpR_val (v := (Value.bool ((!(decide (r210 = 0))) || r234))) (w' := w15) rfl rfl rfl (x_pickT (v := (Value.bool ((!(decide (r210 = 0))) || r234))) rfl e90 hc236 e95) ?_
            refine wpR_nil ?_
            exact ⟨(), ⟨(by rw [hc236]; rfl), e15, e16, trivial⟩, rfl⟩
          · skip
            refine wpR_pass (wantN rfl rfl rfl hc236) rfl rfl ?_
            refine wpR_pass (wantN rfl rfl rfl hc236) rfl rfl ?_
            refine wpR_pass (wantN rfl rfl rfl hc236) rfl rfl ?_
            refine wpR_pass (wantU rfl rfl rfl) rfl rfl ?_
            refine wpR_pass (wantN rfl rfl rfl hc236) rfl rfl ?_
            refine wpR_val (v := (Value.bool false)) (w' := w15) rfl rfl rfl (x_pickF (v := (Value.bool false)) rfl rfl hc236 rfl) ?_
            refine wpR_nil ?_
            exact ⟨(), ⟨(by rw [hc236]; rfl), e15, e16, trivial⟩, rfl⟩
        rintro _ ρ wj ⟨e96, e15, e16, -⟩ rfl
        refine wpR_val (v := (Value.bool (r10 && ((!(decide (r210 = 0))) || r234)))) (w' := w15) rfl rfl rfl (x_move (v := (Value.bool (r10 && ((!(decide (r210 = 0))) || r234)))) rfl e96) ?_
        refine wpR_joinJ 4 (fun (_ : Unit) ρ => ρ 101 = Value.bool ((r10 && ((!(decide (r210 = 0))) || r234)) && ((decide (r233 = 0)) == r234)) ∧ True) (fun _ w => w15 = w) ?_ ?_
        · clear h
          rcases Bool.eq_false_or_eq_true (r10 && ((!(decide (r210 = 0))) || r234)) with hc244 | hc244
          · skip
            refine wpR_val (v := (Value.bool (decide (r233 = 0)))) (w' := w15) (wantG rfl rfl rfl hc244) rfl rfl (x_move (v := (Value.bool (decide (r233 = 0)))) rfl e15) ?_
            refine wpR_val (v := (Value.bool r234)) (w' := w15) (wantG rfl rfl rfl hc244) rfl rfl (x_move (v := (Value.bool r234)) rfl e16) ?_
            refine wpR_val (v := (Value.bool ((decide (r233 = 0)) == r234))) (w' := w15) (wantG rfl rfl rfl hc244) rfl rfl (x_eqlB rfl rfl rfl isBoolT_4) ?_
            refine wpR_val (v := (Value.bool ((decide (r233 = 0)) == r234))) (w' := w15) rfl rfl rfl (x_pickT (v := (Value.bool ((decide (r233 = 0)) == r234))) rfl rfl hc244 rfl) ?_
            refine wpR_nil ?_
            exact ⟨(), ⟨(by rw [hc244]; rfl), trivial⟩, rfl⟩
          · skip
            refine wpR_pass (wantN rfl rfl rfl hc244) rfl rfl ?_
            refine wpR_pass (wantN rfl rfl rfl hc244) rfl rfl ?_
            refine wpR_pass (wantN rfl rfl rfl hc244) rfl rfl ?_
            refine wpR_val (v := (Value.bool false)) (w' := w15) rfl rfl rfl (x_pickF (v := (Value.bool false)) rfl rfl hc244 rfl) ?_
            refine wpR_nil ?_
            exact ⟨(), ⟨(by rw [hc244]; rfl), trivial⟩, rfl⟩
        rintro _ ρ wj ⟨e101, -⟩ rfl
        refine wpR_val (v := (Value.bool ((r10 && ((!(decide (r210 = 0))) || r234)) && ((decide (r233 = 0)) == r234)))) (w' := w15) rfl rfl rfl (x_assign (v := (Value.bool ((r10 && ((!(decide (r210 = 0))) || r234)) && ((decide (r233 = 0)) == r234)))) rfl e101) ?_
        refine wpR_nil ?_
        refine wpC_ret ?_
        exact ⟨.inl rfl, fun a ha => ⟨_, results_rep1 rfl ha rfl, (r10 && ((!(decide (r210 = 0))) || r234)) && ((decide (r233 = 0)) == r234), rfl, h⟩⟩

/-- lingualaw20.LossWorse -/
def F5 (p0 : Sl) (p1 : Sl) (p2 : Sl) (w0 : World) (K : Bool → World → Prop) : Prop :=
  callC Try.prog 8 #[] (fun (r : Bool) => (Value.bool r)) w0 fun r9 w1 =>
  cnd (((decide (20 < (p0.len : Int))) || (decide (20 < (p1.len : Int)))) || (decide (20 < (p2.len : Int))))
    (
    K r9 w1
    )
    (
    callC Try.prog 15 #[(Sl.v p0), (Sl.v p0)] (fun (r : Bool) => (Value.bool r)) w1 fun r15 w2 =>
    jn (fun J16 => cnd (r15)
      (
      J16 true w2
      )
      (
      callC Try.prog 15 #[(Sl.v p0), (Sl.v p1)] (fun (r : Bool) => (Value.bool r)) w2 fun r18 w3 =>
      jn (fun J19 => cnd (r18)
        (
        callC Try.prog 15 #[(Sl.v p1), (Sl.v p0)] (fun (r : Bool) => (Value.bool r)) w3 fun r21 w4 =>
        J19 r21 w4
        )
        (
        J19 false w3
        ))
      fun c22 w5 =>
      J16 c22 w5
      ))
    fun c23 w6 =>
    jn (fun J24 => cnd (c23)
      (
      J24 true w6
      )
      (
      callC Try.prog 15 #[(Sl.v p0), (Sl.v p1)] (fun (r : Bool) => (Value.bool r)) w6 fun r26 w7 =>
      jn (fun J27 => cnd (r26)
        (
        callC Try.prog 15 #[(Sl.v p1), (Sl.v p2)] (fun (r : Bool) => (Value.bool r)) w7 fun r29 w8 =>
        J27 r29 w8
        )
        (
        J27 false w7
        ))
      fun c30 w9 =>
      jn (fun J31 => cnd (c30)
        (
        callC Try.prog 15 #[(Sl.v p0), (Sl.v p2)] (fun (r : Bool) => (Value.bool r)) w9 fun r33 w10 =>
        J31 (!r33) w10
        )
        (
        J31 false w9
        ))
      fun c34 w11 =>
      J24 c34 w11
      ))
    fun c35 w12 =>
    cnd (c35)
      (
      K false w12
      )
      (
      callC Try.prog 15 #[(Sl.v p0), (Sl.v p1)] (fun (r : Bool) => (Value.bool r)) w12 fun r37 w13 =>
      jn (fun J38 => cnd (r37)
        (
        jn (fun J40 => cnd (decide ((p0.len : Int) = 0))
          (
          J40 true w13
          )
          (
          callC Try.prog 15 #[(Sl.v p0), (Sl.v Sl.nil)] (fun (r : Bool) => (Value.bool r)) w13 fun r42 w14 =>
          J40 (!r42) w14
          ))
        fun c43 w15 =>
        J38 c43 w15
        )
        (
        J38 false w13
        ))
      fun c44 w16 =>
      jn (fun J45 => cnd (c44)
        (
        J45 true w16
        )
        (
        callC Try.prog 15 #[(Sl.v Sl.nil), (Sl.v p0)] (fun (r : Bool) => (Value.bool r)) w16 fun r47 w17 =>
        J45 r47 w17
        ))
      fun c48 w18 =>
      cnd (c48)
        (
        K false w18
        )
        (
        K r9 w18
        )
      )
    )
set_option maxRecDepth 100000 in
theorem D5 (p0 : Sl) (p1 : Sl) (p2 : Sl) (w0 : World) (K : Bool → World → Prop) (h : F5 p0 p1 p2 w0 K) : callC Try.prog 5 #[(Sl.v p0), (Sl.v p1), (Sl.v p2)] (fun (r : Bool) => (Value.bool r)) w0 K := by
  unfold F5 at h
  refine calls_of_wpC Try.func5 rfl 70 rfl (by simp) ?_
  intro ρ hρ
  have e0 : ρ 0 = (Sl.v p0) := hρ 0
  have e1 : ρ 1 = (Sl.v p1) := hρ 1
  have e2 : ρ 2 = (Sl.v p2) := hρ 2
  clear hρ
  refine wpC_seq ?_
  refine wpC_region ?_
  refine wpR_val (v := (Value.bool false)) (w' := w0) rfl rfl rfl (x_assign (v := (Value.bool false)) rfl rfl) ?_
  refine wpR_nil ?_
  refine wpC_seq ?_
  refine wpC_cut (fun ρ => ρ 0 = (Sl.v p0) ∧ ρ 1 = (Sl.v p1) ∧ ρ 2 = (Sl.v p2) ∧ True) ⟨e0, e1, e2, trivial⟩ ?_
  rintro ρ ⟨e0, e1, e2, -⟩
  refine wpC_region ?_
  refine wpR_enter rfl rfl rfl (x_call (vs := []) rfl rfl mapl_nil Try.func8 NN_8 NB_8) (Calls.mono h ?_)
  rintro _ w1 ⟨r9, rfl, h⟩
  refine ⟨_, rfl, ?_⟩
  refine wpR_val (v := (Value.bool r9)) (w' := w1) rfl rfl rfl (x_assign (v := (Value.bool r9)) rfl rfl) ?_
  refine wpR_nil ?_
  refine wpC_seq ?_
  refine wpC_seq ?_
  refine wpC_cut (fun ρ => ρ 0 = (Sl.v p0) ∧ ρ 1 = (Sl.v p1) ∧ ρ 2 = (Sl.v p2) ∧ ρ 7 = (Value.bool r9) ∧ True) ⟨e0, e1, e2, rfl, trivial⟩ ?_
  rintro ρ ⟨e0, e1, e2, e7, -⟩
  refine wpC_region ?_
  refine wpR_val (v := (Sl.v p0)) (w' := w1) rfl rfl rfl (x_move (v := (Sl.v p0)) rfl e0) ?_
  refine wpR_val (v := (Value.int .i64 (p0.len : Int))) (w' := w1) rfl rfl rfl (x_lenS (s := p0) rfl rfl isSliceT_26) ?_
  refine wpR_val (v := (Value.bool (decide (20 < (p0.len : Int))))) (w' := w1) rfl rfl rfl (x_gtr rfl rfl rfl) ?_
  refine wpR_val (v := (Value.bool (decide (20 < (p0.len : Int))))) (w' := w1) rfl rfl rfl (x_move (v := (Value.bool (decide (20 < (p0.len : Int))))) rfl rfl) ?_
  refine wpR_joinJ 4 (fun (_ : Unit) ρ => ρ 16 = Value.bool ((decide (20 < (p0.len : Int))) || (decide (20 < (p1.len : Int)))) ∧ ρ 0 = (Sl.v p0) ∧ ρ 1 = (Sl.v p1) ∧ ρ 2 = (Sl.v p2) ∧ ρ 7 = (Value.bool r9) ∧ True) (fun _ w => w1 = w) ?_ ?_
  · clear h
    rcases Bool.eq_false_or_eq_true (decide (20 < (p0.len : Int))) with hc11 | hc11
    · skip
      refine wpR_pass (wantN rfl rfl rfl hc11) rfl rfl ?_
      refine wpR_pass (wantN rfl rfl rfl hc11) rfl rfl ?_
      refine wpR_pass (wantN rfl rfl rfl hc11) rfl rfl ?_
      refine wpR_val (v := (Value.bool true)) (w' := w1) rfl rfl rfl (x_pickT (v := (Value.bool true)) rfl rfl hc11 rfl) ?_
      refine wpR_nil ?_
      exact ⟨(), ⟨(by rw [hc11]; rfl), e0, e1, e2, e7, trivial⟩, rfl⟩
    · skip
      refine wpR_val (v := (Sl.v p1)) (w' := w1) (wantG rfl rfl rfl hc11) rfl rfl (x_move (v := (Sl.v p1)) rfl e1) ?_
      refine wpR_val (v := (Value.int .i64 (p1.len : Int))) (w' := w1) (wantG rfl rfl rfl hc11) rfl rfl (x_lenS (s := p1) rfl rfl isSliceT_26) ?_
      refine wpR_val (v := (Value.bool (decide (20 < (p1.len : Int))))) (w' := w1) (wantG rfl rfl rfl hc11) rfl rfl (x_gtr rfl rfl rfl) ?_
      refine wpR_val (v := (Value.bool (decide (20 < (p1.len : Int))))) (w' := w1) rfl rfl rfl (x_pickF (v := (Value.bool (decide (20 < (p1.len : Int))))) rfl rfl hc11 rfl) ?_
      refine wpR_nil ?_
      exact ⟨(), ⟨(by rw [hc11]; rfl), e0, e1, e2, e7, trivial⟩, rfl⟩
  rintro _ ρ wj ⟨e16, e0, e1, e2, e7, -⟩ rfl
  refine wpR_val (v := (Value.bool ((decide (20 < (p0.len : Int))) || (decide (20 < (p1.len : Int)))))) (w' := w1) rfl rfl rfl (x_move (v := (Value.bool ((decide (20 < (p0.len : Int))) || (decide (20 < (p1.len : Int)))))) rfl e16) ?_
  refine wpR_joinJ 4 (fun (_ : Unit) ρ => ρ 21 = Value.bool (((decide (20 < (p0.len : Int))) || (decide (20 < (p1.len : Int)))) || (decide (20 < (p2.len : Int)))) ∧ ρ 0 = (Sl.v p0) ∧ ρ 1 = (Sl.v p1) ∧ ρ 2 = (Sl.v p2) ∧ ρ 7 = (Value.bool r9) ∧ True) (fun _ w => w1 = w) ?_ ?_
  · clear h
    rcases Bool.eq_false_or_eq_true ((decide (20 < (p0.len : Int))) || (decide (20 < (p1.len : Int)))) with hc13 | hc13
    · skip
      refine wpR_pass (wantN rfl rfl rfl hc13) rfl rfl ?_
      refine wpR_pass (wantN rfl rfl rfl hc13) rfl rfl ?_
      refine wpR_pass (wantN rfl rfl rfl hc13) rfl rfl ?_
      refine wpR_val (v := (Value.bool true)) (w' := w1) rfl rfl rfl (x_pickT (v := (Value.bool true)) rfl rfl hc13 rfl) ?_
      refine wpR_nil ?_
      exact ⟨(), ⟨(by rw [hc13]; rfl), e0, e1, e2, e7, trivial⟩, rfl⟩
    · skip
      refine wpR_val (v := (Sl.v p2)) (w' := w1) (wantG rfl rfl rfl hc13) rfl rfl (x_move (v := (Sl.v p2)) rfl e2) ?_
      refine wpR_val (v := (Value.int .i64 (p2.len : Int))) (w' := w1) (wantG rfl rfl rfl hc13) rfl rfl (x_lenS (s := p2) rfl rfl isSliceT_26) ?_
      refine wpR_val (v := (Value.bool (decide (20 < (p2.len : Int))))) (w' := w1) (wantG rfl rfl rfl hc13) rfl rfl (x_gtr rfl rfl rfl) ?_
      refine wpR_val (v := (Value.bool (decide (20 < (p2.len : Int))))) (w' := w1) rfl rfl rfl (x_pickF (v := (Value.bool (decide (20 < (p2.len : Int))))) rfl rfl hc13 rfl) ?_
      refine wpR_nil ?_
      exact ⟨(), ⟨(by rw [hc13]; rfl), e0, e1, e2, e7, trivial⟩, rfl⟩
  rintro _ ρ wj ⟨e21, e0, e1, e2, e7, -⟩ rfl
  refine wpR_nil ?_
  refine wpC_cond (b := ((decide (20 < (p0.len : Int))) || (decide (20 < (p1.len : Int)))) || (decide (20 < (p2.len : Int)))) e21 (fun hc14 => ?_) (fun hc14 => ?_)
  · replace h := h.1 hc14
    refine wpC_seq ?_
    refine wpC_region ?_
    refine wpR_val (v := (Value.bool r9)) (w' := w1) rfl rfl rfl (x_move (v := (Value.bool r9)) rfl e7) ?_
    refine wpR_val (v := (Value.bool r9)) (w' := w1) rfl rfl rfl (x_assign (v := (Value.bool r9)) rfl rfl) ?_
    refine wpR_nil ?_
    refine wpC_ret ?_
    exact ⟨.inl rfl, fun a ha => ⟨_, results_rep1 rfl ha rfl, r9, rfl, h⟩⟩
  · replace h := h.2 hc14
    refine wpC_skip ?_
    refine wpC_seq ?_
    refine wpC_seq ?_
    refine wpC_region ?_
    refine wpR_val (v := (Sl.v p0)) (w' := w1) rfl rfl rfl (x_move (v := (Sl.v p0)) rfl e0) ?_
    refine wpR_val (v := (Sl.v p0)) (w' := w1) rfl rfl rfl (x_move (v := (Sl.v p0)) rfl e0) ?_
    refine wpR_enter rfl rfl rfl (x_call (vs := [(Sl.v p0), (Sl.v p0)]) rfl rfl (mapl_cons rfl (mapl_cons rfl mapl_nil)) Try.func15 NN_15 NB_15) (Calls.mono h ?_)
    rintro _ w2 ⟨r15, rfl, h⟩
    refine ⟨_, rfl, ?_⟩
    refine wpR_val (v := (Value.bool r15)) (w' := w2) rfl rfl rfl (x_move (v := (Value.bool r15)) rfl rfl) ?_
    obtain ⟨J16, h, hk⟩ := h
    refine wpR_joinJ 9 (fun x ρ => ρ 35 = Value.bool x ∧ ρ 0 = (Sl.v p0) ∧ ρ 1 = (Sl.v p1) ∧ ρ 2 = (Sl.v p2) ∧ ρ 7 = (Value.bool r9) ∧ True) (J16) ?_ ?_
    · clear hk
      rcases Bool.eq_false_or_eq_true (r15) with hc17 | hc17
      · replace h := h.1 hc17
        refine wpR_pass (wantN rfl rfl rfl hc17) rfl rfl ?_
        refine wpR_pass (wantN rfl rfl rfl hc17) rfl rfl ?_
        refine wpR_pass (wantN rfl rfl rfl hc17) rfl rfl ?_
        refine wpR_pass (wantN rfl rfl rfl hc17) rfl rfl ?_
        refine wpR_pass (wantU rfl rfl rfl) rfl rfl ?_
        refine wpR_pass (wantU rfl rfl rfl) rfl rfl ?_
        refine wpR_pass (wantU rfl rfl rfl) rfl rfl ?_
        refine wpR_pass (wantN rfl rfl rfl hc17) rfl rfl ?_
        refine wpR_val (v := (Value.bool true)) (w' := w2) rfl rfl rfl (x_pickT (v := (Value.bool true)) rfl rfl hc17 rfl) ?_
        refine wpR_nil ?_
        exact ⟨true, ⟨rfl, e0, e1, e2, e7, trivial⟩, h⟩
      · replace h := h.2 hc17
        refine wpR_val (v := (Sl.v p0)) (w' := w2) (wantG rfl rfl rfl hc17) rfl rfl (x_move (v := (Sl.v p0)) rfl e0) ?_
        refine wpR_val (v := (Sl.v p1)) (w' := w2) (wantG rfl rfl rfl hc17) rfl rfl (x_move (v := (Sl.v p1)) rfl e1) ?_
        refine wpR_enter (wantG rfl rfl rfl hc17) rfl rfl (x_call (vs := [(Sl.v p0), (Sl.v p1)]) rfl rfl (mapl_cons rfl (mapl_cons rfl mapl_nil)) Try.func15 NN_15 NB_15) (Calls.mono h ?_)
        rintro _ w3 ⟨r18, rfl, h⟩
        refine ⟨_, rfl, ?_⟩
        refine wpR_val (v := (Value.bool r18)) (w' := w3) (wantG rfl rfl rfl hc17) rfl rfl (x_move (v := (Value.bool r18)) rfl rfl) ?_
        obtain ⟨J19, h, hk⟩ := h
        refine wpR_joinJ 4 (fun x ρ => ρ 34 = Value.bool x ∧ ρ 0 = (Sl.v p0) ∧ ρ 1 = (Sl.v p1) ∧ ρ 2 = (Sl.v p2) ∧ ρ 7 = (Value.bool r9) ∧ ρ 26 = (Value.bool r15) ∧ True) (J19) ?_ ?_
        · clear hk
          rcases Bool.eq_false_or_eq_true (r18) with hc20 | hc20
          · replace h := h.1 hc20
            refine wpR_val (v := (Sl.v p1)) (w' := w3) (wantG rfl rfl rfl hc20) rfl rfl (x_move (v := (Sl.v p1)) rfl e1) ?_
            refine wpR_val (v := (Sl.v p0)) (w' := w3) (wantG rfl rfl rfl hc20) rfl rfl (x_move (v := (Sl.v p0)) rfl e0) ?_
            refine wpR_enter (wantG rfl rfl rfl hc20) rfl rfl (x_call (vs := [(Sl.v p1), (Sl.v p0)]) rfl rfl (mapl_cons rfl (mapl_cons rfl mapl_nil)) Try.func15 NN_15 NB_15) (Calls.mono h ?_)
            rintro _ w4 ⟨r21, rfl, h⟩
            refine ⟨_, rfl, ?_⟩
            refine wpR_val (v := (Value.bool r21)) (w' := w4) (wantG rfl rfl rfl hc17) rfl rfl (x_pickT (v := (Value.bool r21)) rfl rfl hc20 rfl) ?_
            refine wpR_nil ?_
            exact ⟨r21, ⟨rfl, e0, e1, e2, e7, rfl, trivial⟩, h⟩
          · replace h := h.2 hc20
            refine wpR_pass (wantN rfl rfl rfl hc20) rfl rfl ?_
            refine wpR_pass (wantN rfl rfl rfl hc20) rfl rfl ?_
            refine wpR_pass (wantN rfl rfl rfl hc20) rfl rfl ?_
            refine wpR_val (v := (Value.bool false)) (w' := w3) (wantG rfl rfl rfl hc17) rfl rfl (x_pickF (v := (Value.bool false)) rfl rfl hc20 rfl) ?_
            refine wpR_nil ?_
            exact ⟨false, ⟨rfl, e0, e1, e2, e7, rfl, trivial⟩, h⟩
        clear h
        rintro c22 ρ w5 ⟨e34, e0, e1, e2, e7, e26, -⟩ h
        replace h := hk c22 w5 h
        clear hk
        refine wpR_val (v := (Value.bool c22)) (w' := w5) rfl rfl rfl (x_pickF (v := (Value.bool c22)) rfl e26 hc17 e34) ?_
        refine wpR_nil ?_
        exact ⟨c22, ⟨rfl, e0, e1, e2, e7, trivial⟩, h⟩
    clear h
    rintro c23 ρ w6 ⟨e35, e0, e1, e2, e7, -⟩ h
    replace h := hk c23 w6 h
    clear hk
    refine wpR_val (v := (Value.bool c23)) (w' := w6) rfl rfl rfl (x_move (v := (Value.bool c23)) rfl e35) ?_
    obtain ⟨J24, h, hk⟩ := h
    refine wpR_joinJ 15 (fun x ρ => ρ 51 = Value.bool x ∧ ρ 0 = (Sl.v p0) ∧ ρ 1 = (Sl.v p1) ∧ ρ 7 = (Value.bool r9) ∧ True) (J24) ?_ ?_
    · clear hk
      rcases Bool.eq_false_or_eq_true (c23) with hc25 | hc25
      · replace h := h.1 hc25
        refine wpR_pass (wantN rfl rfl rfl hc25) rfl rfl ?_
        refine wpR_pass (wantN rfl rfl rfl hc25) rfl rfl ?_
        refine wpR_pass (wantN rfl rfl rfl hc25) rfl rfl ?_
        refine wpR_pass (wantN rfl rfl rfl hc25) rfl rfl ?_
        refine wpR_pass (wantU rfl rfl rfl) rfl rfl ?_
        refine wpR_pass (wantU rfl rfl rfl) rfl rfl ?_
        refine wpR_pass (wantU rfl rfl rfl) rfl rfl ?_
        refine wpR_pass (wantN rfl rfl rfl hc25) rfl rfl ?_
        refine wpR_pass (wantN rfl rfl rfl hc25) rfl rfl ?_
        refine wpR_pass (wantU rfl rfl rfl) rfl rfl ?_
        refine wpR_pass (wantU rfl rfl rfl) rfl rfl ?_
        refine wpR_pass (wantU rfl rfl rfl) rfl rfl ?_
        refine wpR_pass (wantU rfl rfl rfl) rfl rfl ?_
        refine wpR_pass (wantN rfl rfl rfl hc25) rfl rfl ?_
        refine wpR_val (v := (Value.bool true)) (w' := w6) rfl rfl rfl (x_pickT (v := (Value.bool true)) rfl rfl hc25 rfl) ?_
        refine wpR_nil ?_
        exact ⟨true, ⟨rfl, e0, e1, e7, trivial⟩, h⟩
      · replace h := h.2 hc25
        refine wpR_val (v := (Sl.v p0)) (w' := w6) (wantG rfl rfl rfl hc25) rfl rfl (x_move (v := (Sl.v p0)) rfl e0) ?_
        refine wpR_val (v := (Sl.v p1)) (w' := w6) (wantG rfl rfl rfl hc25) rfl rfl (x_move (v := (Sl.v p1)) rfl e1) ?_
        refine wpR_enter (wantG rfl rfl rfl hc25) rfl rfl (x_call (vs := [(Sl.v p0), (Sl.v p1)]) rfl rfl (mapl_cons rfl (mapl_cons rfl mapl_nil)) Try.func15 NN_15 NB_15) (Calls.mono h ?_)
        rintro _ w7 ⟨r26, rfl, h⟩
        refine ⟨_, rfl, ?_⟩
        refine wpR_val (v := (Value.bool r26)) (w' := w7) (wantG rfl rfl rfl hc25) rfl rfl (x_move (v := (Value.bool r26)) rfl rfl) ?_
        obtain ⟨J27, h, hk⟩ := h
        refine wpR_joinJ 4 (fun x ρ => ρ 44 = Value.bool x ∧ ρ 0 = (Sl.v p0) ∧ ρ 1 = (Sl.v p1) ∧ ρ 2 = (Sl.v p2) ∧ ρ 7 = (Value.bool r9) ∧ ρ 36 = (Value.bool c23) ∧ True) (J27) ?_ ?_
        · clear hk
          rcases Bool.eq_false_or_eq_true (r26) with hc28 | hc28
          · replace h := h.1 hc28
            refine wpR_val (v := (Sl.v p1)) (w' := w7) (wantG rfl rfl rfl hc28) rfl rfl (x_move (v := (Sl.v p1)) rfl e1) ?_
            refine wpR_val (v := (Sl.v p2)) (w' := w7) (wantG rfl rfl rfl hc28) rfl rfl (x_move (v := (Sl.v p2)) rfl e2) ?_
            refine wpR_enter (wantG rfl rfl rfl hc28) rfl rfl (x_call (vs := [(Sl.v p1), (Sl.v p2)]) rfl rfl (mapl_cons rfl (mapl_cons rfl mapl_nil)) Try.func15 NN_15 NB_15) (Calls.mono h ?_)
            rintro _ w8 ⟨r29, rfl, h⟩
            refine ⟨_, rfl, ?_⟩
            refine wpR_val (v := (Value.bool r29)) (w' := w8) (wantG rfl rfl rfl hc25) rfl rfl (x_pickT (v := (Value.bool r29)) rfl rfl hc28 rfl) ?_
            refine wpR_nil ?_
            exact ⟨r29, ⟨rfl, e0, e1, e2, e7, rfl, trivial⟩, h⟩
          · replace h := h.2 hc28
            refine wpR_pass (wantN rfl rfl rfl hc28) rfl rfl ?_
            refine wpR_pass (wantN rfl rfl rfl hc28) rfl rfl ?_
            refine wpR_pass (wantN rfl rfl rfl hc28) rfl rfl ?_
            refine wpR_val (v := (Value.bool false)) (w' := w7) (wantG rfl rfl rfl hc25) rfl rfl (x_pickF (v := (Value.bool false)) rfl rfl hc28 rfl) ?_
            refine wpR_nil ?_
            exact ⟨false, ⟨rfl, e0, e1, e2, e7, rfl, trivial⟩, h⟩
        clear h
        rintro c30 ρ w9 ⟨e44, e0, e1, e2, e7, e36, -⟩ h
        replace h := hk c30 w9 h
        clear hk
        refine wpR_val (v := (Value.bool c30)) (w' := w9) (wantG rfl rfl e36 hc25) rfl rfl (x_move (v := (Value.bool c30)) rfl e44) ?_
        obtain ⟨J31, h, hk⟩ := h
        refine wpR_joinJ 5 (fun x ρ => ρ 50 = Value.bool x ∧ ρ 0 = (Sl.v p0) ∧ ρ 1 = (Sl.v p1) ∧ ρ 7 = (Value.bool r9) ∧ ρ 36 = (Value.bool c23) ∧ True) (J31) ?_ ?_
        · clear hk
          rcases Bool.eq_false_or_eq_true (c30) with hc32 | hc32
          · replace h := h.1 hc32
            refine wpR_val (v := (Sl.v p0)) (w' := w9) (wantG rfl rfl rfl hc32) rfl rfl (x_move (v := (Sl.v p0)) rfl e0) ?_
            refine wpR_val (v := (Sl.v p2)) (w' := w9) (wantG rfl rfl rfl hc32) rfl rfl (x_move (v := (Sl.v p2)) rfl e2) ?_
            refine wpR_enter (wantG rfl rfl rfl hc32) rfl rfl (x_call (vs := [(Sl.v p0), (Sl.v p2)]) rfl rfl (mapl_cons rfl (mapl_cons rfl mapl_nil)) Try.func15 NN_15 NB_15) (Calls.mono h ?_)
            rintro _ w10 ⟨r33, rfl, h⟩
            refine ⟨_, rfl, ?_⟩
            refine wpR_val (v := (Value.bool (!r33))) (w' := w10) (wantG rfl rfl rfl hc32) rfl rfl (x_not rfl rfl) ?_
            refine wpR_val (v := (Value.bool (!r33))) (w' := w10) (wantG rfl rfl e36 hc25) rfl rfl (x_pickT (v := (Value.bool (!r33))) rfl rfl hc32 rfl) ?_
            refine wpR_nil ?_
            exact ⟨!r33, ⟨rfl, e0, e1, e7, e36, trivial⟩, h⟩
          · replace h := h.2 hc32
            refine wpR_pass (wantN rfl rfl rfl hc32) rfl rfl ?_
            refine wpR_pass (wantN rfl rfl rfl hc32) rfl rfl ?_
            refine wpR_pass (wantN rfl rfl rfl hc32) rfl rfl ?_
            refine wpR_pass (wantN rfl rfl rfl hc32) rfl rfl ?_
            refine wpR_val (v := (Value.bool false)) (w' := w9) (wantG rfl rfl e36 hc25) rfl rfl (x_pickF (v := (Value.bool false)) rfl rfl hc32 rfl) ?_
            refine wpR_nil ?_
            exact ⟨false, ⟨rfl, e0, e1, e7, e36, trivial⟩, h⟩
        clear h
        rintro c34 ρ w11 ⟨e50, e0, e1, e7, e36, -⟩ h
        replace h := hk c34 w11 h
        clear hk
        refine wpR_val (v := (Value.bool c34)) (w' := w11) rfl rfl rfl (x_pickF (v := (Value.bool c34)) rfl e36 hc25 e50) ?_
        refine wpR_nil ?_
        exact ⟨c34, ⟨rfl, e0, e1, e7, trivial⟩, h⟩
    clear h
    rintro c35 ρ w12 ⟨e51, e0, e1, e7, -⟩ h
    replace h := hk c35 w12 h
    clear hk
    refine wpR_nil ?_
    refine wpC_cond (b := c35) e51 (fun hc36 => ?_) (fun hc36 => ?_)
    · replace h := h.1 hc36
      refine wpC_seq ?_
      refine wpC_region ?_
      refine wpR_val (v := (Value.bool false)) (w' := w12) rfl rfl rfl (x_assign (v := (Value.bool false)) rfl rfl) ?_
      refine wpR_nil ?_
      refine wpC_ret ?_
      exact ⟨.inl rfl, fun a ha => ⟨_, results_rep1 rfl ha rfl, false, rfl, h⟩⟩
    · replace h := h.2 hc36
      refine wpC_skip ?_
      refine wpC_seq ?_
      refine wpC_seq ?_
      refine wpC_region ?_
      refine wpR_val (v := (Sl.v p0)) (w' := w12) rfl rfl rfl (x_move (v := (Sl.v p0)) rfl e0) ?_
      refine wpR_val (v := (Sl.v p1)) (w' := w12) rfl rfl rfl (x_move (v := (Sl.v p1)) rfl e1) ?_
      refine wpR_enter rfl rfl rfl (x_call (vs := [(Sl.v p0), (Sl.v p1)]) rfl rfl (mapl_cons rfl (mapl_cons rfl mapl_nil)) Try.func15 NN_15 NB_15) (Calls.mono h ?_)
      rintro _ w13 ⟨r37, rfl, h⟩
      refine ⟨_, rfl, ?_⟩
      refine wpR_val (v := (Value.bool r37)) (w' := w13) rfl rfl rfl (x_move (v := (Value.bool r37)) rfl rfl) ?_
      obtain ⟨J38, h, hk⟩ := h
      refine wpR_joinJ 9 (fun x ρ => ρ 64 = Value.bool x ∧ ρ 0 = (Sl.v p0) ∧ ρ 7 = (Value.bool r9) ∧ True) (J38) ?_ ?_
      · clear hk
        rcases Bool.eq_false_or_eq_true (r37) with hc39 | hc39
        · replace h := h.1 hc39
          refine wpR_val (v := (Sl.v p0)) (w' := w13) (wantG rfl rfl rfl hc39) rfl rfl (x_move (v := (Sl.v p0)) rfl e0) ?_
          refine wpR_val (v := (Value.int .i64 (p0.len : Int))) (w' := w13) (wantG rfl rfl rfl hc39) rfl rfl (x_lenS (s := p0) rfl rfl isSliceT_26) ?_
          refine wpR_val (v := (Value.bool (decide ((p0.len : Int) = 0)))) (w' := w13) (wantG rfl rfl rfl hc39) rfl rfl (x_eql rfl rfl rfl) ?_
          refine wpR_val (v := (Value.bool (decide ((p0.len : Int) = 0)))) (w' := w13) (wantG rfl rfl rfl hc39) rfl rfl (x_move (v := (Value.bool (decide ((p0.len : Int) = 0)))) rfl rfl) ?_
          obtain ⟨J40, h, hk⟩ := h
          refine wpR_joinJ 4 (fun x ρ => ρ 63 = Value.bool x ∧ ρ 0 = (Sl.v p0) ∧ ρ 7 = (Value.bool r9) ∧ ρ 55 = (Value.bool r37) ∧ True) (J40) ?_ ?_
          · clear hk
            rcases Bool.eq_false_or_eq_true (decide ((p0.len : Int) = 0)) with hc41 | hc41
            · replace h := h.1 hc41
              refine wpR_pass (wantN rfl rfl rfl hc41) rfl rfl ?_
              refine wpR_pass (wantN rfl rfl rfl hc41) rfl rfl ?_
              refine wpR_pass (wantN rfl rfl rfl hc41) rfl rfl ?_
              refine wpR_val (v := (Value.bool true)) (w' := w13) (wantG rfl rfl rfl hc39) rfl rfl (x_pickT (v := (Value.bool true)) rfl rfl hc41 rfl) ?_
              refine wpR_nil ?_
              exact ⟨true, ⟨rfl, e0, e7, rfl, trivial⟩, h⟩
            · replace h := h.2 hc41
              refine wpR_val (v := (Sl.v p0)) (w' := w13) (wantG rfl rfl rfl hc41) rfl rfl (x_move (v := (Sl.v p0)) rfl e0) ?_
              refine wpR_enter (wantG rfl rfl rfl hc41) rfl rfl (x_call (vs := [(Sl.v p0), (Sl.v Sl.nil)]) rfl rfl (mapl_cons rfl (mapl_cons rfl mapl_nil)) Try.func15 NN_15 NB_15) (Calls.mono h ?_)
              rintro _ w14 ⟨r42, rfl, h⟩
              refine ⟨_, rfl, ?_⟩
              refine wpR_val (v := (Value.bool (!r42))) (w' := w14) (wantG rfl rfl rfl hc41) rfl rfl (x_not rfl rfl) ?_
              refine wpR_val (v := (Value.bool (!r42))) (w' := w14) (wantG rfl rfl rfl hc39) rfl rfl (x_pickF (v := (Value.bool (!r42))) rfl rfl hc41 rfl) ?_
              refine wpR_nil ?_
              exact ⟨!r42, ⟨rfl, e0, e7, rfl, trivial⟩, h⟩
          clear h
          rintro c43 ρ w15 ⟨e63, e0, e7, e55, -⟩ h
          replace h := hk c43 w15 h
          clear hk
          refine wpR_val (v := (Value.bool c43)) (w' := w15) rfl rfl rfl (x_pickT (v := (Value.bool c43)) rfl e55 hc39 e63) ?_
          refine wpR_nil ?_
          exact ⟨c43, ⟨rfl, e0, e7, trivial⟩, h⟩
        · replace h := h.2 hc39
          refine wpR_pass (wantN rfl rfl rfl hc39) rfl rfl ?_
          refine wpR_pass (wantN rfl rfl rfl hc39) rfl rfl ?_
          refine wpR_pass (wantN rfl rfl rfl hc39) rfl rfl ?_
          refine wpR_pass (wantN rfl rfl rfl hc39) rfl rfl ?_
          refine wpR_pass (wantU rfl rfl rfl) rfl rfl ?_
          refine wpR_pass (wantU rfl rfl rfl) rfl rfl ?_
          refine wpR_pass (wantU rfl rfl rfl) rfl rfl ?_
          refine wpR_pass (wantN rfl rfl rfl hc39) rfl rfl ?_
          refine wpR_val (v := (Value.bool false)) (w' := w13) rfl rfl rfl (x_pickF (v := (Value.bool false)) rfl rfl hc39 rfl) ?_
          refine wpR_nil ?_
          exact ⟨false, ⟨rfl, e0, e7, trivial⟩, h⟩
      clear h
      rintro c44 ρ w16 ⟨e64, e0, e7, -⟩ h
      replace h := hk c44 w16 h
      clear hk
      refine wpR_val (v := (Value.bool c44)) (w' := w16) rfl rfl rfl (x_move (v := (Value.bool c44)) rfl e64) ?_
      obtain ⟨J45, h, hk⟩ := h
      refine wpR_joinJ 3 (fun x ρ => ρ 68 = Value.bool x ∧ ρ 7 = (Value.bool r9) ∧ True) (J45) ?_ ?_
      · clear hk
        rcases Bool.eq_false_or_eq_true (c44) with hc46 | hc46
        · replace h := h.1 hc46
          refine wpR_pass (wantN rfl rfl rfl hc46) rfl rfl ?_
          refine wpR_pass (wantN rfl rfl rfl hc46) rfl rfl ?_
          refine wpR_val (v := (Value.bool true)) (w' := w16) rfl rfl rfl (x_pickT (v := (Value.bool true)) rfl rfl hc46 rfl) ?_
          refine wpR_nil ?_
          exact ⟨true, ⟨rfl, e7, trivial⟩, h⟩
        · replace h := h.2 hc46
          refine wpR_val (v := (Sl.v p0)) (w' := w16) (wantG rfl rfl rfl hc46) rfl rfl (x_move (v := (Sl.v p0)) rfl e0) ?_
          refine wpR_enter (wantG rfl rfl rfl hc46) rfl rfl (x_call (vs := [(Sl.v Sl.nil), (Sl.v p0)]) rfl rfl (mapl_cons rfl (mapl_cons rfl mapl_nil)) Try.func15 NN_15 NB_15) (Calls.mono h ?_)
          rintro _ w17 ⟨r47, rfl, h⟩
          refine ⟨_, rfl, ?_⟩
          refine wpR_val (v := (Value.bool r47)) (w' := w17) rfl rfl rfl (x_pickF (v := (Value.bool r47)) rfl rfl hc46 rfl) ?_
          refine wpR_nil ?_
          exact ⟨r47, ⟨rfl, e7, trivial⟩, h⟩
      clear h
      rintro c48 ρ w18 ⟨e68, e7, -⟩ h
      replace h := hk c48 w18 h
      clear hk
      refine wpR_nil ?_
      refine wpC_cond (b := c48) e68 (fun hc49 => ?_) (fun hc49 => ?_)
      · replace h := h.1 hc49
        refine wpC_seq ?_
        refine wpC_region ?_
        refine wpR_val (v := (Value.bool false)) (w' := w18) rfl rfl rfl (x_assign (v := (Value.bool false)) rfl rfl) ?_
        refine wpR_nil ?_
        refine wpC_ret ?_
        exact ⟨.inl rfl, fun a ha => ⟨_, results_rep1 rfl ha rfl, false, rfl, h⟩⟩
      · replace h := h.2 hc49
        refine wpC_skip ?_
        refine wpC_seq ?_
        refine wpC_region ?_
        refine wpR_val (v := (Value.bool r9)) (w' := w18) rfl rfl rfl (x_move (v := (Value.bool r9)) rfl e7) ?_
        refine wpR_val (v := (Value.bool r9)) (w' := w18) rfl rfl rfl (x_assign (v := (Value.bool r9)) rfl rfl) ?_
        refine wpR_nil ?_
        refine wpC_ret ?_
        exact ⟨.inl rfl, fun a ha => ⟨_, results_rep1 rfl ha rfl, r9, rfl, h⟩⟩

/-- lingualaw20.LossLong -/
def F6 (p0_0 : ByteArray) (p0_1 : Int) (p0_2 : Int) (p0_3 : Int) (p0_4 : Bool) (p0_5 : Int) (p0_6 : Bool) (p0_7 : Bool) (p0_8 : Int) (p0_9 : Int) (p0_10 : Int) (p0_11 : Int) (p0_12 : Sl) (p0_13 : Int) (p0_14 : Int) (p0_15 : Int) (p0_16 : Int) (p0_17 : Bool) (p0_18 : Int) (p0_19 : Int) (p0_20 : Int) (p0_21 : Int) (w0 : World) (K : Bool → World → Prop) : Prop :=
  nw 24 (A23 p0_0 p0_1 p0_2 p0_3 p0_4 p0_5 p0_6 p0_7 p0_8 p0_9 p0_10 p0_11 p0_12 p0_13 p0_14 p0_15 p0_16 p0_17 p0_18 p0_19 p0_20 p0_21) w0 fun b9 w1 =>
  callC Try.prog 8 #[] (fun (r : Bool) => (Value.bool r)) w1 fun r10 w2 =>
  L23 (Addr.mk b9 0 none) w2 fun x11 x12 x13 x14 x15 x16 x17 x18 x19 x20 x21 x22 x23 x24 x25 x26 x27 x28 x29 x30 x31 x32 =>
  callC Try.prog 9 #[(V23 x11 x12 x13 x14 x15 x16 x17 x18 x19 x20 x21 x22 x23 x24 x25 x26 x27 x28 x29 x30 x31 x32)] (fun (r : Bool) => (Value.bool r)) w2 fun r33 w3 =>
  jn (fun J34 => cnd (!r33)
    (
    J34 true w3
    )
    (
    L23 (Addr.mk b9 0 none) w3 fun x36 x37 x38 x39 x40 x41 x42 x43 x44 x45 x46 x47 x48 x49 x50 x51 x52 x53 x54 x55 x56 x57 =>
    callC Try.prog 17 #[(V23 x36 x37 x38 x39 x40 x41 x42 x43 x44 x45 x46 x47 x48 x49 x50 x51 x52 x53 x54 x55 x56 x57)] (fun (r : Int) => (Value.int .i64 r)) w3 fun r58 w4 =>
    J34 (!decide (r58 = 0)) w4
    ))
  fun c59 w5 =>
  cnd (c59)
    (
    K r10 w5
    )
    (
    L23 (Addr.mk b9 0 none) w5 fun x61 x62 x63 x64 x65 x66 x67 x68 x69 x70 x71 x72 x73 x74 x75 x76 x77 x78 x79 x80 x81 x82 =>
    callC Try.prog 18 #[(V23 x61 x62 x63 x64 x65 x66 x67 x68 x69 x70 x71 x72 x73 x74 x75 x76 x77 x78 x79 x80 x81 x82)] (fun (r : Sl × Int) => (Value.tuple #[(Sl.v r.1), (Value.int .i64 r.2)])) w5 fun r83 w6 =>
    L23 (Addr.mk b9 0 none) w6 fun x84 x85 x86 x87 x88 x89 x90 x91 x92 x93 x94 x95 x96 x97 x98 x99 x100 x101 x102 x103 x104 x105 =>
    callC Try.prog 20 #[(V23 x84 x85 x86 x87 x88 x89 x90 x91 x92 x93 x94 x95 x96 x97 x98 x99 x100 x101 x102 x103 x104 x105)] (fun (r : Sl × Bool) => (Value.tuple #[(Sl.v r.1), (Value.bool r.2)])) w6 fun r106 w7 =>
    cnd ((((!decide (r83.2 = 0)) || (!r106.2)) || (!decide ((r83.1.len : Int) = 9))) || (decide ((r106.1.len : Int) = 0)))
      (
      K false w7
      )
      (
      lp (fun (next114 : (Int × Int) → World → Prop) l114 w8 =>
        cnd (decide (l114.2 < (r83.1.len : Int)))
          (
          jn (fun (J116 : Int → World → Prop) =>
            jp (fun J118 => cnd (decide (l114.1 < (r106.1.len : Int)))
              (
              ix r106.1 (min l114.1 (IntKind.i64.wrap ((r106.1.len : Int) - 1))) 3 fun p120 =>
              ld (Value.int .i64) (p120.add 0) w8 fun x121 =>
              J118 (decide (x121 = l114.2))
              )
              (
              J118 false
              ))
            fun c122 =>
            ix r83.1 l114.2 2 fun p123 =>
            ld (Value.int .i64) (p123.add 0) w8 fun x124 =>
            cnd (!(c122 == (!decide (x124 = 0))))
              (
              K false w8
              )
              (
              cnd (!c122)
                (
                J116 l114.1 w8
                )
                (
                jn (fun (J128 : Bool → World → Prop) => tk w8 fun w10 =>
                  ix r106.1 l114.1 3 fun p129 =>
                  ld (Value.int .i64) (p129.add 1) w10 fun x130 =>
                  ix r83.1 l114.2 2 fun p131 =>
                  ld (Value.int .i64) (p131.add 0) w10 fun x132 =>
                  cnd (!decide (x130 = x132))
                    (
                    J128 true w10
                    )
                    (
                    ix r106.1 l114.1 3 fun p134 =>
                    ld (Value.int .i64) (p134.add 2) w10 fun x135 =>
                    ix r83.1 l114.2 2 fun p136 =>
                    ld (Value.int .i64) (p136.add 1) w10 fun x137 =>
                    J128 (!decide (x135 = x137)) w10
                    )
                )
                fun l138 w11 =>
                cnd (l138)
                  (
                  K false w11
                  )
                  (
                  J116 (IntKind.i64.wrap (l114.1 + 1)) w11
                  )
                )
              )
          )
          fun l117 w9 =>
          next114 (l117, IntKind.i64.wrap (l114.2 + 1)) w9
          )
          (
          jp (fun J142 => cnd (r10 && (decide (l114.1 = (r106.1.len : Int))))
            (
            ix r106.1 0 3 fun p144 =>
            ld (Value.int .i64) (p144.add 0) w8 fun x145 =>
            J142 (decide (x145 = 1))
            )
            (
            J142 false
            ))
          fun c146 =>
          jp (fun J147 => cnd (c146)
            (
            ix r83.1 0 2 fun p149 =>
            ld (Value.int .i64) (p149.add 0) w8 fun x150 =>
            J147 (decide (x150 = 0))
            )
            (
            J147 false
            ))
          fun c151 =>
          K c151 w8
          )
      ) (0, 0) w7
      )
    )
set_option maxRecDepth 100000 in
theorem D6 (p0_0 : ByteArray) (p0_1 : Int) (p0_2 : Int) (p0_3 : Int) (p0_4 : Bool) (p0_5 : Int) (p0_6 : Bool) (p0_7 : Bool) (p0_8 : Int) (p0_9 : Int) (p0_10 : Int) (p0_11 : Int) (p0_12 : Sl) (p0_13 : Int) (p0_14 : Int) (p0_15 : Int) (p0_16 : Int) (p0_17 : Bool) (p0_18 : Int) (p0_19 : Int) (p0_20 : Int) (p0_21 : Int) (w0 : World) (K : Bool → World → Prop) (h : F6 p0_0 p0_1 p0_2 p0_3 p0_4 p0_5 p0_6 p0_7 p0_8 p0_9 p0_10 p0_11 p0_12 p0_13 p0_14 p0_15 p0_16 p0_17 p0_18 p0_19 p0_20 p0_21 w0 K) : callC Try.prog 6 #[(V23 p0_0 p0_1 p0_2 p0_3 p0_4 p0_5 p0_6 p0_7 p0_8 p0_9 p0_10 p0_11 p0_12 p0_13 p0_14 p0_15 p0_16 p0_17 p0_18 p0_19 p0_20 p0_21)] (fun (r : Bool) => (Value.bool r)) w0 K := by
  unfold F6 at h
  refine calls_of_wpC Try.func6 rfl 127 rfl (by simp) ?_
  intro ρ hρ
  have e0 : ρ 0 = (V23 p0_0 p0_1 p0_2 p0_3 p0_4 p0_5 p0_6 p0_7 p0_8 p0_9 p0_10 p0_11 p0_12 p0_13 p0_14 p0_15 p0_16 p0_17 p0_18 p0_19 p0_20 p0_21) := hρ 0
  clear hρ
  refine wpC_seq ?_
  refine wpC_region ?_
  obtain ⟨b9, hb9⟩ : ∃ u, u = w0.heap.size := ⟨_, rfl⟩
  obtain ⟨w1, hw9⟩ : ∃ u, u = w0.alloc (.cells (A23 p0_0 p0_1 p0_2 p0_3 p0_4 p0_5 p0_6 p0_7 p0_8 p0_9 p0_10 p0_11 p0_12 p0_13 p0_14 p0_15 p0_16 p0_17 p0_18 p0_19 p0_20 p0_21) 24) := ⟨_, rfl⟩
  replace h := h b9 w1 hb9 hw9
  refine wpR_val (v := (Value.pointer (some (Addr.mk b9 0 none)))) (w' := w1) rfl rfl rfl ((x_box (v := (V23 p0_0 p0_1 p0_2 p0_3 p0_4 p0_5 p0_6 p0_7 p0_8 p0_9 p0_10 p0_11 p0_12 p0_13 p0_14 p0_15 p0_16 p0_17 p0_18 p0_19 p0_20 p0_21)) rfl e0).trans (by rw [hb9, hw9]; rfl)) ?_
  refine wpR_val (v := (Value.bool false)) (w' := w1) rfl rfl rfl (x_assign (v := (Value.bool false)) rfl rfl) ?_
  refine wpR_nil ?_
  refine wpC_seq ?_
  refine wpC_cut (fun ρ => ρ 1 = (Value.pointer (some (Addr.mk b9 0 none))) ∧ True) ⟨rfl, trivial⟩ ?_
  rintro ρ ⟨e1, -⟩
  refine wpC_region ?_
  refine wpR_enter rfl rfl rfl (x_call (vs := []) rfl rfl mapl_nil Try.func8 NN_8 NB_8) (Calls.mono h ?_)
  rintro _ w2 ⟨r10, rfl, h⟩
  refine ⟨_, rfl, ?_⟩
  refine wpR_val (v := (Value.bool r10)) (w' := w2) rfl rfl rfl (x_assign (v := (Value.bool r10)) rfl rfl) ?_
  refine wpR_nil ?_
  refine wpC_seq ?_
  refine wpC_seq ?_
  refine wpC_cut (fun ρ => ρ 1 = (Value.pointer (some (Addr.mk b9 0 none))) ∧ ρ 3 = (Value.bool r10) ∧ True) ⟨e1, rfl, trivial⟩ ?_
  rintro ρ ⟨e1, e3, -⟩
  refine wpC_region ?_
  obtain ⟨x11, q11, x12, q12, x13, q13, x14, q14, x15, q15, x16, q16, x17, q17, x18, q18, x19, q19, x20, q20, x21, q21, x22, q22, x23, q23, x24, q24, x25, q25, x26, q26, x27, q27, x28, q28, x29, q29, x30, q30, x31, q31, x32, q32, h⟩ := h
  refine wpR_val (v := (V23 x11 x12 x13 x14 x15 x16 x17 x18 x19 x20 x21 x22 x23 x24 x25 x26 x27 x28 x29 x30 x31 x32)) (w' := w2) rfl rfl rfl (x_loadN (S23 x11 x12 x13 x14 x15 x16 x17 x18 x19 x20 x21 x22 x23 x24 x25 x26 x27 x28 x29 x30 x31 x32) rfl e1 SH_24 (K23 ⟨q11, q12, q13, q14, q15, q16, q17, q18, q19, q20, q21, q22, q23, q24, q25, q26, q27, q28, q29, q30, q31, q32⟩)) ?_
  refine wpR_enter rfl rfl rfl (x_call (vs := [(V23 x11 x12 x13 x14 x15 x16 x17 x18 x19 x20 x21 x22 x23 x24 x25 x26 x27 x28 x29 x30 x31 x32)]) rfl rfl (mapl_cons rfl mapl_nil) Try.func9 NN_9 NB_9) (Calls.mono h ?_)
  rintro _ w3 ⟨r33, rfl, h⟩
  refine ⟨_, rfl, ?_⟩
  refine wpR_val (v := (Value.bool (!r33))) (w' := w3) rfl rfl rfl (x_not rfl rfl) ?_
  refine wpR_val (v := (Value.bool (!r33))) (w' := w3) rfl rfl rfl (x_move (v := (Value.bool (!r33))) rfl rfl) ?_
  obtain ⟨J34, h, hk⟩ := h
  refine wpR_joinJ 4 (fun x ρ => ρ 19 = Value.bool x ∧ ρ 1 = (Value.pointer (some (Addr.mk b9 0 none))) ∧ ρ 3 = (Value.bool r10) ∧ True) (J34) ?_ ?_
  · clear hk
    rcases Bool.eq_false_or_eq_true (!r33) with hc35 | hc35
    · replace h := h.1 hc35
      refine wpR_pass (wantN rfl rfl rfl hc35) rfl rfl ?_
      refine wpR_pass (wantN rfl rfl rfl hc35) rfl rfl ?_
      refine wpR_pass (wantN rfl rfl rfl hc35) rfl rfl ?_
      refine wpR_val (v := (Value.bool true)) (w' := w3) rfl rfl rfl (x_pickT (v := (Value.bool true)) rfl rfl hc35 rfl) ?_
      refine wpR_nil ?_
      exact ⟨true, ⟨rfl, e1, e3, trivial⟩, h⟩
    · replace h := h.2 hc35
      obtain ⟨x36, q36, x37, q37, x38, q38, x39, q39, x40, q40, x41, q41, x42, q42, x43, q43, x44, q44, x45, q45, x46, q46, x47, q47, x48, q48, x49, q49, x50, q50, x51, q51, x52, q52, x53, q53, x54, q54, x55, q55, x56, q56, x57, q57, h⟩ := h
      refine wpR_val (v := (V23 x36 x37 x38 x39 x40 x41 x42 x43 x44 x45 x46 x47 x48 x49 x50 x51 x52 x53 x54 x55 x56 x57)) (w' := w3) (wantG rfl rfl rfl hc35) rfl rfl (x_loadN (S23 x36 x37 x38 x39 x40 x41 x42 x43 x44 x45 x46 x47 x48 x49 x50 x51 x52 x53 x54 x55 x56 x57) rfl e1 SH_24 (K23 ⟨q36, q37, q38, q39, q40, q41, q42, q43, q44, q45, q46, q47, q48, q49, q50, q51, q52, q53, q54, q55, q56, q57⟩)) ?_
      refine wpR_enter (wantG rfl rfl rfl hc35) rfl rfl (x_call (vs := [(V23 x36 x37 x38 x39 x40 x41 x42 x43 x44 x45 x46 x47 x48 x49 x50 x51 x52 x53 x54 x55 x56 x57)]) rfl rfl (mapl_cons rfl mapl_nil) Try.func17 NN_17 NB_17) (Calls.mono h ?_)
      rintro _ w4 ⟨r58, rfl, h⟩
      refine ⟨_, rfl, ?_⟩
      refine wpR_val (v := (Value.bool (!decide (r58 = 0)))) (w' := w4) (wantG rfl rfl rfl hc35) rfl rfl (x_neq rfl rfl rfl) ?_
      refine wpR_val (v := (Value.bool (!decide (r58 = 0)))) (w' := w4) rfl rfl rfl (x_pickF (v := (Value.bool (!decide (r58 = 0)))) rfl rfl hc35 rfl) ?_
      refine wpR_nil ?_
      exact ⟨!decide (r58 = 0), ⟨rfl, e1, e3, trivial⟩, h⟩
  clear h
  rintro c59 ρ w5 ⟨e19, e1, e3, -⟩ h
  replace h := hk c59 w5 h
  clear hk
  refine wpR_nil ?_
  refine wpC_cond (b := c59) e19 (fun hc60 => ?_) (fun hc60 => ?_)
  · replace h := h.1 hc60
    refine wpC_seq ?_
    refine wpC_region ?_
    refine wpR_val (v := (Value.bool r10)) (w' := w5) rfl rfl rfl (x_move (v := (Value.bool r10)) rfl e3) ?_
    refine wpR_val (v := (Value.bool r10)) (w' := w5) rfl rfl rfl (x_assign (v := (Value.bool r10)) rfl rfl) ?_
    refine wpR_nil ?_
    refine wpC_ret ?_
    exact ⟨.inl rfl, fun a ha => ⟨_, results_rep1 rfl ha rfl, r10, rfl, h⟩⟩
  · replace h := h.2 hc60
    refine wpC_skip ?_
    refine wpC_seq ?_
    refine wpC_region ?_
    obtain ⟨x61, q61, x62, q62, x63, q63, x64, q64, x65, q65, x66, q66, x67, q67, x68, q68, x69, q69, x70, q70, x71, q71, x72, q72, x73, q73, x74, q74, x75, q75, x76, q76, x77, q77, x78, q78, x79, q79, x80, q80, x81, q81, x82, q82, h⟩ := h
    refine wpR_val (v := (V23 x61 x62 x63 x64 x65 x66 x67 x68 x69 x70 x71 x72 x73 x74 x75 x76 x77 x78 x79 x80 x81 x82)) (w' := w5) rfl rfl rfl (x_loadN (S23 x61 x62 x63 x64 x65 x66 x67 x68 x69 x70 x71 x72 x73 x74 x75 x76 x77 x78 x79 x80 x81 x82) rfl e1 SH_24 (K23 ⟨q61, q62, q63, q64, q65, q66, q67, q68, q69, q70, q71, q72, q73, q74, q75, q76, q77, q78, q79, q80, q81, q82⟩)) ?_
    refine wpR_enter rfl rfl rfl (x_call (vs := [(V23 x61 x62 x63 x64 x65 x66 x67 x68 x69 x70 x71 x72 x73 x74 x75 x76 x77 x78 x79 x80 x81 x82)]) rfl rfl (mapl_cons rfl mapl_nil) Try.func18 NN_18 NB_18) (Calls.mono h ?_)
    rintro _ w6 ⟨r83, rfl, h⟩
    refine ⟨_, rfl, ?_⟩
    refine wpR_val (v := (Value.tuple #[(Sl.v r83.1), (Value.int .i64 r83.2)])) (w' := w6) rfl rfl rfl (x_move (v := (Value.tuple #[(Sl.v r83.1), (Value.int .i64 r83.2)])) rfl rfl) ?_
    refine wpR_val (v := (Sl.v r83.1)) (w' := w6) rfl rfl rfl (x_extract rfl rfl rfl) ?_
    refine wpR_val (v := (Value.int .i64 r83.2)) (w' := w6) rfl rfl rfl (x_extract rfl rfl rfl) ?_
    refine wpR_val (v := (Sl.v r83.1)) (w' := w6) rfl rfl rfl (x_assign (v := (Sl.v r83.1)) rfl rfl) ?_
    refine wpR_val (v := (Value.int .i64 r83.2)) (w' := w6) rfl rfl rfl (x_assign (v := (Value.int .i64 r83.2)) rfl rfl) ?_
    refine wpR_nil ?_
    refine wpC_seq ?_
    refine wpC_cut (fun ρ => ρ 1 = (Value.pointer (some (Addr.mk b9 0 none))) ∧ ρ 3 = (Value.bool r10) ∧ ρ 4 = (Sl.v r83.1) ∧ ρ 5 = (Value.int .i64 r83.2) ∧ True) ⟨e1, e3, rfl, rfl, trivial⟩ ?_
    rintro ρ ⟨e1, e3, e4, e5, -⟩
    refine wpC_region ?_
    obtain ⟨x84, q84, x85, q85, x86, q86, x87, q87, x88, q88, x89, q89, x90, q90, x91, q91, x92, q92, x93, q93, x94, q94, x95, q95, x96, q96, x97, q97, x98, q98, x99, q99, x100, q100, x101, q101, x102, q102, x103, q103, x104, q104, x105, q105, h⟩ := h
    refine wpR_val (v := (V23 x84 x85 x86 x87 x88 x89 x90 x91 x92 x93 x94 x95 x96 x97 x98 x99 x100 x101 x102 x103 x104 x105)) (w' := w6) rfl rfl rfl (x_loadN (S23 x84 x85 x86 x87 x88 x89 x90 x91 x92 x93 x94 x95 x96 x97 x98 x99 x100 x101 x102 x103 x104 x105) rfl e1 SH_24 (K23 ⟨q84, q85, q86, q87, q88, q89, q90, q91, q92, q93, q94, q95, q96, q97, q98, q99, q100, q101, q102, q103, q104, q105⟩)) ?_
    refine wpR_enter rfl rfl rfl (x_call (vs := [(V23 x84 x85 x86 x87 x88 x89 x90 x91 x92 x93 x94 x95 x96 x97 x98 x99 x100 x101 x102 x103 x104 x105)]) rfl rfl (mapl_cons rfl mapl_nil) Try.func20 NN_20 NB_20) (Calls.mono h ?_)
    rintro _ w7 ⟨r106, rfl, h⟩
    refine ⟨_, rfl, ?_⟩
    refine wpR_val (v := (Value.tuple #[(Sl.v r106.1), (Value.bool r106.2)])) (w' := w7) rfl rfl rfl (x_move (v := (Value.tuple #[(Sl.v r106.1), (Value.bool r106.2)])) rfl rfl) ?_
    refine wpR_val (v := (Sl.v r106.1)) (w' := w7) rfl rfl rfl (x_extract rfl rfl rfl) ?_
    refine wpR_val (v := (Value.bool r106.2)) (w' := w7) rfl rfl rfl (x_extract rfl rfl rfl) ?_
    refine wpR_val (v := (Sl.v r106.1)) (w' := w7) rfl rfl rfl (x_assign (v := (Sl.v r106.1)) rfl rfl) ?_
    refine wpR_val (v := (Value.bool r106.2)) (w' := w7) rfl rfl rfl (x_assign (v := (Value.bool r106.2)) rfl rfl) ?_
    refine wpR_nil ?_
    refine wpC_seq ?_
    refine wpC_seq ?_
    refine wpC_cut (fun ρ => ρ 3 = (Value.bool r10) ∧ ρ 4 = (Sl.v r83.1) ∧ ρ 5 = (Value.int .i64 r83.2) ∧ ρ 6 = (Sl.v r106.1) ∧ ρ 7 = (Value.bool r106.2) ∧ True) ⟨e3, e4, e5, rfl, rfl, trivial⟩ ?_
    rintro ρ ⟨e3, e4, e5, e6, e7, -⟩
    refine wpC_region ?_
    refine wpR_val (v := (Value.int .i64 r83.2)) (w' := w7) rfl rfl rfl (x_move (v := (Value.int .i64 r83.2)) rfl e5) ?_
    refine wpR_val (v := (Value.bool (!decide (r83.2 = 0)))) (w' := w7) rfl rfl rfl (x_neq rfl rfl rfl) ?_
    refine wpR_val (v := (Value.bool (!decide (r83.2 = 0)))) (w' := w7) rfl rfl rfl (x_move (v := (Value.bool (!decide (r83.2 = 0)))) rfl rfl) ?_
    refine wpR_joinJ 3 (fun (_ : Unit) ρ => ρ 36 = Value.bool ((!decide (r83.2 = 0)) || (!r106.2)) ∧ ρ 3 = (Value.bool r10) ∧ ρ 4 = (Sl.v r83.1) ∧ ρ 6 = (Sl.v r106.1) ∧ True) (fun _ w => w7 = w) ?_ ?_
    · clear h
      rcases Bool.eq_false_or_eq_true (!decide (r83.2 = 0)) with hc108 | hc108
      · skip
        refine wpR_pass (wantN rfl rfl rfl hc108) rfl rfl ?_
        refine wpR_pass (wantN rfl rfl rfl hc108) rfl rfl ?_
        refine wpR_val (v := (Value.bool true)) (w' := w7) rfl rfl rfl (x_pickT (v := (Value.bool true)) rfl rfl hc108 rfl) ?_
        refine wpR_nil ?_
        exact ⟨(), ⟨(by rw [hc108]; rfl), e3, e4, e6, trivial⟩, rfl⟩
      · skip
        refine wpR_val (v := (Value.bool r106.2)) (w' := w7) (wantG rfl rfl rfl hc108) rfl rfl (x_move (v := (Value.bool r106.2)) rfl e7) ?_
        refine wpR_val (v := (Value.bool (!r106.2))) (w' := w7) (wantG rfl rfl rfl hc108) rfl rfl (x_not rfl rfl) ?_
        refine wpR_val (v := (Value.bool (!r106.2))) (w' := w7) rfl rfl rfl (x_pickF (v := (Value.bool (!r106.2))) rfl rfl hc108 rfl) ?_
        refine wpR_nil ?_
        exact ⟨(), ⟨(by rw [hc108]; rfl), e3, e4, e6, trivial⟩, rfl⟩
    rintro _ ρ wj ⟨e36, e3, e4, e6, -⟩ rfl
    refine wpR_val (v := (Value.bool ((!decide (r83.2 = 0)) || (!r106.2)))) (w' := w7) rfl rfl rfl (x_move (v := (Value.bool ((!decide (r83.2 = 0)) || (!r106.2)))) rfl e36) ?_
    refine wpR_joinJ 4 (fun (_ : Unit) ρ => ρ 41 = Value.bool (((!decide (r83.2 = 0)) || (!r106.2)) || (!decide ((r83.1.len : Int) = 9))) ∧ ρ 3 = (Value.bool r10) ∧ ρ 4 = (Sl.v r83.1) ∧ ρ 6 = (Sl.v r106.1) ∧ True) (fun _ w => w7 = w) ?_ ?_
    · clear h
      rcases Bool.eq_false_or_eq_true ((!decide (r83.2 = 0)) || (!r106.2)) with hc110 | hc110
      · skip
        refine wpR_pass (wantN rfl rfl rfl hc110) rfl rfl ?_
        refine wpR_pass (wantN rfl rfl rfl hc110) rfl rfl ?_
        refine wpR_pass (wantN rfl rfl rfl hc110) rfl rfl ?_
        refine wpR_val (v := (Value.bool true)) (w' := w7) rfl rfl rfl (x_pickT (v := (Value.bool true)) rfl rfl hc110 rfl) ?_
        refine wpR_nil ?_
        exact ⟨(), ⟨(by rw [hc110]; rfl), e3, e4, e6, trivial⟩, rfl⟩
      · skip
        refine wpR_val (v := (Sl.v r83.1)) (w' := w7) (wantG rfl rfl rfl hc110) rfl rfl (x_move (v := (Sl.v r83.1)) rfl e4) ?_
        refine wpR_val (v := (Value.int .i64 (r83.1.len : Int))) (w' := w7) (wantG rfl rfl rfl hc110) rfl rfl (x_lenS (s := r83.1) rfl rfl isSliceT_25) ?_
        refine wpR_val (v := (Value.bool (!decide ((r83.1.len : Int) = 9)))) (w' := w7) (wantG rfl rfl rfl hc110) rfl rfl (x_neq rfl rfl rfl) ?_
        refine wpR_val (v := (Value.bool (!decide ((r83.1.len : Int) = 9)))) (w' := w7) rfl rfl rfl (x_pickF (v := (Value.bool (!decide ((r83.1.len : Int) = 9)))) rfl rfl hc110 rfl) ?_
        refine wpR_nil ?_
        exact ⟨(), ⟨(by rw [hc110]; rfl), e3, e4, e6, trivial⟩, rfl⟩
    rintro _ ρ wj ⟨e41, e3, e4, e6, -⟩ rfl
    refine wpR_val (v := (Value.bool (((!decide (r83.2 = 0)) || (!r106.2)) || (!decide ((r83.1.len : Int) = 9))))) (w' := w7) rfl rfl rfl (x_move (v := (Value.bool (((!decide (r83.2 = 0)) || (!r106.2)) || (!decide ((r83.1.len : Int) = 9))))) rfl e41) ?_
    refine wpR_joinJ 4 (fun (_ : Unit) ρ => ρ 46 = Value.bool ((((!decide (r83.2 = 0)) || (!r106.2)) || (!decide ((r83.1.len : Int) = 9))) || (decide ((r106.1.len : Int) = 0))) ∧ ρ 3 = (Value.bool r10) ∧ ρ 4 = (Sl.v r83.1) ∧ ρ 6 = (Sl.v r106.1) ∧ True) (fun _ w => w7 = w) ?_ ?_
    · clear h
      rcases Bool.eq_false_or_eq_true (((!decide (r83.2 = 0)) || (!r106.2)) || (!decide ((r83.1.len : Int) = 9))) with hc112 | hc112
      · skip
        refine wpR_pass (wantN rfl rfl rfl hc112) rfl rfl ?_
        refine wpR_pass (wantN rfl rfl rfl hc112) rfl rfl ?_
        refine wpR_pass (wantN rfl rfl rfl hc112) rfl rfl ?_
        refine wpR_val (v := (Value.bool true)) (w' := w7) rfl rfl rfl (x_pickT (v := (Value.bool true)) rfl rfl hc112 rfl) ?_
        refine wpR_nil ?_
        exact ⟨(), ⟨(by rw [hc112]; rfl), e3, e4, e6, trivial⟩, rfl⟩
      · skip
        refine wpR_val (v := (Sl.v r106.1)) (w' := w7) (wantG rfl rfl rfl hc112) rfl rfl (x_move (v := (Sl.v r106.1)) rfl e6) ?_
        refine wpR_val (v := (Value.int .i64 (r106.1.len : Int))) (w' := w7) (wantG rfl rfl rfl hc112) rfl rfl (x_lenS (s := r106.1) rfl rfl isSliceT_26) ?_
        refine wpR_val (v := (Value.bool (decide ((r106.1.len : Int) = 0)))) (w' := w7) (wantG rfl rfl rfl hc112) rfl rfl (x_eql rfl rfl rfl) ?_
        refine wpR_val (v := (Value.bool (decide ((r106.1.len : Int) = 0)))) (w' := w7) rfl rfl rfl (x_pickF (v := (Value.bool (decide ((r106.1.len : Int) = 0)))) rfl rfl hc112 rfl) ?_
        refine wpR_nil ?_
        exact ⟨(), ⟨(by rw [hc112]; rfl), e3, e4, e6, trivial⟩, rfl⟩
    rintro _ ρ wj ⟨e46, e3, e4, e6, -⟩ rfl
    refine wpR_nil ?_
    refine wpC_cond (b := (((!decide (r83.2 = 0)) || (!r106.2)) || (!decide ((r83.1.len : Int) = 9))) || (decide ((r106.1.len : Int) = 0))) e46 (fun hc113 => ?_) (fun hc113 => ?_)
    · replace h := h.1 hc113
      refine wpC_seq ?_
      refine wpC_region ?_
      refine wpR_val (v := (Value.bool false)) (w' := w7) rfl rfl rfl (x_assign (v := (Value.bool false)) rfl rfl) ?_
      refine wpR_nil ?_
      refine wpC_ret ?_
      exact ⟨.inl rfl, fun a ha => ⟨_, results_rep1 rfl ha rfl, false, rfl, h⟩⟩
    · replace h := h.2 hc113
      refine wpC_skip ?_
      refine wpC_seq ?_
      refine wpC_region ?_
      refine wpR_val (v := (Value.int .i64 0)) (w' := w7) rfl rfl rfl (x_assign (v := (Value.int .i64 0)) rfl rfl) ?_
      refine wpR_nil ?_
      refine wpC_seq ?_
      refine wpC_seq ?_
      refine wpC_cut (fun ρ => ρ 3 = (Value.bool r10) ∧ ρ 4 = (Sl.v r83.1) ∧ ρ 6 = (Sl.v r106.1) ∧ ρ 8 = (Value.int .i64 0) ∧ True) ⟨e3, e4, e6, rfl, trivial⟩ ?_
      rintro ρ ⟨e3, e4, e6, e8, -⟩
      refine wpC_region ?_
      refine wpR_val (v := (Value.int .i64 0)) (w' := w7) rfl rfl rfl (x_assign (v := (Value.int .i64 0)) rfl rfl) ?_
      refine wpR_nil ?_
      refine wpC_block ?_
      obtain ⟨I114, μ114, hI114, hr114⟩ := h
      refine wpC_loop (fun (x : Int × Int) ρ => ρ 8 = (Value.int .i64 x.1) ∧ ρ 9 = (Value.int .i64 x.2) ∧ ρ 3 = (Value.bool r10) ∧ ρ 4 = (Sl.v r83.1) ∧ ρ 6 = (Sl.v r106.1) ∧ True) I114 μ114 (0, 0) ⟨e8, rfl, e3, e4, e6, trivial⟩ hI114 ?_
      rintro l114 ρ w8 ⟨e8, e9, e3, e4, e6, -⟩ h
      replace h := hr114 l114 w8 h
      clear hr114 hI114
      refine wpC_seq ?_
      refine wpC_seq ?_
      refine wpC_region ?_
      refine wpR_val (v := (Value.int .i64 l114.2)) (w' := w8) rfl rfl rfl (x_move (v := (Value.int .i64 l114.2)) rfl e9) ?_
      refine wpR_val (v := (Sl.v r83.1)) (w' := w8) rfl rfl rfl (x_move (v := (Sl.v r83.1)) rfl e4) ?_
      refine wpR_val (v := (Value.int .i64 (r83.1.len : Int))) (w' := w8) rfl rfl rfl (x_lenS (s := r83.1) rfl rfl isSliceT_25) ?_
      refine wpR_val (v := (Value.bool (decide (l114.2 < (r83.1.len : Int))))) (w' := w8) rfl rfl rfl (x_lss rfl rfl rfl) ?_
      refine wpR_nil ?_
      refine wpC_cond (b := decide (l114.2 < (r83.1.len : Int))) rfl (fun hc115 => ?_) (fun hc115 => ?_)
      · replace h := h.1 hc115
        refine wpC_skip ?_
        obtain ⟨J116, h, hk⟩ := h
        refine wpC_seqJ (fun (x : Int) ρ => ρ 8 = (Value.int .i64 x) ∧ ρ 3 = (Value.bool r10) ∧ ρ 4 = (Sl.v r83.1) ∧ ρ 6 = (Sl.v r106.1) ∧ ρ 9 = (Value.int .i64 l114.2) ∧ True) J116 ?_ ?_
        · clear hk
          refine wpC_block ?_
          refine wpC_seq ?_
          refine wpC_cut (fun ρ => ρ 3 = (Value.bool r10) ∧ ρ 4 = (Sl.v r83.1) ∧ ρ 6 = (Sl.v r106.1) ∧ ρ 8 = (Value.int .i64 l114.1) ∧ ρ 9 = (Value.int .i64 l114.2) ∧ True) ⟨e3, e4, e6, e8, e9, trivial⟩ ?_
          rintro ρ ⟨e3, e4, e6, e8, e9, -⟩
          refine wpC_region ?_
          refine wpR_val (v := (Value.int .i64 l114.1)) (w' := w8) rfl rfl rfl (x_move (v := (Value.int .i64 l114.1)) rfl e8) ?_
          refine wpR_val (v := (Sl.v r106.1)) (w' := w8) rfl rfl rfl (x_move (v := (Sl.v r106.1)) rfl e6) ?_
          refine wpR_val (v := (Value.int .i64 (r106.1.len : Int))) (w' := w8) rfl rfl rfl (x_lenS (s := r106.1) rfl rfl isSliceT_26) ?_
          refine wpR_val (v := (Value.bool (decide (l114.1 < (r106.1.len : Int))))) (w' := w8) rfl rfl rfl (x_lss rfl rfl rfl) ?_
          refine wpR_val (v := (Value.bool (decide (l114.1 < (r106.1.len : Int))))) (w' := w8) rfl rfl rfl (x_move (v := (Value.bool (decide (l114.1 < (r106.1.len : Int))))) rfl rfl) ?_
          obtain ⟨J118, h, hk⟩ := h
          refine wpR_joinJ 12 (fun x ρ => ρ 69 = Value.bool x ∧ ρ 3 = (Value.bool r10) ∧ ρ 4 = (Sl.v r83.1) ∧ ρ 6 = (Sl.v r106.1) ∧ ρ 8 = (Value.int .i64 l114.1) ∧ ρ 9 = (Value.int .i64 l114.2) ∧ True) (fun x w => J118 x ∧ w8 = w) ?_ ?_
          · clear hk
            rcases Bool.eq_false_or_eq_true (decide (l114.1 < (r106.1.len : Int))) with hc119 | hc119
            · replace h := h.1 hc119
              refine wpR_val (v := (Sl.v r106.1)) (w' := w8) (wantG rfl rfl rfl hc119) rfl rfl (x_move (v := (Sl.v r106.1)) rfl e6) ?_
              refine wpR_val (v := (Value.int .i64 l114.1)) (w' := w8) (wantG rfl rfl rfl hc119) rfl rfl (x_move (v := (Value.int .i64 l114.1)) rfl e8) ?_
              refine wpR_val (v := (Sl.v r106.1)) (w' := w8) (wantG rfl rfl rfl hc119) rfl rfl (x_move (v := (Sl.v r106.1)) rfl e6) ?_
              refine wpR_val (v := (Value.int .i64 (r106.1.len : Int))) (w' := w8) (wantG rfl rfl rfl hc119) rfl rfl (x_lenS (s := r106.1) rfl rfl isSliceT_26) ?_
              refine wpR_val (v := (Value.int .i64 (IntKind.i64.wrap ((r106.1.len : Int) - 1)))) (w' := w8) (wantG rfl rfl rfl hc119) rfl rfl (x_sub rfl rfl rfl) ?_
              refine wpR_val (v := (Value.int .i64 (min l114.1 (IntKind.i64.wrap ((r106.1.len : Int) - 1))))) (w' := w8) (wantG rfl rfl rfl hc119) rfl rfl (x_min rfl rfl rfl) ?_
              obtain ⟨q120, z120, r120, h⟩ := h
              generalize hp120 : z120.add ((min l114.1 (IntKind.i64.wrap ((r106.1.len : Int) - 1)) : Int).toNat * 3) = p120 at h
              refine wpR_val (v := (Value.pointer (some p120))) (w' := w8) (wantG rfl rfl rfl hc119) rfl rfl ((x_indexAddr (s := r106.1) rfl rfl rfl ES_26 q120 r120).trans (by rw [hp120])) ?_
              refine wpR_val (v := (Value.pointer (some (p120.add 0)))) (w' := w8) (wantG rfl rfl rfl hc119) rfl rfl (x_fieldAddr rfl rfl FA_44_0) ?_
              obtain ⟨x121, q121, h⟩ := h
              refine wpR_val (v := (Value.int .i64 x121)) (w' := w8) (wantG rfl rfl rfl hc119) rfl rfl (x_load1 rfl rfl SH_3 q121) ?_
              refine wpR_val (v := (Value.int .i64 l114.2)) (w' := w8) (wantG rfl rfl rfl hc119) rfl rfl (x_move (v := (Value.int .i64 l114.2)) rfl e9) ?_
              refine wpR_val (v := (Value.bool (decide (x121 = l114.2)))) (w' := w8) (wantG rfl rfl rfl hc119) rfl rfl (x_eql rfl rfl rfl) ?_
              refine wpR_val (v := (Value.bool (decide (x121 = l114.2)))) (w' := w8) rfl rfl rfl (x_pickT (v := (Value.bool (decide (x121 = l114.2)))) rfl rfl hc119 rfl) ?_
              refine wpR_nil ?_
              exact ⟨decide (x121 = l114.2), ⟨rfl, e3, e4, e6, e8, e9, trivial⟩, h, rfl⟩
            · replace h := h.2 hc119
              refine wpR_pass (wantN rfl rfl rfl hc119) rfl rfl ?_
              refine wpR_pass (wantN rfl rfl rfl hc119) rfl rfl ?_
              refine wpR_pass (wantN rfl rfl rfl hc119) rfl rfl ?_
              refine wpR_pass (wantN rfl rfl rfl hc119) rfl rfl ?_
              refine wpR_pass (wantN rfl rfl rfl hc119) rfl rfl ?_
              refine wpR_pass (wantN rfl rfl rfl hc119) rfl rfl ?_
              refine wpR_pass (wantN rfl rfl rfl hc119) rfl rfl ?_
              refine wpR_pass (wantN rfl rfl rfl hc119) rfl rfl ?_
              refine wpR_pass (wantN rfl rfl rfl hc119) rfl rfl ?_
              refine wpR_pass (wantN rfl rfl rfl hc119) rfl rfl ?_
              refine wpR_pass (wantN rfl rfl rfl hc119) rfl rfl ?_
              refine wpR_val (v := (Value.bool false)) (w' := w8) rfl rfl rfl (x_pickF (v := (Value.bool false)) rfl rfl hc119 rfl) ?_
              refine wpR_nil ?_
              exact ⟨false, ⟨rfl, e3, e4, e6, e8, e9, trivial⟩, h, rfl⟩
          clear h
          rintro c122 ρ wj ⟨e69, e3, e4, e6, e8, e9, -⟩ ⟨h, rfl⟩
          replace h := hk c122 h
          clear hk
          refine wpR_val (v := (Value.bool c122)) (w' := w8) rfl rfl rfl (x_assign (v := (Value.bool c122)) rfl e69) ?_
          refine wpR_nil ?_
          refine wpC_seq ?_
          refine wpC_seq ?_
          refine wpC_cut (fun ρ => ρ 3 = (Value.bool r10) ∧ ρ 4 = (Sl.v r83.1) ∧ ρ 6 = (Sl.v r106.1) ∧ ρ 8 = (Value.int .i64 l114.1) ∧ ρ 9 = (Value.int .i64 l114.2) ∧ ρ 10 = (Value.bool c122) ∧ True) ⟨e3, e4, e6, e8, e9, rfl, trivial⟩ ?_
          rintro ρ ⟨e3, e4, e6, e8, e9, e10, -⟩
          refine wpC_region ?_
          refine wpR_val (v := (Value.bool c122)) (w' := w8) rfl rfl rfl (x_move (v := (Value.bool c122)) rfl e10) ?_
          refine wpR_val (v := (Sl.v r83.1)) (w' := w8) rfl rfl rfl (x_move (v := (Sl.v r83.1)) rfl e4) ?_
          refine wpR_val (v := (Value.int .i64 l114.2)) (w' := w8) rfl rfl rfl (x_move (v := (Value.int .i64 l114.2)) rfl e9) ?_
          obtain ⟨q123, z123, r123, h⟩ := h
          generalize hp123 : z123.add ((l114.2 : Int).toNat * 2) = p123 at h
          refine wpR_val (v := (Value.pointer (some p123))) (w' := w8) rfl rfl rfl ((x_indexAddr (s := r83.1) rfl rfl rfl ES_25 q123 r123).trans (by rw [hp123])) ?_
          refine wpR_val (v := (Value.pointer (some (p123.add 0)))) (w' := w8) rfl rfl rfl (x_fieldAddr rfl rfl FA_46_0) ?_
          obtain ⟨x124, q124, h⟩ := h
          refine wpR_val (v := (Value.int .i64 x124)) (w' := w8) rfl rfl rfl (x_load1 rfl rfl SH_3 q124) ?_
          refine wpR_val (v := (Value.bool (!decide (x124 = 0)))) (w' := w8) rfl rfl rfl (x_neq rfl rfl rfl) ?_
          refine wpR_val (v := (Value.bool (!(c122 == (!decide (x124 = 0)))))) (w' := w8) rfl rfl rfl (x_neqB rfl rfl rfl isBoolT_4) ?_
          refine wpR_nil ?_
          refine wpC_cond (b := !(c122 == (!decide (x124 = 0)))) rfl (fun hc125 => ?_) (fun hc125 => ?_)
          · replace h := h.1 hc125
            refine wpC_seq ?_
            refine wpC_cut (fun ρ => True) trivial ?_
            rintro ρ -
            refine wpC_region ?_
            refine wpR_val (v := (Value.bool false)) (w' := w8) rfl rfl rfl (x_assign (v := (Value.bool false)) rfl rfl) ?_
            refine wpR_nil ?_
            refine wpC_ret ?_
            exact ⟨.inl rfl, fun a ha => ⟨_, results_rep1 rfl ha rfl, false, rfl, h⟩⟩
          · replace h := h.2 hc125
            refine wpC_skip ?_
            refine wpC_seq ?_
            refine wpC_seq ?_
            refine wpC_cut (fun ρ => ρ 3 = (Value.bool r10) ∧ ρ 4 = (Sl.v r83.1) ∧ ρ 6 = (Sl.v r106.1) ∧ ρ 8 = (Value.int .i64 l114.1) ∧ ρ 9 = (Value.int .i64 l114.2) ∧ ρ 10 = (Value.bool c122) ∧ True) ⟨e3, e4, e6, e8, e9, e10, trivial⟩ ?_
            rintro ρ ⟨e3, e4, e6, e8, e9, e10, -⟩
            refine wpC_region ?_
            refine wpR_val (v := (Value.bool c122)) (w' := w8) rfl rfl rfl (x_move (v := (Value.bool c122)) rfl e10) ?_
            refine wpR_val (v := (Value.bool (!c122))) (w' := w8) rfl rfl rfl (x_not rfl rfl) ?_
            refine wpR_nil ?_
            refine wpC_cond (b := !c122) rfl (fun hc126 => ?_) (fun hc126 => ?_)
            · replace h := h.1 hc126
              refine wpC_exit ?_
              exact ⟨l114.1, ⟨e8, e3, e4, e6, e9, trivial⟩, h⟩
            · replace h := h.2 hc126
              refine wpC_skip ?_
              refine wpC_seq ?_
              refine wpC_seq ?_
              refine wpC_cut (fun ρ => ρ 3 = (Value.bool r10) ∧ ρ 4 = (Sl.v r83.1) ∧ ρ 6 = (Sl.v r106.1) ∧ ρ 8 = (Value.int .i64 l114.1) ∧ ρ 9 = (Value.int .i64 l114.2) ∧ True) ⟨e3, e4, e6, e8, e9, trivial⟩ ?_
              rintro ρ ⟨e3, e4, e6, e8, e9, -⟩
              obtain ⟨J128, h, hk⟩ := h
              refine wpC_drawJ (by kernel_rfl) (fun (x : Bool) ρ => ρ 103 = (Value.bool x) ∧ ρ 3 = (Value.bool r10) ∧ ρ 4 = (Sl.v r83.1) ∧ ρ 6 = (Sl.v r106.1) ∧ ρ 8 = (Value.int .i64 l114.1) ∧ ρ 9 = (Value.int .i64 l114.2) ∧ True) J128 ?_ ?_
              · clear hk
                unfold tk at h
                generalize w8.drew = w10 at h ⊢
                refine wpD_take (v := (Sl.v r106.1)) 0 (fun _ => True) rfl (by kernel_rfl) (by kernel_rfl) (by kernel_rfl) rfl rfl rfl trivial (fun w _ => (x_move (v := (Sl.v r106.1)) rfl e6)) ?_
                refine wpD_take (v := (Value.int .i64 l114.1)) 1 (fun _ => True) rfl (by kernel_rfl) (by kernel_rfl) (by kernel_rfl) rfl rfl rfl trivial (fun w _ => (x_move (v := (Value.int .i64 l114.1)) rfl e8)) ?_
                obtain ⟨q129, z129, r129, h⟩ := h
                generalize hp129 : z129.add ((l114.1 : Int).toNat * 3) = p129 at h
                refine wpD_take (v := (Value.pointer (some p129))) 2 (fun _ => True) rfl (by kernel_rfl) (by kernel_rfl) (by kernel_rfl) rfl rfl rfl trivial (fun w _ => ((x_indexAddr (s := r106.1) rfl rfl rfl ES_26 q129 r129).trans (by rw [hp129]))) ?_
                refine wpD_take (v := (Value.pointer (some (p129.add 1)))) 3 (fun _ => True) rfl (by kernel_rfl) (by kernel_rfl) (by kernel_rfl) rfl rfl rfl trivial (fun w _ => (x_fieldAddr rfl rfl FA_44_1)) ?_
                obtain ⟨x130, q130, h⟩ := h
                refine wpD_take (v := (Value.int .i64 x130)) 4 (fun w => w.cell? (p129.add 1) = some (Value.int .i64 x130)) rfl (by kernel_rfl) (by kernel_rfl) (by kernel_rfl) rfl rfl rfl q130 (fun w q130 => (x_load1 rfl rfl SH_3 q130)) ?_
                refine wpD_take (v := (Sl.v r83.1)) 5 (fun _ => True) rfl (by kernel_rfl) (by kernel_rfl) (by kernel_rfl) rfl rfl rfl trivial (fun w _ => (x_move (v := (Sl.v r83.1)) rfl e4)) ?_
                refine wpD_take (v := (Value.int .i64 l114.2)) 6 (fun _ => True) rfl (by kernel_rfl) (by kernel_rfl) (by kernel_rfl) rfl rfl rfl trivial (fun w _ => (x_move (v := (Value.int .i64 l114.2)) rfl e9)) ?_
                obtain ⟨q131, z131, r131, h⟩ := h
                generalize hp131 : z131.add ((l114.2 : Int).toNat * 2) = p131 at h
                refine wpD_take (v := (Value.pointer (some p131))) 7 (fun _ => True) rfl (by kernel_rfl) (by kernel_rfl) (by kernel_rfl) rfl rfl rfl trivial (fun w _ => ((x_indexAddr (s := r83.1) rfl rfl rfl ES_25 q131 r131).trans (by rw [hp131]))) ?_
                refine wpD_take (v := (Value.pointer (some (p131.add 0)))) 8 (fun _ => True) rfl (by kernel_rfl) (by kernel_rfl) (by kernel_rfl) rfl rfl rfl trivial (fun w _ => (x_fieldAddr rfl rfl FA_46_0)) ?_
                obtain ⟨x132, q132, h⟩ := h
                refine wpD_take (v := (Value.int .i64 x132)) 9 (fun w => w.cell? (p131.add 0) = some (Value.int .i64 x132)) rfl (by kernel_rfl) (by kernel_rfl) (by kernel_rfl) rfl rfl rfl q132 (fun w q132 => (x_load1 rfl rfl SH_3 q132)) ?_
                refine wpD_take (v := (Value.bool (!decide (x130 = x132)))) 10 (fun _ => True) rfl (by kernel_rfl) (by kernel_rfl) (by kernel_rfl) rfl rfl rfl trivial (fun w _ => (x_neq rfl rfl rfl)) ?_
                refine wpD_take (v := (Value.bool (!decide (x130 = x132)))) 11 (fun _ => True) rfl (by kernel_rfl) (by kernel_rfl) (by kernel_rfl) rfl rfl rfl trivial (fun w _ => (x_move (v := (Value.bool (!decide (x130 = x132)))) rfl rfl)) ?_
                rcases Bool.eq_false_or_eq_true (!decide (x130 = x132)) with hc133 | hc133
                · replace h := h.1 hc133
                  refine wpD_pass 12 rfl (by kernel_rfl) (by kernel_rfl) (by kernel_rfl) (wantN rfl rfl rfl hc133) rfl rfl ?_
                  refine wpD_pass 13 rfl (by kernel_rfl) (by kernel_rfl) (by kernel_rfl) (wantN rfl rfl rfl hc133) rfl rfl ?_
                  refine wpD_pass 14 rfl (by kernel_rfl) (by kernel_rfl) (by kernel_rfl) (wantN rfl rfl rfl hc133) rfl rfl ?_
                  refine wpD_pass 15 rfl (by kernel_rfl) (by kernel_rfl) (by kernel_rfl) (wantN rfl rfl rfl hc133) rfl rfl ?_
                  refine wpD_pass 16 rfl (by kernel_rfl) (by kernel_rfl) (by kernel_rfl) (wantN rfl rfl rfl hc133) rfl rfl ?_
                  refine wpD_pass 17 rfl (by kernel_rfl) (by kernel_rfl) (by kernel_rfl) (wantN rfl rfl rfl hc133) rfl rfl ?_
                  refine wpD_pass 18 rfl (by kernel_rfl) (by kernel_rfl) (by kernel_rfl) (wantN rfl rfl rfl hc133) rfl rfl ?_
                  refine wpD_pass 19 rfl (by kernel_rfl) (by kernel_rfl) (by kernel_rfl) (wantN rfl rfl rfl hc133) rfl rfl ?_
                  refine wpD_pass 20 rfl (by kernel_rfl) (by kernel_rfl) (by kernel_rfl) (wantN rfl rfl rfl hc133) rfl rfl ?_
                  refine wpD_pass 21 rfl (by kernel_rfl) (by kernel_rfl) (by kernel_rfl) (wantN rfl rfl rfl hc133) rfl rfl ?_
                  refine wpD_pass 22 rfl (by kernel_rfl) (by kernel_rfl) (by kernel_rfl) (wantN rfl rfl rfl hc133) rfl rfl ?_
                  refine wpD_take (v := (Value.bool true)) 23 (fun _ => True) rfl (by kernel_rfl) (by kernel_rfl) (by kernel_rfl) rfl rfl rfl trivial (fun w _ => (x_pickT (v := (Value.bool true)) rfl rfl hc133 rfl)) ?_
                  exact wpD_done (by kernel_rfl) ⟨true, ⟨rfl, e3, e4, e6, e8, e9, trivial⟩, h⟩
                · replace h := h.2 hc133
                  refine wpD_take (v := (Sl.v r106.1)) 12 (fun _ => True) rfl (by kernel_rfl) (by kernel_rfl) (by kernel_rfl) (wantG rfl rfl rfl hc133) rfl rfl trivial (fun w _ => (x_move (v := (Sl.v r106.1)) rfl e6)) ?_
                  refine wpD_take (v := (Value.int .i64 l114.1)) 13 (fun _ => True) rfl (by kernel_rfl) (by kernel_rfl) (by kernel_rfl) (wantG rfl rfl rfl hc133) rfl rfl trivial (fun w _ => (x_move (v := (Value.int .i64 l114.1)) rfl e8)) ?_
                  obtain ⟨q134, z134, r134, h⟩ := h
                  generalize hp134 : z134.add ((l114.1 : Int).toNat * 3) = p134 at h
                  refine wpD_take (v := (Value.pointer (some p134))) 14 (fun _ => True) rfl (by kernel_rfl) (by kernel_rfl) (by kernel_rfl) (wantG rfl rfl rfl hc133) rfl rfl trivial (fun w _ => ((x_indexAddr (s := r106.1) rfl rfl rfl ES_26 q134 r134).trans (by rw [hp134]))) ?_
                  refine wpD_take (v := (Value.pointer (some (p134.add 2)))) 15 (fun _ => True) rfl (by kernel_rfl) (by kernel_rfl) (by kernel_rfl) (wantG rfl rfl rfl hc133) rfl rfl trivial (fun w _ => (x_fieldAddr rfl rfl FA_44_2)) ?_
                  obtain ⟨x135, q135, h⟩ := h
                  refine wpD_take (v := (Value.int .i64 x135)) 16 (fun w => w.cell? (p134.add 2) = some (Value.int .i64 x135)) rfl (by kernel_rfl) (by kernel_rfl) (by kernel_rfl) (wantG rfl rfl rfl hc133) rfl rfl q135 (fun w q135 => (x_load1 rfl rfl SH_3 q135)) ?_
                  refine wpD_take (v := (Sl.v r83.1)) 17 (fun _ => True) rfl (by kernel_rfl) (by kernel_rfl) (by kernel_rfl) (wantG rfl rfl rfl hc133) rfl rfl trivial (fun w _ => (x_move (v := (Sl.v r83.1)) rfl e4)) ?_
                  refine wpD_take (v := (Value.int .i64 l114.2)) 18 (fun _ => True) rfl (by kernel_rfl) (by kernel_rfl) (by kernel_rfl) (wantG rfl rfl rfl hc133) rfl rfl trivial (fun w _ => (x_move (v := (Value.int .i64 l114.2)) rfl e9)) ?_
                  obtain ⟨q136, z136, r136, h⟩ := h
                  generalize hp136 : z136.add ((l114.2 : Int).toNat * 2) = p136 at h
                  refine wpD_take (v := (Value.pointer (some p136))) 19 (fun _ => True) rfl (by kernel_rfl) (by kernel_rfl) (by kernel_rfl) (wantG rfl rfl rfl hc133) rfl rfl trivial (fun w _ => ((x_indexAddr (s := r83.1) rfl rfl rfl ES_25 q136 r136).trans (by rw [hp136]))) ?_
                  refine wpD_take (v := (Value.pointer (some (p136.add 1)))) 20 (fun _ => True) rfl (by kernel_rfl) (by kernel_rfl) (by kernel_rfl) (wantG rfl rfl rfl hc133) rfl rfl trivial (fun w _ => (x_fieldAddr rfl rfl FA_46_1)) ?_
                  obtain ⟨x137, q137, h⟩ := h
                  refine wpD_take (v := (Value.int .i64 x137)) 21 (fun w => w.cell? (p136.add 1) = some (Value.int .i64 x137)) rfl (by kernel_rfl) (by kernel_rfl) (by kernel_rfl) (wantG rfl rfl rfl hc133) rfl rfl q137 (fun w q137 => (x_load1 rfl rfl SH_3 q137)) ?_
                  refine wpD_take (v := (Value.bool (!decide (x135 = x137)))) 22 (fun _ => True) rfl (by kernel_rfl) (by kernel_rfl) (by kernel_rfl) (wantG rfl rfl rfl hc133) rfl rfl trivial (fun w _ => (x_neq rfl rfl rfl)) ?_
                  refine wpD_take (v := (Value.bool (!decide (x135 = x137)))) 23 (fun _ => True) rfl (by kernel_rfl) (by kernel_rfl) (by kernel_rfl) rfl rfl rfl trivial (fun w _ => (x_pickF (v := (Value.bool (!decide (x135 = x137)))) rfl rfl hc133 rfl)) ?_
                  exact wpD_done (by kernel_rfl) ⟨!decide (x135 = x137), ⟨rfl, e3, e4, e6, e8, e9, trivial⟩, h⟩
              clear h
              rintro l138 ρ w11 ⟨e103, e3, e4, e6, e8, e9, -⟩ h
              replace h := hk l138 w11 h
              clear hk
              refine wpC_cond (b := l138) e103 (fun hc139 => ?_) (fun hc139 => ?_)
              · replace h := h.1 hc139
                refine wpC_seq ?_
                refine wpC_region ?_
                refine wpR_val (v := (Value.bool false)) (w' := w11) rfl rfl rfl (x_assign (v := (Value.bool false)) rfl rfl) ?_
                refine wpR_nil ?_
                refine wpC_ret ?_
                exact ⟨.inl rfl, fun a ha => ⟨_, results_rep1 rfl ha rfl, false, rfl, h⟩⟩
              · replace h := h.2 hc139
                refine wpC_skip ?_
                refine wpC_region ?_
                refine wpR_val (v := (Value.int .i64 l114.1)) (w' := w11) rfl rfl rfl (x_move (v := (Value.int .i64 l114.1)) rfl e8) ?_
                refine wpR_val (v := (Value.int .i64 (IntKind.i64.wrap (l114.1 + 1)))) (w' := w11) rfl rfl rfl (x_add rfl rfl rfl) ?_
                refine wpR_val (v := (Value.int .i64 (IntKind.i64.wrap (l114.1 + 1)))) (w' := w11) rfl rfl rfl (x_assign (v := (Value.int .i64 (IntKind.i64.wrap (l114.1 + 1)))) rfl rfl) ?_
                refine wpR_nil ?_
                exact ⟨IntKind.i64.wrap (l114.1 + 1), ⟨rfl, e3, e4, e6, e9, trivial⟩, h⟩
        clear h
        rintro l117 ρ w9 ⟨e8, e3, e4, e6, e9, -⟩ h
        replace h := hk l117 w9 h
        clear hk
        refine wpC_region ?_
        refine wpR_val (v := (Value.int .i64 l114.2)) (w' := w9) rfl rfl rfl (x_move (v := (Value.int .i64 l114.2)) rfl e9) ?_
        refine wpR_val (v := (Value.int .i64 (IntKind.i64.wrap (l114.2 + 1)))) (w' := w9) rfl rfl rfl (x_add rfl rfl rfl) ?_
        refine wpR_val (v := (Value.int .i64 (IntKind.i64.wrap (l114.2 + 1)))) (w' := w9) rfl rfl rfl (x_assign (v := (Value.int .i64 (IntKind.i64.wrap (l114.2 + 1)))) rfl rfl) ?_
        refine wpR_nil ?_
        exact ⟨(l117, IntKind.i64.wrap (l114.2 + 1)), ⟨e8, rfl, e3, e4, e6, trivial⟩, h⟩
      · replace h := h.2 hc115
        refine wpC_exit ?_
        refine wpC_seq ?_
        refine wpC_cut (fun ρ => ρ 3 = (Value.bool r10) ∧ ρ 4 = (Sl.v r83.1) ∧ ρ 6 = (Sl.v r106.1) ∧ ρ 8 = (Value.int .i64 l114.1) ∧ True) ⟨e3, e4, e6, e8, trivial⟩ ?_
        rintro ρ ⟨e3, e4, e6, e8, -⟩
        refine wpC_region ?_
        refine wpR_val (v := (Value.bool r10)) (w' := w8) rfl rfl rfl (x_move (v := (Value.bool r10)) rfl e3) ?_
        refine wpR_val (v := (Value.bool r10)) (w' := w8) rfl rfl rfl (x_move (v := (Value.bool r10)) rfl rfl) ?_
        refine wpR_joinJ 5 (fun (_ : Unit) ρ => ρ 112 = Value.bool (r10 && (decide (l114.1 = (r106.1.len : Int)))) ∧ ρ 4 = (Sl.v r83.1) ∧ ρ 6 = (Sl.v r106.1) ∧ True) (fun _ w => w8 = w) ?_ ?_
        · clear h
          rcases Bool.eq_false_or_eq_true (r10) with hc141 | hc141
          · skip
            refine wpR_val (v := (Value.int .i64 l114.1)) (w' := w8) (wantG rfl rfl rfl hc141) rfl rfl (x_move (v := (Value.int .i64 l114.1)) rfl e8) ?_
            refine wpR_val (v := (Sl.v r106.1)) (w' := w8) (wantG rfl rfl rfl hc141) rfl rfl (x_move (v := (Sl.v r106.1)) rfl e6) ?_
            refine wpR_val (v := (Value.int .i64 (r106.1.len : Int))) (w' := w8) (wantG rfl rfl rfl hc141) rfl rfl (x_lenS (s := r106.1) rfl rfl isSliceT_26) ?_
            refine wpR_val (v := (Value.bool (decide (l114.1 = (r106.1.len : Int))))) (w' := w8) (wantG rfl rfl rfl hc141) rfl rfl (x_eql rfl rfl rfl) ?_
            refine wpR_val (v := (Value.bool (decide (l114.1 = (r106.1.len : Int))))) (w' := w8) rfl rfl rfl (x_pickT (v := (Value.bool (decide (l114.1 = (r106.1.len : Int))))) rfl rfl hc141 rfl) ?_
            refine wpR_nil ?_
            exact ⟨(), ⟨(by rw [hc141]; rfl), e4, e6, trivial⟩, rfl⟩
          · skip
            refine wpR_pass (wantN rfl rfl rfl hc141) rfl rfl ?_
            refine wpR_pass (wantN rfl rfl rfl hc141) rfl rfl ?_
            refine wpR_pass (wantN rfl rfl rfl hc141) rfl rfl ?_
            refine wpR_pass (wantN rfl rfl rfl hc141) rfl rfl ?_
            refine wpR_val (v := (Value.bool false)) (w' := w8) rfl rfl rfl (x_pickF (v := (Value.bool false)) rfl rfl hc141 rfl) ?_
            refine wpR_nil ?_
            exact ⟨(), ⟨(by rw [hc141]; rfl), e4, e6, trivial⟩, rfl⟩
        rintro _ ρ wj ⟨e112, e4, e6, -⟩ rfl
        refine wpR_val (v := (Value.bool (r10 && (decide (l114.1 = (r106.1.len : Int)))))) (w' := w8) rfl rfl rfl (x_move (v := (Value.bool (r10 && (decide (l114.1 = (r106.1.len : Int)))))) rfl e112) ?_
        obtain ⟨J142, h, hk⟩ := h
        refine wpR_joinJ 6 (fun x ρ => ρ 119 = Value.bool x ∧ ρ 4 = (Sl.v r83.1) ∧ True) (fun x w => J142 x ∧ w8 = w) ?_ ?_
        · clear hk
          rcases Bool.eq_false_or_eq_true (r10 && (decide (l114.1 = (r106.1.len : Int)))) with hc143 | hc143
          · replace h := h.1 hc143
            refine wpR_val (v := (Sl.v r106.1)) (w' := w8) (wantG rfl rfl rfl hc143) rfl rfl (x_move (v := (Sl.v r106.1)) rfl e6) ?_
            obtain ⟨q144, z144, r144, h⟩ := h
            generalize hp144 : z144.add ((0 : Int).toNat * 3) = p144 at h
            refine wpR_val (v := (Value.pointer (some p144))) (w' := w8) (wantG rfl rfl rfl hc143) rfl rfl ((x_indexAddr (s := r106.1) rfl rfl rfl ES_26 q144 r144).trans (by rw [hp144])) ?_
            refine wpR_val (v := (Value.pointer (some (p144.add 0)))) (w' := w8) (wantG rfl rfl rfl hc143) rfl rfl (x_fieldAddr rfl rfl FA_44_0) ?_
            obtain ⟨x145, q145, h⟩ := h
            refine wpR_val (v := (Value.int .i64 x145)) (w' := w8) (wantG rfl rfl rfl hc143) rfl rfl (x_load1 rfl rfl SH_3 q145) ?_
            refine wpR_val (v := (Value.bool (decide (x145 = 1)))) (w' := w8) (wantG rfl rfl rfl hc143) rfl rfl (x_eql rfl rfl rfl) ?_
            refine wpR_val (v := (Value.bool (decide (x145 = 1)))) (w' := w8) rfl rfl rfl (x_pickT (v := (Value.bool (decide (x145 = 1)))) rfl rfl hc143 rfl) ?_
            refine wpR_nil ?_
            exact ⟨decide (x145 = 1), ⟨rfl, e4, trivial⟩, h, rfl⟩
          · replace h := h.2 hc143
            refine wpR_pass (wantN rfl rfl rfl hc143) rfl rfl ?_
            refine wpR_pass (wantN rfl rfl rfl hc143) rfl rfl ?_
            refine wpR_pass (wantN rfl rfl rfl hc143) rfl rfl ?_
            refine wpR_pass (wantN rfl rfl rfl hc143) rfl rfl ?_
            refine wpR_pass (wantN rfl rfl rfl hc143) rfl rfl ?_
            refine wpR_val (v := (Value.bool false)) (w' := w8) rfl rfl rfl (x_pickF (v := (Value.bool false)) rfl rfl hc143 rfl) ?_
            refine wpR_nil ?_
            exact ⟨false, ⟨rfl, e4, trivial⟩, h, rfl⟩
        clear h
        rintro c146 ρ wj ⟨e119, e4, -⟩ ⟨h, rfl⟩
        replace h := hk c146 h
        clear hk
        refine wpR_val (v := (Value.bool c146)) (w' := w8) rfl rfl rfl (x_move (v := (Value.bool c146)) rfl e119) ?_
        obtain ⟨J147, h, hk⟩ := h
        refine wpR_joinJ 6 (fun x ρ => ρ 126 = Value.bool x ∧ True) (fun x w => J147 x ∧ w8 = w) ?_ ?_
        · clear hk
          rcases Bool.eq_false_or_eq_true (c146) with hc148 | hc148
          · replace h := h.1 hc148
            refine wpR_val (v := (Sl.v r83.1)) (w' := w8) (wantG rfl rfl rfl hc148) rfl rfl (x_move (v := (Sl.v r83.1)) rfl e4) ?_
            obtain ⟨q149, z149, r149, h⟩ := h
            generalize hp149 : z149.add ((0 : Int).toNat * 2) = p149 at h
            refine wpR_val (v := (Value.pointer (some p149))) (w' := w8) (wantG rfl rfl rfl hc148) rfl rfl ((x_indexAddr (s := r83.1) rfl rfl rfl ES_25 q149 r149).trans (by rw [hp149])) ?_
            refine wpR_val (v := (Value.pointer (some (p149.add 0)))) (w' := w8) (wantG rfl rfl rfl hc148) rfl rfl (x_fieldAddr rfl rfl FA_46_0) ?_
            obtain ⟨x150, q150, h⟩ := h
            refine wpR_val (v := (Value.int .i64 x150)) (w' := w8) (wantG rfl rfl rfl hc148) rfl rfl (x_load1 rfl rfl SH_3 q150) ?_
            refine wpR_val (v := (Value.bool (decide (x150 = 0)))) (w' := w8) (wantG rfl rfl rfl hc148) rfl rfl (x_eql rfl rfl rfl) ?_
            refine wpR_val (v := (Value.bool (decide (x150 = 0)))) (w' := w8) rfl rfl rfl (x_pickT (v := (Value.bool (decide (x150 = 0)))) rfl rfl hc148 rfl) ?_
            refine wpR_nil ?_
            exact ⟨decide (x150 = 0), ⟨rfl, trivial⟩, h, rfl⟩
          · replace h := h.2 hc148
            refine wpR_pass (wantN rfl rfl rfl hc148) rfl rfl ?_
            refine wpR_pass (wantN rfl rfl rfl hc148) rfl rfl ?_
            refine wpR_pass (wantN rfl rfl rfl hc148) rfl rfl ?_
            refine wpR_pass (wantN rfl rfl rfl hc148) rfl rfl ?_
            refine wpR_pass (wantN rfl rfl rfl hc148) rfl rfl ?_
            refine wpR_val (v := (Value.bool false)) (w' := w8) rfl rfl rfl (x_pickF (v := (Value.bool false)) rfl rfl hc148 rfl) ?_
            refine wpR_nil ?_
            exact ⟨false, ⟨rfl, trivial⟩, h, rfl⟩
        clear h
        rintro c151 ρ wj ⟨e126, -⟩ ⟨h, rfl⟩
        replace h := hk c151 h
        clear hk
        refine wpR_val (v := (Value.bool c151)) (w' := w8) rfl rfl rfl (x_assign (v := (Value.bool c151)) rfl e126) ?_
        refine wpR_nil ?_
        refine wpC_ret ?_
        exact ⟨.inl rfl, fun a ha => ⟨_, results_rep1 rfl ha rfl, c151, rfl, h⟩⟩


end Go.Proofs.Ytnoahloppffndaa
