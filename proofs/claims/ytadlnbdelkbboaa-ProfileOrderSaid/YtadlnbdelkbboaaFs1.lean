import Derived.Test.YtadlnbdelkbboaaRows
import Derived.Test.YtadlnbdelkbboaaDecRaw
namespace Go.Proofs.Ytadlnbdelkbboaa
open Go.Dec
set_option maxHeartbeats 400000
set_option maxRecDepth 100000

@[reducible] def T23 : Type := ByteArray × Int × Int × Int × Bool × Int × Bool × Bool × Int × Int × Int × Int × Sl × Int × Int × Int × Int × Bool × Int × Int × Int × Int
@[reducible] def V23 (x0 : ByteArray) (x1 : Int) (x2 : Int) (x3 : Int) (x4 : Bool) (x5 : Int) (x6 : Bool) (x7 : Bool) (x8 : Int) (x9 : Int) (x10 : Int) (x11 : Int) (x12 : Sl) (x13 : Int) (x14 : Int) (x15 : Int) (x16 : Int) (x17 : Bool) (x18 : Int) (x19 : Int) (x20 : Int) (x21 : Int) : Value := .agg #[.string x0, .int .i64 x1, .int .i64 x2, .int .i64 x3, .bool x4, .int .i64 x5, .bool x6, .bool x7, .int .i64 x8, .int .i64 x9, .int .i64 x10, .int .i64 x11, Sl.v x12, .int .i64 x13, .int .i64 x14, .int .i64 x15, .int .i64 x16, .bool x17, .int .i64 x18, .int .i64 x19, .int .i64 x20, .int .i64 x21]
@[reducible] def A23 (x0 : ByteArray) (x1 : Int) (x2 : Int) (x3 : Int) (x4 : Bool) (x5 : Int) (x6 : Bool) (x7 : Bool) (x8 : Int) (x9 : Int) (x10 : Int) (x11 : Int) (x12 : Sl) (x13 : Int) (x14 : Int) (x15 : Int) (x16 : Int) (x17 : Bool) (x18 : Int) (x19 : Int) (x20 : Int) (x21 : Int) : Array Value := #[.string x0, .int .i64 x1, .int .i64 x2, .int .i64 x3, .bool x4, .int .i64 x5, .bool x6, .bool x7, .int .i64 x8, .int .i64 x9, .int .i64 x10, .int .i64 x11, Sl.v x12, .int .i64 x13, .int .i64 x14, .int .i64 x15, .int .i64 x16, .bool x17, .int .i64 x18, .int .i64 x19, .int .i64 x20, .int .i64 x21]
@[reducible] def S23 (x0 : ByteArray) (x1 : Int) (x2 : Int) (x3 : Int) (x4 : Bool) (x5 : Int) (x6 : Bool) (x7 : Bool) (x8 : Int) (x9 : Int) (x10 : Int) (x11 : Int) (x12 : Sl) (x13 : Int) (x14 : Int) (x15 : Int) (x16 : Int) (x17 : Bool) (x18 : Int) (x19 : Int) (x20 : Int) (x21 : Int) : List Value := [.string x0, .int .i64 x1, .int .i64 x2, .int .i64 x3, .bool x4, .int .i64 x5, .bool x6, .bool x7, .int .i64 x8, .int .i64 x9, .int .i64 x10, .int .i64 x11, Sl.v x12, .int .i64 x13, .int .i64 x14, .int .i64 x15, .int .i64 x16, .bool x17, .int .i64 x18, .int .i64 x19, .int .i64 x20, .int .i64 x21]
@[reducible] def E23 (r : T23) : Value := V23 r.1 r.2.1 r.2.2.1 r.2.2.2.1 r.2.2.2.2.1 r.2.2.2.2.2.1 r.2.2.2.2.2.2.1 r.2.2.2.2.2.2.2.1 r.2.2.2.2.2.2.2.2.1 r.2.2.2.2.2.2.2.2.2.1 r.2.2.2.2.2.2.2.2.2.2.1 r.2.2.2.2.2.2.2.2.2.2.2.1 r.2.2.2.2.2.2.2.2.2.2.2.2.1 r.2.2.2.2.2.2.2.2.2.2.2.2.2.1 r.2.2.2.2.2.2.2.2.2.2.2.2.2.2.1 r.2.2.2.2.2.2.2.2.2.2.2.2.2.2.2.1 r.2.2.2.2.2.2.2.2.2.2.2.2.2.2.2.2.1 r.2.2.2.2.2.2.2.2.2.2.2.2.2.2.2.2.2.1 r.2.2.2.2.2.2.2.2.2.2.2.2.2.2.2.2.2.2.1 r.2.2.2.2.2.2.2.2.2.2.2.2.2.2.2.2.2.2.2.1 r.2.2.2.2.2.2.2.2.2.2.2.2.2.2.2.2.2.2.2.2.1 r.2.2.2.2.2.2.2.2.2.2.2.2.2.2.2.2.2.2.2.2.2
@[reducible] def C23 (p : Addr) (x0 : ByteArray) (x1 : Int) (x2 : Int) (x3 : Int) (x4 : Bool) (x5 : Int) (x6 : Bool) (x7 : Bool) (x8 : Int) (x9 : Int) (x10 : Int) (x11 : Int) (x12 : Sl) (x13 : Int) (x14 : Int) (x15 : Int) (x16 : Int) (x17 : Bool) (x18 : Int) (x19 : Int) (x20 : Int) (x21 : Int) (w : World) : Prop := w.cell? (p.add 0) = some (.string x0) ∧ w.cell? (p.add 1) = some (.int .i64 x1) ∧ w.cell? (p.add 2) = some (.int .i64 x2) ∧ w.cell? (p.add 3) = some (.int .i64 x3) ∧ w.cell? (p.add 4) = some (.bool x4) ∧ w.cell? (p.add 5) = some (.int .i64 x5) ∧ w.cell? (p.add 6) = some (.bool x6) ∧ w.cell? (p.add 7) = some (.bool x7) ∧ w.cell? (p.add 8) = some (.int .i64 x8) ∧ w.cell? (p.add 9) = some (.int .i64 x9) ∧ w.cell? (p.add 10) = some (.int .i64 x10) ∧ w.cell? (p.add 11) = some (.int .i64 x11) ∧ w.cell? (p.add 12) = some (Sl.v x12) ∧ w.cell? (p.add 13) = some (.int .i64 x13) ∧ w.cell? (p.add 14) = some (.int .i64 x14) ∧ w.cell? (p.add 15) = some (.int .i64 x15) ∧ w.cell? (p.add 16) = some (.int .i64 x16) ∧ w.cell? (p.add 17) = some (.bool x17) ∧ w.cell? (p.add 18) = some (.int .i64 x18) ∧ w.cell? (p.add 19) = some (.int .i64 x19) ∧ w.cell? (p.add 20) = some (.int .i64 x20) ∧ w.cell? (p.add 21) = some (.int .i64 x21)
@[reducible] def L23 (p : Addr) (w : World) (K : ByteArray → Int → Int → Int → Bool → Int → Bool → Bool → Int → Int → Int → Int → Sl → Int → Int → Int → Int → Bool → Int → Int → Int → Int → Prop) : Prop := ld Value.string (p.add 0) w fun x0 => ld (Value.int .i64) (p.add 1) w fun x1 => ld (Value.int .i64) (p.add 2) w fun x2 => ld (Value.int .i64) (p.add 3) w fun x3 => ld Value.bool (p.add 4) w fun x4 => ld (Value.int .i64) (p.add 5) w fun x5 => ld Value.bool (p.add 6) w fun x6 => ld Value.bool (p.add 7) w fun x7 => ld (Value.int .i64) (p.add 8) w fun x8 => ld (Value.int .i64) (p.add 9) w fun x9 => ld (Value.int .i64) (p.add 10) w fun x10 => ld (Value.int .i64) (p.add 11) w fun x11 => ld Sl.v (p.add 12) w fun x12 => ld (Value.int .i64) (p.add 13) w fun x13 => ld (Value.int .i64) (p.add 14) w fun x14 => ld (Value.int .i64) (p.add 15) w fun x15 => ld (Value.int .i64) (p.add 16) w fun x16 => ld Value.bool (p.add 17) w fun x17 => ld (Value.int .i64) (p.add 18) w fun x18 => ld (Value.int .i64) (p.add 19) w fun x19 => ld (Value.int .i64) (p.add 20) w fun x20 => ld (Value.int .i64) (p.add 21) w fun x21 => K x0 x1 x2 x3 x4 x5 x6 x7 x8 x9 x10 x11 x12 x13 x14 x15 x16 x17 x18 x19 x20 x21
theorem K23 {w : World} {p : Addr} {x0 : ByteArray} {x1 : Int} {x2 : Int} {x3 : Int} {x4 : Bool} {x5 : Int} {x6 : Bool} {x7 : Bool} {x8 : Int} {x9 : Int} {x10 : Int} {x11 : Int} {x12 : Sl} {x13 : Int} {x14 : Int} {x15 : Int} {x16 : Int} {x17 : Bool} {x18 : Int} {x19 : Int} {x20 : Int} {x21 : Int} (h : C23 p x0 x1 x2 x3 x4 x5 x6 x7 x8 x9 x10 x11 x12 x13 x14 x15 x16 x17 x18 x19 x20 x21 w) : ∀ (j : Nat) (u : Value), (S23 x0 x1 x2 x3 x4 x5 x6 x7 x8 x9 x10 x11 x12 x13 x14 x15 x16 x17 x18 x19 x20 x21)[j]? = some u → w.cell? (p.add j) = some u := by
  obtain ⟨q0, q1, q2, q3, q4, q5, q6, q7, q8, q9, q10, q11, q12, q13, q14, q15, q16, q17, q18, q19, q20, q21⟩ := h
  exact CellsAt.out (CellsAt.cons q0 (CellsAt.cons q1 (CellsAt.cons q2 (CellsAt.cons q3 (CellsAt.cons q4 (CellsAt.cons q5 (CellsAt.cons q6 (CellsAt.cons q7 (CellsAt.cons q8 (CellsAt.cons q9 (CellsAt.cons q10 (CellsAt.cons q11 (CellsAt.cons q12 (CellsAt.cons q13 (CellsAt.cons q14 (CellsAt.cons q15 (CellsAt.cons q16 (CellsAt.cons q17 (CellsAt.cons q18 (CellsAt.cons q19 (CellsAt.cons q20 (CellsAt.cons q21 CellsAt.nil))))))))))))))))))))))

theorem BD_24_0_1_2_3_5_8_9_10_11_12_18_20 (y0 : ByteArray) (y1 : Int) (y2 : Int) (y3 : Int) (y5 : Int) (y8 : Int) (y9 : Int) (y10 : Int) (y11 : Int) (y12 : Sl) (y18 : Int) (y20 : Int) : ∀ w, (Instr.build 24 #[(0, (Value.string y0)), (1, (Value.int .i64 y1)), (2, (Value.int .i64 y2)), (3, (Value.int .i64 y3)), (5, (Value.int .i64 y5)), (8, (Value.int .i64 y8)), (9, (Value.int .i64 y9)), (10, (Value.int .i64 y10)), (11, (Value.int .i64 y11)), (12, (Sl.v y12)), (18, (Value.int .i64 y18)), (20, (Value.int .i64 y20))]).run Try.prog w = .ok (V23 y0 y1 y2 y3 false y5 false false y8 y9 y10 y11 y12 0 0 0 0 false y18 0 y20 0) w := fun w => by kernel_rfl
theorem BD_24_0_1_2_3_8_9_10_11_12_18_20 (y0 : ByteArray) (y1 : Int) (y2 : Int) (y3 : Int) (y8 : Int) (y9 : Int) (y10 : Int) (y11 : Int) (y12 : Sl) (y18 : Int) (y20 : Int) : ∀ w, (Instr.build 24 #[(0, (Value.string y0)), (1, (Value.int .i64 y1)), (2, (Value.int .i64 y2)), (3, (Value.int .i64 y3)), (8, (Value.int .i64 y8)), (9, (Value.int .i64 y9)), (10, (Value.int .i64 y10)), (11, (Value.int .i64 y11)), (12, (Sl.v y12)), (18, (Value.int .i64 y18)), (20, (Value.int .i64 y20))]).run Try.prog w = .ok (V23 y0 y1 y2 y3 false 0 false false y8 y9 y10 y11 y12 0 0 0 0 false y18 0 y20 0) w := fun w => by kernel_rfl
theorem BD_24_0_1_3_5_8_9_10_11_12_18_20 (y0 : ByteArray) (y1 : Int) (y3 : Int) (y5 : Int) (y8 : Int) (y9 : Int) (y10 : Int) (y11 : Int) (y12 : Sl) (y18 : Int) (y20 : Int) : ∀ w, (Instr.build 24 #[(0, (Value.string y0)), (1, (Value.int .i64 y1)), (3, (Value.int .i64 y3)), (5, (Value.int .i64 y5)), (8, (Value.int .i64 y8)), (9, (Value.int .i64 y9)), (10, (Value.int .i64 y10)), (11, (Value.int .i64 y11)), (12, (Sl.v y12)), (18, (Value.int .i64 y18)), (20, (Value.int .i64 y20))]).run Try.prog w = .ok (V23 y0 y1 0 y3 false y5 false false y8 y9 y10 y11 y12 0 0 0 0 false y18 0 y20 0) w := fun w => by kernel_rfl
theorem BD_24_0_1_3_8_9_10_11_12_18_20 (y0 : ByteArray) (y1 : Int) (y3 : Int) (y8 : Int) (y9 : Int) (y10 : Int) (y11 : Int) (y12 : Sl) (y18 : Int) (y20 : Int) : ∀ w, (Instr.build 24 #[(0, (Value.string y0)), (1, (Value.int .i64 y1)), (3, (Value.int .i64 y3)), (8, (Value.int .i64 y8)), (9, (Value.int .i64 y9)), (10, (Value.int .i64 y10)), (11, (Value.int .i64 y11)), (12, (Sl.v y12)), (18, (Value.int .i64 y18)), (20, (Value.int .i64 y20))]).run Try.prog w = .ok (V23 y0 y1 0 y3 false 0 false false y8 y9 y10 y11 y12 0 0 0 0 false y18 0 y20 0) w := fun w => by kernel_rfl
theorem BD_43_0_1 (y0 : Int) (y1 : Int) : ∀ w, (Instr.build 43 #[(0, (Value.int .i64 y0)), (1, (Value.int .i64 y1))]).run Try.prog w = .ok (Value.agg #[(Value.int .i64 y0), (Value.int .i64 y1)]) w := fun w => by kernel_rfl
theorem BS_22_0_ : ∀ w, (Instr.buildSlice 22 0 #[]).run Try.prog w = .ok (.slice (some ⟨w.heap.size, 0, none⟩) 0 0) (w.alloc (.cells #[] 9)) := fun w => by kernel_rfl
theorem BS_22_1_0 (y0 : ByteArray) : ∀ w, (Instr.buildSlice 22 1 #[(0, (Value.string y0))]).run Try.prog w = .ok (.slice (some ⟨w.heap.size, 0, none⟩) 1 1) (w.alloc (.cells #[(Value.string y0)] 9)) := fun w => by kernel_rfl
theorem BS_22_2_0_1 (y0 : ByteArray) (y1 : ByteArray) : ∀ w, (Instr.buildSlice 22 2 #[(0, (Value.string y0)), (1, (Value.string y1))]).run Try.prog w = .ok (.slice (some ⟨w.heap.size, 0, none⟩) 2 2) (w.alloc (.cells #[(Value.string y0), (Value.string y1)] 9)) := fun w => by kernel_rfl
theorem BS_22_3_0_1_2 (y0 : ByteArray) (y1 : ByteArray) (y2 : ByteArray) : ∀ w, (Instr.buildSlice 22 3 #[(0, (Value.string y0)), (1, (Value.string y1)), (2, (Value.string y2))]).run Try.prog w = .ok (.slice (some ⟨w.heap.size, 0, none⟩) 3 3) (w.alloc (.cells #[(Value.string y0), (Value.string y1), (Value.string y2)] 9)) := fun w => by kernel_rfl
theorem BS_31_2_0_1 (y0 : ByteArray) (y1 : Int) (y2 : Int) (y3 : Int) (y4 : Bool) (y5 : Int) (y6 : Bool) (y7 : Bool) (y8 : Int) (y9 : Int) (y10 : Int) (y11 : Int) (y12 : Sl) (y13 : Int) (y14 : Int) (y15 : Int) (y16 : Int) (y17 : Bool) (y18 : Int) (y19 : Int) (y20 : Int) (y21 : Int) (y22 : ByteArray) (y23 : Int) (y24 : Int) (y25 : Int) (y26 : Bool) (y27 : Int) (y28 : Bool) (y29 : Bool) (y30 : Int) (y31 : Int) (y32 : Int) (y33 : Int) (y34 : Sl) (y35 : Int) (y36 : Int) (y37 : Int) (y38 : Int) (y39 : Bool) (y40 : Int) (y41 : Int) (y42 : Int) (y43 : Int) : ∀ w, (Instr.buildSlice 31 2 #[(0, (V23 y0 y1 y2 y3 y4 y5 y6 y7 y8 y9 y10 y11 y12 y13 y14 y15 y16 y17 y18 y19 y20 y21)), (1, (V23 y22 y23 y24 y25 y26 y27 y28 y29 y30 y31 y32 y33 y34 y35 y36 y37 y38 y39 y40 y41 y42 y43))]).run Try.prog w = .ok (.slice (some ⟨w.heap.size, 0, none⟩) 2 2) (w.alloc (.cells #[(Value.string y0), (Value.int .i64 y1), (Value.int .i64 y2), (Value.int .i64 y3), (Value.bool y4), (Value.int .i64 y5), (Value.bool y6), (Value.bool y7), (Value.int .i64 y8), (Value.int .i64 y9), (Value.int .i64 y10), (Value.int .i64 y11), (Sl.v y12), (Value.int .i64 y13), (Value.int .i64 y14), (Value.int .i64 y15), (Value.int .i64 y16), (Value.bool y17), (Value.int .i64 y18), (Value.int .i64 y19), (Value.int .i64 y20), (Value.int .i64 y21), (Value.string y22), (Value.int .i64 y23), (Value.int .i64 y24), (Value.int .i64 y25), (Value.bool y26), (Value.int .i64 y27), (Value.bool y28), (Value.bool y29), (Value.int .i64 y30), (Value.int .i64 y31), (Value.int .i64 y32), (Value.int .i64 y33), (Sl.v y34), (Value.int .i64 y35), (Value.int .i64 y36), (Value.int .i64 y37), (Value.int .i64 y38), (Value.bool y39), (Value.int .i64 y40), (Value.int .i64 y41), (Value.int .i64 y42), (Value.int .i64 y43)] 24)) := fun w => by kernel_rfl
theorem BS_38_11_0_1_2_3_4_5_6_7_8_9_10 (y0 : Int) (y1 : Int) (y2 : Int) (y3 : Int) (y4 : Int) (y5 : Int) (y6 : Int) (y7 : Int) (y8 : Int) (y9 : Int) (y10 : Int) : ∀ w, (Instr.buildSlice 38 11 #[(0, (Value.int .i64 y0)), (1, (Value.int .i64 y1)), (2, (Value.int .i64 y2)), (3, (Value.int .i64 y3)), (4, (Value.int .i64 y4)), (5, (Value.int .i64 y5)), (6, (Value.int .i64 y6)), (7, (Value.int .i64 y7)), (8, (Value.int .i64 y8)), (9, (Value.int .i64 y9)), (10, (Value.int .i64 y10))]).run Try.prog w = .ok (.slice (some ⟨w.heap.size, 0, none⟩) 11 11) (w.alloc (.cells #[(Value.int .i64 y0), (Value.int .i64 y1), (Value.int .i64 y2), (Value.int .i64 y3), (Value.int .i64 y4), (Value.int .i64 y5), (Value.int .i64 y6), (Value.int .i64 y7), (Value.int .i64 y8), (Value.int .i64 y9), (Value.int .i64 y10)] 3)) := fun w => by kernel_rfl
theorem BS_38_9_0_1_2_3_4_5_6_7_8 (y0 : Int) (y1 : Int) (y2 : Int) (y3 : Int) (y4 : Int) (y5 : Int) (y6 : Int) (y7 : Int) (y8 : Int) : ∀ w, (Instr.buildSlice 38 9 #[(0, (Value.int .i64 y0)), (1, (Value.int .i64 y1)), (2, (Value.int .i64 y2)), (3, (Value.int .i64 y3)), (4, (Value.int .i64 y4)), (5, (Value.int .i64 y5)), (6, (Value.int .i64 y6)), (7, (Value.int .i64 y7)), (8, (Value.int .i64 y8))]).run Try.prog w = .ok (.slice (some ⟨w.heap.size, 0, none⟩) 9 9) (w.alloc (.cells #[(Value.int .i64 y0), (Value.int .i64 y1), (Value.int .i64 y2), (Value.int .i64 y3), (Value.int .i64 y4), (Value.int .i64 y5), (Value.int .i64 y6), (Value.int .i64 y7), (Value.int .i64 y8)] 3)) := fun w => by kernel_rfl
theorem BS_44_6_0_1_2_3_4_5 (y0 : Int) (y1 : Int) (y2 : Int) (y3 : Int) (y4 : Int) (y5 : Int) (y6 : Int) (y7 : Int) (y8 : Int) (y9 : Int) (y10 : Int) (y11 : Int) : ∀ w, (Instr.buildSlice 44 6 #[(0, (Value.agg #[(Value.int .i64 y0), (Value.int .i64 y1)])), (1, (Value.agg #[(Value.int .i64 y2), (Value.int .i64 y3)])), (2, (Value.agg #[(Value.int .i64 y4), (Value.int .i64 y5)])), (3, (Value.agg #[(Value.int .i64 y6), (Value.int .i64 y7)])), (4, (Value.agg #[(Value.int .i64 y8), (Value.int .i64 y9)])), (5, (Value.agg #[(Value.int .i64 y10), (Value.int .i64 y11)]))]).run Try.prog w = .ok (.slice (some ⟨w.heap.size, 0, none⟩) 6 6) (w.alloc (.cells #[(Value.int .i64 y0), (Value.int .i64 y1), (Value.int .i64 y2), (Value.int .i64 y3), (Value.int .i64 y4), (Value.int .i64 y5), (Value.int .i64 y6), (Value.int .i64 y7), (Value.int .i64 y8), (Value.int .i64 y9), (Value.int .i64 y10), (Value.int .i64 y11)] 43)) := fun w => by kernel_rfl
theorem ES_22 : elemSize Try.prog 22 = some 1 := by kernel_rfl
theorem ES_31 : elemSize Try.prog 31 = some 22 := by kernel_rfl
theorem ES_38 : elemSize Try.prog 38 = some 1 := by kernel_rfl
theorem ES_44 : elemSize Try.prog 44 = some 2 := by kernel_rfl
theorem FA_24_0 : fieldOff Try.prog 24 0 = some 0 := by kernel_rfl
theorem FA_24_1 : fieldOff Try.prog 24 1 = some 1 := by kernel_rfl
theorem FA_24_10 : fieldOff Try.prog 24 10 = some 10 := by kernel_rfl
theorem FA_24_11 : fieldOff Try.prog 24 11 = some 11 := by kernel_rfl
theorem FA_24_12 : fieldOff Try.prog 24 12 = some 12 := by kernel_rfl
theorem FA_24_13 : fieldOff Try.prog 24 13 = some 13 := by kernel_rfl
theorem FA_24_14 : fieldOff Try.prog 24 14 = some 14 := by kernel_rfl
theorem FA_24_15 : fieldOff Try.prog 24 15 = some 15 := by kernel_rfl
theorem FA_24_16 : fieldOff Try.prog 24 16 = some 16 := by kernel_rfl
theorem FA_24_17 : fieldOff Try.prog 24 17 = some 17 := by kernel_rfl
theorem FA_24_18 : fieldOff Try.prog 24 18 = some 18 := by kernel_rfl
theorem FA_24_19 : fieldOff Try.prog 24 19 = some 19 := by kernel_rfl
theorem FA_24_2 : fieldOff Try.prog 24 2 = some 2 := by kernel_rfl
theorem FA_24_20 : fieldOff Try.prog 24 20 = some 20 := by kernel_rfl
theorem FA_24_21 : fieldOff Try.prog 24 21 = some 21 := by kernel_rfl
theorem FA_24_3 : fieldOff Try.prog 24 3 = some 3 := by kernel_rfl
theorem FA_24_4 : fieldOff Try.prog 24 4 = some 4 := by kernel_rfl
theorem FA_24_5 : fieldOff Try.prog 24 5 = some 5 := by kernel_rfl
theorem FA_24_6 : fieldOff Try.prog 24 6 = some 6 := by kernel_rfl
theorem FA_24_7 : fieldOff Try.prog 24 7 = some 7 := by kernel_rfl
theorem FA_24_8 : fieldOff Try.prog 24 8 = some 8 := by kernel_rfl
theorem FA_24_9 : fieldOff Try.prog 24 9 = some 9 := by kernel_rfl
theorem NB_10 : Try.f10.body.isNone = false := by kernel_rfl
theorem NN_10 : (Try.f10.name == "runtime.NumGoroutine") = false := by kernel_rfl
theorem NB_12 : Try.f12.body.isNone = false := by kernel_rfl
theorem NN_12 : (Try.f12.name == "runtime.NumGoroutine") = false := by kernel_rfl
theorem NB_14 : Try.f14.body.isNone = false := by kernel_rfl
theorem NN_14 : (Try.f14.name == "runtime.NumGoroutine") = false := by kernel_rfl
theorem NB_15 : Try.f15.body.isNone = false := by kernel_rfl
theorem NN_15 : (Try.f15.name == "runtime.NumGoroutine") = false := by kernel_rfl
theorem NB_17 : Try.f17.body.isNone = false := by kernel_rfl
theorem NN_17 : (Try.f17.name == "runtime.NumGoroutine") = false := by kernel_rfl
theorem NB_19 : Try.f19.body.isNone = false := by kernel_rfl
theorem NN_19 : (Try.f19.name == "runtime.NumGoroutine") = false := by kernel_rfl
theorem NB_20 : Try.f20.body.isNone = false := by kernel_rfl
theorem NN_20 : (Try.f20.name == "runtime.NumGoroutine") = false := by kernel_rfl
theorem NB_21 : Try.f21.body.isNone = false := by kernel_rfl
theorem NN_21 : (Try.f21.name == "runtime.NumGoroutine") = false := by kernel_rfl
theorem NB_22 : Try.f22.body.isNone = false := by kernel_rfl
theorem NN_22 : (Try.f22.name == "runtime.NumGoroutine") = false := by kernel_rfl
theorem NB_23 : Try.f23.body.isNone = false := by kernel_rfl
theorem NN_23 : (Try.f23.name == "runtime.NumGoroutine") = false := by kernel_rfl
theorem NB_24 : Try.f24.body.isNone = false := by kernel_rfl
theorem NN_24 : (Try.f24.name == "runtime.NumGoroutine") = false := by kernel_rfl
theorem NB_25 : Try.f25.body.isNone = false := by kernel_rfl
theorem NN_25 : (Try.f25.name == "runtime.NumGoroutine") = false := by kernel_rfl
theorem NB_26 : Try.f26.body.isNone = false := by kernel_rfl
theorem NN_26 : (Try.f26.name == "runtime.NumGoroutine") = false := by kernel_rfl
theorem NB_27 : Try.f27.body.isNone = false := by kernel_rfl
theorem NN_27 : (Try.f27.name == "runtime.NumGoroutine") = false := by kernel_rfl
theorem NB_29 : Try.f29.body.isNone = false := by kernel_rfl
theorem NN_29 : (Try.f29.name == "runtime.NumGoroutine") = false := by kernel_rfl
theorem NB_30 : Try.f30.body.isNone = false := by kernel_rfl
theorem NN_30 : (Try.f30.name == "runtime.NumGoroutine") = false := by kernel_rfl
theorem NB_31 : Try.f31.body.isNone = false := by kernel_rfl
theorem NN_31 : (Try.f31.name == "runtime.NumGoroutine") = false := by kernel_rfl
theorem NB_32 : Try.f32.body.isNone = false := by kernel_rfl
theorem NN_32 : (Try.f32.name == "runtime.NumGoroutine") = false := by kernel_rfl
theorem NB_34 : Try.f34.body.isNone = false := by kernel_rfl
theorem NN_34 : (Try.f34.name == "runtime.NumGoroutine") = false := by kernel_rfl
theorem NB_35 : Try.f35.body.isNone = false := by kernel_rfl
theorem NN_35 : (Try.f35.name == "runtime.NumGoroutine") = false := by kernel_rfl
theorem NB_36 : Try.f36.body.isNone = false := by kernel_rfl
theorem NN_36 : (Try.f36.name == "runtime.NumGoroutine") = false := by kernel_rfl
theorem NB_37 : Try.f37.body.isNone = false := by kernel_rfl
theorem NN_37 : (Try.f37.name == "runtime.NumGoroutine") = false := by kernel_rfl
theorem NB_38 : Try.f38.body.isNone = false := by kernel_rfl
theorem NN_38 : (Try.f38.name == "runtime.NumGoroutine") = false := by kernel_rfl
theorem NB_41 : Try.f41.body.isNone = false := by kernel_rfl
theorem NN_41 : (Try.f41.name == "runtime.NumGoroutine") = false := by kernel_rfl
theorem NB_42 : Try.f42.body.isNone = false := by kernel_rfl
theorem NN_42 : (Try.f42.name == "runtime.NumGoroutine") = false := by kernel_rfl
theorem NB_43 : Try.f43.body.isNone = false := by kernel_rfl
theorem NN_43 : (Try.f43.name == "runtime.NumGoroutine") = false := by kernel_rfl
theorem NB_44 : Try.f44.body.isNone = false := by kernel_rfl
theorem NN_44 : (Try.f44.name == "runtime.NumGoroutine") = false := by kernel_rfl
theorem NB_45 : Try.f45.body.isNone = false := by kernel_rfl
theorem NN_45 : (Try.f45.name == "runtime.NumGoroutine") = false := by kernel_rfl
theorem NB_46 : Try.f46.body.isNone = false := by kernel_rfl
theorem NN_46 : (Try.f46.name == "runtime.NumGoroutine") = false := by kernel_rfl
theorem NB_8 : Try.f8.body.isNone = false := by kernel_rfl
theorem NN_8 : (Try.f8.name == "runtime.NumGoroutine") = false := by kernel_rfl
theorem NB_9 : Try.f9.body.isNone = false := by kernel_rfl
theorem NN_9 : (Try.f9.name == "runtime.NumGoroutine") = false := by kernel_rfl
theorem SH_22 : shapeT Try.prog 22 = some 0 := by kernel_rfl
theorem SH_24 : shapeT Try.prog 24 = some 23 := by kernel_rfl
theorem SH_3 : shapeT Try.prog 3 = some 0 := by kernel_rfl
theorem SH_4 : shapeT Try.prog 4 = some 0 := by kernel_rfl
theorem SH_43 : shapeT Try.prog 43 = some 3 := by kernel_rfl
theorem SH_9 : shapeT Try.prog 9 = some 0 := by kernel_rfl
theorem SZ_22 : sizeT Try.prog 22 = some 1 := by kernel_rfl
theorem SZ_24 : sizeT Try.prog 24 = some 22 := by kernel_rfl
theorem SZ_3 : sizeT Try.prog 3 = some 1 := by kernel_rfl
theorem SZ_4 : sizeT Try.prog 4 = some 1 := by kernel_rfl
theorem SZ_43 : sizeT Try.prog 43 = some 2 := by kernel_rfl
theorem ZV_24 : (Try.prog.info? 24).bind (·.zero) = some (V23 (ByteArray.mk #[]) 0 0 0 false 0 false false 0 0 0 0 Sl.nil 0 0 0 0 false 0 0 0 0) := by kernel_rfl
theorem ZV_43 : (Try.prog.info? 43).bind (·.zero) = some (Value.agg #[(Value.int .i64 0), (Value.int .i64 0)]) := by kernel_rfl
theorem isBoolT_4 : isBoolT Try.prog 4 = true := by kernel_rfl
theorem isSliceT_22 : isSliceT Try.prog 22 = true := by kernel_rfl
theorem isSliceT_31 : isSliceT Try.prog 31 = true := by kernel_rfl
theorem isSliceT_38 : isSliceT Try.prog 38 = true := by kernel_rfl
theorem isSliceT_44 : isSliceT Try.prog 44 = true := by kernel_rfl
theorem isStrT_9 : isStrT Try.prog 9 = true := by kernel_rfl

/-- lingualaw13.ProfileBounds -/
def F4 (p0_0 : ByteArray) (p0_1 : Int) (p0_2 : Int) (p0_3 : Int) (p0_4 : Bool) (p0_5 : Int) (p0_6 : Bool) (p0_7 : Bool) (p0_8 : Int) (p0_9 : Int) (p0_10 : Int) (p0_11 : Int) (p0_12 : Sl) (p0_13 : Int) (p0_14 : Int) (p0_15 : Int) (p0_16 : Int) (p0_17 : Bool) (p0_18 : Int) (p0_19 : Int) (p0_20 : Int) (p0_21 : Int) (p1_0 : ByteArray) (p1_1 : Int) (p1_2 : Int) (p1_3 : Int) (p1_4 : Bool) (p1_5 : Int) (p1_6 : Bool) (p1_7 : Bool) (p1_8 : Int) (p1_9 : Int) (p1_10 : Int) (p1_11 : Int) (p1_12 : Sl) (p1_13 : Int) (p1_14 : Int) (p1_15 : Int) (p1_16 : Int) (p1_17 : Bool) (p1_18 : Int) (p1_19 : Int) (p1_20 : Int) (p1_21 : Int) (p2_0 : ByteArray) (p2_1 : Int) (p2_2 : Int) (p2_3 : Int) (p2_4 : Bool) (p2_5 : Int) (p2_6 : Bool) (p2_7 : Bool) (p2_8 : Int) (p2_9 : Int) (p2_10 : Int) (p2_11 : Int) (p2_12 : Sl) (p2_13 : Int) (p2_14 : Int) (p2_15 : Int) (p2_16 : Int) (p2_17 : Bool) (p2_18 : Int) (p2_19 : Int) (p2_20 : Int) (p2_21 : Int) (w0 : World) (K : Bool → World → Prop) : Prop :=
  nw 24 (A23 p0_0 p0_1 p0_2 p0_3 p0_4 p0_5 p0_6 p0_7 p0_8 p0_9 p0_10 p0_11 p0_12 p0_13 p0_14 p0_15 p0_16 p0_17 p0_18 p0_19 p0_20 p0_21) w0 fun b1 w1 =>
  nw 24 (A23 p1_0 p1_1 p1_2 p1_3 p1_4 p1_5 p1_6 p1_7 p1_8 p1_9 p1_10 p1_11 p1_12 p1_13 p1_14 p1_15 p1_16 p1_17 p1_18 p1_19 p1_20 p1_21) w1 fun b2 w2 =>
  nw 24 (A23 p2_0 p2_1 p2_2 p2_3 p2_4 p2_5 p2_6 p2_7 p2_8 p2_9 p2_10 p2_11 p2_12 p2_13 p2_14 p2_15 p2_16 p2_17 p2_18 p2_19 p2_20 p2_21) w2 fun b3 w3 =>
  callC Try.prog 8 #[] (fun (r : Bool) => (Value.bool r)) w3 fun r4 w4 =>
  L23 (Addr.mk b1 0 none) w4 fun x5 x6 x7 x8 x9 x10 x11 x12 x13 x14 x15 x16 x17 x18 x19 x20 x21 x22 x23 x24 x25 x26 =>
  L23 (Addr.mk b2 0 none) w4 fun x27 x28 x29 x30 x31 x32 x33 x34 x35 x36 x37 x38 x39 x40 x41 x42 x43 x44 x45 x46 x47 x48 =>
  L23 (Addr.mk b3 0 none) w4 fun x49 x50 x51 x52 x53 x54 x55 x56 x57 x58 x59 x60 x61 x62 x63 x64 x65 x66 x67 x68 x69 x70 =>
  callC Try.prog 9 #[(V23 x5 x6 x7 x8 x9 x10 x11 x12 x13 x14 x15 x16 x17 x18 x19 x20 x21 x22 x23 x24 x25 x26), (V23 x27 x28 x29 x30 x31 x32 x33 x34 x35 x36 x37 x38 x39 x40 x41 x42 x43 x44 x45 x46 x47 x48), (V23 x49 x50 x51 x52 x53 x54 x55 x56 x57 x58 x59 x60 x61 x62 x63 x64 x65 x66 x67 x68 x69 x70)] (fun (r : Bool) => (Value.bool r)) w4 fun r71 w5 =>
  jn (fun J72 => cnd (!r71)
    (
    J72 true w5
    )
    (
    L23 (Addr.mk b1 0 none) w5 fun x74 x75 x76 x77 x78 x79 x80 x81 x82 x83 x84 x85 x86 x87 x88 x89 x90 x91 x92 x93 x94 x95 =>
    L23 (Addr.mk b2 0 none) w5 fun x96 x97 x98 x99 x100 x101 x102 x103 x104 x105 x106 x107 x108 x109 x110 x111 x112 x113 x114 x115 x116 x117 =>
    L23 (Addr.mk b3 0 none) w5 fun x118 x119 x120 x121 x122 x123 x124 x125 x126 x127 x128 x129 x130 x131 x132 x133 x134 x135 x136 x137 x138 x139 =>
    callC Try.prog 19 #[(V23 x74 x75 x76 x77 x78 x79 x80 x81 x82 x83 x84 x85 x86 x87 x88 x89 x90 x91 x92 x93 x94 x95), (V23 x96 x97 x98 x99 x100 x101 x102 x103 x104 x105 x106 x107 x108 x109 x110 x111 x112 x113 x114 x115 x116 x117), (V23 x118 x119 x120 x121 x122 x123 x124 x125 x126 x127 x128 x129 x130 x131 x132 x133 x134 x135 x136 x137 x138 x139)] (fun (r : Bool) => (Value.bool r)) w5 fun r140 w6 =>
    J72 (!r140) w6
    ))
  fun c141 w7 =>
  cnd (c141)
    (
    K r4 w7
    )
    (
    L23 (Addr.mk b1 0 none) w7 fun x143 x144 x145 x146 x147 x148 x149 x150 x151 x152 x153 x154 x155 x156 x157 x158 x159 x160 x161 x162 x163 x164 =>
    L23 (Addr.mk b2 0 none) w7 fun x165 x166 x167 x168 x169 x170 x171 x172 x173 x174 x175 x176 x177 x178 x179 x180 x181 x182 x183 x184 x185 x186 =>
    callC Try.prog 15 #[(V23 x143 x144 x145 x146 x147 x148 x149 x150 x151 x152 x153 x154 x155 x156 x157 x158 x159 x160 x161 x162 x163 x164), (V23 x165 x166 x167 x168 x169 x170 x171 x172 x173 x174 x175 x176 x177 x178 x179 x180 x181 x182 x183 x184 x185 x186)] E23 w7 fun r187 w8 =>
    nw 24 (A23 (ByteArray.mk #[]) 0 0 0 false 0 false false 0 0 0 0 Sl.nil 0 0 0 0 false 0 0 0 0) w8 fun b188 w9 =>
    st (Addr.mk b188 0 none) (S23 r187.1 r187.2.1 r187.2.2.1 r187.2.2.2.1 r187.2.2.2.2.1 r187.2.2.2.2.2.1 r187.2.2.2.2.2.2.1 r187.2.2.2.2.2.2.2.1 r187.2.2.2.2.2.2.2.2.1 r187.2.2.2.2.2.2.2.2.2.1 r187.2.2.2.2.2.2.2.2.2.2.1 r187.2.2.2.2.2.2.2.2.2.2.2.1 r187.2.2.2.2.2.2.2.2.2.2.2.2.1 r187.2.2.2.2.2.2.2.2.2.2.2.2.2.1 r187.2.2.2.2.2.2.2.2.2.2.2.2.2.2.1 r187.2.2.2.2.2.2.2.2.2.2.2.2.2.2.2.1 r187.2.2.2.2.2.2.2.2.2.2.2.2.2.2.2.2.1 r187.2.2.2.2.2.2.2.2.2.2.2.2.2.2.2.2.2.1 r187.2.2.2.2.2.2.2.2.2.2.2.2.2.2.2.2.2.2.1 r187.2.2.2.2.2.2.2.2.2.2.2.2.2.2.2.2.2.2.2.1 r187.2.2.2.2.2.2.2.2.2.2.2.2.2.2.2.2.2.2.2.2.1 r187.2.2.2.2.2.2.2.2.2.2.2.2.2.2.2.2.2.2.2.2.2) w9 fun w10 =>
    L23 (Addr.mk b1 0 none) w10 fun x190 x191 x192 x193 x194 x195 x196 x197 x198 x199 x200 x201 x202 x203 x204 x205 x206 x207 x208 x209 x210 x211 =>
    L23 (Addr.mk b2 0 none) w10 fun x212 x213 x214 x215 x216 x217 x218 x219 x220 x221 x222 x223 x224 x225 x226 x227 x228 x229 x230 x231 x232 x233 =>
    callC Try.prog 17 #[(V23 x190 x191 x192 x193 x194 x195 x196 x197 x198 x199 x200 x201 x202 x203 x204 x205 x206 x207 x208 x209 x210 x211), (V23 x212 x213 x214 x215 x216 x217 x218 x219 x220 x221 x222 x223 x224 x225 x226 x227 x228 x229 x230 x231 x232 x233)] E23 w10 fun r234 w11 =>
    nw 24 (A23 (ByteArray.mk #[]) 0 0 0 false 0 false false 0 0 0 0 Sl.nil 0 0 0 0 false 0 0 0 0) w11 fun b235 w12 =>
    st (Addr.mk b235 0 none) (S23 r234.1 r234.2.1 r234.2.2.1 r234.2.2.2.1 r234.2.2.2.2.1 r234.2.2.2.2.2.1 r234.2.2.2.2.2.2.1 r234.2.2.2.2.2.2.2.1 r234.2.2.2.2.2.2.2.2.1 r234.2.2.2.2.2.2.2.2.2.1 r234.2.2.2.2.2.2.2.2.2.2.1 r234.2.2.2.2.2.2.2.2.2.2.2.1 r234.2.2.2.2.2.2.2.2.2.2.2.2.1 r234.2.2.2.2.2.2.2.2.2.2.2.2.2.1 r234.2.2.2.2.2.2.2.2.2.2.2.2.2.2.1 r234.2.2.2.2.2.2.2.2.2.2.2.2.2.2.2.1 r234.2.2.2.2.2.2.2.2.2.2.2.2.2.2.2.2.1 r234.2.2.2.2.2.2.2.2.2.2.2.2.2.2.2.2.2.1 r234.2.2.2.2.2.2.2.2.2.2.2.2.2.2.2.2.2.2.1 r234.2.2.2.2.2.2.2.2.2.2.2.2.2.2.2.2.2.2.2.1 r234.2.2.2.2.2.2.2.2.2.2.2.2.2.2.2.2.2.2.2.2.1 r234.2.2.2.2.2.2.2.2.2.2.2.2.2.2.2.2.2.2.2.2.2) w12 fun w13 =>
    L23 (Addr.mk b188 0 none) w13 fun x237 x238 x239 x240 x241 x242 x243 x244 x245 x246 x247 x248 x249 x250 x251 x252 x253 x254 x255 x256 x257 x258 =>
    L23 (Addr.mk b1 0 none) w13 fun x259 x260 x261 x262 x263 x264 x265 x266 x267 x268 x269 x270 x271 x272 x273 x274 x275 x276 x277 x278 x279 x280 =>
    callC Try.prog 12 #[(V23 x237 x238 x239 x240 x241 x242 x243 x244 x245 x246 x247 x248 x249 x250 x251 x252 x253 x254 x255 x256 x257 x258), (V23 x259 x260 x261 x262 x263 x264 x265 x266 x267 x268 x269 x270 x271 x272 x273 x274 x275 x276 x277 x278 x279 x280)] (fun (r : Bool) => (Value.bool r)) w13 fun r281 w14 =>
    jn (fun J282 => cnd (!r281)
      (
      J282 true w14
      )
      (
      L23 (Addr.mk b188 0 none) w14 fun x284 x285 x286 x287 x288 x289 x290 x291 x292 x293 x294 x295 x296 x297 x298 x299 x300 x301 x302 x303 x304 x305 =>
      L23 (Addr.mk b2 0 none) w14 fun x306 x307 x308 x309 x310 x311 x312 x313 x314 x315 x316 x317 x318 x319 x320 x321 x322 x323 x324 x325 x326 x327 =>
      callC Try.prog 12 #[(V23 x284 x285 x286 x287 x288 x289 x290 x291 x292 x293 x294 x295 x296 x297 x298 x299 x300 x301 x302 x303 x304 x305), (V23 x306 x307 x308 x309 x310 x311 x312 x313 x314 x315 x316 x317 x318 x319 x320 x321 x322 x323 x324 x325 x326 x327)] (fun (r : Bool) => (Value.bool r)) w14 fun r328 w15 =>
      J282 (!r328) w15
      ))
    fun c329 w16 =>
    jn (fun J330 => cnd (c329)
      (
      J330 true w16
      )
      (
      L23 (Addr.mk b1 0 none) w16 fun x332 x333 x334 x335 x336 x337 x338 x339 x340 x341 x342 x343 x344 x345 x346 x347 x348 x349 x350 x351 x352 x353 =>
      L23 (Addr.mk b235 0 none) w16 fun x354 x355 x356 x357 x358 x359 x360 x361 x362 x363 x364 x365 x366 x367 x368 x369 x370 x371 x372 x373 x374 x375 =>
      callC Try.prog 12 #[(V23 x332 x333 x334 x335 x336 x337 x338 x339 x340 x341 x342 x343 x344 x345 x346 x347 x348 x349 x350 x351 x352 x353), (V23 x354 x355 x356 x357 x358 x359 x360 x361 x362 x363 x364 x365 x366 x367 x368 x369 x370 x371 x372 x373 x374 x375)] (fun (r : Bool) => (Value.bool r)) w16 fun r376 w17 =>
      J330 (!r376) w17
      ))
    fun c377 w18 =>
    jn (fun J378 => cnd (c377)
      (
      J378 true w18
      )
      (
      L23 (Addr.mk b2 0 none) w18 fun x380 x381 x382 x383 x384 x385 x386 x387 x388 x389 x390 x391 x392 x393 x394 x395 x396 x397 x398 x399 x400 x401 =>
      L23 (Addr.mk b235 0 none) w18 fun x402 x403 x404 x405 x406 x407 x408 x409 x410 x411 x412 x413 x414 x415 x416 x417 x418 x419 x420 x421 x422 x423 =>
      callC Try.prog 12 #[(V23 x380 x381 x382 x383 x384 x385 x386 x387 x388 x389 x390 x391 x392 x393 x394 x395 x396 x397 x398 x399 x400 x401), (V23 x402 x403 x404 x405 x406 x407 x408 x409 x410 x411 x412 x413 x414 x415 x416 x417 x418 x419 x420 x421 x422 x423)] (fun (r : Bool) => (Value.bool r)) w18 fun r424 w19 =>
      J378 (!r424) w19
      ))
    fun c425 w20 =>
    cnd (c425)
      (
      K false w20
      )
      (
      L23 (Addr.mk b3 0 none) w20 fun x427 x428 x429 x430 x431 x432 x433 x434 x435 x436 x437 x438 x439 x440 x441 x442 x443 x444 x445 x446 x447 x448 =>
      L23 (Addr.mk b1 0 none) w20 fun x449 x450 x451 x452 x453 x454 x455 x456 x457 x458 x459 x460 x461 x462 x463 x464 x465 x466 x467 x468 x469 x470 =>
      callC Try.prog 12 #[(V23 x427 x428 x429 x430 x431 x432 x433 x434 x435 x436 x437 x438 x439 x440 x441 x442 x443 x444 x445 x446 x447 x448), (V23 x449 x450 x451 x452 x453 x454 x455 x456 x457 x458 x459 x460 x461 x462 x463 x464 x465 x466 x467 x468 x469 x470)] (fun (r : Bool) => (Value.bool r)) w20 fun r471 w21 =>
      jn (fun J472 => cnd (r471)
        (
        L23 (Addr.mk b3 0 none) w21 fun x474 x475 x476 x477 x478 x479 x480 x481 x482 x483 x484 x485 x486 x487 x488 x489 x490 x491 x492 x493 x494 x495 =>
        L23 (Addr.mk b2 0 none) w21 fun x496 x497 x498 x499 x500 x501 x502 x503 x504 x505 x506 x507 x508 x509 x510 x511 x512 x513 x514 x515 x516 x517 =>
        callC Try.prog 12 #[(V23 x474 x475 x476 x477 x478 x479 x480 x481 x482 x483 x484 x485 x486 x487 x488 x489 x490 x491 x492 x493 x494 x495), (V23 x496 x497 x498 x499 x500 x501 x502 x503 x504 x505 x506 x507 x508 x509 x510 x511 x512 x513 x514 x515 x516 x517)] (fun (r : Bool) => (Value.bool r)) w21 fun r518 w22 =>
        J472 r518 w22
        )
        (
        J472 false w21
        ))
      fun c519 w23 =>
      L23 (Addr.mk b1 0 none) w23 fun x520 x521 x522 x523 x524 x525 x526 x527 x528 x529 x530 x531 x532 x533 x534 x535 x536 x537 x538 x539 x540 x541 =>
      L23 (Addr.mk b3 0 none) w23 fun x542 x543 x544 x545 x546 x547 x548 x549 x550 x551 x552 x553 x554 x555 x556 x557 x558 x559 x560 x561 x562 x563 =>
      callC Try.prog 12 #[(V23 x520 x521 x522 x523 x524 x525 x526 x527 x528 x529 x530 x531 x532 x533 x534 x535 x536 x537 x538 x539 x540 x541), (V23 x542 x543 x544 x545 x546 x547 x548 x549 x550 x551 x552 x553 x554 x555 x556 x557 x558 x559 x560 x561 x562 x563)] (fun (r : Bool) => (Value.bool r)) w23 fun r564 w24 =>
      jn (fun J565 => cnd (r564)
        (
        L23 (Addr.mk b2 0 none) w24 fun x567 x568 x569 x570 x571 x572 x573 x574 x575 x576 x577 x578 x579 x580 x581 x582 x583 x584 x585 x586 x587 x588 =>
        L23 (Addr.mk b3 0 none) w24 fun x589 x590 x591 x592 x593 x594 x595 x596 x597 x598 x599 x600 x601 x602 x603 x604 x605 x606 x607 x608 x609 x610 =>
        callC Try.prog 12 #[(V23 x567 x568 x569 x570 x571 x572 x573 x574 x575 x576 x577 x578 x579 x580 x581 x582 x583 x584 x585 x586 x587 x588), (V23 x589 x590 x591 x592 x593 x594 x595 x596 x597 x598 x599 x600 x601 x602 x603 x604 x605 x606 x607 x608 x609 x610)] (fun (r : Bool) => (Value.bool r)) w24 fun r611 w25 =>
        J565 r611 w25
        )
        (
        J565 false w24
        ))
      fun c612 w26 =>
      jn (fun J613 => cnd (r4)
        (
        L23 (Addr.mk b3 0 none) w26 fun x615 x616 x617 x618 x619 x620 x621 x622 x623 x624 x625 x626 x627 x628 x629 x630 x631 x632 x633 x634 x635 x636 =>
        L23 (Addr.mk b188 0 none) w26 fun x637 x638 x639 x640 x641 x642 x643 x644 x645 x646 x647 x648 x649 x650 x651 x652 x653 x654 x655 x656 x657 x658 =>
        callC Try.prog 12 #[(V23 x615 x616 x617 x618 x619 x620 x621 x622 x623 x624 x625 x626 x627 x628 x629 x630 x631 x632 x633 x634 x635 x636), (V23 x637 x638 x639 x640 x641 x642 x643 x644 x645 x646 x647 x648 x649 x650 x651 x652 x653 x654 x655 x656 x657 x658)] (fun (r : Bool) => (Value.bool r)) w26 fun r659 w27 =>
        J613 (r659 == c519) w27
        )
        (
        J613 false w26
        ))
      fun c660 w28 =>
      jn (fun J661 => cnd (c660)
        (
        L23 (Addr.mk b235 0 none) w28 fun x663 x664 x665 x666 x667 x668 x669 x670 x671 x672 x673 x674 x675 x676 x677 x678 x679 x680 x681 x682 x683 x684 =>
        L23 (Addr.mk b3 0 none) w28 fun x685 x686 x687 x688 x689 x690 x691 x692 x693 x694 x695 x696 x697 x698 x699 x700 x701 x702 x703 x704 x705 x706 =>
        callC Try.prog 12 #[(V23 x663 x664 x665 x666 x667 x668 x669 x670 x671 x672 x673 x674 x675 x676 x677 x678 x679 x680 x681 x682 x683 x684), (V23 x685 x686 x687 x688 x689 x690 x691 x692 x693 x694 x695 x696 x697 x698 x699 x700 x701 x702 x703 x704 x705 x706)] (fun (r : Bool) => (Value.bool r)) w28 fun r707 w29 =>
        J661 (r707 == c612) w29
        )
        (
        J661 false w28
        ))
      fun c708 w30 =>
      K c708 w30
      )
    )
set_option maxRecDepth 100000 in
theorem D4 (p0_0 : ByteArray) (p0_1 : Int) (p0_2 : Int) (p0_3 : Int) (p0_4 : Bool) (p0_5 : Int) (p0_6 : Bool) (p0_7 : Bool) (p0_8 : Int) (p0_9 : Int) (p0_10 : Int) (p0_11 : Int) (p0_12 : Sl) (p0_13 : Int) (p0_14 : Int) (p0_15 : Int) (p0_16 : Int) (p0_17 : Bool) (p0_18 : Int) (p0_19 : Int) (p0_20 : Int) (p0_21 : Int) (p1_0 : ByteArray) (p1_1 : Int) (p1_2 : Int) (p1_3 : Int) (p1_4 : Bool) (p1_5 : Int) (p1_6 : Bool) (p1_7 : Bool) (p1_8 : Int) (p1_9 : Int) (p1_10 : Int) (p1_11 : Int) (p1_12 : Sl) (p1_13 : Int) (p1_14 : Int) (p1_15 : Int) (p1_16 : Int) (p1_17 : Bool) (p1_18 : Int) (p1_19 : Int) (p1_20 : Int) (p1_21 : Int) (p2_0 : ByteArray) (p2_1 : Int) (p2_2 : Int) (p2_3 : Int) (p2_4 : Bool) (p2_5 : Int) (p2_6 : Bool) (p2_7 : Bool) (p2_8 : Int) (p2_9 : Int) (p2_10 : Int) (p2_11 : Int) (p2_12 : Sl) (p2_13 : Int) (p2_14 : Int) (p2_15 : Int) (p2_16 : Int) (p2_17 : Bool) (p2_18 : Int) (p2_19 : Int) (p2_20 : Int) (p2_21 : Int) (w0 : World) (K : Bool → World → Prop) (h : F4 p0_0 p0_1 p0_2 p0_3 p0_4 p0_5 p0_6 p0_7 p0_8 p0_9 p0_10 p0_11 p0_12 p0_13 p0_14 p0_15 p0_16 p0_17 p0_18 p0_19 p0_20 p0_21 p1_0 p1_1 p1_2 p1_3 p1_4 p1_5 p1_6 p1_7 p1_8 p1_9 p1_10 p1_11 p1_12 p1_13 p1_14 p1_15 p1_16 p1_17 p1_18 p1_19 p1_20 p1_21 p2_0 p2_1 p2_2 p2_3 p2_4 p2_5 p2_6 p2_7 p2_8 p2_9 p2_10 p2_11 p2_12 p2_13 p2_14 p2_15 p2_16 p2_17 p2_18 p2_19 p2_20 p2_21 w0 K) : callC Try.prog 4 #[(V23 p0_0 p0_1 p0_2 p0_3 p0_4 p0_5 p0_6 p0_7 p0_8 p0_9 p0_10 p0_11 p0_12 p0_13 p0_14 p0_15 p0_16 p0_17 p0_18 p0_19 p0_20 p0_21), (V23 p1_0 p1_1 p1_2 p1_3 p1_4 p1_5 p1_6 p1_7 p1_8 p1_9 p1_10 p1_11 p1_12 p1_13 p1_14 p1_15 p1_16 p1_17 p1_18 p1_19 p1_20 p1_21), (V23 p2_0 p2_1 p2_2 p2_3 p2_4 p2_5 p2_6 p2_7 p2_8 p2_9 p2_10 p2_11 p2_12 p2_13 p2_14 p2_15 p2_16 p2_17 p2_18 p2_19 p2_20 p2_21)] (fun (r : Bool) => (Value.bool r)) w0 K := by
  unfold F4 at h
  refine calls_of_wpC Try.func4 rfl 85 rfl (by simp) ?_
  intro ρ hρ
  have e0 : ρ 0 = (V23 p0_0 p0_1 p0_2 p0_3 p0_4 p0_5 p0_6 p0_7 p0_8 p0_9 p0_10 p0_11 p0_12 p0_13 p0_14 p0_15 p0_16 p0_17 p0_18 p0_19 p0_20 p0_21) := hρ 0
  have e1 : ρ 1 = (V23 p1_0 p1_1 p1_2 p1_3 p1_4 p1_5 p1_6 p1_7 p1_8 p1_9 p1_10 p1_11 p1_12 p1_13 p1_14 p1_15 p1_16 p1_17 p1_18 p1_19 p1_20 p1_21) := hρ 1
  have e2 : ρ 2 = (V23 p2_0 p2_1 p2_2 p2_3 p2_4 p2_5 p2_6 p2_7 p2_8 p2_9 p2_10 p2_11 p2_12 p2_13 p2_14 p2_15 p2_16 p2_17 p2_18 p2_19 p2_20 p2_21) := hρ 2
  clear hρ
  refine wpC_seq ?_
  refine wpC_region ?_
  obtain ⟨b1, hb1⟩ : ∃ u, u = w0.heap.size := ⟨_, rfl⟩
  obtain ⟨w1, hw1⟩ : ∃ u, u = w0.alloc (.cells (A23 p0_0 p0_1 p0_2 p0_3 p0_4 p0_5 p0_6 p0_7 p0_8 p0_9 p0_10 p0_11 p0_12 p0_13 p0_14 p0_15 p0_16 p0_17 p0_18 p0_19 p0_20 p0_21) 24) := ⟨_, rfl⟩
  replace h := h b1 w1 hb1 hw1
  refine wpR_val (v := (Value.pointer (some (Addr.mk b1 0 none)))) (w' := w1) rfl rfl rfl ((x_box (v := (V23 p0_0 p0_1 p0_2 p0_3 p0_4 p0_5 p0_6 p0_7 p0_8 p0_9 p0_10 p0_11 p0_12 p0_13 p0_14 p0_15 p0_16 p0_17 p0_18 p0_19 p0_20 p0_21)) rfl e0).trans (by rw [hb1, hw1]; rfl)) ?_
  obtain ⟨b2, hb2⟩ : ∃ u, u = w1.heap.size := ⟨_, rfl⟩
  obtain ⟨w2, hw2⟩ : ∃ u, u = w1.alloc (.cells (A23 p1_0 p1_1 p1_2 p1_3 p1_4 p1_5 p1_6 p1_7 p1_8 p1_9 p1_10 p1_11 p1_12 p1_13 p1_14 p1_15 p1_16 p1_17 p1_18 p1_19 p1_20 p1_21) 24) := ⟨_, rfl⟩
  replace h := h b2 w2 hb2 hw2
  refine wpR_val (v := (Value.pointer (some (Addr.mk b2 0 none)))) (w' := w2) rfl rfl rfl ((x_box (v := (V23 p1_0 p1_1 p1_2 p1_3 p1_4 p1_5 p1_6 p1_7 p1_8 p1_9 p1_10 p1_11 p1_12 p1_13 p1_14 p1_15 p1_16 p1_17 p1_18 p1_19 p1_20 p1_21)) rfl e1).trans (by rw [hb2, hw2]; rfl)) ?_
  obtain ⟨b3, hb3⟩ : ∃ u, u = w2.heap.size := ⟨_, rfl⟩
  obtain ⟨w3, hw3⟩ : ∃ u, u = w2.alloc (.cells (A23 p2_0 p2_1 p2_2 p2_3 p2_4 p2_5 p2_6 p2_7 p2_8 p2_9 p2_10 p2_11 p2_12 p2_13 p2_14 p2_15 p2_16 p2_17 p2_18 p2_19 p2_20 p2_21) 24) := ⟨_, rfl⟩
  replace h := h b3 w3 hb3 hw3
  refine wpR_val (v := (Value.pointer (some (Addr.mk b3 0 none)))) (w' := w3) rfl rfl rfl ((x_box (v := (V23 p2_0 p2_1 p2_2 p2_3 p2_4 p2_5 p2_6 p2_7 p2_8 p2_9 p2_10 p2_11 p2_12 p2_13 p2_14 p2_15 p2_16 p2_17 p2_18 p2_19 p2_20 p2_21)) rfl e2).trans (by rw [hb3, hw3]; rfl)) ?_
  refine wpR_val (v := (Value.bool false)) (w' := w3) rfl rfl rfl (x_assign (v := (Value.bool false)) rfl rfl) ?_
  refine wpR_nil ?_
  refine wpC_seq ?_
  refine wpC_cut (fun ρ => ρ 3 = (Value.pointer (some (Addr.mk b1 0 none))) ∧ ρ 4 = (Value.pointer (some (Addr.mk b2 0 none))) ∧ ρ 5 = (Value.pointer (some (Addr.mk b3 0 none))) ∧ True) ⟨rfl, rfl, rfl, trivial⟩ ?_
  rintro ρ ⟨e3, e4, e5, -⟩
  refine wpC_region ?_
  refine wpR_enter rfl rfl rfl (x_call (vs := []) rfl rfl mapl_nil Try.func8 NN_8 NB_8) (Calls.mono h ?_)
  rintro _ w4 ⟨r4, rfl, h⟩
  refine ⟨_, rfl, ?_⟩
  refine wpR_val (v := (Value.bool r4)) (w' := w4) rfl rfl rfl (x_assign (v := (Value.bool r4)) rfl rfl) ?_
  refine wpR_nil ?_
  refine wpC_seq ?_
  refine wpC_seq ?_
  refine wpC_cut (fun ρ => ρ 3 = (Value.pointer (some (Addr.mk b1 0 none))) ∧ ρ 4 = (Value.pointer (some (Addr.mk b2 0 none))) ∧ ρ 5 = (Value.pointer (some (Addr.mk b3 0 none))) ∧ ρ 7 = (Value.bool r4) ∧ True) ⟨e3, e4, e5, rfl, trivial⟩ ?_
  rintro ρ ⟨e3, e4, e5, e7, -⟩
  refine wpC_region ?_
  obtain ⟨x5, q5, x6, q6, x7, q7, x8, q8, x9, q9, x10, q10, x11, q11, x12, q12, x13, q13, x14, q14, x15, q15, x16, q16, x17, q17, x18, q18, x19, q19, x20, q20, x21, q21, x22, q22, x23, q23, x24, q24, x25, q25, x26, q26, h⟩ := h
  refine wpR_val (v := (V23 x5 x6 x7 x8 x9 x10 x11 x12 x13 x14 x15 x16 x17 x18 x19 x20 x21 x22 x23 x24 x25 x26)) (w' := w4) rfl rfl rfl (x_loadN (S23 x5 x6 x7 x8 x9 x10 x11 x12 x13 x14 x15 x16 x17 x18 x19 x20 x21 x22 x23 x24 x25 x26) rfl e3 SH_24 (K23 ⟨q5, q6, q7, q8, q9, q10, q11, q12, q13, q14, q15, q16, q17, q18, q19, q20, q21, q22, q23, q24, q25, q26⟩)) ?_
  obtain ⟨x27, q27, x28, q28, x29, q29, x30, q30, x31, q31, x32, q32, x33, q33, x34, q34, x35, q35, x36, q36, x37, q37, x38, q38, x39, q39, x40, q40, x41, q41, x42, q42, x43, q43, x44, q44, x45, q45, x46, q46, x47, q47, x48, q48, h⟩ := h
  refine wpR_val (v := (V23 x27 x28 x29 x30 x31 x32 x33 x34 x35 x36 x37 x38 x39 x40 x41 x42 x43 x44 x45 x46 x47 x48)) (w' := w4) rfl rfl rfl (x_loadN (S23 x27 x28 x29 x30 x31 x32 x33 x34 x35 x36 x37 x38 x39 x40 x41 x42 x43 x44 x45 x46 x47 x48) rfl e4 SH_24 (K23 ⟨q27, q28, q29, q30, q31, q32, q33, q34, q35, q36, q37, q38, q39, q40, q41, q42, q43, q44, q45, q46, q47, q48⟩)) ?_
  obtain ⟨x49, q49, x50, q50, x51, q51, x52, q52, x53, q53, x54, q54, x55, q55, x56, q56, x57, q57, x58, q58, x59, q59, x60, q60, x61, q61, x62, q62, x63, q63, x64, q64, x65, q65, x66, q66, x67, q67, x68, q68, x69, q69, x70, q70, h⟩ := h
  refine wpR_val (v := (V23 x49 x50 x51 x52 x53 x54 x55 x56 x57 x58 x59 x60 x61 x62 x63 x64 x65 x66 x67 x68 x69 x70)) (w' := w4) rfl rfl rfl (x_loadN (S23 x49 x50 x51 x52 x53 x54 x55 x56 x57 x58 x59 x60 x61 x62 x63 x64 x65 x66 x67 x68 x69 x70) rfl e5 SH_24 (K23 ⟨q49, q50, q51, q52, q53, q54, q55, q56, q57, q58, q59, q60, q61, q62, q63, q64, q65, q66, q67, q68, q69, q70⟩)) ?_
  refine wpR_enter rfl rfl rfl (x_call (vs := [(V23 x5 x6 x7 x8 x9 x10 x11 x12 x13 x14 x15 x16 x17 x18 x19 x20 x21 x22 x23 x24 x25 x26), (V23 x27 x28 x29 x30 x31 x32 x33 x34 x35 x36 x37 x38 x39 x40 x41 x42 x43 x44 x45 x46 x47 x48), (V23 x49 x50 x51 x52 x53 x54 x55 x56 x57 x58 x59 x60 x61 x62 x63 x64 x65 x66 x67 x68 x69 x70)]) rfl rfl (mapl_cons rfl (mapl_cons rfl (mapl_cons rfl mapl_nil))) Try.func9 NN_9 NB_9) (Calls.mono h ?_)
  rintro _ w5 ⟨r71, rfl, h⟩
  refine ⟨_, rfl, ?_⟩
  refine wpR_val (v := (Value.bool (!r71))) (w' := w5) rfl rfl rfl (x_not rfl rfl) ?_
  refine wpR_val (v := (Value.bool (!r71))) (w' := w5) rfl rfl rfl (x_move (v := (Value.bool (!r71))) rfl rfl) ?_
  obtain ⟨J72, h, hk⟩ := h
  refine wpR_joinJ 6 (fun x ρ => ρ 24 = Value.bool x ∧ ρ 3 = (Value.pointer (some (Addr.mk b1 0 none))) ∧ ρ 4 = (Value.pointer (some (Addr.mk b2 0 none))) ∧ ρ 5 = (Value.pointer (some (Addr.mk b3 0 none))) ∧ ρ 7 = (Value.bool r4) ∧ True) (J72) ?_ ?_
  · clear hk
    rcases Bool.eq_false_or_eq_true (!r71) with hc73 | hc73
    · replace h := h.1 hc73
      refine wpR_pass (wantN rfl rfl rfl hc73) rfl rfl ?_
      refine wpR_pass (wantN rfl rfl rfl hc73) rfl rfl ?_
      refine wpR_pass (wantN rfl rfl rfl hc73) rfl rfl ?_
      refine wpR_pass (wantN rfl rfl rfl hc73) rfl rfl ?_
      refine wpR_pass (wantN rfl rfl rfl hc73) rfl rfl ?_
      refine wpR_val (v := (Value.bool true)) (w' := w5) rfl rfl rfl (x_pickT (v := (Value.bool true)) rfl rfl hc73 rfl) ?_
      refine wpR_nil ?_
      exact ⟨true, ⟨rfl, e3, e4, e5, e7, trivial⟩, h⟩
    · replace h := h.2 hc73
      obtain ⟨x74, q74, x75, q75, x76, q76, x77, q77, x78, q78, x79, q79, x80, q80, x81, q81, x82, q82, x83, q83, x84, q84, x85, q85, x86, q86, x87, q87, x88, q88, x89, q89, x90, q90, x91, q91, x92, q92, x93, q93, x94, q94, x95, q95, h⟩ := h
      refine wpR_val (v := (V23 x74 x75 x76 x77 x78 x79 x80 x81 x82 x83 x84 x85 x86 x87 x88 x89 x90 x91 x92 x93 x94 x95)) (w' := w5) (wantG rfl rfl rfl hc73) rfl rfl (x_loadN (S23 x74 x75 x76 x77 x78 x79 x80 x81 x82 x83 x84 x85 x86 x87 x88 x89 x90 x91 x92 x93 x94 x95) rfl e3 SH_24 (K23 ⟨q74, q75, q76, q77, q78, q79, q80, q81, q82, q83, q84, q85, q86, q87, q88, q89, q90, q91, q92, q93, q94, q95⟩)) ?_
      obtain ⟨x96, q96, x97, q97, x98, q98, x99, q99, x100, q100, x101, q101, x102, q102, x103, q103, x104, q104, x105, q105, x106, q106, x107, q107, x108, q108, x109, q109, x110, q110, x111, q111, x112, q112, x113, q113, x114, q114, x115, q115, x116, q116, x117, q117, h⟩ := h
      refine wpR_val (v := (V23 x96 x97 x98 x99 x100 x101 x102 x103 x104 x105 x106 x107 x108 x109 x110 x111 x112 x113 x114 x115 x116 x117)) (w' := w5) (wantG rfl rfl rfl hc73) rfl rfl (x_loadN (S23 x96 x97 x98 x99 x100 x101 x102 x103 x104 x105 x106 x107 x108 x109 x110 x111 x112 x113 x114 x115 x116 x117) rfl e4 SH_24 (K23 ⟨q96, q97, q98, q99, q100, q101, q102, q103, q104, q105, q106, q107, q108, q109, q110, q111, q112, q113, q114, q115, q116, q117⟩)) ?_
      obtain ⟨x118, q118, x119, q119, x120, q120, x121, q121, x122, q122, x123, q123, x124, q124, x125, q125, x126, q126, x127, q127, x128, q128, x129, q129, x130, q130, x131, q131, x132, q132, x133, q133, x134, q134, x135, q135, x136, q136, x137, q137, x138, q138, x139, q139, h⟩ := h
      refine wpR_val (v := (V23 x118 x119 x120 x121 x122 x123 x124 x125 x126 x127 x128 x129 x130 x131 x132 x133 x134 x135 x136 x137 x138 x139)) (w' := w5) (wantG rfl rfl rfl hc73) rfl rfl (x_loadN (S23 x118 x119 x120 x121 x122 x123 x124 x125 x126 x127 x128 x129 x130 x131 x132 x133 x134 x135 x136 x137 x138 x139) rfl e5 SH_24 (K23 ⟨q118, q119, q120, q121, q122, q123, q124, q125, q126, q127, q128, q129, q130, q131, q132, q133, q134, q135, q136, q137, q138, q139⟩)) ?_
      refine wpR_enter (wantG rfl rfl rfl hc73) rfl rfl (x_call (vs := [(V23 x74 x75 x76 x77 x78 x79 x80 x81 x82 x83 x84 x85 x86 x87 x88 x89 x90 x91 x92 x93 x94 x95), (V23 x96 x97 x98 x99 x100 x101 x102 x103 x104 x105 x106 x107 x108 x109 x110 x111 x112 x113 x114 x115 x116 x117), (V23 x118 x119 x120 x121 x122 x123 x124 x125 x126 x127 x128 x129 x130 x131 x132 x133 x134 x135 x136 x137 x138 x139)]) rfl rfl (mapl_cons rfl (mapl_cons rfl (mapl_cons rfl mapl_nil))) Try.func19 NN_19 NB_19) (Calls.mono h ?_)
      rintro _ w6 ⟨r140, rfl, h⟩
      refine ⟨_, rfl, ?_⟩
      refine wpR_val (v := (Value.bool (!r140))) (w' := w6) (wantG rfl rfl rfl hc73) rfl rfl (x_not rfl rfl) ?_
      refine wpR_val (v := (Value.bool (!r140))) (w' := w6) rfl rfl rfl (x_pickF (v := (Value.bool (!r140))) rfl rfl hc73 rfl) ?_
      refine wpR_nil ?_
      exact ⟨!r140, ⟨rfl, e3, e4, e5, e7, trivial⟩, h⟩
  clear h
  rintro c141 ρ w7 ⟨e24, e3, e4, e5, e7, -⟩ h
  replace h := hk c141 w7 h
  clear hk
  refine wpR_nil ?_
  refine wpC_cond (b := c141) e24 (fun hc142 => ?_) (fun hc142 => ?_)
  · replace h := h.1 hc142
    refine wpC_seq ?_
    refine wpC_region ?_
    refine wpR_val (v := (Value.bool r4)) (w' := w7) rfl rfl rfl (x_move (v := (Value.bool r4)) rfl e7) ?_
    refine wpR_val (v := (Value.bool r4)) (w' := w7) rfl rfl rfl (x_assign (v := (Value.bool r4)) rfl rfl) ?_
    refine wpR_nil ?_
    refine wpC_ret ?_
    exact ⟨.inl rfl, fun a ha => ⟨_, results_rep1 rfl ha rfl, r4, rfl, h⟩⟩
  · replace h := h.2 hc142
    refine wpC_skip ?_
    refine wpC_seq ?_
    refine wpC_region ?_
    obtain ⟨x143, q143, x144, q144, x145, q145, x146, q146, x147, q147, x148, q148, x149, q149, x150, q150, x151, q151, x152, q152, x153, q153, x154, q154, x155, q155, x156, q156, x157, q157, x158, q158, x159, q159, x160, q160, x161, q161, x162, q162, x163, q163, x164, q164, h⟩ := h
    refine wpR_val (v := (V23 x143 x144 x145 x146 x147 x148 x149 x150 x151 x152 x153 x154 x155 x156 x157 x158 x159 x160 x161 x162 x163 x164)) (w' := w7) rfl rfl rfl (x_loadN (S23 x143 x144 x145 x146 x147 x148 x149 x150 x151 x152 x153 x154 x155 x156 x157 x158 x159 x160 x161 x162 x163 x164) rfl e3 SH_24 (K23 ⟨q143, q144, q145, q146, q147, q148, q149, q150, q151, q152, q153, q154, q155, q156, q157, q158, q159, q160, q161, q162, q163, q164⟩)) ?_
    obtain ⟨x165, q165, x166, q166, x167, q167, x168, q168, x169, q169, x170, q170, x171, q171, x172, q172, x173, q173, x174, q174, x175, q175, x176, q176, x177, q177, x178, q178, x179, q179, x180, q180, x181, q181, x182, q182, x183, q183, x184, q184, x185, q185, x186, q186, h⟩ := h
    refine wpR_val (v := (V23 x165 x166 x167 x168 x169 x170 x171 x172 x173 x174 x175 x176 x177 x178 x179 x180 x181 x182 x183 x184 x185 x186)) (w' := w7) rfl rfl rfl (x_loadN (S23 x165 x166 x167 x168 x169 x170 x171 x172 x173 x174 x175 x176 x177 x178 x179 x180 x181 x182 x183 x184 x185 x186) rfl e4 SH_24 (K23 ⟨q165, q166, q167, q168, q169, q170, q171, q172, q173, q174, q175, q176, q177, q178, q179, q180, q181, q182, q183, q184, q185, q186⟩)) ?_
    refine wpR_enter rfl rfl rfl (x_call (vs := [(V23 x143 x144 x145 x146 x147 x148 x149 x150 x151 x152 x153 x154 x155 x156 x157 x158 x159 x160 x161 x162 x163 x164), (V23 x165 x166 x167 x168 x169 x170 x171 x172 x173 x174 x175 x176 x177 x178 x179 x180 x181 x182 x183 x184 x185 x186)]) rfl rfl (mapl_cons rfl (mapl_cons rfl mapl_nil)) Try.func15 NN_15 NB_15) (Calls.mono h ?_)
    rintro _ w8 ⟨r187, rfl, h⟩
    refine ⟨_, rfl, ?_⟩
    obtain ⟨b188, hb188⟩ : ∃ u, u = w8.heap.size := ⟨_, rfl⟩
    obtain ⟨w9, hw188⟩ : ∃ u, u = w8.alloc (.cells (A23 (ByteArray.mk #[]) 0 0 0 false 0 false false 0 0 0 0 Sl.nil 0 0 0 0 false 0 0 0 0) 24) := ⟨_, rfl⟩
    replace h := h b188 w9 hb188 hw188
    refine wpR_val (v := (Value.pointer (some (Addr.mk b188 0 none)))) (w' := w9) rfl rfl rfl ((x_alloc rfl ZV_24).trans (by rw [hb188, hw188]; rfl)) ?_
    obtain ⟨q189, h⟩ := h
    obtain ⟨w10, hw189⟩ : ∃ u, u = setAll w9 (Addr.mk b188 0 none) (S23 r187.1 r187.2.1 r187.2.2.1 r187.2.2.2.1 r187.2.2.2.2.1 r187.2.2.2.2.2.1 r187.2.2.2.2.2.2.1 r187.2.2.2.2.2.2.2.1 r187.2.2.2.2.2.2.2.2.1 r187.2.2.2.2.2.2.2.2.2.1 r187.2.2.2.2.2.2.2.2.2.2.1 r187.2.2.2.2.2.2.2.2.2.2.2.1 r187.2.2.2.2.2.2.2.2.2.2.2.2.1 r187.2.2.2.2.2.2.2.2.2.2.2.2.2.1 r187.2.2.2.2.2.2.2.2.2.2.2.2.2.2.1 r187.2.2.2.2.2.2.2.2.2.2.2.2.2.2.2.1 r187.2.2.2.2.2.2.2.2.2.2.2.2.2.2.2.2.1 r187.2.2.2.2.2.2.2.2.2.2.2.2.2.2.2.2.2.1 r187.2.2.2.2.2.2.2.2.2.2.2.2.2.2.2.2.2.2.1 r187.2.2.2.2.2.2.2.2.2.2.2.2.2.2.2.2.2.2.2.1 r187.2.2.2.2.2.2.2.2.2.2.2.2.2.2.2.2.2.2.2.2.1 r187.2.2.2.2.2.2.2.2.2.2.2.2.2.2.2.2.2.2.2.2.2) 0 := ⟨_, rfl⟩
    replace h := h w10 hw189
    refine wpR_skp (w' := w10) rfl rfl ((x_store (v := (V23 r187.1 r187.2.1 r187.2.2.1 r187.2.2.2.1 r187.2.2.2.2.1 r187.2.2.2.2.2.1 r187.2.2.2.2.2.2.1 r187.2.2.2.2.2.2.2.1 r187.2.2.2.2.2.2.2.2.1 r187.2.2.2.2.2.2.2.2.2.1 r187.2.2.2.2.2.2.2.2.2.2.1 r187.2.2.2.2.2.2.2.2.2.2.2.1 r187.2.2.2.2.2.2.2.2.2.2.2.2.1 r187.2.2.2.2.2.2.2.2.2.2.2.2.2.1 r187.2.2.2.2.2.2.2.2.2.2.2.2.2.2.1 r187.2.2.2.2.2.2.2.2.2.2.2.2.2.2.2.1 r187.2.2.2.2.2.2.2.2.2.2.2.2.2.2.2.2.1 r187.2.2.2.2.2.2.2.2.2.2.2.2.2.2.2.2.2.1 r187.2.2.2.2.2.2.2.2.2.2.2.2.2.2.2.2.2.2.1 r187.2.2.2.2.2.2.2.2.2.2.2.2.2.2.2.2.2.2.2.1 r187.2.2.2.2.2.2.2.2.2.2.2.2.2.2.2.2.2.2.2.2.1 r187.2.2.2.2.2.2.2.2.2.2.2.2.2.2.2.2.2.2.2.2.2)) rfl rfl rfl SZ_24 (ones (by rfl)) q189).trans (by rw [hw189]; rfl)) ?_
    refine wpR_nil ?_
    refine wpC_seq ?_
    refine wpC_cut (fun ρ => ρ 3 = (Value.pointer (some (Addr.mk b1 0 none))) ∧ ρ 4 = (Value.pointer (some (Addr.mk b2 0 none))) ∧ ρ 5 = (Value.pointer (some (Addr.mk b3 0 none))) ∧ ρ 7 = (Value.bool r4) ∧ ρ 8 = (Value.pointer (some (Addr.mk b188 0 none))) ∧ True) ⟨e3, e4, e5, e7, rfl, trivial⟩ ?_
    rintro ρ ⟨e3, e4, e5, e7, e8, -⟩
    refine wpC_region ?_
    obtain ⟨x190, q190, x191, q191, x192, q192, x193, q193, x194, q194, x195, q195, x196, q196, x197, q197, x198, q198, x199, q199, x200, q200, x201, q201, x202, q202, x203, q203, x204, q204, x205, q205, x206, q206, x207, q207, x208, q208, x209, q209, x210, q210, x211, q211, h⟩ := h
    refine wpR_val (v := (V23 x190 x191 x192 x193 x194 x195 x196 x197 x198 x199 x200 x201 x202 x203 x204 x205 x206 x207 x208 x209 x210 x211)) (w' := w10) rfl rfl rfl (x_loadN (S23 x190 x191 x192 x193 x194 x195 x196 x197 x198 x199 x200 x201 x202 x203 x204 x205 x206 x207 x208 x209 x210 x211) rfl e3 SH_24 (K23 ⟨q190, q191, q192, q193, q194, q195, q196, q197, q198, q199, q200, q201, q202, q203, q204, q205, q206, q207, q208, q209, q210, q211⟩)) ?_
    obtain ⟨x212, q212, x213, q213, x214, q214, x215, q215, x216, q216, x217, q217, x218, q218, x219, q219, x220, q220, x221, q221, x222, q222, x223, q223, x224, q224, x225, q225, x226, q226, x227, q227, x228, q228, x229, q229, x230, q230, x231, q231, x232, q232, x233, q233, h⟩ := h
    refine wpR_val (v := (V23 x212 x213 x214 x215 x216 x217 x218 x219 x220 x221 x222 x223 x224 x225 x226 x227 x228 x229 x230 x231 x232 x233)) (w' := w10) rfl rfl rfl (x_loadN (S23 x212 x213 x214 x215 x216 x217 x218 x219 x220 x221 x222 x223 x224 x225 x226 x227 x228 x229 x230 x231 x232 x233) rfl e4 SH_24 (K23 ⟨q212, q213, q214, q215, q216, q217, q218, q219, q220, q221, q222, q223, q224, q225, q226, q227, q228, q229, q230, q231, q232, q233⟩)) ?_
    refine wpR_enter rfl rfl rfl (x_call (vs := [(V23 x190 x191 x192 x193 x194 x195 x196 x197 x198 x199 x200 x201 x202 x203 x204 x205 x206 x207 x208 x209 x210 x211), (V23 x212 x213 x214 x215 x216 x217 x218 x219 x220 x221 x222 x223 x224 x225 x226 x227 x228 x229 x230 x231 x232 x233)]) rfl rfl (mapl_cons rfl (mapl_cons rfl mapl_nil)) Try.func17 NN_17 NB_17) (Calls.mono h ?_)
    rintro _ w11 ⟨r234, rfl, h⟩
    refine ⟨_, rfl, ?_⟩
    obtain ⟨b235, hb235⟩ : ∃ u, u = w11.heap.size := ⟨_, rfl⟩
    obtain ⟨w12, hw235⟩ : ∃ u, u = w11.alloc (.cells (A23 (ByteArray.mk #[]) 0 0 0 false 0 false false 0 0 0 0 Sl.nil 0 0 0 0 false 0 0 0 0) 24) := ⟨_, rfl⟩
    replace h := h b235 w12 hb235 hw235
    refine wpR_val (v := (Value.pointer (some (Addr.mk b235 0 none)))) (w' := w12) rfl rfl rfl ((x_alloc rfl ZV_24).trans (by rw [hb235, hw235]; rfl)) ?_
    obtain ⟨q236, h⟩ := h
    obtain ⟨w13, hw236⟩ : ∃ u, u = setAll w12 (Addr.mk b235 0 none) (S23 r234.1 r234.2.1 r234.2.2.1 r234.2.2.2.1 r234.2.2.2.2.1 r234.2.2.2.2.2.1 r234.2.2.2.2.2.2.1 r234.2.2.2.2.2.2.2.1 r234.2.2.2.2.2.2.2.2.1 r234.2.2.2.2.2.2.2.2.2.1 r234.2.2.2.2.2.2.2.2.2.2.1 r234.2.2.2.2.2.2.2.2.2.2.2.1 r234.2.2.2.2.2.2.2.2.2.2.2.2.1 r234.2.2.2.2.2.2.2.2.2.2.2.2.2.1 r234.2.2.2.2.2.2.2.2.2.2.2.2.2.2.1 r234.2.2.2.2.2.2.2.2.2.2.2.2.2.2.2.1 r234.2.2.2.2.2.2.2.2.2.2.2.2.2.2.2.2.1 r234.2.2.2.2.2.2.2.2.2.2.2.2.2.2.2.2.2.1 r234.2.2.2.2.2.2.2.2.2.2.2.2.2.2.2.2.2.2.1 r234.2.2.2.2.2.2.2.2.2.2.2.2.2.2.2.2.2.2.2.1 r234.2.2.2.2.2.2.2.2.2.2.2.2.2.2.2.2.2.2.2.2.1 r234.2.2.2.2.2.2.2.2.2.2.2.2.2.2.2.2.2.2.2.2.2) 0 := ⟨_, rfl⟩
    replace h := h w13 hw236
    refine wpR_skp (w' := w13) rfl rfl ((x_store (v := (V23 r234.1 r234.2.1 r234.2.2.1 r234.2.2.2.1 r234.2.2.2.2.1 r234.2.2.2.2.2.1 r234.2.2.2.2.2.2.1 r234.2.2.2.2.2.2.2.1 r234.2.2.2.2.2.2.2.2.1 r234.2.2.2.2.2.2.2.2.2.1 r234.2.2.2.2.2.2.2.2.2.2.1 r234.2.2.2.2.2.2.2.2.2.2.2.1 r234.2.2.2.2.2.2.2.2.2.2.2.2.1 r234.2.2.2.2.2.2.2.2.2.2.2.2.2.1 r234.2.2.2.2.2.2.2.2.2.2.2.2.2.2.1 r234.2.2.2.2.2.2.2.2.2.2.2.2.2.2.2.1 r234.2.2.2.2.2.2.2.2.2.2.2.2.2.2.2.2.1 r234.2.2.2.2.2.2.2.2.2.2.2.2.2.2.2.2.2.1 r234.2.2.2.2.2.2.2.2.2.2.2.2.2.2.2.2.2.2.1 r234.2.2.2.2.2.2.2.2.2.2.2.2.2.2.2.2.2.2.2.1 r234.2.2.2.2.2.2.2.2.2.2.2.2.2.2.2.2.2.2.2.2.1 r234.2.2.2.2.2.2.2.2.2.2.2.2.2.2.2.2.2.2.2.2.2)) rfl rfl rfl SZ_24 (ones (by rfl)) q236).trans (by rw [hw236]; rfl)) ?_
    refine wpR_nil ?_
    refine wpC_seq ?_
    refine wpC_seq ?_
    refine wpC_cut (fun ρ => ρ 3 = (Value.pointer (some (Addr.mk b1 0 none))) ∧ ρ 4 = (Value.pointer (some (Addr.mk b2 0 none))) ∧ ρ 5 = (Value.pointer (some (Addr.mk b3 0 none))) ∧ ρ 7 = (Value.bool r4) ∧ ρ 8 = (Value.pointer (some (Addr.mk b188 0 none))) ∧ ρ 9 = (Value.pointer (some (Addr.mk b235 0 none))) ∧ True) ⟨e3, e4, e5, e7, e8, rfl, trivial⟩ ?_
    rintro ρ ⟨e3, e4, e5, e7, e8, e9, -⟩
    refine wpC_region ?_
    obtain ⟨x237, q237, x238, q238, x239, q239, x240, q240, x241, q241, x242, q242, x243, q243, x244, q244, x245, q245, x246, q246, x247, q247, x248, q248, x249, q249, x250, q250, x251, q251, x252, q252, x253, q253, x254, q254, x255, q255, x256, q256, x257, q257, x258, q258, h⟩ := h
    refine wpR_val (v := (V23 x237 x238 x239 x240 x241 x242 x243 x244 x245 x246 x247 x248 x249 x250 x251 x252 x253 x254 x255 x256 x257 x258)) (w' := w13) rfl rfl rfl (x_loadN (S23 x237 x238 x239 x240 x241 x242 x243 x244 x245 x246 x247 x248 x249 x250 x251 x252 x253 x254 x255 x256 x257 x258) rfl e8 SH_24 (K23 ⟨q237, q238, q239, q240, q241, q242, q243, q244, q245, q246, q247, q248, q249, q250, q251, q252, q253, q254, q255, q256, q257, q258⟩)) ?_
    obtain ⟨x259, q259, x260, q260, x261, q261, x262, q262, x263, q263, x264, q264, x265, q265, x266, q266, x267, q267, x268, q268, x269, q269, x270, q270, x271, q271, x272, q272, x273, q273, x274, q274, x275, q275, x276, q276, x277, q277, x278, q278, x279, q279, x280, q280, h⟩ := h
    refine wpR_val (v := (V23 x259 x260 x261 x262 x263 x264 x265 x266 x267 x268 x269 x270 x271 x272 x273 x274 x275 x276 x277 x278 x279 x280)) (w' := w13) rfl rfl rfl (x_loadN (S23 x259 x260 x261 x262 x263 x264 x265 x266 x267 x268 x269 x270 x271 x272 x273 x274 x275 x276 x277 x278 x279 x280) rfl e3 SH_24 (K23 ⟨q259, q260, q261, q262, q263, q264, q265, q266, q267, q268, q269, q270, q271, q272, q273, q274, q275, q276, q277, q278, q279, q280⟩)) ?_
    refine wpR_enter rfl rfl rfl (x_call (vs := [(V23 x237 x238 x239 x240 x241 x242 x243 x244 x245 x246 x247 x248 x249 x250 x251 x252 x253 x254 x255 x256 x257 x258), (V23 x259 x260 x261 x262 x263 x264 x265 x266 x267 x268 x269 x270 x271 x272 x273 x274 x275 x276 x277 x278 x279 x280)]) rfl rfl (mapl_cons rfl (mapl_cons rfl mapl_nil)) Try.func12 NN_12 NB_12) (Calls.mono h ?_)
    rintro _ w14 ⟨r281, rfl, h⟩
    refine ⟨_, rfl, ?_⟩
    refine wpR_val (v := (Value.bool (!r281))) (w' := w14) rfl rfl rfl (x_not rfl rfl) ?_
    refine wpR_val (v := (Value.bool (!r281))) (w' := w14) rfl rfl rfl (x_move (v := (Value.bool (!r281))) rfl rfl) ?_
    obtain ⟨J282, h, hk⟩ := h
    refine wpR_joinJ 5 (fun x ρ => ρ 41 = Value.bool x ∧ ρ 3 = (Value.pointer (some (Addr.mk b1 0 none))) ∧ ρ 4 = (Value.pointer (some (Addr.mk b2 0 none))) ∧ ρ 5 = (Value.pointer (some (Addr.mk b3 0 none))) ∧ ρ 7 = (Value.bool r4) ∧ ρ 8 = (Value.pointer (some (Addr.mk b188 0 none))) ∧ ρ 9 = (Value.pointer (some (Addr.mk b235 0 none))) ∧ True) (J282) ?_ ?_
    · clear hk
      rcases Bool.eq_false_or_eq_true (!r281) with hc283 | hc283
      · replace h := h.1 hc283
        refine wpR_pass (wantN rfl rfl rfl hc283) rfl rfl ?_
        refine wpR_pass (wantN rfl rfl rfl hc283) rfl rfl ?_
        refine wpR_pass (wantN rfl rfl rfl hc283) rfl rfl ?_
        refine wpR_pass (wantN rfl rfl rfl hc283) rfl rfl ?_
        refine wpR_val (v := (Value.bool true)) (w' := w14) rfl rfl rfl (x_pickT (v := (Value.bool true)) rfl rfl hc283 rfl) ?_
        refine wpR_nil ?_
        exact ⟨true, ⟨rfl, e3, e4, e5, e7, e8, e9, trivial⟩, h⟩
      · replace h := h.2 hc283
        obtain ⟨x284, q284, x285, q285, x286, q286, x287, q287, x288, q288, x289, q289, x290, q290, x291, q291, x292, q292, x293, q293, x294, q294, x295, q295, x296, q296, x297, q297, x298, q298, x299, q299, x300, q300, x301, q301, x302, q302, x303, q303, x304, q304, x305, q305, h⟩ := h
        refine wpR_val (v := (V23 x284 x285 x286 x287 x288 x289 x290 x291 x292 x293 x294 x295 x296 x297 x298 x299 x300 x301 x302 x303 x304 x305)) (w' := w14) (wantG rfl rfl rfl hc283) rfl rfl (x_loadN (S23 x284 x285 x286 x287 x288 x289 x290 x291 x292 x293 x294 x295 x296 x297 x298 x299 x300 x301 x302 x303 x304 x305) rfl e8 SH_24 (K23 ⟨q284, q285, q286, q287, q288, q289, q290, q291, q292, q293, q294, q295, q296, q297, q298, q299, q300, q301, q302, q303, q304, q305⟩)) ?_
        obtain ⟨x306, q306, x307, q307, x308, q308, x309, q309, x310, q310, x311, q311, x312, q312, x313, q313, x314, q314, x315, q315, x316, q316, x317, q317, x318, q318, x319, q319, x320, q320, x321, q321, x322, q322, x323, q323, x324, q324, x325, q325, x326, q326, x327, q327, h⟩ := h
        refine wpR_val (v := (V23 x306 x307 x308 x309 x310 x311 x312 x313 x314 x315 x316 x317 x318 x319 x320 x321 x322 x323 x324 x325 x326 x327)) (w' := w14) (wantG rfl rfl rfl hc283) rfl rfl (x_loadN (S23 x306 x307 x308 x309 x310 x311 x312 x313 x314 x315 x316 x317 x318 x319 x320 x321 x322 x323 x324 x325 x326 x327) rfl e4 SH_24 (K23 ⟨q306, q307, q308, q309, q310, q311, q312, q313, q314, q315, q316, q317, q318, q319, q320, q321, q322, q323, q324, q325, q326, q327⟩)) ?_
        refine wpR_enter (wantG rfl rfl rfl hc283) rfl rfl (x_call (vs := [(V23 x284 x285 x286 x287 x288 x289 x290 x291 x292 x293 x294 x295 x296 x297 x298 x299 x300 x301 x302 x303 x304 x305), (V23 x306 x307 x308 x309 x310 x311 x312 x313 x314 x315 x316 x317 x318 x319 x320 x321 x322 x323 x324 x325 x326 x327)]) rfl rfl (mapl_cons rfl (mapl_cons rfl mapl_nil)) Try.func12 NN_12 NB_12) (Calls.mono h ?_)
        rintro _ w15 ⟨r328, rfl, h⟩
        refine ⟨_, rfl, ?_⟩
        refine wpR_val (v := (Value.bool (!r328))) (w' := w15) (wantG rfl rfl rfl hc283) rfl rfl (x_not rfl rfl) ?_
        refine wpR_val (v := (Value.bool (!r328))) (w' := w15) rfl rfl rfl (x_pickF (v := (Value.bool (!r328))) rfl rfl hc283 rfl) ?_
        refine wpR_nil ?_
        exact ⟨!r328, ⟨rfl, e3, e4, e5, e7, e8, e9, trivial⟩, h⟩
    clear h
    rintro c329 ρ w16 ⟨e41, e3, e4, e5, e7, e8, e9, -⟩ h
    replace h := hk c329 w16 h
    clear hk
    refine wpR_val (v := (Value.bool c329)) (w' := w16) rfl rfl rfl (x_move (v := (Value.bool c329)) rfl e41) ?_
    obtain ⟨J330, h, hk⟩ := h
    refine wpR_joinJ 5 (fun x ρ => ρ 47 = Value.bool x ∧ ρ 3 = (Value.pointer (some (Addr.mk b1 0 none))) ∧ ρ 4 = (Value.pointer (some (Addr.mk b2 0 none))) ∧ ρ 5 = (Value.pointer (some (Addr.mk b3 0 none))) ∧ ρ 7 = (Value.bool r4) ∧ ρ 8 = (Value.pointer (some (Addr.mk b188 0 none))) ∧ ρ 9 = (Value.pointer (some (Addr.mk b235 0 none))) ∧ True) (J330) ?_ ?_
    · clear hk
      rcases Bool.eq_false_or_eq_true (c329) with hc331 | hc331
      · replace h := h.1 hc331
        refine wpR_pass (wantN rfl rfl rfl hc331) rfl rfl ?_
        refine wpR_pass (wantN rfl rfl rfl hc331) rfl rfl ?_
        refine wpR_pass (wantN rfl rfl rfl hc331) rfl rfl ?_
        refine wpR_pass (wantN rfl rfl rfl hc331) rfl rfl ?_
        refine wpR_val (v := (Value.bool true)) (w' := w16) rfl rfl rfl (x_pickT (v := (Value.bool true)) rfl rfl hc331 rfl) ?_
        refine wpR_nil ?_
        exact ⟨true, ⟨rfl, e3, e4, e5, e7, e8, e9, trivial⟩, h⟩
      · replace h := h.2 hc331
        obtain ⟨x332, q332, x333, q333, x334, q334, x335, q335, x336, q336, x337, q337, x338, q338, x339, q339, x340, q340, x341, q341, x342, q342, x343, q343, x344, q344, x345, q345, x346, q346, x347, q347, x348, q348, x349, q349, x350, q350, x351, q351, x352, q352, x353, q353, h⟩ := h
        refine wpR_val (v := (V23 x332 x333 x334 x335 x336 x337 x338 x339 x340 x341 x342 x343 x344 x345 x346 x347 x348 x349 x350 x351 x352 x353)) (w' := w16) (wantG rfl rfl rfl hc331) rfl rfl (x_loadN (S23 x332 x333 x334 x335 x336 x337 x338 x339 x340 x341 x342 x343 x344 x345 x346 x347 x348 x349 x350 x351 x352 x353) rfl e3 SH_24 (K23 ⟨q332, q333, q334, q335, q336, q337, q338, q339, q340, q341, q342, q343, q344, q345, q346, q347, q348, q349, q350, q351, q352, q353⟩)) ?_
        obtain ⟨x354, q354, x355, q355, x356, q356, x357, q357, x358, q358, x359, q359, x360, q360, x361, q361, x362, q362, x363, q363, x364, q364, x365, q365, x366, q366, x367, q367, x368, q368, x369, q369, x370, q370, x371, q371, x372, q372, x373, q373, x374, q374, x375, q375, h⟩ := h
        refine wpR_val (v := (V23 x354 x355 x356 x357 x358 x359 x360 x361 x362 x363 x364 x365 x366 x367 x368 x369 x370 x371 x372 x373 x374 x375)) (w' := w16) (wantG rfl rfl rfl hc331) rfl rfl (x_loadN (S23 x354 x355 x356 x357 x358 x359 x360 x361 x362 x363 x364 x365 x366 x367 x368 x369 x370 x371 x372 x373 x374 x375) rfl e9 SH_24 (K23 ⟨q354, q355, q356, q357, q358, q359, q360, q361, q362, q363, q364, q365, q366, q367, q368, q369, q370, q371, q372, q373, q374, q375⟩)) ?_
        refine wpR_enter (wantG rfl rfl rfl hc331) rfl rfl (x_call (vs := [(V23 x332 x333 x334 x335 x336 x337 x338 x339 x340 x341 x342 x343 x344 x345 x346 x347 x348 x349 x350 x351 x352 x353), (V23 x354 x355 x356 x357 x358 x359 x360 x361 x362 x363 x364 x365 x366 x367 x368 x369 x370 x371 x372 x373 x374 x375)]) rfl rfl (mapl_cons rfl (mapl_cons rfl mapl_nil)) Try.func12 NN_12 NB_12) (Calls.mono h ?_)
        rintro _ w17 ⟨r376, rfl, h⟩
        refine ⟨_, rfl, ?_⟩
        refine wpR_val (v := (Value.bool (!r376))) (w' := w17) (wantG rfl rfl rfl hc331) rfl rfl (x_not rfl rfl) ?_
        refine wpR_val (v := (Value.bool (!r376))) (w' := w17) rfl rfl rfl (x_pickF (v := (Value.bool (!r376))) rfl rfl hc331 rfl) ?_
        refine wpR_nil ?_
        exact ⟨!r376, ⟨rfl, e3, e4, e5, e7, e8, e9, trivial⟩, h⟩
    clear h
    rintro c377 ρ w18 ⟨e47, e3, e4, e5, e7, e8, e9, -⟩ h
    replace h := hk c377 w18 h
    clear hk
    refine wpR_val (v := (Value.bool c377)) (w' := w18) rfl rfl rfl (x_move (v := (Value.bool c377)) rfl e47) ?_
    obtain ⟨J378, h, hk⟩ := h
    refine wpR_joinJ 5 (fun x ρ => ρ 53 = Value.bool x ∧ ρ 3 = (Value.pointer (some (Addr.mk b1 0 none))) ∧ ρ 4 = (Value.pointer (some (Addr.mk b2 0 none))) ∧ ρ 5 = (Value.pointer (some (Addr.mk b3 0 none))) ∧ ρ 7 = (Value.bool r4) ∧ ρ 8 = (Value.pointer (some (Addr.mk b188 0 none))) ∧ ρ 9 = (Value.pointer (some (Addr.mk b235 0 none))) ∧ True) (J378) ?_ ?_
    · clear hk
      rcases Bool.eq_false_or_eq_true (c377) with hc379 | hc379
      · replace h := h.1 hc379
        refine wpR_pass (wantN rfl rfl rfl hc379) rfl rfl ?_
        refine wpR_pass (wantN rfl rfl rfl hc379) rfl rfl ?_
        refine wpR_pass (wantN rfl rfl rfl hc379) rfl rfl ?_
        refine wpR_pass (wantN rfl rfl rfl hc379) rfl rfl ?_
        refine wpR_val (v := (Value.bool true)) (w' := w18) rfl rfl rfl (x_pickT (v := (Value.bool true)) rfl rfl hc379 rfl) ?_
        refine wpR_nil ?_
        exact ⟨true, ⟨rfl, e3, e4, e5, e7, e8, e9, trivial⟩, h⟩
      · replace h := h.2 hc379
        obtain ⟨x380, q380, x381, q381, x382, q382, x383, q383, x384, q384, x385, q385, x386, q386, x387, q387, x388, q388, x389, q389, x390, q390, x391, q391, x392, q392, x393, q393, x394, q394, x395, q395, x396, q396, x397, q397, x398, q398, x399, q399, x400, q400, x401, q401, h⟩ := h
        refine wpR_val (v := (V23 x380 x381 x382 x383 x384 x385 x386 x387 x388 x389 x390 x391 x392 x393 x394 x395 x396 x397 x398 x399 x400 x401)) (w' := w18) (wantG rfl rfl rfl hc379) rfl rfl (x_loadN (S23 x380 x381 x382 x383 x384 x385 x386 x387 x388 x389 x390 x391 x392 x393 x394 x395 x396 x397 x398 x399 x400 x401) rfl e4 SH_24 (K23 ⟨q380, q381, q382, q383, q384, q385, q386, q387, q388, q389, q390, q391, q392, q393, q394, q395, q396, q397, q398, q399, q400, q401⟩)) ?_
        obtain ⟨x402, q402, x403, q403, x404, q404, x405, q405, x406, q406, x407, q407, x408, q408, x409, q409, x410, q410, x411, q411, x412, q412, x413, q413, x414, q414, x415, q415, x416, q416, x417, q417, x418, q418, x419, q419, x420, q420, x421, q421, x422, q422, x423, q423, h⟩ := h
        refine wpR_val (v := (V23 x402 x403 x404 x405 x406 x407 x408 x409 x410 x411 x412 x413 x414 x415 x416 x417 x418 x419 x420 x421 x422 x423)) (w' := w18) (wantG rfl rfl rfl hc379) rfl rfl (x_loadN (S23 x402 x403 x404 x405 x406 x407 x408 x409 x410 x411 x412 x413 x414 x415 x416 x417 x418 x419 x420 x421 x422 x423) rfl e9 SH_24 (K23 ⟨q402, q403, q404, q405, q406, q407, q408, q409, q410, q411, q412, q413, q414, q415, q416, q417, q418, q419, q420, q421, q422, q423⟩)) ?_
        refine wpR_enter (wantG rfl rfl rfl hc379) rfl rfl (x_call (vs := [(V23 x380 x381 x382 x383 x384 x385 x386 x387 x388 x389 x390 x391 x392 x393 x394 x395 x396 x397 x398 x399 x400 x401), (V23 x402 x403 x404 x405 x406 x407 x408 x409 x410 x411 x412 x413 x414 x415 x416 x417 x418 x419 x420 x421 x422 x423)]) rfl rfl (mapl_cons rfl (mapl_cons rfl mapl_nil)) Try.func12 NN_12 NB_12) (Calls.mono h ?_)
        rintro _ w19 ⟨r424, rfl, h⟩
        refine ⟨_, rfl, ?_⟩
        refine wpR_val (v := (Value.bool (!r424))) (w' := w19) (wantG rfl rfl rfl hc379) rfl rfl (x_not rfl rfl) ?_
        refine wpR_val (v := (Value.bool (!r424))) (w' := w19) rfl rfl rfl (x_pickF (v := (Value.bool (!r424))) rfl rfl hc379 rfl) ?_
        refine wpR_nil ?_
        exact ⟨!r424, ⟨rfl, e3, e4, e5, e7, e8, e9, trivial⟩, h⟩
    clear h
    rintro c425 ρ w20 ⟨e53, e3, e4, e5, e7, e8, e9, -⟩ h
    replace h := hk c425 w20 h
    clear hk
    refine wpR_nil ?_
    refine wpC_cond (b := c425) e53 (fun hc426 => ?_) (fun hc426 => ?_)
    · replace h := h.1 hc426
      refine wpC_seq ?_
      refine wpC_region ?_
      refine wpR_val (v := (Value.bool false)) (w' := w20) rfl rfl rfl (x_assign (v := (Value.bool false)) rfl rfl) ?_
      refine wpR_nil ?_
      refine wpC_ret ?_
      exact ⟨.inl rfl, fun a ha => ⟨_, results_rep1 rfl ha rfl, false, rfl, h⟩⟩
    · replace h := h.2 hc426
      refine wpC_skip ?_
      refine wpC_seq ?_
      refine wpC_region ?_
      obtain ⟨x427, q427, x428, q428, x429, q429, x430, q430, x431, q431, x432, q432, x433, q433, x434, q434, x435, q435, x436, q436, x437, q437, x438, q438, x439, q439, x440, q440, x441, q441, x442, q442, x443, q443, x444, q444, x445, q445, x446, q446, x447, q447, x448, q448, h⟩ := h
      refine wpR_val (v := (V23 x427 x428 x429 x430 x431 x432 x433 x434 x435 x436 x437 x438 x439 x440 x441 x442 x443 x444 x445 x446 x447 x448)) (w' := w20) rfl rfl rfl (x_loadN (S23 x427 x428 x429 x430 x431 x432 x433 x434 x435 x436 x437 x438 x439 x440 x441 x442 x443 x444 x445 x446 x447 x448) rfl e5 SH_24 (K23 ⟨q427, q428, q429, q430, q431, q432, q433, q434, q435, q436, q437, q438, q439, q440, q441, q442, q443, q444, q445, q446, q447, q448⟩)) ?_
      obtain ⟨x449, q449, x450, q450, x451, q451, x452, q452, x453, q453, x454, q454, x455, q455, x456, q456, x457, q457, x458, q458, x459, q459, x460, q460, x461, q461, x462, q462, x463, q463, x464, q464, x465, q465, x466, q466, x467, q467, x468, q468, x469, q469, x470, q470, h⟩ := h
      refine wpR_val (v := (V23 x449 x450 x451 x452 x453 x454 x455 x456 x457 x458 x459 x460 x461 x462 x463 x464 x465 x466 x467 x468 x469 x470)) (w' := w20) rfl rfl rfl (x_loadN (S23 x449 x450 x451 x452 x453 x454 x455 x456 x457 x458 x459 x460 x461 x462 x463 x464 x465 x466 x467 x468 x469 x470) rfl e3 SH_24 (K23 ⟨q449, q450, q451, q452, q453, q454, q455, q456, q457, q458, q459, q460, q461, q462, q463, q464, q465, q466, q467, q468, q469, q470⟩)) ?_
      refine wpR_enter rfl rfl rfl (x_call (vs := [(V23 x427 x428 x429 x430 x431 x432 x433 x434 x435 x436 x437 x438 x439 x440 x441 x442 x443 x444 x445 x446 x447 x448), (V23 x449 x450 x451 x452 x453 x454 x455 x456 x457 x458 x459 x460 x461 x462 x463 x464 x465 x466 x467 x468 x469 x470)]) rfl rfl (mapl_cons rfl (mapl_cons rfl mapl_nil)) Try.func12 NN_12 NB_12) (Calls.mono h ?_)
      rintro _ w21 ⟨r471, rfl, h⟩
      refine ⟨_, rfl, ?_⟩
      refine wpR_val (v := (Value.bool r471)) (w' := w21) rfl rfl rfl (x_move (v := (Value.bool r471)) rfl rfl) ?_
      obtain ⟨J472, h, hk⟩ := h
      refine wpR_joinJ 4 (fun x ρ => ρ 61 = Value.bool x ∧ ρ 3 = (Value.pointer (some (Addr.mk b1 0 none))) ∧ ρ 4 = (Value.pointer (some (Addr.mk b2 0 none))) ∧ ρ 5 = (Value.pointer (some (Addr.mk b3 0 none))) ∧ ρ 7 = (Value.bool r4) ∧ ρ 8 = (Value.pointer (some (Addr.mk b188 0 none))) ∧ ρ 9 = (Value.pointer (some (Addr.mk b235 0 none))) ∧ True) (J472) ?_ ?_
      · clear hk
        rcases Bool.eq_false_or_eq_true (r471) with hc473 | hc473
        · replace h := h.1 hc473
          obtain ⟨x474, q474, x475, q475, x476, q476, x477, q477, x478, q478, x479, q479, x480, q480, x481, q481, x482, q482, x483, q483, x484, q484, x485, q485, x486, q486, x487, q487, x488, q488, x489, q489, x490, q490, x491, q491, x492, q492, x493, q493, x494, q494, x495, q495, h⟩ := h
          refine wpR_val (v := (V23 x474 x475 x476 x477 x478 x479 x480 x481 x482 x483 x484 x485 x486 x487 x488 x489 x490 x491 x492 x493 x494 x495)) (w' := w21) (wantG rfl rfl rfl hc473) rfl rfl (x_loadN (S23 x474 x475 x476 x477 x478 x479 x480 x481 x482 x483 x484 x485 x486 x487 x488 x489 x490 x491 x492 x493 x494 x495) rfl e5 SH_24 (K23 ⟨q474, q475, q476, q477, q478, q479, q480, q481, q482, q483, q484, q485, q486, q487, q488, q489, q490, q491, q492, q493, q494, q495⟩)) ?_
          obtain ⟨x496, q496, x497, q497, x498, q498, x499, q499, x500, q500, x501, q501, x502, q502, x503, q503, x504, q504, x505, q505, x506, q506, x507, q507, x508, q508, x509, q509, x510, q510, x511, q511, x512, q512, x513, q513, x514, q514, x515, q515, x516, q516, x517, q517, h⟩ := h
          refine wpR_val (v := (V23 x496 x497 x498 x499 x500 x501 x502 x503 x504 x505 x506 x507 x508 x509 x510 x511 x512 x513 x514 x515 x516 x517)) (w' := w21) (wantG rfl rfl rfl hc473) rfl rfl (x_loadN (S23 x496 x497 x498 x499 x500 x501 x502 x503 x504 x505 x506 x507 x508 x509 x510 x511 x512 x513 x514 x515 x516 x517) rfl e4 SH_24 (K23 ⟨q496, q497, q498, q499, q500, q501, q502, q503, q504, q505, q506, q507, q508, q509, q510, q511, q512, q513, q514, q515, q516, q517⟩)) ?_
          refine wpR_enter (wantG rfl rfl rfl hc473) rfl rfl (x_call (vs := [(V23 x474 x475 x476 x477 x478 x479 x480 x481 x482 x483 x484 x485 x486 x487 x488 x489 x490 x491 x492 x493 x494 x495), (V23 x496 x497 x498 x499 x500 x501 x502 x503 x504 x505 x506 x507 x508 x509 x510 x511 x512 x513 x514 x515 x516 x517)]) rfl rfl (mapl_cons rfl (mapl_cons rfl mapl_nil)) Try.func12 NN_12 NB_12) (Calls.mono h ?_)
          rintro _ w22 ⟨r518, rfl, h⟩
          refine ⟨_, rfl, ?_⟩
          refine wpR_val (v := (Value.bool r518)) (w' := w22) rfl rfl rfl (x_pickT (v := (Value.bool r518)) rfl rfl hc473 rfl) ?_
          refine wpR_nil ?_
          exact ⟨r518, ⟨rfl, e3, e4, e5, e7, e8, e9, trivial⟩, h⟩
        · replace h := h.2 hc473
          refine wpR_pass (wantN rfl rfl rfl hc473) rfl rfl ?_
          refine wpR_pass (wantN rfl rfl rfl hc473) rfl rfl ?_
          refine wpR_pass (wantN rfl rfl rfl hc473) rfl rfl ?_
          refine wpR_val (v := (Value.bool false)) (w' := w21) rfl rfl rfl (x_pickF (v := (Value.bool false)) rfl rfl hc473 rfl) ?_
          refine wpR_nil ?_
          exact ⟨false, ⟨rfl, e3, e4, e5, e7, e8, e9, trivial⟩, h⟩
      clear h
      rintro c519 ρ w23 ⟨e61, e3, e4, e5, e7, e8, e9, -⟩ h
      replace h := hk c519 w23 h
      clear hk
      refine wpR_val (v := (Value.bool c519)) (w' := w23) rfl rfl rfl (x_assign (v := (Value.bool c519)) rfl e61) ?_
      refine wpR_nil ?_
      refine wpC_seq ?_
      refine wpC_cut (fun ρ => ρ 3 = (Value.pointer (some (Addr.mk b1 0 none))) ∧ ρ 4 = (Value.pointer (some (Addr.mk b2 0 none))) ∧ ρ 5 = (Value.pointer (some (Addr.mk b3 0 none))) ∧ ρ 7 = (Value.bool r4) ∧ ρ 8 = (Value.pointer (some (Addr.mk b188 0 none))) ∧ ρ 9 = (Value.pointer (some (Addr.mk b235 0 none))) ∧ ρ 10 = (Value.bool c519) ∧ True) ⟨e3, e4, e5, e7, e8, e9, rfl, trivial⟩ ?_
      rintro ρ ⟨e3, e4, e5, e7, e8, e9, e10, -⟩
      refine wpC_region ?_
      obtain ⟨x520, q520, x521, q521, x522, q522, x523, q523, x524, q524, x525, q525, x526, q526, x527, q527, x528, q528, x529, q529, x530, q530, x531, q531, x532, q532, x533, q533, x534, q534, x535, q535, x536, q536, x537, q537, x538, q538, x539, q539, x540, q540, x541, q541, h⟩ := h
      refine wpR_val (v := (V23 x520 x521 x522 x523 x524 x525 x526 x527 x528 x529 x530 x531 x532 x533 x534 x535 x536 x537 x538 x539 x540 x541)) (w' := w23) rfl rfl rfl (x_loadN (S23 x520 x521 x522 x523 x524 x525 x526 x527 x528 x529 x530 x531 x532 x533 x534 x535 x536 x537 x538 x539 x540 x541) rfl e3 SH_24 (K23 ⟨q520, q521, q522, q523, q524, q525, q526, q527, q528, q529, q530, q531, q532, q533, q534, q535, q536, q537, q538, q539, q540, q541⟩)) ?_
      obtain ⟨x542, q542, x543, q543, x544, q544, x545, q545, x546, q546, x547, q547, x548, q548, x549, q549, x550, q550, x551, q551, x552, q552, x553, q553, x554, q554, x555, q555, x556, q556, x557, q557, x558, q558, x559, q559, x560, q560, x561, q561, x562, q562, x563, q563, h⟩ := h
      refine wpR_val (v := (V23 x542 x543 x544 x545 x546 x547 x548 x549 x550 x551 x552 x553 x554 x555 x556 x557 x558 x559 x560 x561 x562 x563)) (w' := w23) rfl rfl rfl (x_loadN (S23 x542 x543 x544 x545 x546 x547 x548 x549 x550 x551 x552 x553 x554 x555 x556 x557 x558 x559 x560 x561 x562 x563) rfl e5 SH_24 (K23 ⟨q542, q543, q544, q545, q546, q547, q548, q549, q550, q551, q552, q553, q554, q555, q556, q557, q558, q559, q560, q561, q562, q563⟩)) ?_
      refine wpR_enter rfl rfl rfl (x_call (vs := [(V23 x520 x521 x522 x523 x524 x525 x526 x527 x528 x529 x530 x531 x532 x533 x534 x535 x536 x537 x538 x539 x540 x541), (V23 x542 x543 x544 x545 x546 x547 x548 x549 x550 x551 x552 x553 x554 x555 x556 x557 x558 x559 x560 x561 x562 x563)]) rfl rfl (mapl_cons rfl (mapl_cons rfl mapl_nil)) Try.func12 NN_12 NB_12) (Calls.mono h ?_)
      rintro _ w24 ⟨r564, rfl, h⟩
      refine ⟨_, rfl, ?_⟩
      refine wpR_val (v := (Value.bool r564)) (w' := w24) rfl rfl rfl (x_move (v := (Value.bool r564)) rfl rfl) ?_
      obtain ⟨J565, h, hk⟩ := h
      refine wpR_joinJ 4 (fun x ρ => ρ 69 = Value.bool x ∧ ρ 5 = (Value.pointer (some (Addr.mk b3 0 none))) ∧ ρ 7 = (Value.bool r4) ∧ ρ 8 = (Value.pointer (some (Addr.mk b188 0 none))) ∧ ρ 9 = (Value.pointer (some (Addr.mk b235 0 none))) ∧ ρ 10 = (Value.bool c519) ∧ True) (J565) ?_ ?_
      · clear hk
        rcases Bool.eq_false_or_eq_true (r564) with hc566 | hc566
        · replace h := h.1 hc566
          obtain ⟨x567, q567, x568, q568, x569, q569, x570, q570, x571, q571, x572, q572, x573, q573, x574, q574, x575, q575, x576, q576, x577, q577, x578, q578, x579, q579, x580, q580, x581, q581, x582, q582, x583, q583, x584, q584, x585, q585, x586, q586, x587, q587, x588, q588, h⟩ := h
          refine wpR_val (v := (V23 x567 x568 x569 x570 x571 x572 x573 x574 x575 x576 x577 x578 x579 x580 x581 x582 x583 x584 x585 x586 x587 x588)) (w' := w24) (wantG rfl rfl rfl hc566) rfl rfl (x_loadN (S23 x567 x568 x569 x570 x571 x572 x573 x574 x575 x576 x577 x578 x579 x580 x581 x582 x583 x584 x585 x586 x587 x588) rfl e4 SH_24 (K23 ⟨q567, q568, q569, q570, q571, q572, q573, q574, q575, q576, q577, q578, q579, q580, q581, q582, q583, q584, q585, q586, q587, q588⟩)) ?_
          obtain ⟨x589, q589, x590, q590, x591, q591, x592, q592, x593, q593, x594, q594, x595, q595, x596, q596, x597, q597, x598, q598, x599, q599, x600, q600, x601, q601, x602, q602, x603, q603, x604, q604, x605, q605, x606, q606, x607, q607, x608, q608, x609, q609, x610, q610, h⟩ := h
          refine wpR_val (v := (V23 x589 x590 x591 x592 x593 x594 x595 x596 x597 x598 x599 x600 x601 x602 x603 x604 x605 x606 x607 x608 x609 x610)) (w' := w24) (wantG rfl rfl rfl hc566) rfl rfl (x_loadN (S23 x589 x590 x591 x592 x593 x594 x595 x596 x597 x598 x599 x600 x601 x602 x603 x604 x605 x606 x607 x608 x609 x610) rfl e5 SH_24 (K23 ⟨q589, q590, q591, q592, q593, q594, q595, q596, q597, q598, q599, q600, q601, q602, q603, q604, q605, q606, q607, q608, q609, q610⟩)) ?_
          refine wpR_enter (wantG rfl rfl rfl hc566) rfl rfl (x_call (vs := [(V23 x567 x568 x569 x570 x571 x572 x573 x574 x575 x576 x577 x578 x579 x580 x581 x582 x583 x584 x585 x586 x587 x588), (V23 x589 x590 x591 x592 x593 x594 x595 x596 x597 x598 x599 x600 x601 x602 x603 x604 x605 x606 x607 x608 x609 x610)]) rfl rfl (mapl_cons rfl (mapl_cons rfl mapl_nil)) Try.func12 NN_12 NB_12) (Calls.mono h ?_)
          rintro _ w25 ⟨r611, rfl, h⟩
          refine ⟨_, rfl, ?_⟩
          refine wpR_val (v := (Value.bool r611)) (w' := w25) rfl rfl rfl (x_pickT (v := (Value.bool r611)) rfl rfl hc566 rfl) ?_
          refine wpR_nil ?_
          exact ⟨r611, ⟨rfl, e5, e7, e8, e9, e10, trivial⟩, h⟩
        · replace h := h.2 hc566
          refine wpR_pass (wantN rfl rfl rfl hc566) rfl rfl ?_
          refine wpR_pass (wantN rfl rfl rfl hc566) rfl rfl ?_
          refine wpR_pass (wantN rfl rfl rfl hc566) rfl rfl ?_
          refine wpR_val (v := (Value.bool false)) (w' := w24) rfl rfl rfl (x_pickF (v := (Value.bool false)) rfl rfl hc566 rfl) ?_
          refine wpR_nil ?_
          exact ⟨false, ⟨rfl, e5, e7, e8, e9, e10, trivial⟩, h⟩
      clear h
      rintro c612 ρ w26 ⟨e69, e5, e7, e8, e9, e10, -⟩ h
      replace h := hk c612 w26 h
      clear hk
      refine wpR_val (v := (Value.bool c612)) (w' := w26) rfl rfl rfl (x_assign (v := (Value.bool c612)) rfl e69) ?_
      refine wpR_nil ?_
      refine wpC_seq ?_
      refine wpC_cut (fun ρ => ρ 5 = (Value.pointer (some (Addr.mk b3 0 none))) ∧ ρ 7 = (Value.bool r4) ∧ ρ 8 = (Value.pointer (some (Addr.mk b188 0 none))) ∧ ρ 9 = (Value.pointer (some (Addr.mk b235 0 none))) ∧ ρ 10 = (Value.bool c519) ∧ ρ 11 = (Value.bool c612) ∧ True) ⟨e5, e7, e8, e9, e10, rfl, trivial⟩ ?_
      rintro ρ ⟨e5, e7, e8, e9, e10, e11, -⟩
      refine wpC_region ?_
      refine wpR_val (v := (Value.bool r4)) (w' := w26) rfl rfl rfl (x_move (v := (Value.bool r4)) rfl e7) ?_
      refine wpR_val (v := (Value.bool r4)) (w' := w26) rfl rfl rfl (x_move (v := (Value.bool r4)) rfl rfl) ?_
      obtain ⟨J613, h, hk⟩ := h
      refine wpR_joinJ 6 (fun x ρ => ρ 77 = Value.bool x ∧ ρ 5 = (Value.pointer (some (Addr.mk b3 0 none))) ∧ ρ 9 = (Value.pointer (some (Addr.mk b235 0 none))) ∧ ρ 11 = (Value.bool c612) ∧ True) (J613) ?_ ?_
      · clear hk
        rcases Bool.eq_false_or_eq_true (r4) with hc614 | hc614
        · replace h := h.1 hc614
          obtain ⟨x615, q615, x616, q616, x617, q617, x618, q618, x619, q619, x620, q620, x621, q621, x622, q622, x623, q623, x624, q624, x625, q625, x626, q626, x627, q627, x628, q628, x629, q629, x630, q630, x631, q631, x632, q632, x633, q633, x634, q634, x635, q635, x636, q636, h⟩ := h
          refine wpR_val (v := (V23 x615 x616 x617 x618 x619 x620 x621 x622 x623 x624 x625 x626 x627 x628 x629 x630 x631 x632 x633 x634 x635 x636)) (w' := w26) (wantG rfl rfl rfl hc614) rfl rfl (x_loadN (S23 x615 x616 x617 x618 x619 x620 x621 x622 x623 x624 x625 x626 x627 x628 x629 x630 x631 x632 x633 x634 x635 x636) rfl e5 SH_24 (K23 ⟨q615, q616, q617, q618, q619, q620, q621, q622, q623, q624, q625, q626, q627, q628, q629, q630, q631, q632, q633, q634, q635, q636⟩)) ?_
          obtain ⟨x637, q637, x638, q638, x639, q639, x640, q640, x641, q641, x642, q642, x643, q643, x644, q644, x645, q645, x646, q646, x647, q647, x648, q648, x649, q649, x650, q650, x651, q651, x652, q652, x653, q653, x654, q654, x655, q655, x656, q656, x657, q657, x658, q658, h⟩ := h
          refine wpR_val (v := (V23 x637 x638 x639 x640 x641 x642 x643 x644 x645 x646 x647 x648 x649 x650 x651 x652 x653 x654 x655 x656 x657 x658)) (w' := w26) (wantG rfl rfl rfl hc614) rfl rfl (x_loadN (S23 x637 x638 x639 x640 x641 x642 x643 x644 x645 x646 x647 x648 x649 x650 x651 x652 x653 x654 x655 x656 x657 x658) rfl e8 SH_24 (K23 ⟨q637, q638, q639, q640, q641, q642, q643, q644, q645, q646, q647, q648, q649, q650, q651, q652, q653, q654, q655, q656, q657, q658⟩)) ?_
          refine wpR_enter (wantG rfl rfl rfl hc614) rfl rfl (x_call (vs := [(V23 x615 x616 x617 x618 x619 x620 x621 x622 x623 x624 x625 x626 x627 x628 x629 x630 x631 x632 x633 x634 x635 x636), (V23 x637 x638 x639 x640 x641 x642 x643 x644 x645 x646 x647 x648 x649 x650 x651 x652 x653 x654 x655 x656 x657 x658)]) rfl rfl (mapl_cons rfl (mapl_cons rfl mapl_nil)) Try.func12 NN_12 NB_12) (Calls.mono h ?_)
          rintro _ w27 ⟨r659, rfl, h⟩
          refine ⟨_, rfl, ?_⟩
          refine wpR_val (v := (Value.bool c519)) (w' := w27) (wantG rfl rfl rfl hc614) rfl rfl (x_move (v := (Value.bool c519)) rfl e10) ?_
          refine wpR_val (v := (Value.bool (r659 == c519))) (w' := w27) (wantG rfl rfl rfl hc614) rfl rfl (x_eqlB rfl rfl rfl isBoolT_4) ?_
          refine wpR_val (v := (Value.bool (r659 == c519))) (w' := w27) rfl rfl rfl (x_pickT (v := (Value.bool (r659 == c519))) rfl rfl hc614 rfl) ?_
          refine wpR_nil ?_
          exact ⟨r659 == c519, ⟨rfl, e5, e9, e11, trivial⟩, h⟩
        · replace h := h.2 hc614
          refine wpR_pass (wantN rfl rfl rfl hc614) rfl rfl ?_
          refine wpR_pass (wantN rfl rfl rfl hc614) rfl rfl ?_
          refine wpR_pass (wantN rfl rfl rfl hc614) rfl rfl ?_
          refine wpR_pass (wantN rfl rfl rfl hc614) rfl rfl ?_
          refine wpR_pass (wantN rfl rfl rfl hc614) rfl rfl ?_
          refine wpR_val (v := (Value.bool false)) (w' := w26) rfl rfl rfl (x_pickF (v := (Value.bool false)) rfl rfl hc614 rfl) ?_
          refine wpR_nil ?_
          exact ⟨false, ⟨rfl, e5, e9, e11, trivial⟩, h⟩
      clear h
      rintro c660 ρ w28 ⟨e77, e5, e9, e11, -⟩ h
      replace h := hk c660 w28 h
      clear hk
      refine wpR_val (v := (Value.bool c660)) (w' := w28) rfl rfl rfl (x_move (v := (Value.bool c660)) rfl e77) ?_
      obtain ⟨J661, h, hk⟩ := h
      refine wpR_joinJ 6 (fun x ρ => ρ 84 = Value.bool x ∧ True) (J661) ?_ ?_
      · clear hk
        rcases Bool.eq_false_or_eq_true (c660) with hc662 | hc662
        · replace h := h.1 hc662
          obtain ⟨x663, q663, x664, q664, x665, q665, x666, q666, x667, q667, x668, q668, x669, q669, x670, q670, x671, q671, x672, q672, x673, q673, x674, q674, x675, q675, x676, q676, x677, q677, x678, q678, x679, q679, x680, q680, x681, q681, x682, q682, x683, q683, x684, q684, h⟩ := h
          refine wpR_val (v := (V23 x663 x664 x665 x666 x667 x668 x669 x670 x671 x672 x673 x674 x675 x676 x677 x678 x679 x680 x681 x682 x683 x684)) (w' := w28) (wantG rfl rfl rfl hc662) rfl rfl (x_loadN (S23 x663 x664 x665 x666 x667 x668 x669 x670 x671 x672 x673 x674 x675 x676 x677 x678 x679 x680 x681 x682 x683 x684) rfl e9 SH_24 (K23 ⟨q663, q664, q665, q666, q667, q668, q669, q670, q671, q672, q673, q674, q675, q676, q677, q678, q679, q680, q681, q682, q683, q684⟩)) ?_
          obtain ⟨x685, q685, x686, q686, x687, q687, x688, q688, x689, q689, x690, q690, x691, q691, x692, q692, x693, q693, x694, q694, x695, q695, x696, q696, x697, q697, x698, q698, x699, q699, x700, q700, x701, q701, x702, q702, x703, q703, x704, q704, x705, q705, x706, q706, h⟩ := h
          refine wpR_val (v := (V23 x685 x686 x687 x688 x689 x690 x691 x692 x693 x694 x695 x696 x697 x698 x699 x700 x701 x702 x703 x704 x705 x706)) (w' := w28) (wantG rfl rfl rfl hc662) rfl rfl (x_loadN (S23 x685 x686 x687 x688 x689 x690 x691 x692 x693 x694 x695 x696 x697 x698 x699 x700 x701 x702 x703 x704 x705 x706) rfl e5 SH_24 (K23 ⟨q685, q686, q687, q688, q689, q690, q691, q692, q693, q694, q695, q696, q697, q698, q699, q700, q701, q702, q703, q704, q705, q706⟩)) ?_
          refine wpR_enter (wantG rfl rfl rfl hc662) rfl rfl (x_call (vs := [(V23 x663 x664 x665 x666 x667 x668 x669 x670 x671 x672 x673 x674 x675 x676 x677 x678 x679 x680 x681 x682 x683 x684), (V23 x685 x686 x687 x688 x689 x690 x691 x692 x693 x694 x695 x696 x697 x698 x699 x700 x701 x702 x703 x704 x705 x706)]) rfl rfl (mapl_cons rfl (mapl_cons rfl mapl_nil)) Try.func12 NN_12 NB_12) (Calls.mono h ?_)
          rintro _ w29 ⟨r707, rfl, h⟩
          refine ⟨_, rfl, ?_⟩
          refine wpR_val (v := (Value.bool c612)) (w' := w29) (wantG rfl rfl rfl hc662) rfl rfl (x_move (v := (Value.bool c612)) rfl e11) ?_
          refine wpR_val (v := (Value.bool (r707 == c612))) (w' := w29) (wantG rfl rfl rfl hc662) rfl rfl (x_eqlB rfl rfl rfl isBoolT_4) ?_
          refine wpR_val (v := (Value.bool (r707 == c612))) (w' := w29) rfl rfl rfl (x_pickT (v := (Value.bool (r707 == c612))) rfl rfl hc662 rfl) ?_
          refine wpR_nil ?_
          exact ⟨r707 == c612, ⟨rfl, trivial⟩, h⟩
        · replace h := h.2 hc662
          refine wpR_pass (wantN rfl rfl rfl hc662) rfl rfl ?_
          refine wpR_pass (wantN rfl rfl rfl hc662) rfl rfl ?_
          refine wpR_pass (wantN rfl rfl rfl hc662) rfl rfl ?_
          refine wpR_pass (wantN rfl rfl rfl hc662) rfl rfl ?_
          refine wpR_pass (wantN rfl rfl rfl hc662) rfl rfl ?_
          refine wpR_val (v := (Value.bool false)) (w' := w28) rfl rfl rfl (x_pickF (v := (Value.bool false)) rfl rfl hc662 rfl) ?_
          refine wpR_nil ?_
          exact ⟨false, ⟨rfl, trivial⟩, h⟩
      clear h
      rintro c708 ρ w30 ⟨e84, -⟩ h
      replace h := hk c708 w30 h
      clear hk
      refine wpR_val (v := (Value.bool c708)) (w' := w30) rfl rfl rfl (x_assign (v := (Value.bool c708)) rfl e84) ?_
      refine wpR_nil ?_
      refine wpC_ret ?_
      exact ⟨.inl rfl, fun a ha => ⟨_, results_rep1 rfl ha rfl, c708, rfl, h⟩⟩

/-- lingualaw13.ProfileOrder -/
def F5 (p0_0 : ByteArray) (p0_1 : Int) (p0_2 : Int) (p0_3 : Int) (p0_4 : Bool) (p0_5 : Int) (p0_6 : Bool) (p0_7 : Bool) (p0_8 : Int) (p0_9 : Int) (p0_10 : Int) (p0_11 : Int) (p0_12 : Sl) (p0_13 : Int) (p0_14 : Int) (p0_15 : Int) (p0_16 : Int) (p0_17 : Bool) (p0_18 : Int) (p0_19 : Int) (p0_20 : Int) (p0_21 : Int) (p1_0 : ByteArray) (p1_1 : Int) (p1_2 : Int) (p1_3 : Int) (p1_4 : Bool) (p1_5 : Int) (p1_6 : Bool) (p1_7 : Bool) (p1_8 : Int) (p1_9 : Int) (p1_10 : Int) (p1_11 : Int) (p1_12 : Sl) (p1_13 : Int) (p1_14 : Int) (p1_15 : Int) (p1_16 : Int) (p1_17 : Bool) (p1_18 : Int) (p1_19 : Int) (p1_20 : Int) (p1_21 : Int) (p2_0 : ByteArray) (p2_1 : Int) (p2_2 : Int) (p2_3 : Int) (p2_4 : Bool) (p2_5 : Int) (p2_6 : Bool) (p2_7 : Bool) (p2_8 : Int) (p2_9 : Int) (p2_10 : Int) (p2_11 : Int) (p2_12 : Sl) (p2_13 : Int) (p2_14 : Int) (p2_15 : Int) (p2_16 : Int) (p2_17 : Bool) (p2_18 : Int) (p2_19 : Int) (p2_20 : Int) (p2_21 : Int) (w0 : World) (K : Bool → World → Prop) : Prop :=
  nw 24 (A23 p0_0 p0_1 p0_2 p0_3 p0_4 p0_5 p0_6 p0_7 p0_8 p0_9 p0_10 p0_11 p0_12 p0_13 p0_14 p0_15 p0_16 p0_17 p0_18 p0_19 p0_20 p0_21) w0 fun b1 w1 =>
  nw 24 (A23 p1_0 p1_1 p1_2 p1_3 p1_4 p1_5 p1_6 p1_7 p1_8 p1_9 p1_10 p1_11 p1_12 p1_13 p1_14 p1_15 p1_16 p1_17 p1_18 p1_19 p1_20 p1_21) w1 fun b2 w2 =>
  nw 24 (A23 p2_0 p2_1 p2_2 p2_3 p2_4 p2_5 p2_6 p2_7 p2_8 p2_9 p2_10 p2_11 p2_12 p2_13 p2_14 p2_15 p2_16 p2_17 p2_18 p2_19 p2_20 p2_21) w2 fun b3 w3 =>
  callC Try.prog 8 #[] (fun (r : Bool) => (Value.bool r)) w3 fun r4 w4 =>
  L23 (Addr.mk b1 0 none) w4 fun x5 x6 x7 x8 x9 x10 x11 x12 x13 x14 x15 x16 x17 x18 x19 x20 x21 x22 x23 x24 x25 x26 =>
  L23 (Addr.mk b2 0 none) w4 fun x27 x28 x29 x30 x31 x32 x33 x34 x35 x36 x37 x38 x39 x40 x41 x42 x43 x44 x45 x46 x47 x48 =>
  L23 (Addr.mk b3 0 none) w4 fun x49 x50 x51 x52 x53 x54 x55 x56 x57 x58 x59 x60 x61 x62 x63 x64 x65 x66 x67 x68 x69 x70 =>
  callC Try.prog 9 #[(V23 x5 x6 x7 x8 x9 x10 x11 x12 x13 x14 x15 x16 x17 x18 x19 x20 x21 x22 x23 x24 x25 x26), (V23 x27 x28 x29 x30 x31 x32 x33 x34 x35 x36 x37 x38 x39 x40 x41 x42 x43 x44 x45 x46 x47 x48), (V23 x49 x50 x51 x52 x53 x54 x55 x56 x57 x58 x59 x60 x61 x62 x63 x64 x65 x66 x67 x68 x69 x70)] (fun (r : Bool) => (Value.bool r)) w4 fun r71 w5 =>
  jn (fun J72 => cnd (!r71)
    (
    J72 true w5
    )
    (
    L23 (Addr.mk b1 0 none) w5 fun x74 x75 x76 x77 x78 x79 x80 x81 x82 x83 x84 x85 x86 x87 x88 x89 x90 x91 x92 x93 x94 x95 =>
    L23 (Addr.mk b2 0 none) w5 fun x96 x97 x98 x99 x100 x101 x102 x103 x104 x105 x106 x107 x108 x109 x110 x111 x112 x113 x114 x115 x116 x117 =>
    L23 (Addr.mk b3 0 none) w5 fun x118 x119 x120 x121 x122 x123 x124 x125 x126 x127 x128 x129 x130 x131 x132 x133 x134 x135 x136 x137 x138 x139 =>
    callC Try.prog 19 #[(V23 x74 x75 x76 x77 x78 x79 x80 x81 x82 x83 x84 x85 x86 x87 x88 x89 x90 x91 x92 x93 x94 x95), (V23 x96 x97 x98 x99 x100 x101 x102 x103 x104 x105 x106 x107 x108 x109 x110 x111 x112 x113 x114 x115 x116 x117), (V23 x118 x119 x120 x121 x122 x123 x124 x125 x126 x127 x128 x129 x130 x131 x132 x133 x134 x135 x136 x137 x138 x139)] (fun (r : Bool) => (Value.bool r)) w5 fun r140 w6 =>
    J72 (!r140) w6
    ))
  fun c141 w7 =>
  cnd (c141)
    (
    K r4 w7
    )
    (
    L23 (Addr.mk b1 0 none) w7 fun x143 x144 x145 x146 x147 x148 x149 x150 x151 x152 x153 x154 x155 x156 x157 x158 x159 x160 x161 x162 x163 x164 =>
    L23 (Addr.mk b1 0 none) w7 fun x165 x166 x167 x168 x169 x170 x171 x172 x173 x174 x175 x176 x177 x178 x179 x180 x181 x182 x183 x184 x185 x186 =>
    callC Try.prog 12 #[(V23 x143 x144 x145 x146 x147 x148 x149 x150 x151 x152 x153 x154 x155 x156 x157 x158 x159 x160 x161 x162 x163 x164), (V23 x165 x166 x167 x168 x169 x170 x171 x172 x173 x174 x175 x176 x177 x178 x179 x180 x181 x182 x183 x184 x185 x186)] (fun (r : Bool) => (Value.bool r)) w7 fun r187 w8 =>
    jn (fun J188 => cnd (!r187)
      (
      J188 true w8
      )
      (
      L23 (Addr.mk b1 0 none) w8 fun x190 x191 x192 x193 x194 x195 x196 x197 x198 x199 x200 x201 x202 x203 x204 x205 x206 x207 x208 x209 x210 x211 =>
      L23 (Addr.mk b2 0 none) w8 fun x212 x213 x214 x215 x216 x217 x218 x219 x220 x221 x222 x223 x224 x225 x226 x227 x228 x229 x230 x231 x232 x233 =>
      callC Try.prog 12 #[(V23 x190 x191 x192 x193 x194 x195 x196 x197 x198 x199 x200 x201 x202 x203 x204 x205 x206 x207 x208 x209 x210 x211), (V23 x212 x213 x214 x215 x216 x217 x218 x219 x220 x221 x222 x223 x224 x225 x226 x227 x228 x229 x230 x231 x232 x233)] (fun (r : Bool) => (Value.bool r)) w8 fun r234 w9 =>
      jn (fun J235 => cnd (r234)
        (
        L23 (Addr.mk b2 0 none) w9 fun x237 x238 x239 x240 x241 x242 x243 x244 x245 x246 x247 x248 x249 x250 x251 x252 x253 x254 x255 x256 x257 x258 =>
        L23 (Addr.mk b3 0 none) w9 fun x259 x260 x261 x262 x263 x264 x265 x266 x267 x268 x269 x270 x271 x272 x273 x274 x275 x276 x277 x278 x279 x280 =>
        callC Try.prog 12 #[(V23 x237 x238 x239 x240 x241 x242 x243 x244 x245 x246 x247 x248 x249 x250 x251 x252 x253 x254 x255 x256 x257 x258), (V23 x259 x260 x261 x262 x263 x264 x265 x266 x267 x268 x269 x270 x271 x272 x273 x274 x275 x276 x277 x278 x279 x280)] (fun (r : Bool) => (Value.bool r)) w9 fun r281 w10 =>
        J235 r281 w10
        )
        (
        J235 false w9
        ))
      fun c282 w11 =>
      jn (fun J283 => cnd (c282)
        (
        L23 (Addr.mk b1 0 none) w11 fun x285 x286 x287 x288 x289 x290 x291 x292 x293 x294 x295 x296 x297 x298 x299 x300 x301 x302 x303 x304 x305 x306 =>
        L23 (Addr.mk b3 0 none) w11 fun x307 x308 x309 x310 x311 x312 x313 x314 x315 x316 x317 x318 x319 x320 x321 x322 x323 x324 x325 x326 x327 x328 =>
        callC Try.prog 12 #[(V23 x285 x286 x287 x288 x289 x290 x291 x292 x293 x294 x295 x296 x297 x298 x299 x300 x301 x302 x303 x304 x305 x306), (V23 x307 x308 x309 x310 x311 x312 x313 x314 x315 x316 x317 x318 x319 x320 x321 x322 x323 x324 x325 x326 x327 x328)] (fun (r : Bool) => (Value.bool r)) w11 fun r329 w12 =>
        J283 (!r329) w12
        )
        (
        J283 false w11
        ))
      fun c330 w13 =>
      J188 c330 w13
      ))
    fun c331 w14 =>
    cnd (c331)
      (
      K false w14
      )
      (
      jn (fun (J334 : Bool → World → Prop) => tk w14 fun w15 =>
        cnd (r4)
          (
          L23 (Addr.mk b1 0 none) w15 fun x336 x337 x338 x339 x340 x341 x342 x343 x344 x345 x346 x347 x348 x349 x350 x351 x352 x353 x354 x355 x356 x357 =>
          L23 (Addr.mk b2 0 none) w15 fun x358 x359 x360 x361 x362 x363 x364 x365 x366 x367 x368 x369 x370 x371 x372 x373 x374 x375 x376 x377 x378 x379 =>
          L23 (Addr.mk b1 0 none) w15 fun x380 x381 x382 x383 x384 x385 x386 x387 x388 x389 x390 x391 x392 x393 x394 x395 x396 x397 x398 x399 x400 x401 =>
          L23 (Addr.mk b2 0 none) w15 fun x402 x403 x404 x405 x406 x407 x408 x409 x410 x411 x412 x413 x414 x415 x416 x417 x418 x419 x420 x421 x422 x423 =>
          callC Try.prog 12 #[(V23 x336 x337 x338 x339 x340 x341 x342 x343 x344 x345 x346 x347 x348 x349 x350 x351 x352 x353 x354 x355 x356 x357), (V23 x358 x359 x360 x361 x362 x363 x364 x365 x366 x367 x368 x369 x370 x371 x372 x373 x374 x375 x376 x377 x378 x379)] (fun (r : Bool) => (Value.bool r)) w15 fun r424 w16 =>
          (C23 (Addr.mk b2 0 none) x402 x403 x404 x405 x406 x407 x408 x409 x410 x411 x412 x413 x414 x415 x416 x417 x418 x419 x420 x421 x422 x423 w16) ∧
          (C23 (Addr.mk b1 0 none) x380 x381 x382 x383 x384 x385 x386 x387 x388 x389 x390 x391 x392 x393 x394 x395 x396 x397 x398 x399 x400 x401 w16) ∧
          cnd (r424)
            (
            L23 (Addr.mk b2 0 none) w16 fun x426 x427 x428 x429 x430 x431 x432 x433 x434 x435 x436 x437 x438 x439 x440 x441 x442 x443 x444 x445 x446 x447 =>
            L23 (Addr.mk b1 0 none) w16 fun x448 x449 x450 x451 x452 x453 x454 x455 x456 x457 x458 x459 x460 x461 x462 x463 x464 x465 x466 x467 x468 x469 =>
            callC Try.prog 12 #[(V23 x426 x427 x428 x429 x430 x431 x432 x433 x434 x435 x436 x437 x438 x439 x440 x441 x442 x443 x444 x445 x446 x447), (V23 x448 x449 x450 x451 x452 x453 x454 x455 x456 x457 x458 x459 x460 x461 x462 x463 x464 x465 x466 x467 x468 x469)] (fun (r : Bool) => (Value.bool r)) w16 fun r470 w17 =>
            (C23 (Addr.mk b2 0 none) x402 x403 x404 x405 x406 x407 x408 x409 x410 x411 x412 x413 x414 x415 x416 x417 x418 x419 x420 x421 x422 x423 w17) ∧
            (C23 (Addr.mk b1 0 none) x380 x381 x382 x383 x384 x385 x386 x387 x388 x389 x390 x391 x392 x393 x394 x395 x396 x397 x398 x399 x400 x401 w17) ∧
            callC Try.prog 20 #[(V23 x380 x381 x382 x383 x384 x385 x386 x387 x388 x389 x390 x391 x392 x393 x394 x395 x396 x397 x398 x399 x400 x401), (V23 x402 x403 x404 x405 x406 x407 x408 x409 x410 x411 x412 x413 x414 x415 x416 x417 x418 x419 x420 x421 x422 x423)] (fun (r : Bool) => (Value.bool r)) w17 fun r471 w18 =>
            J334 (r470 == r471) w18
            )
            (
            callC Try.prog 20 #[(V23 x380 x381 x382 x383 x384 x385 x386 x387 x388 x389 x390 x391 x392 x393 x394 x395 x396 x397 x398 x399 x400 x401), (V23 x402 x403 x404 x405 x406 x407 x408 x409 x410 x411 x412 x413 x414 x415 x416 x417 x418 x419 x420 x421 x422 x423)] (fun (r : Bool) => (Value.bool r)) w16 fun r472 w19 =>
            J334 (false == r472) w19
            )
          )
          (
          J334 false w15
          )
      )
      fun l473 w20 =>
      K l473 w20
      )
    )
set_option maxRecDepth 100000 in
theorem D5 (p0_0 : ByteArray) (p0_1 : Int) (p0_2 : Int) (p0_3 : Int) (p0_4 : Bool) (p0_5 : Int) (p0_6 : Bool) (p0_7 : Bool) (p0_8 : Int) (p0_9 : Int) (p0_10 : Int) (p0_11 : Int) (p0_12 : Sl) (p0_13 : Int) (p0_14 : Int) (p0_15 : Int) (p0_16 : Int) (p0_17 : Bool) (p0_18 : Int) (p0_19 : Int) (p0_20 : Int) (p0_21 : Int) (p1_0 : ByteArray) (p1_1 : Int) (p1_2 : Int) (p1_3 : Int) (p1_4 : Bool) (p1_5 : Int) (p1_6 : Bool) (p1_7 : Bool) (p1_8 : Int) (p1_9 : Int) (p1_10 : Int) (p1_11 : Int) (p1_12 : Sl) (p1_13 : Int) (p1_14 : Int) (p1_15 : Int) (p1_16 : Int) (p1_17 : Bool) (p1_18 : Int) (p1_19 : Int) (p1_20 : Int) (p1_21 : Int) (p2_0 : ByteArray) (p2_1 : Int) (p2_2 : Int) (p2_3 : Int) (p2_4 : Bool) (p2_5 : Int) (p2_6 : Bool) (p2_7 : Bool) (p2_8 : Int) (p2_9 : Int) (p2_10 : Int) (p2_11 : Int) (p2_12 : Sl) (p2_13 : Int) (p2_14 : Int) (p2_15 : Int) (p2_16 : Int) (p2_17 : Bool) (p2_18 : Int) (p2_19 : Int) (p2_20 : Int) (p2_21 : Int) (w0 : World) (K : Bool → World → Prop) (h : F5 p0_0 p0_1 p0_2 p0_3 p0_4 p0_5 p0_6 p0_7 p0_8 p0_9 p0_10 p0_11 p0_12 p0_13 p0_14 p0_15 p0_16 p0_17 p0_18 p0_19 p0_20 p0_21 p1_0 p1_1 p1_2 p1_3 p1_4 p1_5 p1_6 p1_7 p1_8 p1_9 p1_10 p1_11 p1_12 p1_13 p1_14 p1_15 p1_16 p1_17 p1_18 p1_19 p1_20 p1_21 p2_0 p2_1 p2_2 p2_3 p2_4 p2_5 p2_6 p2_7 p2_8 p2_9 p2_10 p2_11 p2_12 p2_13 p2_14 p2_15 p2_16 p2_17 p2_18 p2_19 p2_20 p2_21 w0 K) : callC Try.prog 5 #[(V23 p0_0 p0_1 p0_2 p0_3 p0_4 p0_5 p0_6 p0_7 p0_8 p0_9 p0_10 p0_11 p0_12 p0_13 p0_14 p0_15 p0_16 p0_17 p0_18 p0_19 p0_20 p0_21), (V23 p1_0 p1_1 p1_2 p1_3 p1_4 p1_5 p1_6 p1_7 p1_8 p1_9 p1_10 p1_11 p1_12 p1_13 p1_14 p1_15 p1_16 p1_17 p1_18 p1_19 p1_20 p1_21), (V23 p2_0 p2_1 p2_2 p2_3 p2_4 p2_5 p2_6 p2_7 p2_8 p2_9 p2_10 p2_11 p2_12 p2_13 p2_14 p2_15 p2_16 p2_17 p2_18 p2_19 p2_20 p2_21)] (fun (r : Bool) => (Value.bool r)) w0 K := by
  unfold F5 at h
  refine calls_of_wpC Try.func5 rfl 57 rfl (by simp) ?_
  intro ρ hρ
  have e0 : ρ 0 = (V23 p0_0 p0_1 p0_2 p0_3 p0_4 p0_5 p0_6 p0_7 p0_8 p0_9 p0_10 p0_11 p0_12 p0_13 p0_14 p0_15 p0_16 p0_17 p0_18 p0_19 p0_20 p0_21) := hρ 0
  have e1 : ρ 1 = (V23 p1_0 p1_1 p1_2 p1_3 p1_4 p1_5 p1_6 p1_7 p1_8 p1_9 p1_10 p1_11 p1_12 p1_13 p1_14 p1_15 p1_16 p1_17 p1_18 p1_19 p1_20 p1_21) := hρ 1
  have e2 : ρ 2 = (V23 p2_0 p2_1 p2_2 p2_3 p2_4 p2_5 p2_6 p2_7 p2_8 p2_9 p2_10 p2_11 p2_12 p2_13 p2_14 p2_15 p2_16 p2_17 p2_18 p2_19 p2_20 p2_21) := hρ 2
  clear hρ
  refine wpC_seq ?_
  refine wpC_region ?_
  obtain ⟨b1, hb1⟩ : ∃ u, u = w0.heap.size := ⟨_, rfl⟩
  obtain ⟨w1, hw1⟩ : ∃ u, u = w0.alloc (.cells (A23 p0_0 p0_1 p0_2 p0_3 p0_4 p0_5 p0_6 p0_7 p0_8 p0_9 p0_10 p0_11 p0_12 p0_13 p0_14 p0_15 p0_16 p0_17 p0_18 p0_19 p0_20 p0_21) 24) := ⟨_, rfl⟩
  replace h := h b1 w1 hb1 hw1
  refine wpR_val (v := (Value.pointer (some (Addr.mk b1 0 none)))) (w' := w1) rfl rfl rfl ((x_box (v := (V23 p0_0 p0_1 p0_2 p0_3 p0_4 p0_5 p0_6 p0_7 p0_8 p0_9 p0_10 p0_11 p0_12 p0_13 p0_14 p0_15 p0_16 p0_17 p0_18 p0_19 p0_20 p0_21)) rfl e0).trans (by rw [hb1, hw1]; rfl)) ?_
  obtain ⟨b2, hb2⟩ : ∃ u, u = w1.heap.size := ⟨_, rfl⟩
  obtain ⟨w2, hw2⟩ : ∃ u, u = w1.alloc (.cells (A23 p1_0 p1_1 p1_2 p1_3 p1_4 p1_5 p1_6 p1_7 p1_8 p1_9 p1_10 p1_11 p1_12 p1_13 p1_14 p1_15 p1_16 p1_17 p1_18 p1_19 p1_20 p1_21) 24) := ⟨_, rfl⟩
  replace h := h b2 w2 hb2 hw2
  refine wpR_val (v := (Value.pointer (some (Addr.mk b2 0 none)))) (w' := w2) rfl rfl rfl ((x_box (v := (V23 p1_0 p1_1 p1_2 p1_3 p1_4 p1_5 p1_6 p1_7 p1_8 p1_9 p1_10 p1_11 p1_12 p1_13 p1_14 p1_15 p1_16 p1_17 p1_18 p1_19 p1_20 p1_21)) rfl e1).trans (by rw [hb2, hw2]; rfl)) ?_
  obtain ⟨b3, hb3⟩ : ∃ u, u = w2.heap.size := ⟨_, rfl⟩
  obtain ⟨w3, hw3⟩ : ∃ u, u = w2.alloc (.cells (A23 p2_0 p2_1 p2_2 p2_3 p2_4 p2_5 p2_6 p2_7 p2_8 p2_9 p2_10 p2_11 p2_12 p2_13 p2_14 p2_15 p2_16 p2_17 p2_18 p2_19 p2_20 p2_21) 24) := ⟨_, rfl⟩
  replace h := h b3 w3 hb3 hw3
  refine wpR_val (v := (Value.pointer (some (Addr.mk b3 0 none)))) (w' := w3) rfl rfl rfl ((x_box (v := (V23 p2_0 p2_1 p2_2 p2_3 p2_4 p2_5 p2_6 p2_7 p2_8 p2_9 p2_10 p2_11 p2_12 p2_13 p2_14 p2_15 p2_16 p2_17 p2_18 p2_19 p2_20 p2_21)) rfl e2).trans (by rw [hb3, hw3]; rfl)) ?_
  refine wpR_val (v := (Value.bool false)) (w' := w3) rfl rfl rfl (x_assign (v := (Value.bool false)) rfl rfl) ?_
  refine wpR_nil ?_
  refine wpC_seq ?_
  refine wpC_cut (fun ρ => ρ 3 = (Value.pointer (some (Addr.mk b1 0 none))) ∧ ρ 4 = (Value.pointer (some (Addr.mk b2 0 none))) ∧ ρ 5 = (Value.pointer (some (Addr.mk b3 0 none))) ∧ True) ⟨rfl, rfl, rfl, trivial⟩ ?_
  rintro ρ ⟨e3, e4, e5, -⟩
  refine wpC_region ?_
  refine wpR_enter rfl rfl rfl (x_call (vs := []) rfl rfl mapl_nil Try.func8 NN_8 NB_8) (Calls.mono h ?_)
  rintro _ w4 ⟨r4, rfl, h⟩
  refine ⟨_, rfl, ?_⟩
  refine wpR_val (v := (Value.bool r4)) (w' := w4) rfl rfl rfl (x_assign (v := (Value.bool r4)) rfl rfl) ?_
  refine wpR_nil ?_
  refine wpC_seq ?_
  refine wpC_seq ?_
  refine wpC_cut (fun ρ => ρ 3 = (Value.pointer (some (Addr.mk b1 0 none))) ∧ ρ 4 = (Value.pointer (some (Addr.mk b2 0 none))) ∧ ρ 5 = (Value.pointer (some (Addr.mk b3 0 none))) ∧ ρ 7 = (Value.bool r4) ∧ True) ⟨e3, e4, e5, rfl, trivial⟩ ?_
  rintro ρ ⟨e3, e4, e5, e7, -⟩
  refine wpC_region ?_
  obtain ⟨x5, q5, x6, q6, x7, q7, x8, q8, x9, q9, x10, q10, x11, q11, x12, q12, x13, q13, x14, q14, x15, q15, x16, q16, x17, q17, x18, q18, x19, q19, x20, q20, x21, q21, x22, q22, x23, q23, x24, q24, x25, q25, x26, q26, h⟩ := h
  refine wpR_val (v := (V23 x5 x6 x7 x8 x9 x10 x11 x12 x13 x14 x15 x16 x17 x18 x19 x20 x21 x22 x23 x24 x25 x26)) (w' := w4) rfl rfl rfl (x_loadN (S23 x5 x6 x7 x8 x9 x10 x11 x12 x13 x14 x15 x16 x17 x18 x19 x20 x21 x22 x23 x24 x25 x26) rfl e3 SH_24 (K23 ⟨q5, q6, q7, q8, q9, q10, q11, q12, q13, q14, q15, q16, q17, q18, q19, q20, q21, q22, q23, q24, q25, q26⟩)) ?_
  obtain ⟨x27, q27, x28, q28, x29, q29, x30, q30, x31, q31, x32, q32, x33, q33, x34, q34, x35, q35, x36, q36, x37, q37, x38, q38, x39, q39, x40, q40, x41, q41, x42, q42, x43, q43, x44, q44, x45, q45, x46, q46, x47, q47, x48, q48, h⟩ := h
  refine wpR_val (v := (V23 x27 x28 x29 x30 x31 x32 x33 x34 x35 x36 x37 x38 x39 x40 x41 x42 x43 x44 x45 x46 x47 x48)) (w' := w4) rfl rfl rfl (x_loadN (S23 x27 x28 x29 x30 x31 x32 x33 x34 x35 x36 x37 x38 x39 x40 x41 x42 x43 x44 x45 x46 x47 x48) rfl e4 SH_24 (K23 ⟨q27, q28, q29, q30, q31, q32, q33, q34, q35, q36, q37, q38, q39, q40, q41, q42, q43, q44, q45, q46, q47, q48⟩)) ?_
  obtain ⟨x49, q49, x50, q50, x51, q51, x52, q52, x53, q53, x54, q54, x55, q55, x56, q56, x57, q57, x58, q58, x59, q59, x60, q60, x61, q61, x62, q62, x63, q63, x64, q64, x65, q65, x66, q66, x67, q67, x68, q68, x69, q69, x70, q70, h⟩ := h
  refine wpR_val (v := (V23 x49 x50 x51 x52 x53 x54 x55 x56 x57 x58 x59 x60 x61 x62 x63 x64 x65 x66 x67 x68 x69 x70)) (w' := w4) rfl rfl rfl (x_loadN (S23 x49 x50 x51 x52 x53 x54 x55 x56 x57 x58 x59 x60 x61 x62 x63 x64 x65 x66 x67 x68 x69 x70) rfl e5 SH_24 (K23 ⟨q49, q50, q51, q52, q53, q54, q55, q56, q57, q58, q59, q60, q61, q62, q63, q64, q65, q66, q67, q68, q69, q70⟩)) ?_
  refine wpR_enter rfl rfl rfl (x_call (vs := [(V23 x5 x6 x7 x8 x9 x10 x11 x12 x13 x14 x15 x16 x17 x18 x19 x20 x21 x22 x23 x24 x25 x26), (V23 x27 x28 x29 x30 x31 x32 x33 x34 x35 x36 x37 x38 x39 x40 x41 x42 x43 x44 x45 x46 x47 x48), (V23 x49 x50 x51 x52 x53 x54 x55 x56 x57 x58 x59 x60 x61 x62 x63 x64 x65 x66 x67 x68 x69 x70)]) rfl rfl (mapl_cons rfl (mapl_cons rfl (mapl_cons rfl mapl_nil))) Try.func9 NN_9 NB_9) (Calls.mono h ?_)
  rintro _ w5 ⟨r71, rfl, h⟩
  refine ⟨_, rfl, ?_⟩
  refine wpR_val (v := (Value.bool (!r71))) (w' := w5) rfl rfl rfl (x_not rfl rfl) ?_
  refine wpR_val (v := (Value.bool (!r71))) (w' := w5) rfl rfl rfl (x_move (v := (Value.bool (!r71))) rfl rfl) ?_
  obtain ⟨J72, h, hk⟩ := h
  refine wpR_joinJ 6 (fun x ρ => ρ 20 = Value.bool x ∧ ρ 3 = (Value.pointer (some (Addr.mk b1 0 none))) ∧ ρ 4 = (Value.pointer (some (Addr.mk b2 0 none))) ∧ ρ 5 = (Value.pointer (some (Addr.mk b3 0 none))) ∧ ρ 7 = (Value.bool r4) ∧ True) (J72) ?_ ?_
  · clear hk
    rcases Bool.eq_false_or_eq_true (!r71) with hc73 | hc73
    · replace h := h.1 hc73
      refine wpR_pass (wantN rfl rfl rfl hc73) rfl rfl ?_
      refine wpR_pass (wantN rfl rfl rfl hc73) rfl rfl ?_
      refine wpR_pass (wantN rfl rfl rfl hc73) rfl rfl ?_
      refine wpR_pass (wantN rfl rfl rfl hc73) rfl rfl ?_
      refine wpR_pass (wantN rfl rfl rfl hc73) rfl rfl ?_
      refine wpR_val (v := (Value.bool true)) (w' := w5) rfl rfl rfl (x_pickT (v := (Value.bool true)) rfl rfl hc73 rfl) ?_
      refine wpR_nil ?_
      exact ⟨true, ⟨rfl, e3, e4, e5, e7, trivial⟩, h⟩
    · replace h := h.2 hc73
      obtain ⟨x74, q74, x75, q75, x76, q76, x77, q77, x78, q78, x79, q79, x80, q80, x81, q81, x82, q82, x83, q83, x84, q84, x85, q85, x86, q86, x87, q87, x88, q88, x89, q89, x90, q90, x91, q91, x92, q92, x93, q93, x94, q94, x95, q95, h⟩ := h
      refine wpR_val (v := (V23 x74 x75 x76 x77 x78 x79 x80 x81 x82 x83 x84 x85 x86 x87 x88 x89 x90 x91 x92 x93 x94 x95)) (w' := w5) (wantG rfl rfl rfl hc73) rfl rfl (x_loadN (S23 x74 x75 x76 x77 x78 x79 x80 x81 x82 x83 x84 x85 x86 x87 x88 x89 x90 x91 x92 x93 x94 x95) rfl e3 SH_24 (K23 ⟨q74, q75, q76, q77, q78, q79, q80, q81, q82, q83, q84, q85, q86, q87, q88, q89, q90, q91, q92, q93, q94, q95⟩)) ?_
      obtain ⟨x96, q96, x97, q97, x98, q98, x99, q99, x100, q100, x101, q101, x102, q102, x103, q103, x104, q104, x105, q105, x106, q106, x107, q107, x108, q108, x109, q109, x110, q110, x111, q111, x112, q112, x113, q113, x114, q114, x115, q115, x116, q116, x117, q117, h⟩ := h
      refine wpR_val (v := (V23 x96 x97 x98 x99 x100 x101 x102 x103 x104 x105 x106 x107 x108 x109 x110 x111 x112 x113 x114 x115 x116 x117)) (w' := w5) (wantG rfl rfl rfl hc73) rfl rfl (x_loadN (S23 x96 x97 x98 x99 x100 x101 x102 x103 x104 x105 x106 x107 x108 x109 x110 x111 x112 x113 x114 x115 x116 x117) rfl e4 SH_24 (K23 ⟨q96, q97, q98, q99, q100, q101, q102, q103, q104, q105, q106, q107, q108, q109, q110, q111, q112, q113, q114, q115, q116, q117⟩)) ?_
      obtain ⟨x118, q118, x119, q119, x120, q120, x121, q121, x122, q122, x123, q123, x124, q124, x125, q125, x126, q126, x127, q127, x128, q128, x129, q129, x130, q130, x131, q131, x132, q132, x133, q133, x134, q134, x135, q135, x136, q136, x137, q137, x138, q138, x139, q139, h⟩ := h
      refine wpR_val (v := (V23 x118 x119 x120 x121 x122 x123 x124 x125 x126 x127 x128 x129 x130 x131 x132 x133 x134 x135 x136 x137 x138 x139)) (w' := w5) (wantG rfl rfl rfl hc73) rfl rfl (x_loadN (S23 x118 x119 x120 x121 x122 x123 x124 x125 x126 x127 x128 x129 x130 x131 x132 x133 x134 x135 x136 x137 x138 x139) rfl e5 SH_24 (K23 ⟨q118, q119, q120, q121, q122, q123, q124, q125, q126, q127, q128, q129, q130, q131, q132, q133, q134, q135, q136, q137, q138, q139⟩)) ?_
      refine wpR_enter (wantG rfl rfl rfl hc73) rfl rfl (x_call (vs := [(V23 x74 x75 x76 x77 x78 x79 x80 x81 x82 x83 x84 x85 x86 x87 x88 x89 x90 x91 x92 x93 x94 x95), (V23 x96 x97 x98 x99 x100 x101 x102 x103 x104 x105 x106 x107 x108 x109 x110 x111 x112 x113 x114 x115 x116 x117), (V23 x118 x119 x120 x121 x122 x123 x124 x125 x126 x127 x128 x129 x130 x131 x132 x133 x134 x135 x136 x137 x138 x139)]) rfl rfl (mapl_cons rfl (mapl_cons rfl (mapl_cons rfl mapl_nil))) Try.func19 NN_19 NB_19) (Calls.mono h ?_)
      rintro _ w6 ⟨r140, rfl, h⟩
      refine ⟨_, rfl, ?_⟩
      refine wpR_val (v := (Value.bool (!r140))) (w' := w6) (wantG rfl rfl rfl hc73) rfl rfl (x_not rfl rfl) ?_
      refine wpR_val (v := (Value.bool (!r140))) (w' := w6) rfl rfl rfl (x_pickF (v := (Value.bool (!r140))) rfl rfl hc73 rfl) ?_
      refine wpR_nil ?_
      exact ⟨!r140, ⟨rfl, e3, e4, e5, e7, trivial⟩, h⟩
  clear h
  rintro c141 ρ w7 ⟨e20, e3, e4, e5, e7, -⟩ h
  replace h := hk c141 w7 h
  clear hk
  refine wpR_nil ?_
  refine wpC_cond (b := c141) e20 (fun hc142 => ?_) (fun hc142 => ?_)
  · replace h := h.1 hc142
    refine wpC_seq ?_
    refine wpC_region ?_
    refine wpR_val (v := (Value.bool r4)) (w' := w7) rfl rfl rfl (x_move (v := (Value.bool r4)) rfl e7) ?_
    refine wpR_val (v := (Value.bool r4)) (w' := w7) rfl rfl rfl (x_assign (v := (Value.bool r4)) rfl rfl) ?_
    refine wpR_nil ?_
    refine wpC_ret ?_
    exact ⟨.inl rfl, fun a ha => ⟨_, results_rep1 rfl ha rfl, r4, rfl, h⟩⟩
  · replace h := h.2 hc142
    refine wpC_skip ?_
    refine wpC_seq ?_
    refine wpC_seq ?_
    refine wpC_region ?_
    obtain ⟨x143, q143, x144, q144, x145, q145, x146, q146, x147, q147, x148, q148, x149, q149, x150, q150, x151, q151, x152, q152, x153, q153, x154, q154, x155, q155, x156, q156, x157, q157, x158, q158, x159, q159, x160, q160, x161, q161, x162, q162, x163, q163, x164, q164, h⟩ := h
    refine wpR_val (v := (V23 x143 x144 x145 x146 x147 x148 x149 x150 x151 x152 x153 x154 x155 x156 x157 x158 x159 x160 x161 x162 x163 x164)) (w' := w7) rfl rfl rfl (x_loadN (S23 x143 x144 x145 x146 x147 x148 x149 x150 x151 x152 x153 x154 x155 x156 x157 x158 x159 x160 x161 x162 x163 x164) rfl e3 SH_24 (K23 ⟨q143, q144, q145, q146, q147, q148, q149, q150, q151, q152, q153, q154, q155, q156, q157, q158, q159, q160, q161, q162, q163, q164⟩)) ?_
    obtain ⟨x165, q165, x166, q166, x167, q167, x168, q168, x169, q169, x170, q170, x171, q171, x172, q172, x173, q173, x174, q174, x175, q175, x176, q176, x177, q177, x178, q178, x179, q179, x180, q180, x181, q181, x182, q182, x183, q183, x184, q184, x185, q185, x186, q186, h⟩ := h
    refine wpR_val (v := (V23 x165 x166 x167 x168 x169 x170 x171 x172 x173 x174 x175 x176 x177 x178 x179 x180 x181 x182 x183 x184 x185 x186)) (w' := w7) rfl rfl rfl (x_loadN (S23 x165 x166 x167 x168 x169 x170 x171 x172 x173 x174 x175 x176 x177 x178 x179 x180 x181 x182 x183 x184 x185 x186) rfl e3 SH_24 (K23 ⟨q165, q166, q167, q168, q169, q170, q171, q172, q173, q174, q175, q176, q177, q178, q179, q180, q181, q182, q183, q184, q185, q186⟩)) ?_
    refine wpR_enter rfl rfl rfl (x_call (vs := [(V23 x143 x144 x145 x146 x147 x148 x149 x150 x151 x152 x153 x154 x155 x156 x157 x158 x159 x160 x161 x162 x163 x164), (V23 x165 x166 x167 x168 x169 x170 x171 x172 x173 x174 x175 x176 x177 x178 x179 x180 x181 x182 x183 x184 x185 x186)]) rfl rfl (mapl_cons rfl (mapl_cons rfl mapl_nil)) Try.func12 NN_12 NB_12) (Calls.mono h ?_)
    rintro _ w8 ⟨r187, rfl, h⟩
    refine ⟨_, rfl, ?_⟩
    refine wpR_val (v := (Value.bool (!r187))) (w' := w8) rfl rfl rfl (x_not rfl rfl) ?_
    refine wpR_val (v := (Value.bool (!r187))) (w' := w8) rfl rfl rfl (x_move (v := (Value.bool (!r187))) rfl rfl) ?_
    obtain ⟨J188, h, hk⟩ := h
    refine wpR_joinJ 15 (fun x ρ => ρ 41 = Value.bool x ∧ ρ 3 = (Value.pointer (some (Addr.mk b1 0 none))) ∧ ρ 4 = (Value.pointer (some (Addr.mk b2 0 none))) ∧ ρ 7 = (Value.bool r4) ∧ True) (J188) ?_ ?_
    · clear hk
      rcases Bool.eq_false_or_eq_true (!r187) with hc189 | hc189
      · replace h := h.1 hc189
        refine wpR_pass (wantN rfl rfl rfl hc189) rfl rfl ?_
        refine wpR_pass (wantN rfl rfl rfl hc189) rfl rfl ?_
        refine wpR_pass (wantN rfl rfl rfl hc189) rfl rfl ?_
        refine wpR_pass (wantN rfl rfl rfl hc189) rfl rfl ?_
        refine wpR_pass (wantU rfl rfl rfl) rfl rfl ?_
        refine wpR_pass (wantU rfl rfl rfl) rfl rfl ?_
        refine wpR_pass (wantU rfl rfl rfl) rfl rfl ?_
        refine wpR_pass (wantN rfl rfl rfl hc189) rfl rfl ?_
        refine wpR_pass (wantN rfl rfl rfl hc189) rfl rfl ?_
        refine wpR_pass (wantU rfl rfl rfl) rfl rfl ?_
        refine wpR_pass (wantU rfl rfl rfl) rfl rfl ?_
        refine wpR_pass (wantU rfl rfl rfl) rfl rfl ?_
        refine wpR_pass (wantU rfl rfl rfl) rfl rfl ?_
        refine wpR_pass (wantN rfl rfl rfl hc189) rfl rfl ?_
        refine wpR_val (v := (Value.bool true)) (w' := w8) rfl rfl rfl (x_pickT (v := (Value.bool true)) rfl rfl hc189 rfl) ?_
        refine wpR_nil ?_
        exact ⟨true, ⟨rfl, e3, e4, e7, trivial⟩, h⟩
      · replace h := h.2 hc189
        obtain ⟨x190, q190, x191, q191, x192, q192, x193, q193, x194, q194, x195, q195, x196, q196, x197, q197, x198, q198, x199, q199, x200, q200, x201, q201, x202, q202, x203, q203, x204, q204, x205, q205, x206, q206, x207, q207, x208, q208, x209, q209, x210, q210, x211, q211, h⟩ := h
        refine wpR_val (v := (V23 x190 x191 x192 x193 x194 x195 x196 x197 x198 x199 x200 x201 x202 x203 x204 x205 x206 x207 x208 x209 x210 x211)) (w' := w8) (wantG rfl rfl rfl hc189) rfl rfl (x_loadN (S23 x190 x191 x192 x193 x194 x195 x196 x197 x198 x199 x200 x201 x202 x203 x204 x205 x206 x207 x208 x209 x210 x211) rfl e3 SH_24 (K23 ⟨q190, q191, q192, q193, q194, q195, q196, q197, q198, q199, q200, q201, q202, q203, q204, q205, q206, q207, q208, q209, q210, q211⟩)) ?_
        obtain ⟨x212, q212, x213, q213, x214, q214, x215, q215, x216, q216, x217, q217, x218, q218, x219, q219, x220, q220, x221, q221, x222, q222, x223, q223, x224, q224, x225, q225, x226, q226, x227, q227, x228, q228, x229, q229, x230, q230, x231, q231, x232, q232, x233, q233, h⟩ := h
        refine wpR_val (v := (V23 x212 x213 x214 x215 x216 x217 x218 x219 x220 x221 x222 x223 x224 x225 x226 x227 x228 x229 x230 x231 x232 x233)) (w' := w8) (wantG rfl rfl rfl hc189) rfl rfl (x_loadN (S23 x212 x213 x214 x215 x216 x217 x218 x219 x220 x221 x222 x223 x224 x225 x226 x227 x228 x229 x230 x231 x232 x233) rfl e4 SH_24 (K23 ⟨q212, q213, q214, q215, q216, q217, q218, q219, q220, q221, q222, q223, q224, q225, q226, q227, q228, q229, q230, q231, q232, q233⟩)) ?_
        refine wpR_enter (wantG rfl rfl rfl hc189) rfl rfl (x_call (vs := [(V23 x190 x191 x192 x193 x194 x195 x196 x197 x198 x199 x200 x201 x202 x203 x204 x205 x206 x207 x208 x209 x210 x211), (V23 x212 x213 x214 x215 x216 x217 x218 x219 x220 x221 x222 x223 x224 x225 x226 x227 x228 x229 x230 x231 x232 x233)]) rfl rfl (mapl_cons rfl (mapl_cons rfl mapl_nil)) Try.func12 NN_12 NB_12) (Calls.mono h ?_)
        rintro _ w9 ⟨r234, rfl, h⟩
        refine ⟨_, rfl, ?_⟩
        refine wpR_val (v := (Value.bool r234)) (w' := w9) (wantG rfl rfl rfl hc189) rfl rfl (x_move (v := (Value.bool r234)) rfl rfl) ?_
        obtain ⟨J235, h, hk⟩ := h
        refine wpR_joinJ 4 (fun x ρ => ρ 34 = Value.bool x ∧ ρ 3 = (Value.pointer (some (Addr.mk b1 0 none))) ∧ ρ 4 = (Value.pointer (some (Addr.mk b2 0 none))) ∧ ρ 5 = (Value.pointer (some (Addr.mk b3 0 none))) ∧ ρ 7 = (Value.bool r4) ∧ ρ 26 = (Value.bool (!r187)) ∧ True) (J235) ?_ ?_
        · clear hk
          rcases Bool.eq_false_or_eq_true (r234) with hc236 | hc236
          · replace h := h.1 hc236
            obtain ⟨x237, q237, x238, q238, x239, q239, x240, q240, x241, q241, x242, q242, x243, q243, x244, q244, x245, q245, x246, q246, x247, q247, x248, q248, x249, q249, x250, q250, x251, q251, x252, q252, x253, q253, x254, q254, x255, q255, x256, q256, x257, q257, x258, q258, h⟩ := h
            refine wpR_val (v := (V23 x237 x238 x239 x240 x241 x242 x243 x244 x245 x246 x247 x248 x249 x250 x251 x252 x253 x254 x255 x256 x257 x258)) (w' := w9) (wantG rfl rfl rfl hc236) rfl rfl (x_loadN (S23 x237 x238 x239 x240 x241 x242 x243 x244 x245 x246 x247 x248 x249 x250 x251 x252 x253 x254 x255 x256 x257 x258) rfl e4 SH_24 (K23 ⟨q237, q238, q239, q240, q241, q242, q243, q244, q245, q246, q247, q248, q249, q250, q251, q252, q253, q254, q255, q256, q257, q258⟩)) ?_
            obtain ⟨x259, q259, x260, q260, x261, q261, x262, q262, x263, q263, x264, q264, x265, q265, x266, q266, x267, q267, x268, q268, x269, q269, x270, q270, x271, q271, x272, q272, x273, q273, x274, q274, x275, q275, x276, q276, x277, q277, x278, q278, x279, q279, x280, q280, h⟩ := h
            refine wpR_val (v := (V23 x259 x260 x261 x262 x263 x264 x265 x266 x267 x268 x269 x270 x271 x272 x273 x274 x275 x276 x277 x278 x279 x280)) (w' := w9) (wantG rfl rfl rfl hc236) rfl rfl (x_loadN (S23 x259 x260 x261 x262 x263 x264 x265 x266 x267 x268 x269 x270 x271 x272 x273 x274 x275 x276 x277 x278 x279 x280) rfl e5 SH_24 (K23 ⟨q259, q260, q261, q262, q263, q264, q265, q266, q267, q268, q269, q270, q271, q272, q273, q274, q275, q276, q277, q278, q279, q280⟩)) ?_
            refine wpR_enter (wantG rfl rfl rfl hc236) rfl rfl (x_call (vs := [(V23 x237 x238 x239 x240 x241 x242 x243 x244 x245 x246 x247 x248 x249 x250 x251 x252 x253 x254 x255 x256 x257 x258), (V23 x259 x260 x261 x262 x263 x264 x265 x266 x267 x268 x269 x270 x271 x272 x273 x274 x275 x276 x277 x278 x279 x280)]) rfl rfl (mapl_cons rfl (mapl_cons rfl mapl_nil)) Try.func12 NN_12 NB_12) (Calls.mono h ?_)
            rintro _ w10 ⟨r281, rfl, h⟩
            refine ⟨_, rfl, ?_⟩
            refine wpR_val (v := (Value.bool r281)) (w' := w10) (wantG rfl rfl rfl hc189) rfl rfl (x_pickT (v := (Value.bool r281)) rfl rfl hc236 rfl) ?_
            refine wpR_nil ?_
            exact ⟨r281, ⟨rfl, e3, e4, e5, e7, rfl, trivial⟩, h⟩
          · replace h := h.2 hc236
            refine wpR_pass (wantN rfl rfl rfl hc236) rfl rfl ?_
            refine wpR_pass (wantN rfl rfl rfl hc236) rfl rfl ?_
            refine wpR_pass (wantN rfl rfl rfl hc236) rfl rfl ?_
            refine wpR_val (v := (Value.bool false)) (w' := w9) (wantG rfl rfl rfl hc189) rfl rfl (x_pickF (v := (Value.bool false)) rfl rfl hc236 rfl) ?_
            refine wpR_nil ?_
            exact ⟨false, ⟨rfl, e3, e4, e5, e7, rfl, trivial⟩, h⟩
        clear h
        rintro c282 ρ w11 ⟨e34, e3, e4, e5, e7, e26, -⟩ h
        replace h := hk c282 w11 h
        clear hk
        refine wpR_val (v := (Value.bool c282)) (w' := w11) (wantG rfl rfl e26 hc189) rfl rfl (x_move (v := (Value.bool c282)) rfl e34) ?_
        obtain ⟨J283, h, hk⟩ := h
        refine wpR_joinJ 5 (fun x ρ => ρ 40 = Value.bool x ∧ ρ 3 = (Value.pointer (some (Addr.mk b1 0 none))) ∧ ρ 4 = (Value.pointer (some (Addr.mk b2 0 none))) ∧ ρ 7 = (Value.bool r4) ∧ ρ 26 = (Value.bool (!r187)) ∧ True) (J283) ?_ ?_
        · clear hk
          rcases Bool.eq_false_or_eq_true (c282) with hc284 | hc284
          · replace h := h.1 hc284
            obtain ⟨x285, q285, x286, q286, x287, q287, x288, q288, x289, q289, x290, q290, x291, q291, x292, q292, x293, q293, x294, q294, x295, q295, x296, q296, x297, q297, x298, q298, x299, q299, x300, q300, x301, q301, x302, q302, x303, q303, x304, q304, x305, q305, x306, q306, h⟩ := h
            refine wpR_val (v := (V23 x285 x286 x287 x288 x289 x290 x291 x292 x293 x294 x295 x296 x297 x298 x299 x300 x301 x302 x303 x304 x305 x306)) (w' := w11) (wantG rfl rfl rfl hc284) rfl rfl (x_loadN (S23 x285 x286 x287 x288 x289 x290 x291 x292 x293 x294 x295 x296 x297 x298 x299 x300 x301 x302 x303 x304 x305 x306) rfl e3 SH_24 (K23 ⟨q285, q286, q287, q288, q289, q290, q291, q292, q293, q294, q295, q296, q297, q298, q299, q300, q301, q302, q303, q304, q305, q306⟩)) ?_
            obtain ⟨x307, q307, x308, q308, x309, q309, x310, q310, x311, q311, x312, q312, x313, q313, x314, q314, x315, q315, x316, q316, x317, q317, x318, q318, x319, q319, x320, q320, x321, q321, x322, q322, x323, q323, x324, q324, x325, q325, x326, q326, x327, q327, x328, q328, h⟩ := h
            refine wpR_val (v := (V23 x307 x308 x309 x310 x311 x312 x313 x314 x315 x316 x317 x318 x319 x320 x321 x322 x323 x324 x325 x326 x327 x328)) (w' := w11) (wantG rfl rfl rfl hc284) rfl rfl (x_loadN (S23 x307 x308 x309 x310 x311 x312 x313 x314 x315 x316 x317 x318 x319 x320 x321 x322 x323 x324 x325 x326 x327 x328) rfl e5 SH_24 (K23 ⟨q307, q308, q309, q310, q311, q312, q313, q314, q315, q316, q317, q318, q319, q320, q321, q322, q323, q324, q325, q326, q327, q328⟩)) ?_
            refine wpR_enter (wantG rfl rfl rfl hc284) rfl rfl (x_call (vs := [(V23 x285 x286 x287 x288 x289 x290 x291 x292 x293 x294 x295 x296 x297 x298 x299 x300 x301 x302 x303 x304 x305 x306), (V23 x307 x308 x309 x310 x311 x312 x313 x314 x315 x316 x317 x318 x319 x320 x321 x322 x323 x324 x325 x326 x327 x328)]) rfl rfl (mapl_cons rfl (mapl_cons rfl mapl_nil)) Try.func12 NN_12 NB_12) (Calls.mono h ?_)
            rintro _ w12 ⟨r329, rfl, h⟩
            refine ⟨_, rfl, ?_⟩
            refine wpR_val (v := (Value.bool (!r329))) (w' := w12) (wantG rfl rfl rfl hc284) rfl rfl (x_not rfl rfl) ?_
            refine wpR_val (v := (Value.bool (!r329))) (w' := w12) (wantG rfl rfl e26 hc189) rfl rfl (x_pickT (v := (Value.bool (!r329))) rfl rfl hc284 rfl) ?_
            refine wpR_nil ?_
            exact ⟨!r329, ⟨rfl, e3, e4, e7, e26, trivial⟩, h⟩
          · replace h := h.2 hc284
            refine wpR_pass (wantN rfl rfl rfl hc284) rfl rfl ?_
            refine wpR_pass (wantN rfl rfl rfl hc284) rfl rfl ?_
            refine wpR_pass (wantN rfl rfl rfl hc284) rfl rfl ?_
            refine wpR_pass (wantN rfl rfl rfl hc284) rfl rfl ?_
            refine wpR_val (v := (Value.bool false)) (w' := w11) (wantG rfl rfl e26 hc189) rfl rfl (x_pickF (v := (Value.bool false)) rfl rfl hc284 rfl) ?_
            refine wpR_nil ?_
            exact ⟨false, ⟨rfl, e3, e4, e7, e26, trivial⟩, h⟩
        clear h
        rintro c330 ρ w13 ⟨e40, e3, e4, e7, e26, -⟩ h
        replace h := hk c330 w13 h
        clear hk
        refine wpR_val (v := (Value.bool c330)) (w' := w13) rfl rfl rfl (x_pickF (v := (Value.bool c330)) rfl e26 hc189 e40) ?_
        refine wpR_nil ?_
        exact ⟨c330, ⟨rfl, e3, e4, e7, trivial⟩, h⟩
    clear h
    rintro c331 ρ w14 ⟨e41, e3, e4, e7, -⟩ h
    replace h := hk c331 w14 h
    clear hk
    refine wpR_nil ?_
    refine wpC_cond (b := c331) e41 (fun hc332 => ?_) (fun hc332 => ?_)
    · replace h := h.1 hc332
      refine wpC_seq ?_
      refine wpC_region ?_
      refine wpR_val (v := (Value.bool false)) (w' := w14) rfl rfl rfl (x_assign (v := (Value.bool false)) rfl rfl) ?_
      refine wpR_nil ?_
      refine wpC_ret ?_
      exact ⟨.inl rfl, fun a ha => ⟨_, results_rep1 rfl ha rfl, false, rfl, h⟩⟩
    · replace h := h.2 hc332
      refine wpC_skip ?_
      refine wpC_seq ?_
      obtain ⟨J334, h, hk⟩ := h
      refine wpC_drawJ (by kernel_rfl) (fun (x : Bool) ρ => ρ 6 = (Value.bool x) ∧ True) J334 ?_ ?_
      · clear hk
        unfold tk at h
        generalize w14.drew = w15 at h ⊢
        refine wpD_take (v := (Value.bool r4)) 0 (fun _ => True) rfl (by kernel_rfl) (by kernel_rfl) (by kernel_rfl) rfl rfl rfl trivial (fun w _ => (x_move (v := (Value.bool r4)) rfl e7)) ?_
        refine wpD_take (v := (Value.bool r4)) 1 (fun _ => True) rfl (by kernel_rfl) (by kernel_rfl) (by kernel_rfl) rfl rfl rfl trivial (fun w _ => (x_move (v := (Value.bool r4)) rfl rfl)) ?_
        rcases Bool.eq_false_or_eq_true (r4) with hc335 | hc335
        · replace h := h.1 hc335
          obtain ⟨x336, q336, x337, q337, x338, q338, x339, q339, x340, q340, x341, q341, x342, q342, x343, q343, x344, q344, x345, q345, x346, q346, x347, q347, x348, q348, x349, q349, x350, q350, x351, q351, x352, q352, x353, q353, x354, q354, x355, q355, x356, q356, x357, q357, h⟩ := h
          refine wpD_take (v := (V23 x336 x337 x338 x339 x340 x341 x342 x343 x344 x345 x346 x347 x348 x349 x350 x351 x352 x353 x354 x355 x356 x357)) 2 (fun w => C23 (Addr.mk b1 0 none) x336 x337 x338 x339 x340 x341 x342 x343 x344 x345 x346 x347 x348 x349 x350 x351 x352 x353 x354 x355 x356 x357 w) rfl (by kernel_rfl) (by kernel_rfl) (by kernel_rfl) (wantG rfl rfl rfl hc335) rfl rfl ⟨q336, q337, q338, q339, q340, q341, q342, q343, q344, q345, q346, q347, q348, q349, q350, q351, q352, q353, q354, q355, q356, q357⟩ (fun w q => (x_loadN (S23 x336 x337 x338 x339 x340 x341 x342 x343 x344 x345 x346 x347 x348 x349 x350 x351 x352 x353 x354 x355 x356 x357) rfl e3 SH_24 (K23 q))) ?_
          obtain ⟨x358, q358, x359, q359, x360, q360, x361, q361, x362, q362, x363, q363, x364, q364, x365, q365, x366, q366, x367, q367, x368, q368, x369, q369, x370, q370, x371, q371, x372, q372, x373, q373, x374, q374, x375, q375, x376, q376, x377, q377, x378, q378, x379, q379, h⟩ := h
          refine wpD_take (v := (V23 x358 x359 x360 x361 x362 x363 x364 x365 x366 x367 x368 x369 x370 x371 x372 x373 x374 x375 x376 x377 x378 x379)) 3 (fun w => C23 (Addr.mk b2 0 none) x358 x359 x360 x361 x362 x363 x364 x365 x366 x367 x368 x369 x370 x371 x372 x373 x374 x375 x376 x377 x378 x379 w) rfl (by kernel_rfl) (by kernel_rfl) (by kernel_rfl) (wantG rfl rfl rfl hc335) rfl rfl ⟨q358, q359, q360, q361, q362, q363, q364, q365, q366, q367, q368, q369, q370, q371, q372, q373, q374, q375, q376, q377, q378, q379⟩ (fun w q => (x_loadN (S23 x358 x359 x360 x361 x362 x363 x364 x365 x366 x367 x368 x369 x370 x371 x372 x373 x374 x375 x376 x377 x378 x379) rfl e4 SH_24 (K23 q))) ?_
          obtain ⟨x380, q380, x381, q381, x382, q382, x383, q383, x384, q384, x385, q385, x386, q386, x387, q387, x388, q388, x389, q389, x390, q390, x391, q391, x392, q392, x393, q393, x394, q394, x395, q395, x396, q396, x397, q397, x398, q398, x399, q399, x400, q400, x401, q401, h⟩ := h
          refine wpD_take (v := (V23 x380 x381 x382 x383 x384 x385 x386 x387 x388 x389 x390 x391 x392 x393 x394 x395 x396 x397 x398 x399 x400 x401)) 10 (fun w => C23 (Addr.mk b1 0 none) x380 x381 x382 x383 x384 x385 x386 x387 x388 x389 x390 x391 x392 x393 x394 x395 x396 x397 x398 x399 x400 x401 w) rfl (by kernel_rfl) (by kernel_rfl) (by kernel_rfl) (wantG rfl rfl rfl hc335) rfl rfl ⟨q380, q381, q382, q383, q384, q385, q386, q387, q388, q389, q390, q391, q392, q393, q394, q395, q396, q397, q398, q399, q400, q401⟩ (fun w q => (x_loadN (S23 x380 x381 x382 x383 x384 x385 x386 x387 x388 x389 x390 x391 x392 x393 x394 x395 x396 x397 x398 x399 x400 x401) rfl e3 SH_24 (K23 q))) ?_
          obtain ⟨x402, q402, x403, q403, x404, q404, x405, q405, x406, q406, x407, q407, x408, q408, x409, q409, x410, q410, x411, q411, x412, q412, x413, q413, x414, q414, x415, q415, x416, q416, x417, q417, x418, q418, x419, q419, x420, q420, x421, q421, x422, q422, x423, q423, h⟩ := h
          refine wpD_take (v := (V23 x402 x403 x404 x405 x406 x407 x408 x409 x410 x411 x412 x413 x414 x415 x416 x417 x418 x419 x420 x421 x422 x423)) 11 (fun w => C23 (Addr.mk b2 0 none) x402 x403 x404 x405 x406 x407 x408 x409 x410 x411 x412 x413 x414 x415 x416 x417 x418 x419 x420 x421 x422 x423 w) rfl (by kernel_rfl) (by kernel_rfl) (by kernel_rfl) (wantG rfl rfl rfl hc335) rfl rfl ⟨q402, q403, q404, q405, q406, q407, q408, q409, q410, q411, q412, q413, q414, q415, q416, q417, q418, q419, q420, q421, q422, q423⟩ (fun w q => (x_loadN (S23 x402 x403 x404 x405 x406 x407 x408 x409 x410 x411 x412 x413 x414 x415 x416 x417 x418 x419 x420 x421 x422 x423) rfl e4 SH_24 (K23 q))) ?_
          refine wpD_all (rs := [4]) (by kernel_rfl) (by simp) (allD_cons ?_ allD_nil)
          refine stepD_enterL (L' := [(11, fun w => C23 (Addr.mk b2 0 none) x402 x403 x404 x405 x406 x407 x408 x409 x410 x411 x412 x413 x414 x415 x416 x417 x418 x419 x420 x421 x422 x423 w), (10, fun w => C23 (Addr.mk b1 0 none) x380 x381 x382 x383 x384 x385 x386 x387 x388 x389 x390 x391 x392 x393 x394 x395 x396 x397 x398 x399 x400 x401 w), (0, fun _ => True)]) rfl (wantG rfl rfl rfl hc335) rfl rfl (x_call (vs := [(V23 x336 x337 x338 x339 x340 x341 x342 x343 x344 x345 x346 x347 x348 x349 x350 x351 x352 x353 x354 x355 x356 x357), (V23 x358 x359 x360 x361 x362 x363 x364 x365 x366 x367 x368 x369 x370 x371 x372 x373 x374 x375 x376 x377 x378 x379)]) rfl rfl (mapl_cons rfl (mapl_cons rfl mapl_nil)) Try.func12 NN_12 NB_12) (by kernel_rfl) (Calls.mono h ?_)
          rintro _ w16 ⟨r424, rfl, h⟩
          obtain ⟨o11, h⟩ := h
          obtain ⟨o10, h⟩ := h
          refine ⟨_, rfl, (held_cons o11 (held_cons o10 (held_cons trivial held_nil))), ?_⟩
          refine wpD_take (v := (Value.bool r424)) 5 (fun _ => True) rfl (by kernel_rfl) (by kernel_rfl) (by kernel_rfl) (wantG rfl rfl rfl hc335) rfl rfl trivial (fun w _ => (x_move (v := (Value.bool r424)) rfl rfl)) ?_
          rcases Bool.eq_false_or_eq_true (r424) with hc425 | hc425
          · replace h := h.1 hc425
            obtain ⟨x426, q426, x427, q427, x428, q428, x429, q429, x430, q430, x431, q431, x432, q432, x433, q433, x434, q434, x435, q435, x436, q436, x437, q437, x438, q438, x439, q439, x440, q440, x441, q441, x442, q442, x443, q443, x444, q444, x445, q445, x446, q446, x447, q447, h⟩ := h
            refine wpD_take (v := (V23 x426 x427 x428 x429 x430 x431 x432 x433 x434 x435 x436 x437 x438 x439 x440 x441 x442 x443 x444 x445 x446 x447)) 6 (fun w => C23 (Addr.mk b2 0 none) x426 x427 x428 x429 x430 x431 x432 x433 x434 x435 x436 x437 x438 x439 x440 x441 x442 x443 x444 x445 x446 x447 w) rfl (by kernel_rfl) (by kernel_rfl) (by kernel_rfl) (wantG rfl rfl rfl hc425) rfl rfl ⟨q426, q427, q428, q429, q430, q431, q432, q433, q434, q435, q436, q437, q438, q439, q440, q441, q442, q443, q444, q445, q446, q447⟩ (fun w q => (x_loadN (S23 x426 x427 x428 x429 x430 x431 x432 x433 x434 x435 x436 x437 x438 x439 x440 x441 x442 x443 x444 x445 x446 x447) rfl e4 SH_24 (K23 q))) ?_
            obtain ⟨x448, q448, x449, q449, x450, q450, x451, q451, x452, q452, x453, q453, x454, q454, x455, q455, x456, q456, x457, q457, x458, q458, x459, q459, x460, q460, x461, q461, x462, q462, x463, q463, x464, q464, x465, q465, x466, q466, x467, q467, x468, q468, x469, q469, h⟩ := h
            refine wpD_take (v := (V23 x448 x449 x450 x451 x452 x453 x454 x455 x456 x457 x458 x459 x460 x461 x462 x463 x464 x465 x466 x467 x468 x469)) 7 (fun w => C23 (Addr.mk b1 0 none) x448 x449 x450 x451 x452 x453 x454 x455 x456 x457 x458 x459 x460 x461 x462 x463 x464 x465 x466 x467 x468 x469 w) rfl (by kernel_rfl) (by kernel_rfl) (by kernel_rfl) (wantG rfl rfl rfl hc425) rfl rfl ⟨q448, q449, q450, q451, q452, q453, q454, q455, q456, q457, q458, q459, q460, q461, q462, q463, q464, q465, q466, q467, q468, q469⟩ (fun w q => (x_loadN (S23 x448 x449 x450 x451 x452 x453 x454 x455 x456 x457 x458 x459 x460 x461 x462 x463 x464 x465 x466 x467 x468 x469) rfl e3 SH_24 (K23 q))) ?_
            refine wpD_all (rs := [8]) (by kernel_rfl) (by simp) (allD_cons ?_ allD_nil)
            refine stepD_enterL (L' := [(11, fun w => C23 (Addr.mk b2 0 none) x402 x403 x404 x405 x406 x407 x408 x409 x410 x411 x412 x413 x414 x415 x416 x417 x418 x419 x420 x421 x422 x423 w), (10, fun w => C23 (Addr.mk b1 0 none) x380 x381 x382 x383 x384 x385 x386 x387 x388 x389 x390 x391 x392 x393 x394 x395 x396 x397 x398 x399 x400 x401 w), (0, fun _ => True)]) rfl (wantG rfl rfl rfl hc425) rfl rfl (x_call (vs := [(V23 x426 x427 x428 x429 x430 x431 x432 x433 x434 x435 x436 x437 x438 x439 x440 x441 x442 x443 x444 x445 x446 x447), (V23 x448 x449 x450 x451 x452 x453 x454 x455 x456 x457 x458 x459 x460 x461 x462 x463 x464 x465 x466 x467 x468 x469)]) rfl rfl (mapl_cons rfl (mapl_cons rfl mapl_nil)) Try.func12 NN_12 NB_12) (by kernel_rfl) (Calls.mono h ?_)
            rintro _ w17 ⟨r470, rfl, h⟩
            obtain ⟨o11, h⟩ := h
            obtain ⟨o10, h⟩ := h
            refine ⟨_, rfl, (held_cons o11 (held_cons o10 (held_cons trivial held_nil))), ?_⟩
            refine wpD_take (v := (Value.bool r470)) 9 (fun _ => True) rfl (by kernel_rfl) (by kernel_rfl) (by kernel_rfl) (wantG rfl rfl rfl hc335) rfl rfl trivial (fun w _ => (x_pickT (v := (Value.bool r470)) rfl rfl hc425 rfl)) ?_
            refine wpD_all (rs := [12]) (by kernel_rfl) (by simp) (allD_cons ?_ allD_nil)
            refine stepD_enterL (L' := [(9, fun _ => True), (0, fun _ => True)]) rfl (wantG rfl rfl rfl hc335) rfl rfl (x_call (vs := [(V23 x380 x381 x382 x383 x384 x385 x386 x387 x388 x389 x390 x391 x392 x393 x394 x395 x396 x397 x398 x399 x400 x401), (V23 x402 x403 x404 x405 x406 x407 x408 x409 x410 x411 x412 x413 x414 x415 x416 x417 x418 x419 x420 x421 x422 x423)]) rfl rfl (mapl_cons rfl (mapl_cons rfl mapl_nil)) Try.func20 NN_20 NB_20) (by kernel_rfl) (Calls.mono h ?_)
            rintro _ w18 ⟨r471, rfl, h⟩
            refine ⟨_, rfl, (held_cons trivial (held_cons trivial held_nil)), ?_⟩
            refine wpD_take (v := (Value.bool (r470 == r471))) 13 (fun _ => True) rfl (by kernel_rfl) (by kernel_rfl) (by kernel_rfl) (wantG rfl rfl rfl hc335) rfl rfl trivial (fun w _ => (x_eqlB rfl rfl rfl isBoolT_4)) ?_
            refine wpD_take (v := (Value.bool (r470 == r471))) 14 (fun _ => True) rfl (by kernel_rfl) (by kernel_rfl) (by kernel_rfl) rfl rfl rfl trivial (fun w _ => (x_pickT (v := (Value.bool (r470 == r471))) rfl rfl hc335 rfl)) ?_
            refine wpD_take (v := (Value.bool (r470 == r471))) 15 (fun _ => True) rfl (by kernel_rfl) (by kernel_rfl) (by kernel_rfl) rfl rfl rfl trivial (fun w _ => (x_assign (v := (Value.bool (r470 == r471))) rfl rfl)) ?_
            exact wpD_done (by kernel_rfl) ⟨r470 == r471, ⟨rfl, trivial⟩, h⟩
          · replace h := h.2 hc425
            refine wpD_pass 6 rfl (by kernel_rfl) (by kernel_rfl) (by kernel_rfl) (wantN rfl rfl rfl hc425) rfl rfl ?_
            refine wpD_pass 7 rfl (by kernel_rfl) (by kernel_rfl) (by kernel_rfl) (wantN rfl rfl rfl hc425) rfl rfl ?_
            refine wpD_pass 8 rfl (by kernel_rfl) (by kernel_rfl) (by kernel_rfl) (wantN rfl rfl rfl hc425) rfl rfl ?_
            refine wpD_take (v := (Value.bool false)) 9 (fun _ => True) rfl (by kernel_rfl) (by kernel_rfl) (by kernel_rfl) (wantG rfl rfl rfl hc335) rfl rfl trivial (fun w _ => (x_pickF (v := (Value.bool false)) rfl rfl hc425 rfl)) ?_
            refine wpD_all (rs := [12]) (by kernel_rfl) (by simp) (allD_cons ?_ allD_nil)
            refine stepD_enterL (L' := [(9, fun _ => True), (7, fun _ => True), (6, fun _ => True), (5, fun _ => True), (0, fun _ => True)]) rfl (wantG rfl rfl rfl hc335) rfl rfl (x_call (vs := [(V23 x380 x381 x382 x383 x384 x385 x386 x387 x388 x389 x390 x391 x392 x393 x394 x395 x396 x397 x398 x399 x400 x401), (V23 x402 x403 x404 x405 x406 x407 x408 x409 x410 x411 x412 x413 x414 x415 x416 x417 x418 x419 x420 x421 x422 x423)]) rfl rfl (mapl_cons rfl (mapl_cons rfl mapl_nil)) Try.func20 NN_20 NB_20) (by kernel_rfl) (Calls.mono h ?_)
            rintro _ w19 ⟨r472, rfl, h⟩
            refine ⟨_, rfl, (held_cons trivial (held_cons trivial (held_cons trivial (held_cons trivial (held_cons trivial held_nil))))), ?_⟩
            refine wpD_take (v := (Value.bool (false == r472))) 13 (fun _ => True) rfl (by kernel_rfl) (by kernel_rfl) (by kernel_rfl) (wantG rfl rfl rfl hc335) rfl rfl trivial (fun w _ => (x_eqlB rfl rfl rfl isBoolT_4)) ?_
            refine wpD_take (v := (Value.bool (false == r472))) 14 (fun _ => True) rfl (by kernel_rfl) (by kernel_rfl) (by kernel_rfl) rfl rfl rfl trivial (fun w _ => (x_pickT (v := (Value.bool (false == r472))) rfl rfl hc335 rfl)) ?_
            refine wpD_take (v := (Value.bool (false == r472))) 15 (fun _ => True) rfl (by kernel_rfl) (by kernel_rfl) (by kernel_rfl) rfl rfl rfl trivial (fun w _ => (x_assign (v := (Value.bool (false == r472))) rfl rfl)) ?_
            exact wpD_done (by kernel_rfl) ⟨false == r472, ⟨rfl, trivial⟩, h⟩
        · replace h := h.2 hc335
          refine wpD_pass 2 rfl (by kernel_rfl) (by kernel_rfl) (by kernel_rfl) (wantN rfl rfl rfl hc335) rfl rfl ?_
          refine wpD_pass 3 rfl (by kernel_rfl) (by kernel_rfl) (by kernel_rfl) (wantN rfl rfl rfl hc335) rfl rfl ?_
          refine wpD_pass 4 rfl (by kernel_rfl) (by kernel_rfl) (by kernel_rfl) (wantN rfl rfl rfl hc335) rfl rfl ?_
          refine wpD_pass 5 rfl (by kernel_rfl) (by kernel_rfl) (by kernel_rfl) (wantN rfl rfl rfl hc335) rfl rfl ?_
          refine wpD_pass 6 rfl (by kernel_rfl) (by kernel_rfl) (by kernel_rfl) (wantU rfl rfl rfl) rfl rfl ?_
          refine wpD_pass 7 rfl (by kernel_rfl) (by kernel_rfl) (by kernel_rfl) (wantU rfl rfl rfl) rfl rfl ?_
          refine wpD_pass 8 rfl (by kernel_rfl) (by kernel_rfl) (by kernel_rfl) (wantU rfl rfl rfl) rfl rfl ?_
          refine wpD_pass 9 rfl (by kernel_rfl) (by kernel_rfl) (by kernel_rfl) (wantN rfl rfl rfl hc335) rfl rfl ?_
          refine wpD_pass 10 rfl (by kernel_rfl) (by kernel_rfl) (by kernel_rfl) (wantN rfl rfl rfl hc335) rfl rfl ?_
          refine wpD_pass 11 rfl (by kernel_rfl) (by kernel_rfl) (by kernel_rfl) (wantN rfl rfl rfl hc335) rfl rfl ?_
          refine wpD_pass 12 rfl (by kernel_rfl) (by kernel_rfl) (by kernel_rfl) (wantN rfl rfl rfl hc335) rfl rfl ?_
          refine wpD_pass 13 rfl (by kernel_rfl) (by kernel_rfl) (by kernel_rfl) (wantN rfl rfl rfl hc335) rfl rfl ?_
          refine wpD_take (v := (Value.bool false)) 14 (fun _ => True) rfl (by kernel_rfl) (by kernel_rfl) (by kernel_rfl) rfl rfl rfl trivial (fun w _ => (x_pickF (v := (Value.bool false)) rfl rfl hc335 rfl)) ?_
          refine wpD_take (v := (Value.bool false)) 15 (fun _ => True) rfl (by kernel_rfl) (by kernel_rfl) (by kernel_rfl) rfl rfl rfl trivial (fun w _ => (x_assign (v := (Value.bool false)) rfl rfl)) ?_
          exact wpD_done (by kernel_rfl) ⟨false, ⟨rfl, trivial⟩, h⟩
      clear h
      rintro l473 ρ w20 ⟨e6, -⟩ h
      replace h := hk l473 w20 h
      clear hk
      refine wpC_ret ?_
      exact ⟨.inl rfl, fun a ha => ⟨_, results_rep1 rfl ha e6, l473, rfl, h⟩⟩


end Go.Proofs.Ytadlnbdelkbboaa
