import Derived.Test.YtnoahloppffndaaRows
import Derived.Test.YtnoahloppffndaaDecRaw
namespace Go.Proofs.Ytnoahloppffndaa
open Go.Dec
set_option maxHeartbeats 400000
set_option maxRecDepth 100000

@[reducible] def T23 : Type := ByteArray × Int × Int × Int × Bool × Int × Bool × Bool × Int × Int × Int × Int × Sl × Int × Int × Int × Int × Bool × Int × Int × Int × Int
@[reducible] def V23 (x0 : ByteArray) (x1 : Int) (x2 : Int) (x3 : Int) (x4 : Bool) (x5 : Int) (x6 : Bool) (x7 : Bool) (x8 : Int) (x9 : Int) (x10 : Int) (x11 : Int) (x12 : Sl) (x13 : Int) (x14 : Int) (x15 : Int) (x16 : Int) (x17 : Bool) (x18 : Int) (x19 : Int) (x20 : Int) (x21 : Int) : Value := .agg #[.string x0, .int .i64 x1, .int .i64 x2, .int .i64 x3, .bool x4, .int .i64 x5, .bool x6, .bool x7, .int .i64 x8, .int .i64 x9, .int .i64 x10, .int .i64 x11, Sl.v x12, .int .i64 x13, .int .i64 x14, .int .i64 x15, .int .i64 x16, .bool x17, .int .i64 x18, .int .i64 x19, .int .i64 x20, .int .i64 x21]
@[reducible] def A23 (x0 : ByteArray) (x1 : Int) (x2 : Int) (x3 : Int) (x4 : Bool) (x5 : Int) (x6 : Bool) (x7 : Bool) (x8 : Int) (x9 : Int) (x10 : Int) (x11 : Int) (x12 : Sl) (x13 : Int) (x14 : Int) (x15 : Int) (x16 : Int) (x17 : Bool) (x18 : Int) (x19 : Int) (x20 : Int) (x21 : Int) : Array Value := #[.string x0, .int .i64 x1, .int .i64 x2, .int .i64 x3, .bool x4, .int .i64 x5, .bool x6, .bool x7, .int .i64 x8, .int .i64 x9, .int .i64 x10, .int .i64 x11, Sl.v x12, .int .i64 x13, .int .i64 x14, .int .i64 x15, .int .i64 x16, .bool x17, .int .i64 x18, .int .i64 x19, .int .i64 x20, .int .i64 x21]
@[reducible] def S23 (x0 : ByteArray) (x1 : Int) (x2 : Int) (x3 : Int) (x4 : Bool) (x5 : Int) (x6 : Bool) (x7 : Bool) (x8 : Int) (x9 : Int) (x10 : Int) (x11 : Int) (x12 : Sl) (x13 : Int) (x14 : Int) (x15 : Int) (x16 : Int) (x17 : Bool) (x18 : Int) (x19 : Int) (x20 : Int) (x21 : Int) : List Value := [.string x0, .int .i64 x1, .int .i64 x2, .int .i64 x3, .bool x4, .int .i64 x5, .bool x6, .bool x7, .int .i64 x8, .int .i64 x9, .int .i64 x10, .int .i64 x11, Sl.v x12, .int .i64 x13, .int .i64 x14, .int .i64 x15, .int .i64 x16, .bool x17, .int .i64 x18, .int .i64 x19, .int .i64 x20, .int .i64 x21]
@[reducible] def E23 (r : T23) : Value := V23 r.1 r.2.1 r.2.2.1 r.2.2.2.1 r.2.2.2.2.1 r.2.2.2.2.2.1 r.2.2.2.2.2.2.1 r.2.2.2.2.2.2.2.1 r.2.2.2.2.2.2.2.2.1 r.2.2.2.2.2.2.2.2.2.1 r.2.2.2.2.2.2.2.2.2.2.1 r.2.2.2.2.2.2.2.2.2.2.2.1 r.2.2.2.2.2.2.2.2.2.2.2.2.1 r.2.2.2.2.2.2.2.2.2.2.2.2.2.1 r.2.2.2.2.2.2.2.2.2.2.2.2.2.2.1 r.2.2.2.2.2.2.2.2.2.2.2.2.2.2.2.1 r.2.2.2.2.2.2.2.2.2.2.2.2.2.2.2.2.1 r.2.2.2.2.2.2.2.2.2.2.2.2.2.2.2.2.2.1 r.2.2.2.2.2.2.2.2.2.2.2.2.2.2.2.2.2.2.1 r.2.2.2.2.2.2.2.2.2.2.2.2.2.2.2.2.2.2.2.1 r.2.2.2.2.2.2.2.2.2.2.2.2.2.2.2.2.2.2.2.2.1 r.2.2.2.2.2.2.2.2.2.2.2.2.2.2.2.2.2.2.2.2.2
@[reducible] def C23 (p : Addr) (x0 : ByteArray) (x1 : Int) (x2 : Int) (x3 : Int) (x4 : Bool) (x5 : Int) (x6 : Bool) (x7 : Bool) (x8 : Int) (x9 : Int) (x10 : Int) (x11 : Int) (x12 : Sl) (x13 : Int) (x14 : Int) (x15 : Int) (x16 : Int) (x17 : Bool) (x18 : Int) (x19 : Int) (x20 : Int) (x21 : Int) (w : World) : Prop := w.cell? (p.add 0) = some (.string x0) ∧ w.cell? (p.add 1) = some (.int .i64 x1) ∧ w.cell? (p.add 2) = some (.int .i64 x2) ∧ w.cell? (p.add 3) = some (.int .i64 x3) ∧ w.cell? (p.add 4) = some (.bool x4) ∧ w.cell? (p.add 5) = some (.int .i64 x5) ∧ w.cell? (p.add 6) = some (.bool x6) ∧ w.cell? (p.add 7) = some (.bool x7) ∧ w.cell? (p.add 8) = some (.int .i64 x8) ∧ w.cell? (p.add 9) = some (.int .i64 x9) ∧ w.cell? (p.add 10) = some (.int .i64 x10) ∧ w.cell? (p.add 11) = some (.int .i64 x11) ∧ w.cell? (p.add 12) = some (Sl.v x12) ∧ w.cell? (p.add 13) = some (.int .i64 x13) ∧ w.cell? (p.add 14) = some (.int .i64 x14) ∧ w.cell? (p.add 15) = some (.int .i64 x15) ∧ w.cell? (p.add 16) = some (.int .i64 x16) ∧ w.cell? (p.add 17) = some (.bool x17) ∧ w.cell? (p.add 18) = some (.int .i64 x18) ∧ w.cell? (p.add 19) = some (.int .i64 x19) ∧ w.cell? (p.add 20) = some (.int .i64 x20) ∧ w.cell? (p.add 21) = some (.int .i64 x21)
@[reducible] def L23 (p : Addr) (w : World) (K : ByteArray → Int → Int → Int → Bool → Int → Bool → Bool → Int → Int → Int → Int → Sl → Int → Int → Int → Int → Bool → Int → Int → Int → Int → Prop) : Prop := ld Value.string (p.add 0) w fun x0 => ld (Value.int .i64) (p.add 1) w fun x1 => ld (Value.int .i64) (p.add 2) w fun x2 => ld (Value.int .i64) (p.add 3) w fun x3 => ld Value.bool (p.add 4) w fun x4 => ld (Value.int .i64) (p.add 5) w fun x5 => ld Value.bool (p.add 6) w fun x6 => ld Value.bool (p.add 7) w fun x7 => ld (Value.int .i64) (p.add 8) w fun x8 => ld (Value.int .i64) (p.add 9) w fun x9 => ld (Value.int .i64) (p.add 10) w fun x10 => ld (Value.int .i64) (p.add 11) w fun x11 => ld Sl.v (p.add 12) w fun x12 => ld (Value.int .i64) (p.add 13) w fun x13 => ld (Value.int .i64) (p.add 14) w fun x14 => ld (Value.int .i64) (p.add 15) w fun x15 => ld (Value.int .i64) (p.add 16) w fun x16 => ld Value.bool (p.add 17) w fun x17 => ld (Value.int .i64) (p.add 18) w fun x18 => ld (Value.int .i64) (p.add 19) w fun x19 => ld (Value.int .i64) (p.add 20) w fun x20 => ld (Value.int .i64) (p.add 21) w fun x21 => K x0 x1 x2 x3 x4 x5 x6 x7 x8 x9 x10 x11 x12 x13 x14 x15 x16 x17 x18 x19 x20 x21
theorem K23 {w : World} {p : Addr} {x0 : ByteArray} {x1 : Int} {x2 : Int} {x3 : Int} {x4 : Bool} {x5 : Int} {x6 : Bool} {x7 : Bool} {x8 : Int} {x9 : Int} {x10 : Int} {x11 : Int} {x12 : Sl} {x13 : Int} {x14 : Int} {x15 : Int} {x16 : Int} {x17 : Bool} {x18 : Int} {x19 : Int} {x20 : Int} {x21 : Int} (h : C23 p x0 x1 x2 x3 x4 x5 x6 x7 x8 x9 x10 x11 x12 x13 x14 x15 x16 x17 x18 x19 x20 x21 w) : ∀ (j : Nat) (u : Value), (S23 x0 x1 x2 x3 x4 x5 x6 x7 x8 x9 x10 x11 x12 x13 x14 x15 x16 x17 x18 x19 x20 x21)[j]? = some u → w.cell? (p.add j) = some u := by
  obtain ⟨q0, q1, q2, q3, q4, q5, q6, q7, q8, q9, q10, q11, q12, q13, q14, q15, q16, q17, q18, q19, q20, q21⟩ := h
  exact CellsAt.out (CellsAt.cons q0 (CellsAt.cons q1 (CellsAt.cons q2 (CellsAt.cons q3 (CellsAt.cons q4 (CellsAt.cons q5 (CellsAt.cons q6 (CellsAt.cons q7 (CellsAt.cons q8 (CellsAt.cons q9 (CellsAt.cons q10 (CellsAt.cons q11 (CellsAt.cons q12 (CellsAt.cons q13 (CellsAt.cons q14 (CellsAt.cons q15 (CellsAt.cons q16 (CellsAt.cons q17 (CellsAt.cons q18 (CellsAt.cons q19 (CellsAt.cons q20 (CellsAt.cons q21 CellsAt.nil))))))))))))))))))))))

theorem BD_24_ : ∀ w, (Instr.build 24 #[]).run Try.prog w = .ok (V23 (ByteArray.mk #[]) 0 0 0 false 0 false false 0 0 0 0 Sl.nil 0 0 0 0 false 0 0 0 0) w := fun w => by kernel_rfl
theorem BD_24_0_1_4_5_6_8_9_10_11_12_18_20 (y0 : ByteArray) (y1 : Int) (y4 : Bool) (y5 : Int) (y6 : Bool) (y8 : Int) (y9 : Int) (y10 : Int) (y11 : Int) (y12 : Sl) (y18 : Int) (y20 : Int) : ∀ w, (Instr.build 24 #[(0, (Value.string y0)), (1, (Value.int .i64 y1)), (4, (Value.bool y4)), (5, (Value.int .i64 y5)), (6, (Value.bool y6)), (8, (Value.int .i64 y8)), (9, (Value.int .i64 y9)), (10, (Value.int .i64 y10)), (11, (Value.int .i64 y11)), (12, (Sl.v y12)), (18, (Value.int .i64 y18)), (20, (Value.int .i64 y20))]).run Try.prog w = .ok (V23 y0 y1 0 0 y4 y5 y6 false y8 y9 y10 y11 y12 0 0 0 0 false y18 0 y20 0) w := fun w => by kernel_rfl
theorem BD_44_0_1_2 (y0 : Int) (y1 : Int) (y2 : Int) : ∀ w, (Instr.build 44 #[(0, (Value.int .i64 y0)), (1, (Value.int .i64 y1)), (2, (Value.int .i64 y2))]).run Try.prog w = .ok (Value.agg #[(Value.int .i64 y0), (Value.int .i64 y1), (Value.int .i64 y2)]) w := fun w => by kernel_rfl
theorem BD_46_ : ∀ w, (Instr.build 46 #[]).run Try.prog w = .ok (Value.agg #[(Value.int .i64 0), (Value.int .i64 0)]) w := fun w => by kernel_rfl
theorem BD_46_0_1 (y0 : Int) (y1 : Int) : ∀ w, (Instr.build 46 #[(0, (Value.int .i64 y0)), (1, (Value.int .i64 y1))]).run Try.prog w = .ok (Value.agg #[(Value.int .i64 y0), (Value.int .i64 y1)]) w := fun w => by kernel_rfl
theorem BD_55_0_1 (y0 : Int) (y1 : Int) (y2 : Bool) : ∀ w, (Instr.build 55 #[(0, (Value.agg #[(Value.int .i64 y0), (Value.int .i64 y1)])), (1, (Value.bool y2))]).run Try.prog w = .ok (Value.agg #[(Value.int .i64 y0), (Value.int .i64 y1), (Value.bool y2)]) w := fun w => by kernel_rfl
theorem BD_61_0_1_2_3_4 (y0 : Int) (y1 : Int) (y2 : Int) (y3 : Int) (y4 : Bool) : ∀ w, (Instr.build 61 #[(0, (Value.int .i64 y0)), (1, (Value.int .i64 y1)), (2, (Value.int .i64 y2)), (3, (Value.int .i64 y3)), (4, (Value.bool y4))]).run Try.prog w = .ok (Value.agg #[(Value.int .i64 y0), (Value.int .i64 y1), (Value.int .i64 y2), (Value.int .i64 y3), (Value.bool y4)]) w := fun w => by kernel_rfl
theorem BD_72_0_1 (y0 : Bool) (y1 : Int) (y2 : Int) : ∀ w, (Instr.build 72 #[(0, (Value.bool y0)), (1, (Value.agg #[(Value.int .i64 y1), (Value.int .i64 y2)]))]).run Try.prog w = .ok (Value.agg #[(Value.bool y0), (Value.int .i64 y1), (Value.int .i64 y2)]) w := fun w => by kernel_rfl
theorem BD_82_0_1 (y0 : Int) (y1 : Int) : ∀ w, (Instr.build 82 #[(0, (Value.int .i64 y0)), (1, (Value.int .i64 y1))]).run Try.prog w = .ok (Value.agg #[(Value.int .i64 y0), (Value.int .i64 y1)]) w := fun w => by kernel_rfl
theorem BS_22_1_0 (y0 : ByteArray) : ∀ w, (Instr.buildSlice 22 1 #[(0, (Value.string y0))]).run Try.prog w = .ok (.slice (some ⟨w.heap.size, 0, none⟩) 1 1) (w.alloc (.cells #[(Value.string y0)] 9)) := fun w => by kernel_rfl
theorem BS_25_0_ : ∀ w, (Instr.buildSlice 25 0 #[]).run Try.prog w = .ok (.slice (some ⟨w.heap.size, 0, none⟩) 0 0) (w.alloc (.cells #[] 46)) := fun w => by kernel_rfl
theorem BS_26_1_0 (y0 : Int) (y1 : Int) (y2 : Int) : ∀ w, (Instr.buildSlice 26 1 #[(0, (Value.agg #[(Value.int .i64 y0), (Value.int .i64 y1), (Value.int .i64 y2)]))]).run Try.prog w = .ok (.slice (some ⟨w.heap.size, 0, none⟩) 1 1) (w.alloc (.cells #[(Value.int .i64 y0), (Value.int .i64 y1), (Value.int .i64 y2)] 44)) := fun w => by kernel_rfl
theorem BS_26_5_0_1_2_3_4 (y0 : Int) (y1 : Int) (y2 : Int) (y3 : Int) (y4 : Int) (y5 : Int) (y6 : Int) (y7 : Int) (y8 : Int) (y9 : Int) (y10 : Int) (y11 : Int) (y12 : Int) (y13 : Int) (y14 : Int) : ∀ w, (Instr.buildSlice 26 5 #[(0, (Value.agg #[(Value.int .i64 y0), (Value.int .i64 y1), (Value.int .i64 y2)])), (1, (Value.agg #[(Value.int .i64 y3), (Value.int .i64 y4), (Value.int .i64 y5)])), (2, (Value.agg #[(Value.int .i64 y6), (Value.int .i64 y7), (Value.int .i64 y8)])), (3, (Value.agg #[(Value.int .i64 y9), (Value.int .i64 y10), (Value.int .i64 y11)])), (4, (Value.agg #[(Value.int .i64 y12), (Value.int .i64 y13), (Value.int .i64 y14)]))]).run Try.prog w = .ok (.slice (some ⟨w.heap.size, 0, none⟩) 5 5) (w.alloc (.cells #[(Value.int .i64 y0), (Value.int .i64 y1), (Value.int .i64 y2), (Value.int .i64 y3), (Value.int .i64 y4), (Value.int .i64 y5), (Value.int .i64 y6), (Value.int .i64 y7), (Value.int .i64 y8), (Value.int .i64 y9), (Value.int .i64 y10), (Value.int .i64 y11), (Value.int .i64 y12), (Value.int .i64 y13), (Value.int .i64 y14)] 44)) := fun w => by kernel_rfl
theorem BS_51_1_0 (y0 : Int) (y1 : Int) (y2 : Bool) : ∀ w, (Instr.buildSlice 51 1 #[(0, (Value.agg #[(Value.int .i64 y0), (Value.int .i64 y1), (Value.bool y2)]))]).run Try.prog w = .ok (.slice (some ⟨w.heap.size, 0, none⟩) 1 1) (w.alloc (.cells #[(Value.int .i64 y0), (Value.int .i64 y1), (Value.bool y2)] 55)) := fun w => by kernel_rfl
theorem BS_51_2_0_1 (y0 : Int) (y1 : Int) (y2 : Bool) (y3 : Int) (y4 : Int) (y5 : Bool) : ∀ w, (Instr.buildSlice 51 2 #[(0, (Value.agg #[(Value.int .i64 y0), (Value.int .i64 y1), (Value.bool y2)])), (1, (Value.agg #[(Value.int .i64 y3), (Value.int .i64 y4), (Value.bool y5)]))]).run Try.prog w = .ok (.slice (some ⟨w.heap.size, 0, none⟩) 2 2) (w.alloc (.cells #[(Value.int .i64 y0), (Value.int .i64 y1), (Value.bool y2), (Value.int .i64 y3), (Value.int .i64 y4), (Value.bool y5)] 55)) := fun w => by kernel_rfl
theorem BS_51_3_0_1_2 (y0 : Int) (y1 : Int) (y2 : Bool) (y3 : Int) (y4 : Int) (y5 : Bool) (y6 : Int) (y7 : Int) (y8 : Bool) : ∀ w, (Instr.buildSlice 51 3 #[(0, (Value.agg #[(Value.int .i64 y0), (Value.int .i64 y1), (Value.bool y2)])), (1, (Value.agg #[(Value.int .i64 y3), (Value.int .i64 y4), (Value.bool y5)])), (2, (Value.agg #[(Value.int .i64 y6), (Value.int .i64 y7), (Value.bool y8)]))]).run Try.prog w = .ok (.slice (some ⟨w.heap.size, 0, none⟩) 3 3) (w.alloc (.cells #[(Value.int .i64 y0), (Value.int .i64 y1), (Value.bool y2), (Value.int .i64 y3), (Value.int .i64 y4), (Value.bool y5), (Value.int .i64 y6), (Value.int .i64 y7), (Value.bool y8)] 55)) := fun w => by kernel_rfl
theorem BS_58_22_0_1_2_3_4_5_6_7_8_9_10_11_12_13_14_15_16_17_18_19_20_21 (y0 : Int) (y1 : Int) (y2 : Int) (y3 : Int) (y4 : Bool) (y5 : Int) (y6 : Int) (y7 : Int) (y8 : Int) (y9 : Bool) (y10 : Int) (y11 : Int) (y12 : Int) (y13 : Int) (y14 : Bool) (y15 : Int) (y16 : Int) (y17 : Int) (y18 : Int) (y19 : Bool) (y20 : Int) (y21 : Int) (y22 : Int) (y23 : Int) (y24 : Bool) (y25 : Int) (y26 : Int) (y27 : Int) (y28 : Int) (y29 : Bool) (y30 : Int) (y31 : Int) (y32 : Int) (y33 : Int) (y34 : Bool) (y35 : Int) (y36 : Int) (y37 : Int) (y38 : Int) (y39 : Bool) (y40 : Int) (y41 : Int) (y42 : Int) (y43 : Int) (y44 : Bool) (y45 : Int) (y46 : Int) (y47 : Int) (y48 : Int) (y49 : Bool) (y50 : Int) (y51 : Int) (y52 : Int) (y53 : Int) (y54 : Bool) (y55 : Int) (y56 : Int) (y57 : Int) (y58 : Int) (y59 : Bool) (y60 : Int) (y61 : Int) (y62 : Int) (y63 : Int) (y64 : Bool) (y65 : Int) (y66 : Int) (y67 : Int) (y68 : Int) (y69 : Bool) (y70 : Int) (y71 : Int) (y72 : Int) (y73 : Int) (y74 : Bool) (y75 : Int) (y76 : Int) (y77 : Int) (y78 : Int) (y79 : Bool) (y80 : Int) (y81 : Int) (y82 : Int) (y83 : Int) (y84 : Bool) (y85 : Int) (y86 : Int) (y87 : Int) (y88 : Int) (y89 : Bool) (y90 : Int) (y91 : Int) (y92 : Int) (y93 : Int) (y94 : Bool) (y95 : Int) (y96 : Int) (y97 : Int) (y98 : Int) (y99 : Bool) (y100 : Int) (y101 : Int) (y102 : Int) (y103 : Int) (y104 : Bool) (y105 : Int) (y106 : Int) (y107 : Int) (y108 : Int) (y109 : Bool) : ∀ w, (Instr.buildSlice 58 22 #[(0, (Value.agg #[(Value.int .i64 y0), (Value.int .i64 y1), (Value.int .i64 y2), (Value.int .i64 y3), (Value.bool y4)])), (1, (Value.agg #[(Value.int .i64 y5), (Value.int .i64 y6), (Value.int .i64 y7), (Value.int .i64 y8), (Value.bool y9)])), (2, (Value.agg #[(Value.int .i64 y10), (Value.int .i64 y11), (Value.int .i64 y12), (Value.int .i64 y13), (Value.bool y14)])), (3, (Value.agg #[(Value.int .i64 y15), (Value.int .i64 y16), (Value.int .i64 y17), (Value.int .i64 y18), (Value.bool y19)])), (4, (Value.agg #[(Value.int .i64 y20), (Value.int .i64 y21), (Value.int .i64 y22), (Value.int .i64 y23), (Value.bool y24)])), (5, (Value.agg #[(Value.int .i64 y25), (Value.int .i64 y26), (Value.int .i64 y27), (Value.int .i64 y28), (Value.bool y29)])), (6, (Value.agg #[(Value.int .i64 y30), (Value.int .i64 y31), (Value.int .i64 y32), (Value.int .i64 y33), (Value.bool y34)])), (7, (Value.agg #[(Value.int .i64 y35), (Value.int .i64 y36), (Value.int .i64 y37), (Value.int .i64 y38), (Value.bool y39)])), (8, (Value.agg #[(Value.int .i64 y40), (Value.int .i64 y41), (Value.int .i64 y42), (Value.int .i64 y43), (Value.bool y44)])), (9, (Value.agg #[(Value.int .i64 y45), (Value.int .i64 y46), (Value.int .i64 y47), (Value.int .i64 y48), (Value.bool y49)])), (10, (Value.agg #[(Value.int .i64 y50), (Value.int .i64 y51), (Value.int .i64 y52), (Value.int .i64 y53), (Value.bool y54)])), (11, (Value.agg #[(Value.int .i64 y55), (Value.int .i64 y56), (Value.int .i64 y57), (Value.int .i64 y58), (Value.bool y59)])), (12, (Value.agg #[(Value.int .i64 y60), (Value.int .i64 y61), (Value.int .i64 y62), (Value.int .i64 y63), (Value.bool y64)])), (13, (Value.agg #[(Value.int .i64 y65), (Value.int .i64 y66), (Value.int .i64 y67), (Value.int .i64 y68), (Value.bool y69)])), (14, (Value.agg #[(Value.int .i64 y70), (Value.int .i64 y71), (Value.int .i64 y72), (Value.int .i64 y73), (Value.bool y74)])), (15, (Value.agg #[(Value.int .i64 y75), (Value.int .i64 y76), (Value.int .i64 y77), (Value.int .i64 y78), (Value.bool y79)])), (16, (Value.agg #[(Value.int .i64 y80), (Value.int .i64 y81), (Value.int .i64 y82), (Value.int .i64 y83), (Value.bool y84)])), (17, (Value.agg #[(Value.int .i64 y85), (Value.int .i64 y86), (Value.int .i64 y87), (Value.int .i64 y88), (Value.bool y89)])), (18, (Value.agg #[(Value.int .i64 y90), (Value.int .i64 y91), (Value.int .i64 y92), (Value.int .i64 y93), (Value.bool y94)])), (19, (Value.agg #[(Value.int .i64 y95), (Value.int .i64 y96), (Value.int .i64 y97), (Value.int .i64 y98), (Value.bool y99)])), (20, (Value.agg #[(Value.int .i64 y100), (Value.int .i64 y101), (Value.int .i64 y102), (Value.int .i64 y103), (Value.bool y104)])), (21, (Value.agg #[(Value.int .i64 y105), (Value.int .i64 y106), (Value.int .i64 y107), (Value.int .i64 y108), (Value.bool y109)]))]).run Try.prog w = .ok (.slice (some ⟨w.heap.size, 0, none⟩) 22 22) (w.alloc (.cells #[(Value.int .i64 y0), (Value.int .i64 y1), (Value.int .i64 y2), (Value.int .i64 y3), (Value.bool y4), (Value.int .i64 y5), (Value.int .i64 y6), (Value.int .i64 y7), (Value.int .i64 y8), (Value.bool y9), (Value.int .i64 y10), (Value.int .i64 y11), (Value.int .i64 y12), (Value.int .i64 y13), (Value.bool y14), (Value.int .i64 y15), (Value.int .i64 y16), (Value.int .i64 y17), (Value.int .i64 y18), (Value.bool y19), (Value.int .i64 y20), (Value.int .i64 y21), (Value.int .i64 y22), (Value.int .i64 y23), (Value.bool y24), (Value.int .i64 y25), (Value.int .i64 y26), (Value.int .i64 y27), (Value.int .i64 y28), (Value.bool y29), (Value.int .i64 y30), (Value.int .i64 y31), (Value.int .i64 y32), (Value.int .i64 y33), (Value.bool y34), (Value.int .i64 y35), (Value.int .i64 y36), (Value.int .i64 y37), (Value.int .i64 y38), (Value.bool y39), (Value.int .i64 y40), (Value.int .i64 y41), (Value.int .i64 y42), (Value.int .i64 y43), (Value.bool y44), (Value.int .i64 y45), (Value.int .i64 y46), (Value.int .i64 y47), (Value.int .i64 y48), (Value.bool y49), (Value.int .i64 y50), (Value.int .i64 y51), (Value.int .i64 y52), (Value.int .i64 y53), (Value.bool y54), (Value.int .i64 y55), (Value.int .i64 y56), (Value.int .i64 y57), (Value.int .i64 y58), (Value.bool y59), (Value.int .i64 y60), (Value.int .i64 y61), (Value.int .i64 y62), (Value.int .i64 y63), (Value.bool y64), (Value.int .i64 y65), (Value.int .i64 y66), (Value.int .i64 y67), (Value.int .i64 y68), (Value.bool y69), (Value.int .i64 y70), (Value.int .i64 y71), (Value.int .i64 y72), (Value.int .i64 y73), (Value.bool y74), (Value.int .i64 y75), (Value.int .i64 y76), (Value.int .i64 y77), (Value.int .i64 y78), (Value.bool y79), (Value.int .i64 y80), (Value.int .i64 y81), (Value.int .i64 y82), (Value.int .i64 y83), (Value.bool y84), (Value.int .i64 y85), (Value.int .i64 y86), (Value.int .i64 y87), (Value.int .i64 y88), (Value.bool y89), (Value.int .i64 y90), (Value.int .i64 y91), (Value.int .i64 y92), (Value.int .i64 y93), (Value.bool y94), (Value.int .i64 y95), (Value.int .i64 y96), (Value.int .i64 y97), (Value.int .i64 y98), (Value.bool y99), (Value.int .i64 y100), (Value.int .i64 y101), (Value.int .i64 y102), (Value.int .i64 y103), (Value.bool y104), (Value.int .i64 y105), (Value.int .i64 y106), (Value.int .i64 y107), (Value.int .i64 y108), (Value.bool y109)] 61)) := fun w => by kernel_rfl
theorem BS_63_9_0_1_2_3_4_5_6_7_8 (y0 : Int) (y1 : Int) (y2 : Int) (y3 : Int) (y4 : Int) (y5 : Int) (y6 : Int) (y7 : Int) (y8 : Int) : ∀ w, (Instr.buildSlice 63 9 #[(0, (Value.int .i64 y0)), (1, (Value.int .i64 y1)), (2, (Value.int .i64 y2)), (3, (Value.int .i64 y3)), (4, (Value.int .i64 y4)), (5, (Value.int .i64 y5)), (6, (Value.int .i64 y6)), (7, (Value.int .i64 y7)), (8, (Value.int .i64 y8))]).run Try.prog w = .ok (.slice (some ⟨w.heap.size, 0, none⟩) 9 9) (w.alloc (.cells #[(Value.int .i64 y0), (Value.int .i64 y1), (Value.int .i64 y2), (Value.int .i64 y3), (Value.int .i64 y4), (Value.int .i64 y5), (Value.int .i64 y6), (Value.int .i64 y7), (Value.int .i64 y8)] 3)) := fun w => by kernel_rfl
theorem BS_83_6_0_1_2_3_4_5 (y0 : Int) (y1 : Int) (y2 : Int) (y3 : Int) (y4 : Int) (y5 : Int) (y6 : Int) (y7 : Int) (y8 : Int) (y9 : Int) (y10 : Int) (y11 : Int) : ∀ w, (Instr.buildSlice 83 6 #[(0, (Value.agg #[(Value.int .i64 y0), (Value.int .i64 y1)])), (1, (Value.agg #[(Value.int .i64 y2), (Value.int .i64 y3)])), (2, (Value.agg #[(Value.int .i64 y4), (Value.int .i64 y5)])), (3, (Value.agg #[(Value.int .i64 y6), (Value.int .i64 y7)])), (4, (Value.agg #[(Value.int .i64 y8), (Value.int .i64 y9)])), (5, (Value.agg #[(Value.int .i64 y10), (Value.int .i64 y11)]))]).run Try.prog w = .ok (.slice (some ⟨w.heap.size, 0, none⟩) 6 6) (w.alloc (.cells #[(Value.int .i64 y0), (Value.int .i64 y1), (Value.int .i64 y2), (Value.int .i64 y3), (Value.int .i64 y4), (Value.int .i64 y5), (Value.int .i64 y6), (Value.int .i64 y7), (Value.int .i64 y8), (Value.int .i64 y9), (Value.int .i64 y10), (Value.int .i64 y11)] 82)) := fun w => by kernel_rfl
theorem BS_85_2_0_1 (y0 : Bool) (y1 : Int) (y2 : Int) (y3 : Bool) (y4 : Int) (y5 : Int) : ∀ w, (Instr.buildSlice 85 2 #[(0, (Value.agg #[(Value.bool y0), (Value.int .i64 y1), (Value.int .i64 y2)])), (1, (Value.agg #[(Value.bool y3), (Value.int .i64 y4), (Value.int .i64 y5)]))]).run Try.prog w = .ok (.slice (some ⟨w.heap.size, 0, none⟩) 2 2) (w.alloc (.cells #[(Value.bool y0), (Value.int .i64 y1), (Value.int .i64 y2), (Value.bool y3), (Value.int .i64 y4), (Value.int .i64 y5)] 72)) := fun w => by kernel_rfl
theorem BS_85_3_0_1_2 (y0 : Bool) (y1 : Int) (y2 : Int) (y3 : Bool) (y4 : Int) (y5 : Int) (y6 : Bool) (y7 : Int) (y8 : Int) : ∀ w, (Instr.buildSlice 85 3 #[(0, (Value.agg #[(Value.bool y0), (Value.int .i64 y1), (Value.int .i64 y2)])), (1, (Value.agg #[(Value.bool y3), (Value.int .i64 y4), (Value.int .i64 y5)])), (2, (Value.agg #[(Value.bool y6), (Value.int .i64 y7), (Value.int .i64 y8)]))]).run Try.prog w = .ok (.slice (some ⟨w.heap.size, 0, none⟩) 3 3) (w.alloc (.cells #[(Value.bool y0), (Value.int .i64 y1), (Value.int .i64 y2), (Value.bool y3), (Value.int .i64 y4), (Value.int .i64 y5), (Value.bool y6), (Value.int .i64 y7), (Value.int .i64 y8)] 72)) := fun w => by kernel_rfl
theorem EQ1_44 : Try.prog.underlying 44 = some (.struct (Try.prog.fieldsOf 44)) := by kernel_rfl
theorem EQ1_46 : Try.prog.underlying 46 = some (.struct (Try.prog.fieldsOf 46)) := by kernel_rfl
theorem EQ1_55 : Try.prog.underlying 55 = some (.struct (Try.prog.fieldsOf 55)) := by kernel_rfl
theorem EQ2_44 : Try.prog.stoodInHeld 44 = false := by kernel_rfl
theorem EQ2_46 : Try.prog.stoodInHeld 46 = false := by kernel_rfl
theorem EQ2_55 : Try.prog.stoodInHeld 55 = false := by kernel_rfl
theorem EQ3_44 : Try.prog.eqGuardType Try.prog.depth 44 = false := by kernel_rfl
theorem EQ3_46 : Try.prog.eqGuardType Try.prog.depth 46 = false := by kernel_rfl
theorem EQ3_55 : Try.prog.eqGuardType Try.prog.depth 55 = false := by kernel_rfl
theorem EQ_44 (y0 : Int) (y1 : Int) (y2 : Int) (z0 : Int) (z1 : Int) (z2 : Int) : fieldsEq Try.prog #[(Value.int .i64 y0), (Value.int .i64 y1), (Value.int .i64 y2)] #[(Value.int .i64 z0), (Value.int .i64 z1), (Value.int .i64 z2)] (Try.prog.fieldsOf 44).toList = some (decide (y0 = z0) && (decide (y1 = z1) && (decide (y2 = z2) && true))) := by kernel_rfl
theorem EQ_46 (y0 : Int) (y1 : Int) (z0 : Int) (z1 : Int) : fieldsEq Try.prog #[(Value.int .i64 y0), (Value.int .i64 y1)] #[(Value.int .i64 z0), (Value.int .i64 z1)] (Try.prog.fieldsOf 46).toList = some (decide (y0 = z0) && (decide (y1 = z1) && true)) := by kernel_rfl
theorem EQ_55 (y0 : Int) (y1 : Int) (y2 : Bool) (z0 : Int) (z1 : Int) (z2 : Bool) : fieldsEq Try.prog #[(Value.int .i64 y0), (Value.int .i64 y1), (Value.bool y2)] #[(Value.int .i64 z0), (Value.int .i64 z1), (Value.bool z2)] (Try.prog.fieldsOf 55).toList = some ((decide (y0 = z0) && (decide (y1 = z1) && true)) && ((y2 == z2) && true)) := by kernel_rfl
theorem ES_22 : elemSize Try.prog 22 = some 1 := by kernel_rfl
theorem ES_25 : elemSize Try.prog 25 = some 2 := by kernel_rfl
theorem ES_26 : elemSize Try.prog 26 = some 3 := by kernel_rfl
theorem ES_51 : elemSize Try.prog 51 = some 3 := by kernel_rfl
theorem ES_58 : elemSize Try.prog 58 = some 5 := by kernel_rfl
theorem ES_63 : elemSize Try.prog 63 = some 1 := by kernel_rfl
theorem ES_80 : elemSize Try.prog 80 = some 1 := by kernel_rfl
theorem ES_83 : elemSize Try.prog 83 = some 2 := by kernel_rfl
theorem ES_85 : elemSize Try.prog 85 = some 3 := by kernel_rfl
theorem FA_24_0 : fieldOff Try.prog 24 0 = some 0 := by kernel_rfl
theorem FA_24_1 : fieldOff Try.prog 24 1 = some 1 := by kernel_rfl
theorem FA_24_10 : fieldOff Try.prog 24 10 = some 10 := by kernel_rfl
theorem FA_24_11 : fieldOff Try.prog 24 11 = some 11 := by kernel_rfl
theorem FA_24_12 : fieldOff Try.prog 24 12 = some 12 := by kernel_rfl
theorem FA_24_13 : fieldOff Try.prog 24 13 = some 13 := by kernel_rfl
theorem FA_24_14 : fieldOff Try.prog 24 14 = some 14 := by kernel_rfl
theorem FA_24_15 : fieldOff Try.prog 24 15 = some 15 := by kernel_rfl
theorem FA_24_16 : fieldOff Try.prog 24 16 = some 16 := by kernel_rfl
theorem FA_24_18 : fieldOff Try.prog 24 18 = some 18 := by kernel_rfl
theorem FA_24_19 : fieldOff Try.prog 24 19 = some 19 := by kernel_rfl
theorem FA_24_2 : fieldOff Try.prog 24 2 = some 2 := by kernel_rfl
theorem FA_24_20 : fieldOff Try.prog 24 20 = some 20 := by kernel_rfl
theorem FA_24_21 : fieldOff Try.prog 24 21 = some 21 := by kernel_rfl
theorem FA_24_3 : fieldOff Try.prog 24 3 = some 3 := by kernel_rfl
theorem FA_24_4 : fieldOff Try.prog 24 4 = some 4 := by kernel_rfl
theorem FA_24_5 : fieldOff Try.prog 24 5 = some 5 := by kernel_rfl
theorem FA_24_6 : fieldOff Try.prog 24 6 = some 6 := by kernel_rfl
theorem FA_24_7 : fieldOff Try.prog 24 7 = some 7 := by kernel_rfl
theorem FA_24_8 : fieldOff Try.prog 24 8 = some 8 := by kernel_rfl
theorem FA_24_9 : fieldOff Try.prog 24 9 = some 9 := by kernel_rfl
theorem FA_44_0 : fieldOff Try.prog 44 0 = some 0 := by kernel_rfl
theorem FA_44_1 : fieldOff Try.prog 44 1 = some 1 := by kernel_rfl
theorem FA_44_2 : fieldOff Try.prog 44 2 = some 2 := by kernel_rfl
theorem FA_46_0 : fieldOff Try.prog 46 0 = some 0 := by kernel_rfl
theorem FA_46_1 : fieldOff Try.prog 46 1 = some 1 := by kernel_rfl
theorem FA_55_0 : fieldOff Try.prog 55 0 = some 0 := by kernel_rfl
theorem FA_55_1 : fieldOff Try.prog 55 1 = some 2 := by kernel_rfl
theorem FA_61_0 : fieldOff Try.prog 61 0 = some 0 := by kernel_rfl
theorem FA_61_1 : fieldOff Try.prog 61 1 = some 1 := by kernel_rfl
theorem FA_61_2 : fieldOff Try.prog 61 2 = some 2 := by kernel_rfl
theorem FA_61_3 : fieldOff Try.prog 61 3 = some 3 := by kernel_rfl
theorem FA_61_4 : fieldOff Try.prog 61 4 = some 4 := by kernel_rfl
theorem FA_72_0 : fieldOff Try.prog 72 0 = some 0 := by kernel_rfl
theorem FA_72_1 : fieldOff Try.prog 72 1 = some 1 := by kernel_rfl
theorem NB_10 : Try.f10.body.isNone = false := by kernel_rfl
theorem NN_10 : (Try.f10.name == "runtime.NumGoroutine") = false := by kernel_rfl
theorem NB_11 : Try.f11.body.isNone = false := by kernel_rfl
theorem NN_11 : (Try.f11.name == "runtime.NumGoroutine") = false := by kernel_rfl
theorem NB_12 : Try.f12.body.isNone = false := by kernel_rfl
theorem NN_12 : (Try.f12.name == "runtime.NumGoroutine") = false := by kernel_rfl
theorem NB_13 : Try.f13.body.isNone = false := by kernel_rfl
theorem NN_13 : (Try.f13.name == "runtime.NumGoroutine") = false := by kernel_rfl
theorem NB_14 : Try.f14.body.isNone = false := by kernel_rfl
theorem NN_14 : (Try.f14.name == "runtime.NumGoroutine") = false := by kernel_rfl
theorem NB_15 : Try.f15.body.isNone = false := by kernel_rfl
theorem NN_15 : (Try.f15.name == "runtime.NumGoroutine") = false := by kernel_rfl
theorem NB_16 : Try.f16.body.isNone = false := by kernel_rfl
theorem NN_16 : (Try.f16.name == "runtime.NumGoroutine") = false := by kernel_rfl
theorem NB_17 : Try.f17.body.isNone = false := by kernel_rfl
theorem NN_17 : (Try.f17.name == "runtime.NumGoroutine") = false := by kernel_rfl
theorem NB_18 : Try.f18.body.isNone = false := by kernel_rfl
theorem NN_18 : (Try.f18.name == "runtime.NumGoroutine") = false := by kernel_rfl
theorem NB_25 : Try.f25.body.isNone = false := by kernel_rfl
theorem NN_25 : (Try.f25.name == "runtime.NumGoroutine") = false := by kernel_rfl
theorem NB_26 : Try.f26.body.isNone = false := by kernel_rfl
theorem NN_26 : (Try.f26.name == "runtime.NumGoroutine") = false := by kernel_rfl
theorem NB_27 : Try.f27.body.isNone = false := by kernel_rfl
theorem NN_27 : (Try.f27.name == "runtime.NumGoroutine") = false := by kernel_rfl
theorem NB_28 : Try.f28.body.isNone = false := by kernel_rfl
theorem NN_28 : (Try.f28.name == "runtime.NumGoroutine") = false := by kernel_rfl
theorem NB_29 : Try.f29.body.isNone = false := by kernel_rfl
theorem NN_29 : (Try.f29.name == "runtime.NumGoroutine") = false := by kernel_rfl
theorem NB_30 : Try.f30.body.isNone = false := by kernel_rfl
theorem NN_30 : (Try.f30.name == "runtime.NumGoroutine") = false := by kernel_rfl
theorem NB_31 : Try.f31.body.isNone = false := by kernel_rfl
theorem NN_31 : (Try.f31.name == "runtime.NumGoroutine") = false := by kernel_rfl
theorem NB_32 : Try.f32.body.isNone = false := by kernel_rfl
theorem NN_32 : (Try.f32.name == "runtime.NumGoroutine") = false := by kernel_rfl
theorem NB_33 : Try.f33.body.isNone = false := by kernel_rfl
theorem NN_33 : (Try.f33.name == "runtime.NumGoroutine") = false := by kernel_rfl
theorem NB_34 : Try.f34.body.isNone = false := by kernel_rfl
theorem NN_34 : (Try.f34.name == "runtime.NumGoroutine") = false := by kernel_rfl
theorem NB_35 : Try.f35.body.isNone = false := by kernel_rfl
theorem NN_35 : (Try.f35.name == "runtime.NumGoroutine") = false := by kernel_rfl
theorem NB_36 : Try.f36.body.isNone = false := by kernel_rfl
theorem NN_36 : (Try.f36.name == "runtime.NumGoroutine") = false := by kernel_rfl
theorem NB_37 : Try.f37.body.isNone = false := by kernel_rfl
theorem NN_37 : (Try.f37.name == "runtime.NumGoroutine") = false := by kernel_rfl
theorem NB_38 : Try.f38.body.isNone = false := by kernel_rfl
theorem NN_38 : (Try.f38.name == "runtime.NumGoroutine") = false := by kernel_rfl
theorem NB_39 : Try.f39.body.isNone = false := by kernel_rfl
theorem NN_39 : (Try.f39.name == "runtime.NumGoroutine") = false := by kernel_rfl
theorem NB_40 : Try.f40.body.isNone = false := by kernel_rfl
theorem NN_40 : (Try.f40.name == "runtime.NumGoroutine") = false := by kernel_rfl
theorem NB_41 : Try.f41.body.isNone = false := by kernel_rfl
theorem NN_41 : (Try.f41.name == "runtime.NumGoroutine") = false := by kernel_rfl
theorem NB_42 : Try.f42.body.isNone = false := by kernel_rfl
theorem NN_42 : (Try.f42.name == "runtime.NumGoroutine") = false := by kernel_rfl
theorem NB_43 : Try.f43.body.isNone = false := by kernel_rfl
theorem NN_43 : (Try.f43.name == "runtime.NumGoroutine") = false := by kernel_rfl
theorem NB_46 : Try.f46.body.isNone = false := by kernel_rfl
theorem NN_46 : (Try.f46.name == "runtime.NumGoroutine") = false := by kernel_rfl
theorem NB_47 : Try.f47.body.isNone = false := by kernel_rfl
theorem NN_47 : (Try.f47.name == "runtime.NumGoroutine") = false := by kernel_rfl
theorem NB_48 : Try.f48.body.isNone = false := by kernel_rfl
theorem NN_48 : (Try.f48.name == "runtime.NumGoroutine") = false := by kernel_rfl
theorem NB_49 : Try.f49.body.isNone = false := by kernel_rfl
theorem NN_49 : (Try.f49.name == "runtime.NumGoroutine") = false := by kernel_rfl
theorem NB_50 : Try.f50.body.isNone = false := by kernel_rfl
theorem NN_50 : (Try.f50.name == "runtime.NumGoroutine") = false := by kernel_rfl
theorem NB_51 : Try.f51.body.isNone = false := by kernel_rfl
theorem NN_51 : (Try.f51.name == "runtime.NumGoroutine") = false := by kernel_rfl
theorem NB_52 : Try.f52.body.isNone = false := by kernel_rfl
theorem NN_52 : (Try.f52.name == "runtime.NumGoroutine") = false := by kernel_rfl
theorem NB_53 : Try.f53.body.isNone = false := by kernel_rfl
theorem NN_53 : (Try.f53.name == "runtime.NumGoroutine") = false := by kernel_rfl
theorem NB_54 : Try.f54.body.isNone = false := by kernel_rfl
theorem NN_54 : (Try.f54.name == "runtime.NumGoroutine") = false := by kernel_rfl
theorem NB_55 : Try.f55.body.isNone = false := by kernel_rfl
theorem NN_55 : (Try.f55.name == "runtime.NumGoroutine") = false := by kernel_rfl
theorem NB_56 : Try.f56.body.isNone = false := by kernel_rfl
theorem NN_56 : (Try.f56.name == "runtime.NumGoroutine") = false := by kernel_rfl
theorem NB_57 : Try.f57.body.isNone = false := by kernel_rfl
theorem NN_57 : (Try.f57.name == "runtime.NumGoroutine") = false := by kernel_rfl
theorem NB_58 : Try.f58.body.isNone = false := by kernel_rfl
theorem NN_58 : (Try.f58.name == "runtime.NumGoroutine") = false := by kernel_rfl
theorem NB_59 : Try.f59.body.isNone = false := by kernel_rfl
theorem NN_59 : (Try.f59.name == "runtime.NumGoroutine") = false := by kernel_rfl
theorem NB_60 : Try.f60.body.isNone = false := by kernel_rfl
theorem NN_60 : (Try.f60.name == "runtime.NumGoroutine") = false := by kernel_rfl
theorem NB_61 : Try.f61.body.isNone = false := by kernel_rfl
theorem NN_61 : (Try.f61.name == "runtime.NumGoroutine") = false := by kernel_rfl
theorem NB_62 : Try.f62.body.isNone = false := by kernel_rfl
theorem NN_62 : (Try.f62.name == "runtime.NumGoroutine") = false := by kernel_rfl
theorem NB_63 : Try.f63.body.isNone = false := by kernel_rfl
theorem NN_63 : (Try.f63.name == "runtime.NumGoroutine") = false := by kernel_rfl
theorem NB_64 : Try.f64.body.isNone = false := by kernel_rfl
theorem NN_64 : (Try.f64.name == "runtime.NumGoroutine") = false := by kernel_rfl
theorem NB_65 : Try.f65.body.isNone = false := by kernel_rfl
theorem NN_65 : (Try.f65.name == "runtime.NumGoroutine") = false := by kernel_rfl
theorem NB_8 : Try.f8.body.isNone = false := by kernel_rfl
theorem NN_8 : (Try.f8.name == "runtime.NumGoroutine") = false := by kernel_rfl
theorem NB_9 : Try.f9.body.isNone = false := by kernel_rfl
theorem NN_9 : (Try.f9.name == "runtime.NumGoroutine") = false := by kernel_rfl
theorem SH_22 : shapeT Try.prog 22 = some 0 := by kernel_rfl
theorem SH_24 : shapeT Try.prog 24 = some 23 := by kernel_rfl
theorem SH_3 : shapeT Try.prog 3 = some 0 := by kernel_rfl
theorem SH_4 : shapeT Try.prog 4 = some 0 := by kernel_rfl
theorem SH_44 : shapeT Try.prog 44 = some 4 := by kernel_rfl
theorem SH_46 : shapeT Try.prog 46 = some 3 := by kernel_rfl
theorem SH_55 : shapeT Try.prog 55 = some 4 := by kernel_rfl
theorem SH_72 : shapeT Try.prog 72 = some 4 := by kernel_rfl
theorem SH_82 : shapeT Try.prog 82 = some 3 := by kernel_rfl
theorem SH_9 : shapeT Try.prog 9 = some 0 := by kernel_rfl
theorem SZ_24 : sizeT Try.prog 24 = some 22 := by kernel_rfl
theorem SZ_3 : sizeT Try.prog 3 = some 1 := by kernel_rfl
theorem SZ_4 : sizeT Try.prog 4 = some 1 := by kernel_rfl
theorem SZ_44 : sizeT Try.prog 44 = some 3 := by kernel_rfl
theorem SZ_46 : sizeT Try.prog 46 = some 2 := by kernel_rfl
theorem SZ_55 : sizeT Try.prog 55 = some 3 := by kernel_rfl
theorem SZ_72 : sizeT Try.prog 72 = some 3 := by kernel_rfl
theorem SZ_82 : sizeT Try.prog 82 = some 2 := by kernel_rfl
theorem ZV_24 : (Try.prog.info? 24).bind (·.zero) = some (V23 (ByteArray.mk #[]) 0 0 0 false 0 false false 0 0 0 0 Sl.nil 0 0 0 0 false 0 0 0 0) := by kernel_rfl
theorem ZV_44 : (Try.prog.info? 44).bind (·.zero) = some (Value.agg #[(Value.int .i64 0), (Value.int .i64 0), (Value.int .i64 0)]) := by kernel_rfl
theorem ZV_46 : (Try.prog.info? 46).bind (·.zero) = some (Value.agg #[(Value.int .i64 0), (Value.int .i64 0)]) := by kernel_rfl
theorem ZV_55 : (Try.prog.info? 55).bind (·.zero) = some (Value.agg #[(Value.int .i64 0), (Value.int .i64 0), (Value.bool false)]) := by kernel_rfl
theorem ZV_72 : (Try.prog.info? 72).bind (·.zero) = some (Value.agg #[(Value.bool false), (Value.int .i64 0), (Value.int .i64 0)]) := by kernel_rfl
theorem ZV_82 : (Try.prog.info? 82).bind (·.zero) = some (Value.agg #[(Value.int .i64 0), (Value.int .i64 0)]) := by kernel_rfl
theorem isBoolT_4 : isBoolT Try.prog 4 = true := by kernel_rfl
theorem isSliceT_22 : isSliceT Try.prog 22 = true := by kernel_rfl
theorem isSliceT_25 : isSliceT Try.prog 25 = true := by kernel_rfl
theorem isSliceT_26 : isSliceT Try.prog 26 = true := by kernel_rfl
theorem isSliceT_51 : isSliceT Try.prog 51 = true := by kernel_rfl
theorem isSliceT_58 : isSliceT Try.prog 58 = true := by kernel_rfl
theorem isSliceT_63 : isSliceT Try.prog 63 = true := by kernel_rfl
theorem isSliceT_83 : isSliceT Try.prog 83 = true := by kernel_rfl
theorem isSliceT_85 : isSliceT Try.prog 85 = true := by kernel_rfl
theorem isStrT_9 : isStrT Try.prog 9 = true := by kernel_rfl

/-- lingualaw20.LossTells -/
def F3 (p0_0 : ByteArray) (p0_1 : Int) (p0_2 : Int) (p0_3 : Int) (p0_4 : Bool) (p0_5 : Int) (p0_6 : Bool) (p0_7 : Bool) (p0_8 : Int) (p0_9 : Int) (p0_10 : Int) (p0_11 : Int) (p0_12 : Sl) (p0_13 : Int) (p0_14 : Int) (p0_15 : Int) (p0_16 : Int) (p0_17 : Bool) (p0_18 : Int) (p0_19 : Int) (p0_20 : Int) (p0_21 : Int) (p1 : Sl) (p2 : Sl) (p3 : Sl) (w0 : World) (K : Bool → World → Prop) : Prop :=
  nw 24 (A23 p0_0 p0_1 p0_2 p0_3 p0_4 p0_5 p0_6 p0_7 p0_8 p0_9 p0_10 p0_11 p0_12 p0_13 p0_14 p0_15 p0_16 p0_17 p0_18 p0_19 p0_20 p0_21) w0 fun b9 w1 =>
  callC Try.prog 8 #[] (fun (r : Bool) => (Value.bool r)) w1 fun r10 w2 =>
  L23 (Addr.mk b9 0 none) w2 fun x11 x12 x13 x14 x15 x16 x17 x18 x19 x20 x21 x22 x23 x24 x25 x26 x27 x28 x29 x30 x31 x32 =>
  callC Try.prog 9 #[(V23 x11 x12 x13 x14 x15 x16 x17 x18 x19 x20 x21 x22 x23 x24 x25 x26 x27 x28 x29 x30 x31 x32)] (fun (r : Bool) => (Value.bool r)) w2 fun r33 w3 =>
  cnd ((((!r33) || (decide (20 < (p1.len : Int)))) || (decide (20 < (p2.len : Int)))) || (decide (20 < (p3.len : Int))))
    (
    K r10 w3
    )
    (
    L23 (Addr.mk b9 0 none) w3 fun x41 x42 x43 x44 x45 x46 x47 x48 x49 x50 x51 x52 x53 x54 x55 x56 x57 x58 x59 x60 x61 x62 =>
    callC Try.prog 10 #[(V23 x41 x42 x43 x44 x45 x46 x47 x48 x49 x50 x51 x52 x53 x54 x55 x56 x57 x58 x59 x60 x61 x62), (Sl.v p1)] (fun (r : Sl × Int) => (Value.tuple #[(Sl.v r.1), (Value.int .i64 r.2)])) w3 fun r63 w4 =>
    L23 (Addr.mk b9 0 none) w4 fun x64 x65 x66 x67 x68 x69 x70 x71 x72 x73 x74 x75 x76 x77 x78 x79 x80 x81 x82 x83 x84 x85 =>
    callC Try.prog 11 #[(V23 x64 x65 x66 x67 x68 x69 x70 x71 x72 x73 x74 x75 x76 x77 x78 x79 x80 x81 x82 x83 x84 x85), (Sl.v p1)] (fun (r : Sl × Int) => (Value.tuple #[(Sl.v r.1), (Value.int .i64 r.2)])) w4 fun r86 w5 =>
    jn (fun (J88 : Bool → World → Prop) => tk w5 fun w6 =>
      cnd (r10)
        (
        callC Try.prog 12 #[(Sl.v r63.1), (Sl.v r86.1)] (fun (r : Bool) => (Value.bool r)) w6 fun r90 w7 =>
        cnd (r90)
          (
          cnd (decide (r63.2 = r86.2))
            (
            L23 (Addr.mk b9 0 none) w7 fun x93 x94 x95 x96 x97 x98 x99 x100 x101 x102 x103 x104 x105 x106 x107 x108 x109 x110 x111 x112 x113 x114 =>
            L23 (Addr.mk b9 0 none) w7 fun x115 x116 x117 x118 x119 x120 x121 x122 x123 x124 x125 x126 x127 x128 x129 x130 x131 x132 x133 x134 x135 x136 =>
            callC Try.prog 13 #[(V23 x93 x94 x95 x96 x97 x98 x99 x100 x101 x102 x103 x104 x105 x106 x107 x108 x109 x110 x111 x112 x113 x114), (Sl.v p1), (Sl.v p2)] (fun (r : Int) => (Value.int .i64 r)) w7 fun r137 w8 =>
            (C23 (Addr.mk b9 0 none) x115 x116 x117 x118 x119 x120 x121 x122 x123 x124 x125 x126 x127 x128 x129 x130 x131 x132 x133 x134 x135 x136 w8) ∧
            callC Try.prog 14 #[(V23 x115 x116 x117 x118 x119 x120 x121 x122 x123 x124 x125 x126 x127 x128 x129 x130 x131 x132 x133 x134 x135 x136), (Sl.v p1), (Sl.v p2)] (fun (r : Int) => (Value.int .i64 r)) w8 fun r138 w9 =>
            cnd (decide (r137 = r138))
              (
              L23 (Addr.mk b9 0 none) w9 fun x140 x141 x142 x143 x144 x145 x146 x147 x148 x149 x150 x151 x152 x153 x154 x155 x156 x157 x158 x159 x160 x161 =>
              L23 (Addr.mk b9 0 none) w9 fun x162 x163 x164 x165 x166 x167 x168 x169 x170 x171 x172 x173 x174 x175 x176 x177 x178 x179 x180 x181 x182 x183 =>
              callC Try.prog 13 #[(V23 x140 x141 x142 x143 x144 x145 x146 x147 x148 x149 x150 x151 x152 x153 x154 x155 x156 x157 x158 x159 x160 x161), (Sl.v p1), (Sl.v r63.1)] (fun (r : Int) => (Value.int .i64 r)) w9 fun r184 w10 =>
              (C23 (Addr.mk b9 0 none) x162 x163 x164 x165 x166 x167 x168 x169 x170 x171 x172 x173 x174 x175 x176 x177 x178 x179 x180 x181 x182 x183 w10) ∧
              callC Try.prog 14 #[(V23 x162 x163 x164 x165 x166 x167 x168 x169 x170 x171 x172 x173 x174 x175 x176 x177 x178 x179 x180 x181 x182 x183), (Sl.v p1), (Sl.v r86.1)] (fun (r : Int) => (Value.int .i64 r)) w10 fun r185 w11 =>
              cnd (decide (r184 = r185))
                (
                callC Try.prog 15 #[(Sl.v p2), (Sl.v p3)] (fun (r : Bool) => (Value.bool r)) w11 fun r187 w12 =>
                callC Try.prog 16 #[(Sl.v p2), (Sl.v p3)] (fun (r : Bool) => (Value.bool r)) w12 fun r188 w13 =>
                J88 (r187 == r188) w13
                )
                (
                J88 false w11
                )
              )
              (
              J88 false w9
              )
            )
            (
            J88 false w7
            )
          )
          (
          J88 false w7
          )
        )
        (
        J88 false w6
        )
    )
    fun l189 w14 =>
    K l189 w14
    )
set_option maxRecDepth 100000 in
theorem D3 (p0_0 : ByteArray) (p0_1 : Int) (p0_2 : Int) (p0_3 : Int) (p0_4 : Bool) (p0_5 : Int) (p0_6 : Bool) (p0_7 : Bool) (p0_8 : Int) (p0_9 : Int) (p0_10 : Int) (p0_11 : Int) (p0_12 : Sl) (p0_13 : Int) (p0_14 : Int) (p0_15 : Int) (p0_16 : Int) (p0_17 : Bool) (p0_18 : Int) (p0_19 : Int) (p0_20 : Int) (p0_21 : Int) (p1 : Sl) (p2 : Sl) (p3 : Sl) (w0 : World) (K : Bool → World → Prop) (h : F3 p0_0 p0_1 p0_2 p0_3 p0_4 p0_5 p0_6 p0_7 p0_8 p0_9 p0_10 p0_11 p0_12 p0_13 p0_14 p0_15 p0_16 p0_17 p0_18 p0_19 p0_20 p0_21 p1 p2 p3 w0 K) : callC Try.prog 3 #[(V23 p0_0 p0_1 p0_2 p0_3 p0_4 p0_5 p0_6 p0_7 p0_8 p0_9 p0_10 p0_11 p0_12 p0_13 p0_14 p0_15 p0_16 p0_17 p0_18 p0_19 p0_20 p0_21), (Sl.v p1), (Sl.v p2), (Sl.v p3)] (fun (r : Bool) => (Value.bool r)) w0 K := by
  unfold F3 at h
  refine calls_of_wpC Try.func3 rfl 88 rfl (by simp) ?_
  intro ρ hρ
  have e0 : ρ 0 = (V23 p0_0 p0_1 p0_2 p0_3 p0_4 p0_5 p0_6 p0_7 p0_8 p0_9 p0_10 p0_11 p0_12 p0_13 p0_14 p0_15 p0_16 p0_17 p0_18 p0_19 p0_20 p0_21) := hρ 0
  have e1 : ρ 1 = (Sl.v p1) := hρ 1
  have e2 : ρ 2 = (Sl.v p2) := hρ 2
  have e3 : ρ 3 = (Sl.v p3) := hρ 3
  clear hρ
  refine wpC_seq ?_
  refine wpC_region ?_
  obtain ⟨b9, hb9⟩ : ∃ u, u = w0.heap.size := ⟨_, rfl⟩
  obtain ⟨w1, hw9⟩ : ∃ u, u = w0.alloc (.cells (A23 p0_0 p0_1 p0_2 p0_3 p0_4 p0_5 p0_6 p0_7 p0_8 p0_9 p0_10 p0_11 p0_12 p0_13 p0_14 p0_15 p0_16 p0_17 p0_18 p0_19 p0_20 p0_21) 24) := ⟨_, rfl⟩
  replace h := h b9 w1 hb9 hw9
  refine wpR_val (v := (Value.pointer (some (Addr.mk b9 0 none)))) (w' := w1) rfl rfl rfl ((x_box (v := (V23 p0_0 p0_1 p0_2 p0_3 p0_4 p0_5 p0_6 p0_7 p0_8 p0_9 p0_10 p0_11 p0_12 p0_13 p0_14 p0_15 p0_16 p0_17 p0_18 p0_19 p0_20 p0_21)) rfl e0).trans (by rw [hb9, hw9]; rfl)) ?_
  refine wpR_val (v := (Value.bool false)) (w' := w1) rfl rfl rfl (x_assign (v := (Value.bool false)) rfl rfl) ?_
  refine wpR_nil ?_
  refine wpC_seq ?_
  refine wpC_cut (fun ρ => ρ 1 = (Sl.v p1) ∧ ρ 2 = (Sl.v p2) ∧ ρ 3 = (Sl.v p3) ∧ ρ 4 = (Value.pointer (some (Addr.mk b9 0 none))) ∧ True) ⟨e1, e2, e3, rfl, trivial⟩ ?_
  rintro ρ ⟨e1, e2, e3, e4, -⟩
  refine wpC_region ?_
  refine wpR_enter rfl rfl rfl (x_call (vs := []) rfl rfl mapl_nil Try.func8 NN_8 NB_8) (Calls.mono h ?_)
  rintro _ w2 ⟨r10, rfl, h⟩
  refine ⟨_, rfl, ?_⟩
  refine wpR_val (v := (Value.bool r10)) (w' := w2) rfl rfl rfl (x_assign (v := (Value.bool r10)) rfl rfl) ?_
  refine wpR_nil ?_
  refine wpC_seq ?_
  refine wpC_seq ?_
  refine wpC_cut (fun ρ => ρ 1 = (Sl.v p1) ∧ ρ 2 = (Sl.v p2) ∧ ρ 3 = (Sl.v p3) ∧ ρ 4 = (Value.pointer (some (Addr.mk b9 0 none))) ∧ ρ 9 = (Value.bool r10) ∧ True) ⟨e1, e2, e3, e4, rfl, trivial⟩ ?_
  rintro ρ ⟨e1, e2, e3, e4, e9, -⟩
  refine wpC_region ?_
  obtain ⟨x11, q11, x12, q12, x13, q13, x14, q14, x15, q15, x16, q16, x17, q17, x18, q18, x19, q19, x20, q20, x21, q21, x22, q22, x23, q23, x24, q24, x25, q25, x26, q26, x27, q27, x28, q28, x29, q29, x30, q30, x31, q31, x32, q32, h⟩ := h
  refine wpR_val (v := (V23 x11 x12 x13 x14 x15 x16 x17 x18 x19 x20 x21 x22 x23 x24 x25 x26 x27 x28 x29 x30 x31 x32)) (w' := w2) rfl rfl rfl (x_loadN (S23 x11 x12 x13 x14 x15 x16 x17 x18 x19 x20 x21 x22 x23 x24 x25 x26 x27 x28 x29 x30 x31 x32) rfl e4 SH_24 (K23 ⟨q11, q12, q13, q14, q15, q16, q17, q18, q19, q20, q21, q22, q23, q24, q25, q26, q27, q28, q29, q30, q31, q32⟩)) ?_
  refine wpR_enter rfl rfl rfl (x_call (vs := [(V23 x11 x12 x13 x14 x15 x16 x17 x18 x19 x20 x21 x22 x23 x24 x25 x26 x27 x28 x29 x30 x31 x32)]) rfl rfl (mapl_cons rfl mapl_nil) Try.func9 NN_9 NB_9) (Calls.mono h ?_)
  rintro _ w3 ⟨r33, rfl, h⟩
  refine ⟨_, rfl, ?_⟩
  refine wpR_val (v := (Value.bool (!r33))) (w' := w3) rfl rfl rfl (x_not rfl rfl) ?_
  refine wpR_val (v := (Value.bool (!r33))) (w' := w3) rfl rfl rfl (x_move (v := (Value.bool (!r33))) rfl rfl) ?_
  refine wpR_joinJ 4 (fun (_ : Unit) ρ => ρ 22 = Value.bool ((!r33) || (decide (20 < (p1.len : Int)))) ∧ ρ 1 = (Sl.v p1) ∧ ρ 2 = (Sl.v p2) ∧ ρ 3 = (Sl.v p3) ∧ ρ 4 = (Value.pointer (some (Addr.mk b9 0 none))) ∧ ρ 9 = (Value.bool r10) ∧ True) (fun _ w => w3 = w) ?_ ?_
  · clear h
    rcases Bool.eq_false_or_eq_true (!r33) with hc35 | hc35
    · skip
      refine wpR_pass (wantN rfl rfl rfl hc35) rfl rfl ?_
      refine wpR_pass (wantN rfl rfl rfl hc35) rfl rfl ?_
      refine wpR_pass (wantN rfl rfl rfl hc35) rfl rfl ?_
      refine wpR_val (v := (Value.bool true)) (w' := w3) rfl rfl rfl (x_pickT (v := (Value.bool true)) rfl rfl hc35 rfl) ?_
      refine wpR_nil ?_
      exact ⟨(), ⟨(by rw [hc35]; rfl), e1, e2, e3, e4, e9, trivial⟩, rfl⟩
    · skip
      refine wpR_val (v := (Sl.v p1)) (w' := w3) (wantG rfl rfl rfl hc35) rfl rfl (x_move (v := (Sl.v p1)) rfl e1) ?_
      refine wpR_val (v := (Value.int .i64 (p1.len : Int))) (w' := w3) (wantG rfl rfl rfl hc35) rfl rfl (x_lenS (s := p1) rfl rfl isSliceT_25) ?_
      refine wpR_val (v := (Value.bool (decide (20 < (p1.len : Int))))) (w' := w3) (wantG rfl rfl rfl hc35) rfl rfl (x_gtr rfl rfl rfl) ?_
      refine wpR_val (v := (Value.bool (decide (20 < (p1.len : Int))))) (w' := w3) rfl rfl rfl (x_pickF (v := (Value.bool (decide (20 < (p1.len : Int))))) rfl rfl hc35 rfl) ?_
      refine wpR_nil ?_
      exact ⟨(), ⟨(by rw [hc35]; rfl), e1, e2, e3, e4, e9, trivial⟩, rfl⟩
  rintro _ ρ wj ⟨e22, e1, e2, e3, e4, e9, -⟩ rfl
  refine wpR_val (v := (Value.bool ((!r33) || (decide (20 < (p1.len : Int)))))) (w' := w3) rfl rfl rfl (x_move (v := (Value.bool ((!r33) || (decide (20 < (p1.len : Int)))))) rfl e22) ?_
  refine wpR_joinJ 4 (fun (_ : Unit) ρ => ρ 27 = Value.bool (((!r33) || (decide (20 < (p1.len : Int)))) || (decide (20 < (p2.len : Int)))) ∧ ρ 1 = (Sl.v p1) ∧ ρ 2 = (Sl.v p2) ∧ ρ 3 = (Sl.v p3) ∧ ρ 4 = (Value.pointer (some (Addr.mk b9 0 none))) ∧ ρ 9 = (Value.bool r10) ∧ True) (fun _ w => w3 = w) ?_ ?_
  · clear h
    rcases Bool.eq_false_or_eq_true ((!r33) || (decide (20 < (p1.len : Int)))) with hc37 | hc37
    · skip
      refine wpR_pass (wantN rfl rfl rfl hc37) rfl rfl ?_
      refine wpR_pass (wantN rfl rfl rfl hc37) rfl rfl ?_
      refine wpR_pass (wantN rfl rfl rfl hc37) rfl rfl ?_
      refine wpR_val (v := (Value.bool true)) (w' := w3) rfl rfl rfl (x_pickT (v := (Value.bool true)) rfl rfl hc37 rfl) ?_
      refine wpR_nil ?_
      exact ⟨(), ⟨(by rw [hc37]; rfl), e1, e2, e3, e4, e9, trivial⟩, rfl⟩
    · skip
      refine wpR_val (v := (Sl.v p2)) (w' := w3) (wantG rfl rfl rfl hc37) rfl rfl (x_move (v := (Sl.v p2)) rfl e2) ?_
      refine wpR_val (v := (Value.int .i64 (p2.len : Int))) (w' := w3) (wantG rfl rfl rfl hc37) rfl rfl (x_lenS (s := p2) rfl rfl isSliceT_26) ?_
      refine wpR_val (v := (Value.bool (decide (20 < (p2.len : Int))))) (w' := w3) (wantG rfl rfl rfl hc37) rfl rfl (x_gtr rfl rfl rfl) ?_
      refine wpR_val (v := (Value.bool (decide (20 < (p2.len : Int))))) (w' := w3) rfl rfl rfl (x_pickF (v := (Value.bool (decide (20 < (p2.len : Int))))) rfl rfl hc37 rfl) ?_
      refine wpR_nil ?_
      exact ⟨(), ⟨(by rw [hc37]; rfl), e1, e2, e3, e4, e9, trivial⟩, rfl⟩
  rintro _ ρ wj ⟨e27, e1, e2, e3, e4, e9, -⟩ rfl
  refine wpR_val (v := (Value.bool (((!r33) || (decide (20 < (p1.len : Int)))) || (decide (20 < (p2.len : Int)))))) (w' := w3) rfl rfl rfl (x_move (v := (Value.bool (((!r33) || (decide (20 < (p1.len : Int)))) || (decide (20 < (p2.len : Int)))))) rfl e27) ?_
  refine wpR_joinJ 4 (fun (_ : Unit) ρ => ρ 32 = Value.bool ((((!r33) || (decide (20 < (p1.len : Int)))) || (decide (20 < (p2.len : Int)))) || (decide (20 < (p3.len : Int)))) ∧ ρ 1 = (Sl.v p1) ∧ ρ 2 = (Sl.v p2) ∧ ρ 3 = (Sl.v p3) ∧ ρ 4 = (Value.pointer (some (Addr.mk b9 0 none))) ∧ ρ 9 = (Value.bool r10) ∧ True) (fun _ w => w3 = w) ?_ ?_
  · clear h
    rcases Bool.eq_false_or_eq_true (((!r33) || (decide (20 < (p1.len : Int)))) || (decide (20 < (p2.len : Int)))) with hc39 | hc39
    · skip
      refine wpR_pass (wantN rfl rfl rfl hc39) rfl rfl ?_
      refine wpR_pass (wantN rfl rfl rfl hc39) rfl rfl ?_
      refine wpR_pass (wantN rfl rfl rfl hc39) rfl rfl ?_
      refine wpR_val (v := (Value.bool true)) (w' := w3) rfl rfl rfl (x_pickT (v := (Value.bool true)) rfl rfl hc39 rfl) ?_
      refine wpR_nil ?_
      exact ⟨(), ⟨(by rw [hc39]; rfl), e1, e2, e3, e4, e9, trivial⟩, rfl⟩
    · skip
      refine wpR_val (v := (Sl.v p3)) (w' := w3) (wantG rfl rfl rfl hc39) rfl rfl (x_move (v := (Sl.v p3)) rfl e3) ?_
      refine wpR_val (v := (Value.int .i64 (p3.len : Int))) (w' := w3) (wantG rfl rfl rfl hc39) rfl rfl (x_lenS (s := p3) rfl rfl isSliceT_26) ?_
      refine wpR_val (v := (Value.bool (decide (20 < (p3.len : Int))))) (w' := w3) (wantG rfl rfl rfl hc39) rfl rfl (x_gtr rfl rfl rfl) ?_
      refine wpR_val (v := (Value.bool (decide (20 < (p3.len : Int))))) (w' := w3) rfl rfl rfl (x_pickF (v := (Value.bool (decide (20 < (p3.len : Int))))) rfl rfl hc39 rfl) ?_
      refine wpR_nil ?_
      exact ⟨(), ⟨(by rw [hc39]; rfl), e1, e2, e3, e4, e9, trivial⟩, rfl⟩
  rintro _ ρ wj ⟨e32, e1, e2, e3, e4, e9, -⟩ rfl
  refine wpR_nil ?_
  refine wpC_cond (b := (((!r33) || (decide (20 < (p1.len : Int)))) || (decide (20 < (p2.len : Int)))) || (decide (20 < (p3.len : Int)))) e32 (fun hc40 => ?_) (fun hc40 => ?_)
  · replace h := h.1 hc40
    refine wpC_seq ?_
    refine wpC_region ?_
    refine wpR_val (v := (Value.bool r10)) (w' := w3) rfl rfl rfl (x_move (v := (Value.bool r10)) rfl e9) ?_
    refine wpR_val (v := (Value.bool r10)) (w' := w3) rfl rfl rfl (x_assign (v := (Value.bool r10)) rfl rfl) ?_
    refine wpR_nil ?_
    refine wpC_ret ?_
    exact ⟨.inl rfl, fun a ha => ⟨_, results_rep1 rfl ha rfl, r10, rfl, h⟩⟩
  · replace h := h.2 hc40
    refine wpC_skip ?_
    refine wpC_seq ?_
    refine wpC_region ?_
    obtain ⟨x41, q41, x42, q42, x43, q43, x44, q44, x45, q45, x46, q46, x47, q47, x48, q48, x49, q49, x50, q50, x51, q51, x52, q52, x53, q53, x54, q54, x55, q55, x56, q56, x57, q57, x58, q58, x59, q59, x60, q60, x61, q61, x62, q62, h⟩ := h
    refine wpR_val (v := (V23 x41 x42 x43 x44 x45 x46 x47 x48 x49 x50 x51 x52 x53 x54 x55 x56 x57 x58 x59 x60 x61 x62)) (w' := w3) rfl rfl rfl (x_loadN (S23 x41 x42 x43 x44 x45 x46 x47 x48 x49 x50 x51 x52 x53 x54 x55 x56 x57 x58 x59 x60 x61 x62) rfl e4 SH_24 (K23 ⟨q41, q42, q43, q44, q45, q46, q47, q48, q49, q50, q51, q52, q53, q54, q55, q56, q57, q58, q59, q60, q61, q62⟩)) ?_
    refine wpR_val (v := (Sl.v p1)) (w' := w3) rfl rfl rfl (x_move (v := (Sl.v p1)) rfl e1) ?_
    refine wpR_enter rfl rfl rfl (x_call (vs := [(V23 x41 x42 x43 x44 x45 x46 x47 x48 x49 x50 x51 x52 x53 x54 x55 x56 x57 x58 x59 x60 x61 x62), (Sl.v p1)]) rfl rfl (mapl_cons rfl (mapl_cons rfl mapl_nil)) Try.func10 NN_10 NB_10) (Calls.mono h ?_)
    rintro _ w4 ⟨r63, rfl, h⟩
    refine ⟨_, rfl, ?_⟩
    refine wpR_val (v := (Value.tuple #[(Sl.v r63.1), (Value.int .i64 r63.2)])) (w' := w4) rfl rfl rfl (x_move (v := (Value.tuple #[(Sl.v r63.1), (Value.int .i64 r63.2)])) rfl rfl) ?_
    refine wpR_val (v := (Sl.v r63.1)) (w' := w4) rfl rfl rfl (x_extract rfl rfl rfl) ?_
    refine wpR_val (v := (Value.int .i64 r63.2)) (w' := w4) rfl rfl rfl (x_extract rfl rfl rfl) ?_
    refine wpR_val (v := (Sl.v r63.1)) (w' := w4) rfl rfl rfl (x_assign (v := (Sl.v r63.1)) rfl rfl) ?_
    refine wpR_val (v := (Value.int .i64 r63.2)) (w' := w4) rfl rfl rfl (x_assign (v := (Value.int .i64 r63.2)) rfl rfl) ?_
    refine wpR_nil ?_
    refine wpC_seq ?_
    refine wpC_cut (fun ρ => ρ 1 = (Sl.v p1) ∧ ρ 2 = (Sl.v p2) ∧ ρ 3 = (Sl.v p3) ∧ ρ 4 = (Value.pointer (some (Addr.mk b9 0 none))) ∧ ρ 9 = (Value.bool r10) ∧ ρ 10 = (Sl.v r63.1) ∧ ρ 11 = (Value.int .i64 r63.2) ∧ True) ⟨e1, e2, e3, e4, e9, rfl, rfl, trivial⟩ ?_
    rintro ρ ⟨e1, e2, e3, e4, e9, e10, e11, -⟩
    refine wpC_region ?_
    obtain ⟨x64, q64, x65, q65, x66, q66, x67, q67, x68, q68, x69, q69, x70, q70, x71, q71, x72, q72, x73, q73, x74, q74, x75, q75, x76, q76, x77, q77, x78, q78, x79, q79, x80, q80, x81, q81, x82, q82, x83, q83, x84, q84, x85, q85, h⟩ := h
    refine wpR_val (v := (V23 x64 x65 x66 x67 x68 x69 x70 x71 x72 x73 x74 x75 x76 x77 x78 x79 x80 x81 x82 x83 x84 x85)) (w' := w4) rfl rfl rfl (x_loadN (S23 x64 x65 x66 x67 x68 x69 x70 x71 x72 x73 x74 x75 x76 x77 x78 x79 x80 x81 x82 x83 x84 x85) rfl e4 SH_24 (K23 ⟨q64, q65, q66, q67, q68, q69, q70, q71, q72, q73, q74, q75, q76, q77, q78, q79, q80, q81, q82, q83, q84, q85⟩)) ?_
    refine wpR_val (v := (Sl.v p1)) (w' := w4) rfl rfl rfl (x_move (v := (Sl.v p1)) rfl e1) ?_
    refine wpR_enter rfl rfl rfl (x_call (vs := [(V23 x64 x65 x66 x67 x68 x69 x70 x71 x72 x73 x74 x75 x76 x77 x78 x79 x80 x81 x82 x83 x84 x85), (Sl.v p1)]) rfl rfl (mapl_cons rfl (mapl_cons rfl mapl_nil)) Try.func11 NN_11 NB_11) (Calls.mono h ?_)
    rintro _ w5 ⟨r86, rfl, h⟩
    refine ⟨_, rfl, ?_⟩
    refine wpR_val (v := (Value.tuple #[(Sl.v r86.1), (Value.int .i64 r86.2)])) (w' := w5) rfl rfl rfl (x_move (v := (Value.tuple #[(Sl.v r86.1), (Value.int .i64 r86.2)])) rfl rfl) ?_
    refine wpR_val (v := (Sl.v r86.1)) (w' := w5) rfl rfl rfl (x_extract rfl rfl rfl) ?_
    refine wpR_val (v := (Value.int .i64 r86.2)) (w' := w5) rfl rfl rfl (x_extract rfl rfl rfl) ?_
    refine wpR_val (v := (Sl.v r86.1)) (w' := w5) rfl rfl rfl (x_assign (v := (Sl.v r86.1)) rfl rfl) ?_
    refine wpR_val (v := (Value.int .i64 r86.2)) (w' := w5) rfl rfl rfl (x_assign (v := (Value.int .i64 r86.2)) rfl rfl) ?_
    refine wpR_nil ?_
    refine wpC_seq ?_
    refine wpC_cut (fun ρ => ρ 1 = (Sl.v p1) ∧ ρ 2 = (Sl.v p2) ∧ ρ 3 = (Sl.v p3) ∧ ρ 4 = (Value.pointer (some (Addr.mk b9 0 none))) ∧ ρ 9 = (Value.bool r10) ∧ ρ 10 = (Sl.v r63.1) ∧ ρ 11 = (Value.int .i64 r63.2) ∧ ρ 12 = (Sl.v r86.1) ∧ ρ 13 = (Value.int .i64 r86.2) ∧ True) ⟨e1, e2, e3, e4, e9, e10, e11, rfl, rfl, trivial⟩ ?_
    rintro ρ ⟨e1, e2, e3, e4, e9, e10, e11, e12, e13, -⟩
    obtain ⟨J88, h, hk⟩ := h
    refine wpC_drawJ (by kernel_rfl) (fun (x : Bool) ρ => ρ 8 = (Value.bool x) ∧ True) J88 ?_ ?_
    · clear hk
      unfold tk at h
      generalize w5.drew = w6 at h ⊢
      refine wpD_take (v := (Value.bool r10)) 0 (fun _ => True) rfl (by kernel_rfl) (by kernel_rfl) (by kernel_rfl) rfl rfl rfl trivial (fun w _ => (x_move (v := (Value.bool r10)) rfl e9)) ?_
      refine wpD_take (v := (Value.bool r10)) 1 (fun _ => True) rfl (by kernel_rfl) (by kernel_rfl) (by kernel_rfl) rfl rfl rfl trivial (fun w _ => (x_move (v := (Value.bool r10)) rfl rfl)) ?_
      rcases Bool.eq_false_or_eq_true (r10) with hc89 | hc89
      · replace h := h.1 hc89
        refine wpD_take (v := (Sl.v r63.1)) 2 (fun _ => True) rfl (by kernel_rfl) (by kernel_rfl) (by kernel_rfl) (wantG rfl rfl rfl hc89) rfl rfl trivial (fun w _ => (x_move (v := (Sl.v r63.1)) rfl e10)) ?_
        refine wpD_take (v := (Sl.v r86.1)) 3 (fun _ => True) rfl (by kernel_rfl) (by kernel_rfl) (by kernel_rfl) (wantG rfl rfl rfl hc89) rfl rfl trivial (fun w _ => (x_move (v := (Sl.v r86.1)) rfl e12)) ?_
        refine wpD_all (rs := [4]) (by kernel_rfl) (by simp) (allD_cons ?_ allD_nil)
        refine stepD_enterL (L' := [(0, fun _ => True)]) rfl (wantG rfl rfl rfl hc89) rfl rfl (x_call (vs := [(Sl.v r63.1), (Sl.v r86.1)]) rfl rfl (mapl_cons rfl (mapl_cons rfl mapl_nil)) Try.func12 NN_12 NB_12) (by kernel_rfl) (Calls.mono h ?_)
        rintro _ w7 ⟨r90, rfl, h⟩
        refine ⟨_, rfl, (held_cons trivial held_nil), ?_⟩
        refine wpD_take (v := (Value.bool r90)) 5 (fun _ => True) rfl (by kernel_rfl) (by kernel_rfl) (by kernel_rfl) rfl rfl rfl trivial (fun w _ => (x_pickT (v := (Value.bool r90)) rfl rfl hc89 rfl)) ?_
        refine wpD_take (v := (Value.bool r90)) 6 (fun _ => True) rfl (by kernel_rfl) (by kernel_rfl) (by kernel_rfl) rfl rfl rfl trivial (fun w _ => (x_move (v := (Value.bool r90)) rfl rfl)) ?_
        rcases Bool.eq_false_or_eq_true (r90) with hc91 | hc91
        · replace h := h.1 hc91
          refine wpD_take (v := (Value.int .i64 r63.2)) 7 (fun _ => True) rfl (by kernel_rfl) (by kernel_rfl) (by kernel_rfl) (wantG rfl rfl rfl hc91) rfl rfl trivial (fun w _ => (x_move (v := (Value.int .i64 r63.2)) rfl e11)) ?_
          refine wpD_take (v := (Value.int .i64 r86.2)) 8 (fun _ => True) rfl (by kernel_rfl) (by kernel_rfl) (by kernel_rfl) (wantG rfl rfl rfl hc91) rfl rfl trivial (fun w _ => (x_move (v := (Value.int .i64 r86.2)) rfl e13)) ?_
          refine wpD_take (v := (Value.bool (decide (r63.2 = r86.2)))) 9 (fun _ => True) rfl (by kernel_rfl) (by kernel_rfl) (by kernel_rfl) (wantG rfl rfl rfl hc91) rfl rfl trivial (fun w _ => (x_eql rfl rfl rfl)) ?_
          refine wpD_take (v := (Value.bool (decide (r63.2 = r86.2)))) 10 (fun _ => True) rfl (by kernel_rfl) (by kernel_rfl) (by kernel_rfl) rfl rfl rfl trivial (fun w _ => (x_pickT (v := (Value.bool (decide (r63.2 = r86.2)))) rfl rfl hc91 rfl)) ?_
          refine wpD_take (v := (Value.bool (decide (r63.2 = r86.2)))) 11 (fun _ => True) rfl (by kernel_rfl) (by kernel_rfl) (by kernel_rfl) rfl rfl rfl trivial (fun w _ => (x_move (v := (Value.bool (decide (r63.2 = r86.2)))) rfl rfl)) ?_
          rcases Bool.eq_false_or_eq_true (decide (r63.2 = r86.2)) with hc92 | hc92
          · replace h := h.1 hc92
            obtain ⟨x93, q93, x94, q94, x95, q95, x96, q96, x97, q97, x98, q98, x99, q99, x100, q100, x101, q101, x102, q102, x103, q103, x104, q104, x105, q105, x106, q106, x107, q107, x108, q108, x109, q109, x110, q110, x111, q111, x112, q112, x113, q113, x114, q114, h⟩ := h
            refine wpD_take (v := (V23 x93 x94 x95 x96 x97 x98 x99 x100 x101 x102 x103 x104 x105 x106 x107 x108 x109 x110 x111 x112 x113 x114)) 12 (fun w => C23 (Addr.mk b9 0 none) x93 x94 x95 x96 x97 x98 x99 x100 x101 x102 x103 x104 x105 x106 x107 x108 x109 x110 x111 x112 x113 x114 w) rfl (by kernel_rfl) (by kernel_rfl) (by kernel_rfl) (wantG rfl rfl rfl hc92) rfl rfl ⟨q93, q94, q95, q96, q97, q98, q99, q100, q101, q102, q103, q104, q105, q106, q107, q108, q109, q110, q111, q112, q113, q114⟩ (fun w q => (x_loadN (S23 x93 x94 x95 x96 x97 x98 x99 x100 x101 x102 x103 x104 x105 x106 x107 x108 x109 x110 x111 x112 x113 x114) rfl e4 SH_24 (K23 q))) ?_
            refine wpD_take (v := (Sl.v p1)) 13 (fun _ => True) rfl (by kernel_rfl) (by kernel_rfl) (by kernel_rfl) (wantG rfl rfl rfl hc92) rfl rfl trivial (fun w _ => (x_move (v := (Sl.v p1)) rfl e1)) ?_
            refine wpD_take (v := (Sl.v p2)) 14 (fun _ => True) rfl (by kernel_rfl) (by kernel_rfl) (by kernel_rfl) (wantG rfl rfl rfl hc92) rfl rfl trivial (fun w _ => (x_move (v := (Sl.v p2)) rfl e2)) ?_
            obtain ⟨x115, q115, x116, q116, x117, q117, x118, q118, x119, q119, x120, q120, x121, q121, x122, q122, x123, q123, x124, q124, x125, q125, x126, q126, x127, q127, x128, q128, x129, q129, x130, q130, x131, q131, x132, q132, x133, q133, x134, q134, x135, q135, x136, q136, h⟩ := h
            refine wpD_take (v := (V23 x115 x116 x117 x118 x119 x120 x121 x122 x123 x124 x125 x126 x127 x128 x129 x130 x131 x132 x133 x134 x135 x136)) 16 (fun w => C23 (Addr.mk b9 0 none) x115 x116 x117 x118 x119 x120 x121 x122 x123 x124 x125 x126 x127 x128 x129 x130 x131 x132 x133 x134 x135 x136 w) rfl (by kernel_rfl) (by kernel_rfl) (by kernel_rfl) (wantG rfl rfl rfl hc92) rfl rfl ⟨q115, q116, q117, q118, q119, q120, q121, q122, q123, q124, q125, q126, q127, q128, q129, q130, q131, q132, q133, q134, q135, q136⟩ (fun w q => (x_loadN (S23 x115 x116 x117 x118 x119 x120 x121 x122 x123 x124 x125 x126 x127 x128 x129 x130 x131 x132 x133 x134 x135 x136) rfl e4 SH_24 (K23 q))) ?_
            refine wpD_take (v := (Sl.v p1)) 17 (fun _ => True) rfl (by kernel_rfl) (by kernel_rfl) (by kernel_rfl) (wantG rfl rfl rfl hc92) rfl rfl trivial (fun w _ => (x_move (v := (Sl.v p1)) rfl e1)) ?_
            refine wpD_take (v := (Sl.v p2)) 18 (fun _ => True) rfl (by kernel_rfl) (by kernel_rfl) (by kernel_rfl) (wantG rfl rfl rfl hc92) rfl rfl trivial (fun w _ => (x_move (v := (Sl.v p2)) rfl e2)) ?_
            refine wpD_all (rs := [15]) (by kernel_rfl) (by simp) (allD_cons ?_ allD_nil)
            refine stepD_enterL (L' := [(18, fun _ => True), (17, fun _ => True), (16, fun w => C23 (Addr.mk b9 0 none) x115 x116 x117 x118 x119 x120 x121 x122 x123 x124 x125 x126 x127 x128 x129 x130 x131 x132 x133 x134 x135 x136 w), (10, fun _ => True), (9, fun _ => True), (8, fun _ => True), (7, fun _ => True), (6, fun _ => True), (5, fun _ => True), (0, fun _ => True)]) rfl (wantG rfl rfl rfl hc92) rfl rfl (x_call (vs := [(V23 x93 x94 x95 x96 x97 x98 x99 x100 x101 x102 x103 x104 x105 x106 x107 x108 x109 x110 x111 x112 x113 x114), (Sl.v p1), (Sl.v p2)]) rfl rfl (mapl_cons rfl (mapl_cons rfl (mapl_cons rfl mapl_nil))) Try.func13 NN_13 NB_13) (by kernel_rfl) (Calls.mono h ?_)
            rintro _ w8 ⟨r137, rfl, h⟩
            obtain ⟨o16, h⟩ := h
            refine ⟨_, rfl, (held_cons trivial (held_cons trivial (held_cons o16 (held_cons trivial (held_cons trivial (held_cons trivial (held_cons trivial (held_cons trivial (held_cons trivial (held_cons trivial held_nil)))))))))), ?_⟩
            refine wpD_all (rs := [19]) (by kernel_rfl) (by simp) (allD_cons ?_ allD_nil)
            refine stepD_enterL (L' := [(10, fun _ => True), (9, fun _ => True), (8, fun _ => True), (7, fun _ => True), (6, fun _ => True), (5, fun _ => True), (0, fun _ => True)]) rfl (wantG rfl rfl rfl hc92) rfl rfl (x_call (vs := [(V23 x115 x116 x117 x118 x119 x120 x121 x122 x123 x124 x125 x126 x127 x128 x129 x130 x131 x132 x133 x134 x135 x136), (Sl.v p1), (Sl.v p2)]) rfl rfl (mapl_cons rfl (mapl_cons rfl (mapl_cons rfl mapl_nil))) Try.func14 NN_14 NB_14) (by kernel_rfl) (Calls.mono h ?_)
            rintro _ w9 ⟨r138, rfl, h⟩
            refine ⟨_, rfl, (held_cons trivial (held_cons trivial (held_cons trivial (held_cons trivial (held_cons trivial (held_cons trivial (held_cons trivial held_nil))))))), ?_⟩
            refine wpD_take (v := (Value.bool (decide (r137 = r138)))) 20 (fun _ => True) rfl (by kernel_rfl) (by kernel_rfl) (by kernel_rfl) (wantG rfl rfl rfl hc92) rfl rfl trivial (fun w _ => (x_eql rfl rfl rfl)) ?_
            refine wpD_take (v := (Value.bool (decide (r137 = r138)))) 21 (fun _ => True) rfl (by kernel_rfl) (by kernel_rfl) (by kernel_rfl) rfl rfl rfl trivial (fun w _ => (x_pickT (v := (Value.bool (decide (r137 = r138)))) rfl rfl hc92 rfl)) ?_
            refine wpD_take (v := (Value.bool (decide (r137 = r138)))) 22 (fun _ => True) rfl (by kernel_rfl) (by kernel_rfl) (by kernel_rfl) rfl rfl rfl trivial (fun w _ => (x_move (v := (Value.bool (decide (r137 = r138)))) rfl rfl)) ?_
            rcases Bool.eq_false_or_eq_true (decide (r137 = r138)) with hc139 | hc139
            · replace h := h.1 hc139
              obtain ⟨x140, q140, x141, q141, x142, q142, x143, q143, x144, q144, x145, q145, x146, q146, x147, q147, x148, q148, x149, q149, x150, q150, x151, q151, x152, q152, x153, q153, x154, q154, x155, q155, x156, q156, x157, q157, x158, q158, x159, q159, x160, q160, x161, q161, h⟩ := h
              refine wpD_take (v := (V23 x140 x141 x142 x143 x144 x145 x146 x147 x148 x149 x150 x151 x152 x153 x154 x155 x156 x157 x158 x159 x160 x161)) 23 (fun w => C23 (Addr.mk b9 0 none) x140 x141 x142 x143 x144 x145 x146 x147 x148 x149 x150 x151 x152 x153 x154 x155 x156 x157 x158 x159 x160 x161 w) rfl (by kernel_rfl) (by kernel_rfl) (by kernel_rfl) (wantG rfl rfl rfl hc139) rfl rfl ⟨q140, q141, q142, q143, q144, q145, q146, q147, q148, q149, q150, q151, q152, q153, q154, q155, q156, q157, q158, q159, q160, q161⟩ (fun w q => (x_loadN (S23 x140 x141 x142 x143 x144 x145 x146 x147 x148 x149 x150 x151 x152 x153 x154 x155 x156 x157 x158 x159 x160 x161) rfl e4 SH_24 (K23 q))) ?_
              refine wpD_take (v := (Sl.v p1)) 24 (fun _ => True) rfl (by kernel_rfl) (by kernel_rfl) (by kernel_rfl) (wantG rfl rfl rfl hc139) rfl rfl trivial (fun w _ => (x_move (v := (Sl.v p1)) rfl e1)) ?_
              refine wpD_take (v := (Sl.v r63.1)) 25 (fun _ => True) rfl (by kernel_rfl) (by kernel_rfl) (by kernel_rfl) (wantG rfl rfl rfl hc139) rfl rfl trivial (fun w _ => (x_move (v := (Sl.v r63.1)) rfl e10)) ?_
              obtain ⟨x162, q162, x163, q163, x164, q164, x165, q165, x166, q166, x167, q167, x168, q168, x169, q169, x170, q170, x171, q171, x172, q172, x173, q173, x174, q174, x175, q175, x176, q176, x177, q177, x178, q178, x179, q179, x180, q180, x181, q181, x182, q182, x183, q183, h⟩ := h
              refine wpD_take (v := (V23 x162 x163 x164 x165 x166 x167 x168 x169 x170 x171 x172 x173 x174 x175 x176 x177 x178 x179 x180 x181 x182 x183)) 27 (fun w => C23 (Addr.mk b9 0 none) x162 x163 x164 x165 x166 x167 x168 x169 x170 x171 x172 x173 x174 x175 x176 x177 x178 x179 x180 x181 x182 x183 w) rfl (by kernel_rfl) (by kernel_rfl) (by kernel_rfl) (wantG rfl rfl rfl hc139) rfl rfl ⟨q162, q163, q164, q165, q166, q167, q168, q169, q170, q171, q172, q173, q174, q175, q176, q177, q178, q179, q180, q181, q182, q183⟩ (fun w q => (x_loadN (S23 x162 x163 x164 x165 x166 x167 x168 x169 x170 x171 x172 x173 x174 x175 x176 x177 x178 x179 x180 x181 x182 x183) rfl e4 SH_24 (K23 q))) ?_
              refine wpD_take (v := (Sl.v p1)) 28 (fun _ => True) rfl (by kernel_rfl) (by kernel_rfl) (by kernel_rfl) (wantG rfl rfl rfl hc139) rfl rfl trivial (fun w _ => (x_move (v := (Sl.v p1)) rfl e1)) ?_
              refine wpD_take (v := (Sl.v r86.1)) 29 (fun _ => True) rfl (by kernel_rfl) (by kernel_rfl) (by kernel_rfl) (wantG rfl rfl rfl hc139) rfl rfl trivial (fun w _ => (x_move (v := (Sl.v r86.1)) rfl e12)) ?_
              refine wpD_all (rs := [26]) (by kernel_rfl) (by simp) (allD_cons ?_ allD_nil)
              refine stepD_enterL (L' := [(29, fun _ => True), (28, fun _ => True), (27, fun w => C23 (Addr.mk b9 0 none) x162 x163 x164 x165 x166 x167 x168 x169 x170 x171 x172 x173 x174 x175 x176 x177 x178 x179 x180 x181 x182 x183 w), (21, fun _ => True), (20, fun _ => True), (10, fun _ => True), (9, fun _ => True), (8, fun _ => True), (7, fun _ => True), (6, fun _ => True), (5, fun _ => True), (0, fun _ => True)]) rfl (wantG rfl rfl rfl hc139) rfl rfl (x_call (vs := [(V23 x140 x141 x142 x143 x144 x145 x146 x147 x148 x149 x150 x151 x152 x153 x154 x155 x156 x157 x158 x159 x160 x161), (Sl.v p1), (Sl.v r63.1)]) rfl rfl (mapl_cons rfl (mapl_cons rfl (mapl_cons rfl mapl_nil))) Try.func13 NN_13 NB_13) (by kernel_rfl) (Calls.mono h ?_)
              rintro _ w10 ⟨r184, rfl, h⟩
              obtain ⟨o27, h⟩ := h
              refine ⟨_, rfl, (held_cons trivial (held_cons trivial (held_cons o27 (held_cons trivial (held_cons trivial (held_cons trivial (held_cons trivial (held_cons trivial (held_cons trivial (held_cons trivial (held_cons trivial (held_cons trivial held_nil)))))))))))), ?_⟩
              refine wpD_all (rs := [30]) (by kernel_rfl) (by simp) (allD_cons ?_ allD_nil)
              refine stepD_enterL (L' := [(21, fun _ => True), (20, fun _ => True), (10, fun _ => True), (9, fun _ => True), (8, fun _ => True), (7, fun _ => True), (6, fun _ => True), (5, fun _ => True), (0, fun _ => True)]) rfl (wantG rfl rfl rfl hc139) rfl rfl (x_call (vs := [(V23 x162 x163 x164 x165 x166 x167 x168 x169 x170 x171 x172 x173 x174 x175 x176 x177 x178 x179 x180 x181 x182 x183), (Sl.v p1), (Sl.v r86.1)]) rfl rfl (mapl_cons rfl (mapl_cons rfl (mapl_cons rfl mapl_nil))) Try.func14 NN_14 NB_14) (by kernel_rfl) (Calls.mono h ?_)
              rintro _ w11 ⟨r185, rfl, h⟩
              refine ⟨_, rfl, (held_cons trivial (held_cons trivial (held_cons trivial (held_cons trivial (held_cons trivial (held_cons trivial (held_cons trivial (held_cons trivial (held_cons trivial held_nil))))))))), ?_⟩
              refine wpD_take (v := (Value.bool (decide (r184 = r185)))) 31 (fun _ => True) rfl (by kernel_rfl) (by kernel_rfl) (by kernel_rfl) (wantG rfl rfl rfl hc139) rfl rfl trivial (fun w _ => (x_eql rfl rfl rfl)) ?_
              refine wpD_take (v := (Value.bool (decide (r184 = r185)))) 32 (fun _ => True) rfl (by kernel_rfl) (by kernel_rfl) (by kernel_rfl) rfl rfl rfl trivial (fun w _ => (x_pickT (v := (Value.bool (decide (r184 = r185)))) rfl rfl hc139 rfl)) ?_
              refine wpD_take (v := (Value.bool (decide (r184 = r185)))) 33 (fun _ => True) rfl (by kernel_rfl) (by kernel_rfl) (by kernel_rfl) rfl rfl rfl trivial (fun w _ => (x_move (v := (Value.bool (decide (r184 = r185)))) rfl rfl)) ?_
              rcases Bool.eq_false_or_eq_true (decide (r184 = r185)) with hc186 | hc186
              · replace h := h.1 hc186
                refine wpD_take (v := (Sl.v p2)) 34 (fun _ => True) rfl (by kernel_rfl) (by kernel_rfl) (by kernel_rfl) (wantG rfl rfl rfl hc186) rfl rfl trivial (fun w _ => (x_move (v := (Sl.v p2)) rfl e2)) ?_
                refine wpD_take (v := (Sl.v p3)) 35 (fun _ => True) rfl (by kernel_rfl) (by kernel_rfl) (by kernel_rfl) (wantG rfl rfl rfl hc186) rfl rfl trivial (fun w _ => (x_move (v := (Sl.v p3)) rfl e3)) ?_
                refine wpD_take (v := (Sl.v p2)) 37 (fun _ => True) rfl (by kernel_rfl) (by kernel_rfl) (by kernel_rfl) (wantG rfl rfl rfl hc186) rfl rfl trivial (fun w _ => (x_move (v := (Sl.v p2)) rfl e2)) ?_
                refine wpD_take (v := (Sl.v p3)) 38 (fun _ => True) rfl (by kernel_rfl) (by kernel_rfl) (by kernel_rfl) (wantG rfl rfl rfl hc186) rfl rfl trivial (fun w _ => (x_move (v := (Sl.v p3)) rfl e3)) ?_
                refine wpD_all (rs := [36]) (by kernel_rfl) (by simp) (allD_cons ?_ allD_nil)
                refine stepD_enterL (L' := [(38, fun _ => True), (37, fun _ => True), (32, fun _ => True), (31, fun _ => True), (21, fun _ => True), (20, fun _ => True), (10, fun _ => True), (9, fun _ => True), (8, fun _ => True), (7, fun _ => True), (6, fun _ => True), (5, fun _ => True), (0, fun _ => True)]) rfl (wantG rfl rfl rfl hc186) rfl rfl (x_call (vs := [(Sl.v p2), (Sl.v p3)]) rfl rfl (mapl_cons rfl (mapl_cons rfl mapl_nil)) Try.func15 NN_15 NB_15) (by kernel_rfl) (Calls.mono h ?_)
                rintro _ w12 ⟨r187, rfl, h⟩
                refine ⟨_, rfl, (held_cons trivial (held_cons trivial (held_cons trivial (held_cons trivial (held_cons trivial (held_cons trivial (held_cons trivial (held_cons trivial (held_cons trivial (held_cons trivial (held_cons trivial (held_cons trivial (held_cons trivial held_nil))))))))))))), ?_⟩
                refine wpD_all (rs := [39]) (by kernel_rfl) (by simp) (allD_cons ?_ allD_nil)
                refine stepD_enterL (L' := [(32, fun _ => True), (31, fun _ => True), (21, fun _ => True), (20, fun _ => True), (10, fun _ => True), (9, fun _ => True), (8, fun _ => True), (7, fun _ => True), (6, fun _ => True), (5, fun _ => True), (0, fun _ => True)]) rfl (wantG rfl rfl rfl hc186) rfl rfl (x_call (vs := [(Sl.v p2), (Sl.v p3)]) rfl rfl (mapl_cons rfl (mapl_cons rfl mapl_nil)) Try.func16 NN_16 NB_16) (by kernel_rfl) (Calls.mono h ?_)
                rintro _ w13 ⟨r188, rfl, h⟩
                refine ⟨_, rfl, (held_cons trivial (held_cons trivial (held_cons trivial (held_cons trivial (held_cons trivial (held_cons trivial (held_cons trivial (held_cons trivial (held_cons trivial (held_cons trivial (held_cons trivial held_nil))))))))))), ?_⟩
                refine wpD_take (v := (Value.bool (r187 == r188))) 40 (fun _ => True) rfl (by kernel_rfl) (by kernel_rfl) (by kernel_rfl) (wantG rfl rfl rfl hc186) rfl rfl trivial (fun w _ => (x_eqlB rfl rfl rfl isBoolT_4)) ?_
                refine wpD_take (v := (Value.bool (r187 == r188))) 41 (fun _ => True) rfl (by kernel_rfl) (by kernel_rfl) (by kernel_rfl) rfl rfl rfl trivial (fun w _ => (x_pickT (v := (Value.bool (r187 == r188))) rfl rfl hc186 rfl)) ?_
                refine wpD_take (v := (Value.bool (r187 == r188))) 42 (fun _ => True) rfl (by kernel_rfl) (by kernel_rfl) (by kernel_rfl) rfl rfl rfl trivial (fun w _ => (x_assign (v := (Value.bool (r187 == r188))) rfl rfl)) ?_
                exact wpD_done (by kernel_rfl) ⟨r187 == r188, ⟨rfl, trivial⟩, h⟩
              · replace h := h.2 hc186
                refine wpD_pass 34 rfl (by kernel_rfl) (by kernel_rfl) (by kernel_rfl) (wantN rfl rfl rfl hc186) rfl rfl ?_
                refine wpD_pass 35 rfl (by kernel_rfl) (by kernel_rfl) (by kernel_rfl) (wantN rfl rfl rfl hc186) rfl rfl ?_
                refine wpD_pass 36 rfl (by kernel_rfl) (by kernel_rfl) (by kernel_rfl) (wantN rfl rfl rfl hc186) rfl rfl ?_
                refine wpD_pass 37 rfl (by kernel_rfl) (by kernel_rfl) (by kernel_rfl) (wantN rfl rfl rfl hc186) rfl rfl ?_
                refine wpD_pass 38 rfl (by kernel_rfl) (by kernel_rfl) (by kernel_rfl) (wantN rfl rfl rfl hc186) rfl rfl ?_
                refine wpD_pass 39 rfl (by kernel_rfl) (by kernel_rfl) (by kernel_rfl) (wantN rfl rfl rfl hc186) rfl rfl ?_
                refine wpD_pass 40 rfl (by kernel_rfl) (by kernel_rfl) (by kernel_rfl) (wantN rfl rfl rfl hc186) rfl rfl ?_
                refine wpD_take (v := (Value.bool false)) 41 (fun _ => True) rfl (by kernel_rfl) (by kernel_rfl) (by kernel_rfl) rfl rfl rfl trivial (fun w _ => (x_pickF (v := (Value.bool false)) rfl rfl hc186 rfl)) ?_
                refine wpD_take (v := (Value.bool false)) 42 (fun _ => True) rfl (by kernel_rfl) (by kernel_rfl) (by kernel_rfl) rfl rfl rfl trivial (fun w _ => (x_assign (v := (Value.bool false)) rfl rfl)) ?_
                exact wpD_done (by kernel_rfl) ⟨false, ⟨rfl, trivial⟩, h⟩
            · replace h := h.2 hc139
              refine wpD_pass 23 rfl (by kernel_rfl) (by kernel_rfl) (by kernel_rfl) (wantN rfl rfl rfl hc139) rfl rfl ?_
              refine wpD_pass 24 rfl (by kernel_rfl) (by kernel_rfl) (by kernel_rfl) (wantN rfl rfl rfl hc139) rfl rfl ?_
              refine wpD_pass 25 rfl (by kernel_rfl) (by kernel_rfl) (by kernel_rfl) (wantN rfl rfl rfl hc139) rfl rfl ?_
              refine wpD_pass 26 rfl (by kernel_rfl) (by kernel_rfl) (by kernel_rfl) (wantN rfl rfl rfl hc139) rfl rfl ?_
              refine wpD_pass 27 rfl (by kernel_rfl) (by kernel_rfl) (by kernel_rfl) (wantN rfl rfl rfl hc139) rfl rfl ?_
              refine wpD_pass 28 rfl (by kernel_rfl) (by kernel_rfl) (by kernel_rfl) (wantN rfl rfl rfl hc139) rfl rfl ?_
              refine wpD_pass 29 rfl (by kernel_rfl) (by kernel_rfl) (by kernel_rfl) (wantN rfl rfl rfl hc139) rfl rfl ?_
              refine wpD_pass 30 rfl (by kernel_rfl) (by kernel_rfl) (by kernel_rfl) (wantN rfl rfl rfl hc139) rfl rfl ?_
              refine wpD_pass 31 rfl (by kernel_rfl) (by kernel_rfl) (by kernel_rfl) (wantN rfl rfl rfl hc139) rfl rfl ?_
              refine wpD_take (v := (Value.bool false)) 32 (fun _ => True) rfl (by kernel_rfl) (by kernel_rfl) (by kernel_rfl) rfl rfl rfl trivial (fun w _ => (x_pickF (v := (Value.bool false)) rfl rfl hc139 rfl)) ?_
              refine wpD_take (v := (Value.bool false)) 33 (fun _ => True) rfl (by kernel_rfl) (by kernel_rfl) (by kernel_rfl) rfl rfl rfl trivial (fun w _ => (x_move (v := (Value.bool false)) rfl rfl)) ?_
              refine wpD_pass 34 rfl (by kernel_rfl) (by kernel_rfl) (by kernel_rfl) (wantN rfl rfl rfl rfl) rfl rfl ?_
              refine wpD_pass 35 rfl (by kernel_rfl) (by kernel_rfl) (by kernel_rfl) (wantN rfl rfl rfl rfl) rfl rfl ?_
              refine wpD_pass 36 rfl (by kernel_rfl) (by kernel_rfl) (by kernel_rfl) (wantN rfl rfl rfl rfl) rfl rfl ?_
              refine wpD_pass 37 rfl (by kernel_rfl) (by kernel_rfl) (by kernel_rfl) (wantN rfl rfl rfl rfl) rfl rfl ?_
              refine wpD_pass 38 rfl (by kernel_rfl) (by kernel_rfl) (by kernel_rfl) (wantN rfl rfl rfl rfl) rfl rfl ?_
              refine wpD_pass 39 rfl (by kernel_rfl) (by kernel_rfl) (by kernel_rfl) (wantN rfl rfl rfl rfl) rfl rfl ?_
              refine wpD_pass 40 rfl (by kernel_rfl) (by kernel_rfl) (by kernel_rfl) (wantN rfl rfl rfl rfl) rfl rfl ?_
              refine wpD_take (v := (Value.bool false)) 41 (fun _ => True) rfl (by kernel_rfl) (by kernel_rfl) (by kernel_rfl) rfl rfl rfl trivial (fun w _ => (x_pickF (v := (Value.bool false)) rfl rfl rfl rfl)) ?_
              refine wpD_take (v := (Value.bool false)) 42 (fun _ => True) rfl (by kernel_rfl) (by kernel_rfl) (by kernel_rfl) rfl rfl rfl trivial (fun w _ => (x_assign (v := (Value.bool false)) rfl rfl)) ?_
              exact wpD_done (by kernel_rfl) ⟨false, ⟨rfl, trivial⟩, h⟩
          · replace h := h.2 hc92
            refine wpD_pass 12 rfl (by kernel_rfl) (by kernel_rfl) (by kernel_rfl) (wantN rfl rfl rfl hc92) rfl rfl ?_
            refine wpD_pass 13 rfl (by kernel_rfl) (by kernel_rfl) (by kernel_rfl) (wantN rfl rfl rfl hc92) rfl rfl ?_
            refine wpD_pass 14 rfl (by kernel_rfl) (by kernel_rfl) (by kernel_rfl) (wantN rfl rfl rfl hc92) rfl rfl ?_
            refine wpD_pass 15 rfl (by kernel_rfl) (by kernel_rfl) (by kernel_rfl) (wantN rfl rfl rfl hc92) rfl rfl ?_
            refine wpD_pass 16 rfl (by kernel_rfl) (by kernel_rfl) (by kernel_rfl) (wantN rfl rfl rfl hc92) rfl rfl ?_
            refine wpD_pass 17 rfl (by kernel_rfl) (by kernel_rfl) (by kernel_rfl) (wantN rfl rfl rfl hc92) rfl rfl ?_
            refine wpD_pass 18 rfl (by kernel_rfl) (by kernel_rfl) (by kernel_rfl) (wantN rfl rfl rfl hc92) rfl rfl ?_
            refine wpD_pass 19 rfl (by kernel_rfl) (by kernel_rfl) (by kernel_rfl) (wantN rfl rfl rfl hc92) rfl rfl ?_
            refine wpD_pass 20 rfl (by kernel_rfl) (by kernel_rfl) (by kernel_rfl) (wantN rfl rfl rfl hc92) rfl rfl ?_
            refine wpD_take (v := (Value.bool false)) 21 (fun _ => True) rfl (by kernel_rfl) (by kernel_rfl) (by kernel_rfl) rfl rfl rfl trivial (fun w _ => (x_pickF (v := (Value.bool false)) rfl rfl hc92 rfl)) ?_
            refine wpD_take (v := (Value.bool false)) 22 (fun _ => True) rfl (by kernel_rfl) (by kernel_rfl) (by kernel_rfl) rfl rfl rfl trivial (fun w _ => (x_move (v := (Value.bool false)) rfl rfl)) ?_
            refine wpD_pass 23 rfl (by kernel_rfl) (by kernel_rfl) (by kernel_rfl) (wantN rfl rfl rfl rfl) rfl rfl ?_
            refine wpD_pass 24 rfl (by kernel_rfl) (by kernel_rfl) (by kernel_rfl) (wantN rfl rfl rfl rfl) rfl rfl ?_
            refine wpD_pass 25 rfl (by kernel_rfl) (by kernel_rfl) (by kernel_rfl) (wantN rfl rfl rfl rfl) rfl rfl ?_
            refine wpD_pass 26 rfl (by kernel_rfl) (by kernel_rfl) (by kernel_rfl) (wantN rfl rfl rfl rfl) rfl rfl ?_
            refine wpD_pass 27 rfl (by kernel_rfl) (by kernel_rfl) (by kernel_rfl) (wantN rfl rfl rfl rfl) rfl rfl ?_
            refine wpD_pass 28 rfl (by kernel_rfl) (by kernel_rfl) (by kernel_rfl) (wantN rfl rfl rfl rfl) rfl rfl ?_
            refine wpD_pass 29 rfl (by kernel_rfl) (by kernel_rfl) (by kernel_rfl) (wantN rfl rfl rfl rfl) rfl rfl ?_
            refine wpD_pass 30 rfl (by kernel_rfl) (by kernel_rfl) (by kernel_rfl) (wantN rfl rfl rfl rfl) rfl rfl ?_
            refine wpD_pass 31 rfl (by kernel_rfl) (by kernel_rfl) (by kernel_rfl) (wantN rfl rfl rfl rfl) rfl rfl ?_
            refine wpD_take (v := (Value.bool false)) 32 (fun _ => True) rfl (by kernel_rfl) (by kernel_rfl) (by kernel_rfl) rfl rfl rfl trivial (fun w _ => (x_pickF (v := (Value.bool false)) rfl rfl rfl rfl)) ?_
            refine wpD_take (v := (Value.bool false)) 33 (fun _ => True) rfl (by kernel_rfl) (by kernel_rfl) (by kernel_rfl) rfl rfl rfl trivial (fun w _ => (x_move (v := (Value.bool false)) rfl rfl)) ?_
            refine wpD_pass 34 rfl (by kernel_rfl) (by kernel_rfl) (by kernel_rfl) (wantN rfl rfl rfl rfl) rfl rfl ?_
            refine wpD_pass 35 rfl (by kernel_rfl) (by kernel_rfl) (by kernel_rfl) (wantN rfl rfl rfl rfl) rfl rfl ?_
            refine wpD_pass 36 rfl (by kernel_rfl) (by kernel_rfl) (by kernel_rfl) (wantN rfl rfl rfl rfl) rfl rfl ?_
            refine wpD_pass 37 rfl (by kernel_rfl) (by kernel_rfl) (by kernel_rfl) (wantN rfl rfl rfl rfl) rfl rfl ?_
            refine wpD_pass 38 rfl (by kernel_rfl) (by kernel_rfl) (by kernel_rfl) (wantN rfl rfl rfl rfl) rfl rfl ?_
            refine wpD_pass 39 rfl (by kernel_rfl) (by kernel_rfl) (by kernel_rfl) (wantN rfl rfl rfl rfl) rfl rfl ?_
            refine wpD_pass 40 rfl (by kernel_rfl) (by kernel_rfl) (by kernel_rfl) (wantN rfl rfl rfl rfl) rfl rfl ?_
            refine wpD_take (v := (Value.bool false)) 41 (fun _ => True) rfl (by kernel_rfl) (by kernel_rfl) (by kernel_rfl) rfl rfl rfl trivial (fun w _ => (x_pickF (v := (Value.bool false)) rfl rfl rfl rfl)) ?_
            refine wpD_take (v := (Value.bool false)) 42 (fun _ => True) rfl (by kernel_rfl) (by kernel_rfl) (by kernel_rfl) rfl rfl rfl trivial (fun w _ => (x_assign (v := (Value.bool false)) rfl rfl)) ?_
            exact wpD_done (by kernel_rfl) ⟨false, ⟨rfl, trivial⟩, h⟩
        · replace h := h.2 hc91
          refine wpD_pass 7 rfl (by kernel_rfl) (by kernel_rfl) (by kernel_rfl) (wantN rfl rfl rfl hc91) rfl rfl ?_
          refine wpD_pass 8 rfl (by kernel_rfl) (by kernel_rfl) (by kernel_rfl) (wantN rfl rfl rfl hc91) rfl rfl ?_
          refine wpD_pass 9 rfl (by kernel_rfl) (by kernel_rfl) (by kernel_rfl) (wantN rfl rfl rfl hc91) rfl rfl ?_
          refine wpD_take (v := (Value.bool false)) 10 (fun _ => True) rfl (by kernel_rfl) (by kernel_rfl) (by kernel_rfl) rfl rfl rfl trivial (fun w _ => (x_pickF (v := (Value.bool false)) rfl rfl hc91 rfl)) ?_
          refine wpD_take (v := (Value.bool false)) 11 (fun _ => True) rfl (by kernel_rfl) (by kernel_rfl) (by kernel_rfl) rfl rfl rfl trivial (fun w _ => (x_move (v := (Value.bool false)) rfl rfl)) ?_
          refine wpD_pass 12 rfl (by kernel_rfl) (by kernel_rfl) (by kernel_rfl) (wantN rfl rfl rfl rfl) rfl rfl ?_
          refine wpD_pass 13 rfl (by kernel_rfl) (by kernel_rfl) (by kernel_rfl) (wantN rfl rfl rfl rfl) rfl rfl ?_
          refine wpD_pass 14 rfl (by kernel_rfl) (by kernel_rfl) (by kernel_rfl) (wantN rfl rfl rfl rfl) rfl rfl ?_
          refine wpD_pass 15 rfl (by kernel_rfl) (by kernel_rfl) (by kernel_rfl) (wantN rfl rfl rfl rfl) rfl rfl ?_
          refine wpD_pass 16 rfl (by kernel_rfl) (by kernel_rfl) (by kernel_rfl) (wantN rfl rfl rfl rfl) rfl rfl ?_
          refine wpD_pass 17 rfl (by kernel_rfl) (by kernel_rfl) (by kernel_rfl) (wantN rfl rfl rfl rfl) rfl rfl ?_
          refine wpD_pass 18 rfl (by kernel_rfl) (by kernel_rfl) (by kernel_rfl) (wantN rfl rfl rfl rfl) rfl rfl ?_
          refine wpD_pass 19 rfl (by kernel_rfl) (by kernel_rfl) (by kernel_rfl) (wantN rfl rfl rfl rfl) rfl rfl ?_
          refine wpD_pass 20 rfl (by kernel_rfl) (by kernel_rfl) (by kernel_rfl) (wantN rfl rfl rfl rfl) rfl rfl ?_
          refine wpD_take (v := (Value.bool false)) 21 (fun _ => True) rfl (by kernel_rfl) (by kernel_rfl) (by kernel_rfl) rfl rfl rfl trivial (fun w _ => (x_pickF (v := (Value.bool false)) rfl rfl rfl rfl)) ?_
          refine wpD_take (v := (Value.bool false)) 22 (fun _ => True) rfl (by kernel_rfl) (by kernel_rfl) (by kernel_rfl) rfl rfl rfl trivial (fun w _ => (x_move (v := (Value.bool false)) rfl rfl)) ?_
          refine wpD_pass 23 rfl (by kernel_rfl) (by kernel_rfl) (by kernel_rfl) (wantN rfl rfl rfl rfl) rfl rfl ?_
          refine wpD_pass 24 rfl (by kernel_rfl) (by kernel_rfl) (by kernel_rfl) (wantN rfl rfl rfl rfl) rfl rfl ?_
          refine wpD_pass 25 rfl (by kernel_rfl) (by kernel_rfl) (by kernel_rfl) (wantN rfl rfl rfl rfl) rfl rfl ?_
          refine wpD_pass 26 rfl (by kernel_rfl) (by kernel_rfl) (by kernel_rfl) (wantN rfl rfl rfl rfl) rfl rfl ?_
          refine wpD_pass 27 rfl (by kernel_rfl) (by kernel_rfl) (by kernel_rfl) (wantN rfl rfl rfl rfl) rfl rfl ?_
          refine wpD_pass 28 rfl (by kernel_rfl) (by kernel_rfl) (by kernel_rfl) (wantN rfl rfl rfl rfl) rfl rfl ?_
          refine wpD_pass 29 rfl (by kernel_rfl) (by kernel_rfl) (by kernel_rfl) (wantN rfl rfl rfl rfl) rfl rfl ?_
          refine wpD_pass 30 rfl (by kernel_rfl) (by kernel_rfl) (by kernel_rfl) (wantN rfl rfl rfl rfl) rfl rfl ?_
          refine wpD_pass 31 rfl (by kernel_rfl) (by kernel_rfl) (by kernel_rfl) (wantN rfl rfl rfl rfl) rfl rfl ?_
          refine wpD_take (v := (Value.bool false)) 32 (fun _ => True) rfl (by kernel_rfl) (by kernel_rfl) (by kernel_rfl) rfl rfl rfl trivial (fun w _ => (x_pickF (v := (Value.bool false)) rfl rfl rfl rfl)) ?_
          refine wpD_take (v := (Value.bool false)) 33 (fun _ => True) rfl (by kernel_rfl) (by kernel_rfl) (by kernel_rfl) rfl rfl rfl trivial (fun w _ => (x_move (v := (Value.bool false)) rfl rfl)) ?_
          refine wpD_pass 34 rfl (by kernel_rfl) (by kernel_rfl) (by kernel_rfl) (wantN rfl rfl rfl rfl) rfl rfl ?_
          refine wpD_pass 35 rfl (by kernel_rfl) (by kernel_rfl) (by kernel_rfl) (wantN rfl rfl rfl rfl) rfl rfl ?_
          refine wpD_pass 36 rfl (by kernel_rfl) (by kernel_rfl) (by kernel_rfl) (wantN rfl rfl rfl rfl) rfl rfl ?_
          refine wpD_pass 37 rfl (by kernel_rfl) (by kernel_rfl) (by kernel_rfl) (wantN rfl rfl rfl rfl) rfl rfl ?_
          refine wpD_pass 38 rfl (by kernel_rfl) (by kernel_rfl) (by kernel_rfl) (wantN rfl rfl rfl rfl) rfl rfl ?_
          refine wpD_pass 39 rfl (by kernel_rfl) (by kernel_rfl) (by kernel_rfl) (wantN rfl rfl rfl rfl) rfl rfl ?_
          refine wpD_pass 40 rfl (by kernel_rfl) (by kernel_rfl) (by kernel_rfl) (wantN rfl rfl rfl rfl) rfl rfl ?_
          refine wpD_take (v := (Value.bool false)) 41 (fun _ => True) rfl (by kernel_rfl) (by kernel_rfl) (by kernel_rfl) rfl rfl rfl trivial (fun w _ => (x_pickF (v := (Value.bool false)) rfl rfl rfl rfl)) ?_
          refine wpD_take (v := (Value.bool false)) 42 (fun _ => True) rfl (by kernel_rfl) (by kernel_rfl) (by kernel_rfl) rfl rfl rfl trivial (fun w _ => (x_assign (v := (Value.bool false)) rfl rfl)) ?_
          exact wpD_done (by kernel_rfl) ⟨false, ⟨rfl, trivial⟩, h⟩
      · replace h := h.2 hc89
        refine wpD_pass 2 rfl (by kernel_rfl) (by kernel_rfl) (by kernel_rfl) (wantN rfl rfl rfl hc89) rfl rfl ?_
        refine wpD_pass 3 rfl (by kernel_rfl) (by kernel_rfl) (by kernel_rfl) (wantN rfl rfl rfl hc89) rfl rfl ?_
        refine wpD_pass 4 rfl (by kernel_rfl) (by kernel_rfl) (by kernel_rfl) (wantN rfl rfl rfl hc89) rfl rfl ?_
        refine wpD_take (v := (Value.bool false)) 5 (fun _ => True) rfl (by kernel_rfl) (by kernel_rfl) (by kernel_rfl) rfl rfl rfl trivial (fun w _ => (x_pickF (v := (Value.bool false)) rfl rfl hc89 rfl)) ?_
        refine wpD_take (v := (Value.bool false)) 6 (fun _ => True) rfl (by kernel_rfl) (by kernel_rfl) (by kernel_rfl) rfl rfl rfl trivial (fun w _ => (x_move (v := (Value.bool false)) rfl rfl)) ?_
        refine wpD_pass 7 rfl (by kernel_rfl) (by kernel_rfl) (by kernel_rfl) (wantN rfl rfl rfl rfl) rfl rfl ?_
        refine wpD_pass 8 rfl (by kernel_rfl) (by kernel_rfl) (by kernel_rfl) (wantN rfl rfl rfl rfl) rfl rfl ?_
        refine wpD_pass 9 rfl (by kernel_rfl) (by kernel_rfl) (by kernel_rfl) (wantN rfl rfl rfl rfl) rfl rfl ?_
        refine wpD_take (v := (Value.bool false)) 10 (fun _ => True) rfl (by kernel_rfl) (by kernel_rfl) (by kernel_rfl) rfl rfl rfl trivial (fun w _ => (x_pickF (v := (Value.bool false)) rfl rfl rfl rfl)) ?_
        refine wpD_take (v := (Value.bool false)) 11 (fun _ => True) rfl (by kernel_rfl) (by kernel_rfl) (by kernel_rfl) rfl rfl rfl trivial (fun w _ => (x_move (v := (Value.bool false)) rfl rfl)) ?_
        refine wpD_pass 12 rfl (by kernel_rfl) (by kernel_rfl) (by kernel_rfl) (wantN rfl rfl rfl rfl) rfl rfl ?_
        refine wpD_pass 13 rfl (by kernel_rfl) (by kernel_rfl) (by kernel_rfl) (wantN rfl rfl rfl rfl) rfl rfl ?_
        refine wpD_pass 14 rfl (by kernel_rfl) (by kernel_rfl) (by kernel_rfl) (wantN rfl rfl rfl rfl) rfl rfl ?_
        refine wpD_pass 15 rfl (by kernel_rfl) (by kernel_rfl) (by kernel_rfl) (wantN rfl rfl rfl rfl) rfl rfl ?_
        refine wpD_pass 16 rfl (by kernel_rfl) (by kernel_rfl) (by kernel_rfl) (wantN rfl rfl rfl rfl) rfl rfl ?_
        refine wpD_pass 17 rfl (by kernel_rfl) (by kernel_rfl) (by kernel_rfl) (wantN rfl rfl rfl rfl) rfl rfl ?_
        refine wpD_pass 18 rfl (by kernel_rfl) (by kernel_rfl) (by kernel_rfl) (wantN rfl rfl rfl rfl) rfl rfl ?_
        refine wpD_pass 19 rfl (by kernel_rfl) (by kernel_rfl) (by kernel_rfl) (wantN rfl rfl rfl rfl) rfl rfl ?_
        refine wpD_pass 20 rfl (by kernel_rfl) (by kernel_rfl) (by kernel_rfl) (wantN rfl rfl rfl rfl) rfl rfl ?_
        refine wpD_take (v := (Value.bool false)) 21 (fun _ => True) rfl (by kernel_rfl) (by kernel_rfl) (by kernel_rfl) rfl rfl rfl trivial (fun w _ => (x_pickF (v := (Value.bool false)) rfl rfl rfl rfl)) ?_
        refine wpD_take (v := (Value.bool false)) 22 (fun _ => True) rfl (by kernel_rfl) (by kernel_rfl) (by kernel_rfl) rfl rfl rfl trivial (fun w _ => (x_move (v := (Value.bool false)) rfl rfl)) ?_
        refine wpD_pass 23 rfl (by kernel_rfl) (by kernel_rfl) (by kernel_rfl) (wantN rfl rfl rfl rfl) rfl rfl ?_
        refine wpD_pass 24 rfl (by kernel_rfl) (by kernel_rfl) (by kernel_rfl) (wantN rfl rfl rfl rfl) rfl rfl ?_
        refine wpD_pass 25 rfl (by kernel_rfl) (by kernel_rfl) (by kernel_rfl) (wantN rfl rfl rfl rfl) rfl rfl ?_
        refine wpD_pass 26 rfl (by kernel_rfl) (by kernel_rfl) (by kernel_rfl) (wantN rfl rfl rfl rfl) rfl rfl ?_
        refine wpD_pass 27 rfl (by kernel_rfl) (by kernel_rfl) (by kernel_rfl) (wantN rfl rfl rfl rfl) rfl rfl ?_
        refine wpD_pass 28 rfl (by kernel_rfl) (by kernel_rfl) (by kernel_rfl) (wantN rfl rfl rfl rfl) rfl rfl ?_
        refine wpD_pass 29 rfl (by kernel_rfl) (by kernel_rfl) (by kernel_rfl) (wantN rfl rfl rfl rfl) rfl rfl ?_
        refine wpD_pass 30 rfl (by kernel_rfl) (by kernel_rfl) (by kernel_rfl) (wantN rfl rfl rfl rfl) rfl rfl ?_
        refine wpD_pass 31 rfl (by kernel_rfl) (by kernel_rfl) (by kernel_rfl) (wantN rfl rfl rfl rfl) rfl rfl ?_
        refine wpD_take (v := (Value.bool false)) 32 (fun _ => True) rfl (by kernel_rfl) (by kernel_rfl) (by kernel_rfl) rfl rfl rfl trivial (fun w _ => (x_pickF (v := (Value.bool false)) rfl rfl rfl rfl)) ?_
        refine wpD_take (v := (Value.bool false)) 33 (fun _ => True) rfl (by kernel_rfl) (by kernel_rfl) (by kernel_rfl) rfl rfl rfl trivial (fun w _ => (x_move (v := (Value.bool false)) rfl rfl)) ?_
        refine wpD_pass 34 rfl (by kernel_rfl) (by kernel_rfl) (by kernel_rfl) (wantN rfl rfl rfl rfl) rfl rfl ?_
        refine wpD_pass 35 rfl (by kernel_rfl) (by kernel_rfl) (by kernel_rfl) (wantN rfl rfl rfl rfl) rfl rfl ?_
        refine wpD_pass 36 rfl (by kernel_rfl) (by kernel_rfl) (by kernel_rfl) (wantN rfl rfl rfl rfl) rfl rfl ?_
        refine wpD_pass 37 rfl (by kernel_rfl) (by kernel_rfl) (by kernel_rfl) (wantN rfl rfl rfl rfl) rfl rfl ?_
        refine wpD_pass 38 rfl (by kernel_rfl) (by kernel_rfl) (by kernel_rfl) (wantN rfl rfl rfl rfl) rfl rfl ?_
        refine wpD_pass 39 rfl (by kernel_rfl) (by kernel_rfl) (by kernel_rfl) (wantN rfl rfl rfl rfl) rfl rfl ?_
        refine wpD_pass 40 rfl (by kernel_rfl) (by kernel_rfl) (by kernel_rfl) (wantN rfl rfl rfl rfl) rfl rfl ?_
        refine wpD_take (v := (Value.bool false)) 41 (fun _ => True) rfl (by kernel_rfl) (by kernel_rfl) (by kernel_rfl) rfl rfl rfl trivial (fun w _ => (x_pickF (v := (Value.bool false)) rfl rfl rfl rfl)) ?_
        refine wpD_take (v := (Value.bool false)) 42 (fun _ => True) rfl (by kernel_rfl) (by kernel_rfl) (by kernel_rfl) rfl rfl rfl trivial (fun w _ => (x_assign (v := (Value.bool false)) rfl rfl)) ?_
        exact wpD_done (by kernel_rfl) ⟨false, ⟨rfl, trivial⟩, h⟩
    clear h
    rintro l189 ρ w14 ⟨e8, -⟩ h
    replace h := hk l189 w14 h
    clear hk
    refine wpC_ret ?_
    exact ⟨.inl rfl, fun a ha => ⟨_, results_rep1 rfl ha e8, l189, rfl, h⟩⟩

/-- lingualaw20.small -/
def F8  (w0 : World) (K : Bool → World → Prop) : Prop :=
  callC Try.prog 25 #[] E23 w0 fun r9 w1 =>
  nw 24 (A23 (ByteArray.mk #[]) 0 0 0 false 0 false false 0 0 0 0 Sl.nil 0 0 0 0 false 0 0 0 0) w1 fun b10 w2 =>
  st (Addr.mk b10 0 none) (S23 r9.1 r9.2.1 r9.2.2.1 r9.2.2.2.1 r9.2.2.2.2.1 r9.2.2.2.2.2.1 r9.2.2.2.2.2.2.1 r9.2.2.2.2.2.2.2.1 r9.2.2.2.2.2.2.2.2.1 r9.2.2.2.2.2.2.2.2.2.1 r9.2.2.2.2.2.2.2.2.2.2.1 r9.2.2.2.2.2.2.2.2.2.2.2.1 r9.2.2.2.2.2.2.2.2.2.2.2.2.1 r9.2.2.2.2.2.2.2.2.2.2.2.2.2.1 r9.2.2.2.2.2.2.2.2.2.2.2.2.2.2.1 r9.2.2.2.2.2.2.2.2.2.2.2.2.2.2.2.1 r9.2.2.2.2.2.2.2.2.2.2.2.2.2.2.2.2.1 r9.2.2.2.2.2.2.2.2.2.2.2.2.2.2.2.2.2.1 r9.2.2.2.2.2.2.2.2.2.2.2.2.2.2.2.2.2.2.1 r9.2.2.2.2.2.2.2.2.2.2.2.2.2.2.2.2.2.2.2.1 r9.2.2.2.2.2.2.2.2.2.2.2.2.2.2.2.2.2.2.2.2.1 r9.2.2.2.2.2.2.2.2.2.2.2.2.2.2.2.2.2.2.2.2.2) w2 fun w3 =>
  L23 (Addr.mk b10 0 none) w3 fun x12 x13 x14 x15 x16 x17 x18 x19 x20 x21 x22 x23 x24 x25 x26 x27 x28 x29 x30 x31 x32 x33 =>
  callC Try.prog 18 #[(V23 x12 x13 x14 x15 x16 x17 x18 x19 x20 x21 x22 x23 x24 x25 x26 x27 x28 x29 x30 x31 x32 x33)] (fun (r : Sl × Int) => (Value.tuple #[(Sl.v r.1), (Value.int .i64 r.2)])) w3 fun r34 w4 =>
  cnd ((!decide (r34.2 = 0)) || (!decide ((r34.1.len : Int) = 9)))
    (
    K false w4
    )
    (
    nw 44 #[(Value.int .i64 1), (Value.int .i64 4), (Value.int .i64 1), (Value.int .i64 3), (Value.int .i64 2), (Value.int .i64 0), (Value.int .i64 5), (Value.int .i64 2), (Value.int .i64 1), (Value.int .i64 7), (Value.int .i64 2), (Value.int .i64 2), (Value.int .i64 8), (Value.int .i64 4), (Value.int .i64 1)] w4 fun b38 w5 =>
    L23 (Addr.mk b10 0 none) w5 fun x39 x40 x41 x42 x43 x44 x45 x46 x47 x48 x49 x50 x51 x52 x53 x54 x55 x56 x57 x58 x59 x60 =>
    callC Try.prog 10 #[(V23 x39 x40 x41 x42 x43 x44 x45 x46 x47 x48 x49 x50 x51 x52 x53 x54 x55 x56 x57 x58 x59 x60), (Sl.v r34.1)] (fun (r : Sl × Int) => (Value.tuple #[(Sl.v r.1), (Value.int .i64 r.2)])) w5 fun r61 w6 =>
    nw 46 #[] w6 fun b62 w7 =>
    rn Try.prog (Builtin.append_ #[25, 25] 25 #[Sl.v (⟨some ⟨b62, 0, none⟩, 0, 0⟩ : Sl), Sl.v r34.1]) Sl.v w7 fun r63 w8 =>
    ix r63 3 2 fun p64 =>
    st p64 [(Value.int .i64 3), (Value.int .i64 2)] w8 fun w9 =>
    L23 (Addr.mk b10 0 none) w9 fun x66 x67 x68 x69 x70 x71 x72 x73 x74 x75 x76 x77 x78 x79 x80 x81 x82 x83 x84 x85 x86 x87 =>
    callC Try.prog 10 #[(V23 x66 x67 x68 x69 x70 x71 x72 x73 x74 x75 x76 x77 x78 x79 x80 x81 x82 x83 x84 x85 x86 x87), (Sl.v r63)] (fun (r : Sl × Int) => (Value.tuple #[(Sl.v r.1), (Value.int .i64 r.2)])) w9 fun r88 w10 =>
    nw 46 #[] w10 fun b89 w11 =>
    rn Try.prog (Builtin.append_ #[25, 25] 25 #[Sl.v (⟨some ⟨b89, 0, none⟩, 0, 0⟩ : Sl), Sl.v r34.1]) Sl.v w11 fun r90 w12 =>
    ix r90 8 2 fun p91 =>
    st p91 [(Value.int .i64 0), (Value.int .i64 0)] w12 fun w13 =>
    L23 (Addr.mk b10 0 none) w13 fun x93 x94 x95 x96 x97 x98 x99 x100 x101 x102 x103 x104 x105 x106 x107 x108 x109 x110 x111 x112 x113 x114 =>
    callC Try.prog 10 #[(V23 x93 x94 x95 x96 x97 x98 x99 x100 x101 x102 x103 x104 x105 x106 x107 x108 x109 x110 x111 x112 x113 x114), (Sl.v r90)] (fun (r : Sl × Int) => (Value.tuple #[(Sl.v r.1), (Value.int .i64 r.2)])) w13 fun r115 w14 =>
    jn (fun (J117 : Bool → World → Prop) => tk w14 fun w15 =>
      cnd (decide (r61.2 = 0))
        (
        callC Try.prog 12 #[(Sl.v r61.1), (Sl.v (⟨some ⟨b38, 0, none⟩, 5, 5⟩ : Sl))] (fun (r : Bool) => (Value.bool r)) w15 fun r119 w16 =>
        cnd (r119)
          (
          L23 (Addr.mk b10 0 none) w16 fun x121 x122 x123 x124 x125 x126 x127 x128 x129 x130 x131 x132 x133 x134 x135 x136 x137 x138 x139 x140 x141 x142 =>
          callC Try.prog 13 #[(V23 x121 x122 x123 x124 x125 x126 x127 x128 x129 x130 x131 x132 x133 x134 x135 x136 x137 x138 x139 x140 x141 x142), (Sl.v r34.1), (Sl.v r61.1)] (fun (r : Int) => (Value.int .i64 r)) w16 fun r143 w17 =>
          cnd (decide (r143 = 0))
            (
            L23 (Addr.mk b10 0 none) w17 fun x145 x146 x147 x148 x149 x150 x151 x152 x153 x154 x155 x156 x157 x158 x159 x160 x161 x162 x163 x164 x165 x166 =>
            rn Try.prog (Instr.sliceAt 26 (Sl.v (⟨some ⟨b38, 0, none⟩, 5, 5⟩ : Sl)) none (some (Value.int .i64 4)) none) (fun (r : Sl) => (Sl.v r)) w17 fun r167 w18 =>
            (C23 (Addr.mk b10 0 none) x145 x146 x147 x148 x149 x150 x151 x152 x153 x154 x155 x156 x157 x158 x159 x160 x161 x162 x163 x164 x165 x166 w18) ∧
            callC Try.prog 13 #[(V23 x145 x146 x147 x148 x149 x150 x151 x152 x153 x154 x155 x156 x157 x158 x159 x160 x161 x162 x163 x164 x165 x166), (Sl.v r34.1), (Sl.v r167)] (fun (r : Int) => (Value.int .i64 r)) w18 fun r168 w19 =>
            J117 (decide (r168 = 18)) w19
            )
            (
            J117 false w17
            )
          )
          (
          J117 false w16
          )
        )
        (
        J117 false w15
        )
    )
    fun l169 w20 =>
    jn (fun J170 => cnd (l169)
      (
      L23 (Addr.mk b10 0 none) w20 fun x172 x173 x174 x175 x176 x177 x178 x179 x180 x181 x182 x183 x184 x185 x186 x187 x188 x189 x190 x191 x192 x193 =>
      callC Try.prog 13 #[(V23 x172 x173 x174 x175 x176 x177 x178 x179 x180 x181 x182 x183 x184 x185 x186 x187 x188 x189 x190 x191 x192 x193), (Sl.v r63), (Sl.v r88.1)] (fun (r : Int) => (Value.int .i64 r)) w20 fun r194 w21 =>
      J170 (decide (r194 = 18)) w21
      )
      (
      J170 false w20
      ))
    fun c195 w22 =>
    jn (fun J196 => cnd (c195)
      (
      L23 (Addr.mk b10 0 none) w22 fun x198 x199 x200 x201 x202 x203 x204 x205 x206 x207 x208 x209 x210 x211 x212 x213 x214 x215 x216 x217 x218 x219 =>
      callC Try.prog 13 #[(V23 x198 x199 x200 x201 x202 x203 x204 x205 x206 x207 x208 x209 x210 x211 x212 x213 x214 x215 x216 x217 x218 x219), (Sl.v r90), (Sl.v r115.1)] (fun (r : Int) => (Value.int .i64 r)) w22 fun r220 w23 =>
      J196 (decide (r220 = 7)) w23
      )
      (
      J196 false w22
      ))
    fun c221 w24 =>
    jn (fun J222 => cnd (c221)
      (
      callC Try.prog 15 #[(Sl.v r61.1), (Sl.v Sl.nil)] (fun (r : Bool) => (Value.bool r)) w24 fun r224 w25 =>
      J222 r224 w25
      )
      (
      J222 false w24
      ))
    fun c225 w26 =>
    jn (fun J226 => cnd (c225)
      (
      callC Try.prog 15 #[(Sl.v r61.1), (Sl.v r61.1)] (fun (r : Bool) => (Value.bool r)) w26 fun r228 w27 =>
      J226 (!r228) w27
      )
      (
      J226 false w26
      ))
    fun c229 w28 =>
    jn (fun J230 => cnd (c229)
      (
      callC Try.prog 15 #[(Sl.v r88.1), (Sl.v r61.1)] (fun (r : Bool) => (Value.bool r)) w28 fun r232 w29 =>
      J230 r232 w29
      )
      (
      J230 false w28
      ))
    fun c233 w30 =>
    K c233 w30
    )
set_option maxRecDepth 100000 in
theorem D8  (w0 : World) (K : Bool → World → Prop) (h : F8  w0 K) : callC Try.prog 8 #[] (fun (r : Bool) => (Value.bool r)) w0 K := by
  unfold F8 at h
  refine calls_of_wpC Try.func8 rfl 115 rfl (by simp) ?_
  intro ρ hρ
  clear hρ
  refine wpC_seq ?_
  refine wpC_region ?_
  refine wpR_val (v := (Value.bool false)) (w' := w0) rfl rfl rfl (x_assign (v := (Value.bool false)) rfl rfl) ?_
  refine wpR_nil ?_
  refine wpC_seq ?_
  refine wpC_cut (fun ρ => True) trivial ?_
  rintro ρ -
  refine wpC_region ?_
  refine wpR_enter rfl rfl rfl (x_call (vs := []) rfl rfl mapl_nil Try.func25 NN_25 NB_25) (Calls.mono h ?_)
  rintro _ w1 ⟨r9, rfl, h⟩
  refine ⟨_, rfl, ?_⟩
  obtain ⟨b10, hb10⟩ : ∃ u, u = w1.heap.size := ⟨_, rfl⟩
  obtain ⟨w2, hw10⟩ : ∃ u, u = w1.alloc (.cells (A23 (ByteArray.mk #[]) 0 0 0 false 0 false false 0 0 0 0 Sl.nil 0 0 0 0 false 0 0 0 0) 24) := ⟨_, rfl⟩
  replace h := h b10 w2 hb10 hw10
  refine wpR_val (v := (Value.pointer (some (Addr.mk b10 0 none)))) (w' := w2) rfl rfl rfl ((x_alloc rfl ZV_24).trans (by rw [hb10, hw10]; rfl)) ?_
  obtain ⟨q11, h⟩ := h
  obtain ⟨w3, hw11⟩ : ∃ u, u = setAll w2 (Addr.mk b10 0 none) (S23 r9.1 r9.2.1 r9.2.2.1 r9.2.2.2.1 r9.2.2.2.2.1 r9.2.2.2.2.2.1 r9.2.2.2.2.2.2.1 r9.2.2.2.2.2.2.2.1 r9.2.2.2.2.2.2.2.2.1 r9.2.2.2.2.2.2.2.2.2.1 r9.2.2.2.2.2.2.2.2.2.2.1 r9.2.2.2.2.2.2.2.2.2.2.2.1 r9.2.2.2.2.2.2.2.2.2.2.2.2.1 r9.2.2.2.2.2.2.2.2.2.2.2.2.2.1 r9.2.2.2.2.2.2.2.2.2.2.2.2.2.2.1 r9.2.2.2.2.2.2.2.2.2.2.2.2.2.2.2.1 r9.2.2.2.2.2.2.2.2.2.2.2.2.2.2.2.2.1 r9.2.2.2.2.2.2.2.2.2.2.2.2.2.2.2.2.2.1 r9.2.2.2.2.2.2.2.2.2.2.2.2.2.2.2.2.2.2.1 r9.2.2.2.2.2.2.2.2.2.2.2.2.2.2.2.2.2.2.2.1 r9.2.2.2.2.2.2.2.2.2.2.2.2.2.2.2.2.2.2.2.2.1 r9.2.2.2.2.2.2.2.2.2.2.2.2.2.2.2.2.2.2.2.2.2) 0 := ⟨_, rfl⟩
  replace h := h w3 hw11
  refine wpR_skp (w' := w3) rfl rfl ((x_store (v := (V23 r9.1 r9.2.1 r9.2.2.1 r9.2.2.2.1 r9.2.2.2.2.1 r9.2.2.2.2.2.1 r9.2.2.2.2.2.2.1 r9.2.2.2.2.2.2.2.1 r9.2.2.2.2.2.2.2.2.1 r9.2.2.2.2.2.2.2.2.2.1 r9.2.2.2.2.2.2.2.2.2.2.1 r9.2.2.2.2.2.2.2.2.2.2.2.1 r9.2.2.2.2.2.2.2.2.2.2.2.2.1 r9.2.2.2.2.2.2.2.2.2.2.2.2.2.1 r9.2.2.2.2.2.2.2.2.2.2.2.2.2.2.1 r9.2.2.2.2.2.2.2.2.2.2.2.2.2.2.2.1 r9.2.2.2.2.2.2.2.2.2.2.2.2.2.2.2.2.1 r9.2.2.2.2.2.2.2.2.2.2.2.2.2.2.2.2.2.1 r9.2.2.2.2.2.2.2.2.2.2.2.2.2.2.2.2.2.2.1 r9.2.2.2.2.2.2.2.2.2.2.2.2.2.2.2.2.2.2.2.1 r9.2.2.2.2.2.2.2.2.2.2.2.2.2.2.2.2.2.2.2.2.1 r9.2.2.2.2.2.2.2.2.2.2.2.2.2.2.2.2.2.2.2.2.2)) rfl rfl rfl SZ_24 (ones (by rfl)) q11).trans (by rw [hw11]; rfl)) ?_
  refine wpR_nil ?_
  refine wpC_seq ?_
  refine wpC_cut (fun ρ => ρ 1 = (Value.pointer (some (Addr.mk b10 0 none))) ∧ True) ⟨rfl, trivial⟩ ?_
  rintro ρ ⟨e1, -⟩
  refine wpC_region ?_
  obtain ⟨x12, q12, x13, q13, x14, q14, x15, q15, x16, q16, x17, q17, x18, q18, x19, q19, x20, q20, x21, q21, x22, q22, x23, q23, x24, q24, x25, q25, x26, q26, x27, q27, x28, q28, x29, q29, x30, q30, x31, q31, x32, q32, x33, q33, h⟩ := h
  refine wpR_val (v := (V23 x12 x13 x14 x15 x16 x17 x18 x19 x20 x21 x22 x23 x24 x25 x26 x27 x28 x29 x30 x31 x32 x33)) (w' := w3) rfl rfl rfl (x_loadN (S23 x12 x13 x14 x15 x16 x17 x18 x19 x20 x21 x22 x23 x24 x25 x26 x27 x28 x29 x30 x31 x32 x33) rfl e1 SH_24 (K23 ⟨q12, q13, q14, q15, q16, q17, q18, q19, q20, q21, q22, q23, q24, q25, q26, q27, q28, q29, q30, q31, q32, q33⟩)) ?_
  refine wpR_enter rfl rfl rfl (x_call (vs := [(V23 x12 x13 x14 x15 x16 x17 x18 x19 x20 x21 x22 x23 x24 x25 x26 x27 x28 x29 x30 x31 x32 x33)]) rfl rfl (mapl_cons rfl mapl_nil) Try.func18 NN_18 NB_18) (Calls.mono h ?_)
  rintro _ w4 ⟨r34, rfl, h⟩
  refine ⟨_, rfl, ?_⟩
  refine wpR_val (v := (Value.tuple #[(Sl.v r34.1), (Value.int .i64 r34.2)])) (w' := w4) rfl rfl rfl (x_move (v := (Value.tuple #[(Sl.v r34.1), (Value.int .i64 r34.2)])) rfl rfl) ?_
  refine wpR_val (v := (Sl.v r34.1)) (w' := w4) rfl rfl rfl (x_extract rfl rfl rfl) ?_
  refine wpR_val (v := (Value.int .i64 r34.2)) (w' := w4) rfl rfl rfl (x_extract rfl rfl rfl) ?_
  refine wpR_val (v := (Sl.v r34.1)) (w' := w4) rfl rfl rfl (x_assign (v := (Sl.v r34.1)) rfl rfl) ?_
  refine wpR_val (v := (Value.int .i64 r34.2)) (w' := w4) rfl rfl rfl (x_assign (v := (Value.int .i64 r34.2)) rfl rfl) ?_
  refine wpR_nil ?_
  refine wpC_seq ?_
  refine wpC_seq ?_
  refine wpC_cut (fun ρ => ρ 1 = (Value.pointer (some (Addr.mk b10 0 none))) ∧ ρ 2 = (Sl.v r34.1) ∧ ρ 3 = (Value.int .i64 r34.2) ∧ True) ⟨e1, rfl, rfl, trivial⟩ ?_
  rintro ρ ⟨e1, e2, e3, -⟩
  refine wpC_region ?_
  refine wpR_val (v := (Value.int .i64 r34.2)) (w' := w4) rfl rfl rfl (x_move (v := (Value.int .i64 r34.2)) rfl e3) ?_
  refine wpR_val (v := (Value.bool (!decide (r34.2 = 0)))) (w' := w4) rfl rfl rfl (x_neq rfl rfl rfl) ?_
  refine wpR_val (v := (Value.bool (!decide (r34.2 = 0)))) (w' := w4) rfl rfl rfl (x_move (v := (Value.bool (!decide (r34.2 = 0)))) rfl rfl) ?_
  refine wpR_joinJ 4 (fun (_ : Unit) ρ => ρ 26 = Value.bool ((!decide (r34.2 = 0)) || (!decide ((r34.1.len : Int) = 9))) ∧ ρ 1 = (Value.pointer (some (Addr.mk b10 0 none))) ∧ ρ 2 = (Sl.v r34.1) ∧ True) (fun _ w => w4 = w) ?_ ?_
  · clear h
    rcases Bool.eq_false_or_eq_true (!decide (r34.2 = 0)) with hc36 | hc36
    · skip
      refine wpR_pass (wantN rfl rfl rfl hc36) rfl rfl ?_
      refine wpR_pass (wantN rfl rfl rfl hc36) rfl rfl ?_
      refine wpR_pass (wantN rfl rfl rfl hc36) rfl rfl ?_
      refine wpR_val (v := (Value.bool true)) (w' := w4) rfl rfl rfl (x_pickT (v := (Value.bool true)) rfl rfl hc36 rfl) ?_
      refine wpR_nil ?_
      exact ⟨(), ⟨(by rw [hc36]; rfl), e1, e2, trivial⟩, rfl⟩
    · skip
      refine wpR_val (v := (Sl.v r34.1)) (w' := w4) (wantG rfl rfl rfl hc36) rfl rfl (x_move (v := (Sl.v r34.1)) rfl e2) ?_
      refine wpR_val (v := (Value.int .i64 (r34.1.len : Int))) (w' := w4) (wantG rfl rfl rfl hc36) rfl rfl (x_lenS (s := r34.1) rfl rfl isSliceT_25) ?_
      refine wpR_val (v := (Value.bool (!decide ((r34.1.len : Int) = 9)))) (w' := w4) (wantG rfl rfl rfl hc36) rfl rfl (x_neq rfl rfl rfl) ?_
      refine wpR_val (v := (Value.bool (!decide ((r34.1.len : Int) = 9)))) (w' := w4) rfl rfl rfl (x_pickF (v := (Value.bool (!decide ((r34.1.len : Int) = 9)))) rfl rfl hc36 rfl) ?_
      refine wpR_nil ?_
      exact ⟨(), ⟨(by rw [hc36]; rfl), e1, e2, trivial⟩, rfl⟩
  rintro _ ρ wj ⟨e26, e1, e2, -⟩ rfl
  refine wpR_nil ?_
  refine wpC_cond (b := (!decide (r34.2 = 0)) || (!decide ((r34.1.len : Int) = 9))) e26 (fun hc37 => ?_) (fun hc37 => ?_)
  · replace h := h.1 hc37
    refine wpC_seq ?_
    refine wpC_region ?_
    refine wpR_val (v := (Value.bool false)) (w' := w4) rfl rfl rfl (x_assign (v := (Value.bool false)) rfl rfl) ?_
    refine wpR_nil ?_
    refine wpC_ret ?_
    exact ⟨.inl rfl, fun a ha => ⟨_, results_rep1 rfl ha rfl, false, rfl, h⟩⟩
  · replace h := h.2 hc37
    refine wpC_skip ?_
    refine wpC_seq ?_
    refine wpC_region ?_
    refine wpR_val (v := (Value.agg #[(Value.int .i64 1), (Value.int .i64 4), (Value.int .i64 1)])) (w' := w4) rfl rfl rfl (x_build (qs := [(0, (Value.int .i64 1)), (1, (Value.int .i64 4)), (2, (Value.int .i64 1))]) rfl (by rfl) (BD_44_0_1_2 1 4 1 _)) ?_
    refine wpR_val (v := (Value.agg #[(Value.int .i64 3), (Value.int .i64 2), (Value.int .i64 0)])) (w' := w4) rfl rfl rfl (x_build (qs := [(0, (Value.int .i64 3)), (1, (Value.int .i64 2)), (2, (Value.int .i64 0))]) rfl (by rfl) (BD_44_0_1_2 3 2 0 _)) ?_
    refine wpR_val (v := (Value.agg #[(Value.int .i64 5), (Value.int .i64 2), (Value.int .i64 1)])) (w' := w4) rfl rfl rfl (x_build (qs := [(0, (Value.int .i64 5)), (1, (Value.int .i64 2)), (2, (Value.int .i64 1))]) rfl (by rfl) (BD_44_0_1_2 5 2 1 _)) ?_
    refine wpR_val (v := (Value.agg #[(Value.int .i64 7), (Value.int .i64 2), (Value.int .i64 2)])) (w' := w4) rfl rfl rfl (x_build (qs := [(0, (Value.int .i64 7)), (1, (Value.int .i64 2)), (2, (Value.int .i64 2))]) rfl (by rfl) (BD_44_0_1_2 7 2 2 _)) ?_
    refine wpR_val (v := (Value.agg #[(Value.int .i64 8), (Value.int .i64 4), (Value.int .i64 1)])) (w' := w4) rfl rfl rfl (x_build (qs := [(0, (Value.int .i64 8)), (1, (Value.int .i64 4)), (2, (Value.int .i64 1))]) rfl (by rfl) (BD_44_0_1_2 8 4 1 _)) ?_
    obtain ⟨b38, hb38⟩ : ∃ u, u = w4.heap.size := ⟨_, rfl⟩
    obtain ⟨w5, hw38⟩ : ∃ u, u = w4.alloc (.cells #[(Value.int .i64 1), (Value.int .i64 4), (Value.int .i64 1), (Value.int .i64 3), (Value.int .i64 2), (Value.int .i64 0), (Value.int .i64 5), (Value.int .i64 2), (Value.int .i64 1), (Value.int .i64 7), (Value.int .i64 2), (Value.int .i64 2), (Value.int .i64 8), (Value.int .i64 4), (Value.int .i64 1)] 44) := ⟨_, rfl⟩
    replace h := h b38 w5 hb38 hw38
    refine wpR_val (v := (Sl.v (⟨some ⟨b38, 0, none⟩, 5, 5⟩ : Sl))) (w' := w5) rfl rfl rfl ((x_buildSlice (qs := [(0, (Value.agg #[(Value.int .i64 1), (Value.int .i64 4), (Value.int .i64 1)])), (1, (Value.agg #[(Value.int .i64 3), (Value.int .i64 2), (Value.int .i64 0)])), (2, (Value.agg #[(Value.int .i64 5), (Value.int .i64 2), (Value.int .i64 1)])), (3, (Value.agg #[(Value.int .i64 7), (Value.int .i64 2), (Value.int .i64 2)])), (4, (Value.agg #[(Value.int .i64 8), (Value.int .i64 4), (Value.int .i64 1)]))]) rfl (by rfl) (BS_26_5_0_1_2_3_4 1 4 1 3 2 0 5 2 1 7 2 2 8 4 1)).trans (by rw [← hb38, ← hw38])) ?_
    refine wpR_val (v := (Sl.v (⟨some ⟨b38, 0, none⟩, 5, 5⟩ : Sl))) (w' := w5) rfl rfl rfl (x_assign (v := (Sl.v (⟨some ⟨b38, 0, none⟩, 5, 5⟩ : Sl))) rfl rfl) ?_
    refine wpR_nil ?_
    refine wpC_seq ?_
    refine wpC_cut (fun ρ => ρ 1 = (Value.pointer (some (Addr.mk b10 0 none))) ∧ ρ 2 = (Sl.v r34.1) ∧ ρ 4 = (Sl.v (⟨some ⟨b38, 0, none⟩, 5, 5⟩ : Sl)) ∧ True) ⟨e1, e2, rfl, trivial⟩ ?_
    rintro ρ ⟨e1, e2, e4, -⟩
    refine wpC_region ?_
    obtain ⟨x39, q39, x40, q40, x41, q41, x42, q42, x43, q43, x44, q44, x45, q45, x46, q46, x47, q47, x48, q48, x49, q49, x50, q50, x51, q51, x52, q52, x53, q53, x54, q54, x55, q55, x56, q56, x57, q57, x58, q58, x59, q59, x60, q60, h⟩ := h
    refine wpR_val (v := (V23 x39 x40 x41 x42 x43 x44 x45 x46 x47 x48 x49 x50 x51 x52 x53 x54 x55 x56 x57 x58 x59 x60)) (w' := w5) rfl rfl rfl (x_loadN (S23 x39 x40 x41 x42 x43 x44 x45 x46 x47 x48 x49 x50 x51 x52 x53 x54 x55 x56 x57 x58 x59 x60) rfl e1 SH_24 (K23 ⟨q39, q40, q41, q42, q43, q44, q45, q46, q47, q48, q49, q50, q51, q52, q53, q54, q55, q56, q57, q58, q59, q60⟩)) ?_
    refine wpR_val (v := (Sl.v r34.1)) (w' := w5) rfl rfl rfl (x_move (v := (Sl.v r34.1)) rfl e2) ?_
    refine wpR_enter rfl rfl rfl (x_call (vs := [(V23 x39 x40 x41 x42 x43 x44 x45 x46 x47 x48 x49 x50 x51 x52 x53 x54 x55 x56 x57 x58 x59 x60), (Sl.v r34.1)]) rfl rfl (mapl_cons rfl (mapl_cons rfl mapl_nil)) Try.func10 NN_10 NB_10) (Calls.mono h ?_)
    rintro _ w6 ⟨r61, rfl, h⟩
    refine ⟨_, rfl, ?_⟩
    refine wpR_val (v := (Value.tuple #[(Sl.v r61.1), (Value.int .i64 r61.2)])) (w' := w6) rfl rfl rfl (x_move (v := (Value.tuple #[(Sl.v r61.1), (Value.int .i64 r61.2)])) rfl rfl) ?_
    refine wpR_val (v := (Sl.v r61.1)) (w' := w6) rfl rfl rfl (x_extract rfl rfl rfl) ?_
    refine wpR_val (v := (Value.int .i64 r61.2)) (w' := w6) rfl rfl rfl (x_extract rfl rfl rfl) ?_
    refine wpR_val (v := (Sl.v r61.1)) (w' := w6) rfl rfl rfl (x_assign (v := (Sl.v r61.1)) rfl rfl) ?_
    refine wpR_val (v := (Value.int .i64 r61.2)) (w' := w6) rfl rfl rfl (x_assign (v := (Value.int .i64 r61.2)) rfl rfl) ?_
    refine wpR_nil ?_
    refine wpC_seq ?_
    refine wpC_cut (fun ρ => ρ 1 = (Value.pointer (some (Addr.mk b10 0 none))) ∧ ρ 2 = (Sl.v r34.1) ∧ ρ 4 = (Sl.v (⟨some ⟨b38, 0, none⟩, 5, 5⟩ : Sl)) ∧ ρ 5 = (Sl.v r61.1) ∧ ρ 6 = (Value.int .i64 r61.2) ∧ True) ⟨e1, e2, e4, rfl, rfl, trivial⟩ ?_
    rintro ρ ⟨e1, e2, e4, e5, e6, -⟩
    refine wpC_region ?_
    obtain ⟨b62, hb62⟩ : ∃ u, u = w6.heap.size := ⟨_, rfl⟩
    obtain ⟨w7, hw62⟩ : ∃ u, u = w6.alloc (.cells #[] 46) := ⟨_, rfl⟩
    replace h := h b62 w7 hb62 hw62
    refine wpR_val (v := (Sl.v (⟨some ⟨b62, 0, none⟩, 0, 0⟩ : Sl))) (w' := w7) rfl rfl rfl ((x_buildSlice (qs := []) rfl (by rfl) (BS_25_0_ )).trans (by rw [← hb62, ← hw62])) ?_
    refine wpR_val (v := (Sl.v r34.1)) (w' := w7) rfl rfl rfl (x_move (v := (Sl.v r34.1)) rfl e2) ?_
    obtain ⟨r63, w8, q63, h⟩ := h
    refine wpR_val (v := (Sl.v r63)) (w' := w8) rfl rfl rfl (x_append (s := (⟨some ⟨b62, 0, none⟩, 0, 0⟩ : Sl)) (u := r34.1) rfl rfl rfl rfl q63) ?_
    refine wpR_val (v := (Sl.v r63)) (w' := w8) rfl rfl rfl (x_assign (v := (Sl.v r63)) rfl rfl) ?_
    refine wpR_nil ?_
    refine wpC_seq ?_
    refine wpC_cut (fun ρ => ρ 1 = (Value.pointer (some (Addr.mk b10 0 none))) ∧ ρ 2 = (Sl.v r34.1) ∧ ρ 4 = (Sl.v (⟨some ⟨b38, 0, none⟩, 5, 5⟩ : Sl)) ∧ ρ 5 = (Sl.v r61.1) ∧ ρ 6 = (Value.int .i64 r61.2) ∧ ρ 7 = (Sl.v r63) ∧ True) ⟨e1, e2, e4, e5, e6, rfl, trivial⟩ ?_
    rintro ρ ⟨e1, e2, e4, e5, e6, e7, -⟩
    refine wpC_region ?_
    refine wpR_val (v := (Sl.v r63)) (w' := w8) rfl rfl rfl (x_move (v := (Sl.v r63)) rfl e7) ?_
    refine wpR_val (v := (Value.agg #[(Value.int .i64 3), (Value.int .i64 2)])) (w' := w8) rfl rfl rfl (x_build (qs := [(0, (Value.int .i64 3)), (1, (Value.int .i64 2))]) rfl (by rfl) (BD_46_0_1 3 2 _)) ?_
    obtain ⟨q64, z64, r64, h⟩ := h
    generalize hp64 : z64.add ((3 : Int).toNat * 2) = p64 at h
    refine wpR_val (v := (Value.pointer (some p64))) (w' := w8) rfl rfl rfl ((x_indexAddr (s := r63) rfl rfl rfl ES_25 q64 r64).trans (by rw [hp64])) ?_
    obtain ⟨q65, h⟩ := h
    obtain ⟨w9, hw65⟩ : ∃ u, u = setAll w8 p64 [(Value.int .i64 3), (Value.int .i64 2)] 0 := ⟨_, rfl⟩
    replace h := h w9 hw65
    refine wpR_skp (w' := w9) rfl rfl ((x_store (v := (Value.agg #[(Value.int .i64 3), (Value.int .i64 2)])) rfl rfl rfl SZ_46 (ones (by rfl)) q65).trans (by rw [hw65]; rfl)) ?_
    refine wpR_nil ?_
    refine wpC_seq ?_
    refine wpC_cut (fun ρ => ρ 1 = (Value.pointer (some (Addr.mk b10 0 none))) ∧ ρ 2 = (Sl.v r34.1) ∧ ρ 4 = (Sl.v (⟨some ⟨b38, 0, none⟩, 5, 5⟩ : Sl)) ∧ ρ 5 = (Sl.v r61.1) ∧ ρ 6 = (Value.int .i64 r61.2) ∧ ρ 7 = (Sl.v r63) ∧ True) ⟨e1, e2, e4, e5, e6, e7, trivial⟩ ?_
    rintro ρ ⟨e1, e2, e4, e5, e6, e7, -⟩
    refine wpC_region ?_
    obtain ⟨x66, q66, x67, q67, x68, q68, x69, q69, x70, q70, x71, q71, x72, q72, x73, q73, x74, q74, x75, q75, x76, q76, x77, q77, x78, q78, x79, q79, x80, q80, x81, q81, x82, q82, x83, q83, x84, q84, x85, q85, x86, q86, x87, q87, h⟩ := h
    refine wpR_val (v := (V23 x66 x67 x68 x69 x70 x71 x72 x73 x74 x75 x76 x77 x78 x79 x80 x81 x82 x83 x84 x85 x86 x87)) (w' := w9) rfl rfl rfl (x_loadN (S23 x66 x67 x68 x69 x70 x71 x72 x73 x74 x75 x76 x77 x78 x79 x80 x81 x82 x83 x84 x85 x86 x87) rfl e1 SH_24 (K23 ⟨q66, q67, q68, q69, q70, q71, q72, q73, q74, q75, q76, q77, q78, q79, q80, q81, q82, q83, q84, q85, q86, q87⟩)) ?_
    refine wpR_val (v := (Sl.v r63)) (w' := w9) rfl rfl rfl (x_move (v := (Sl.v r63)) rfl e7) ?_
    refine wpR_enter rfl rfl rfl (x_call (vs := [(V23 x66 x67 x68 x69 x70 x71 x72 x73 x74 x75 x76 x77 x78 x79 x80 x81 x82 x83 x84 x85 x86 x87), (Sl.v r63)]) rfl rfl (mapl_cons rfl (mapl_cons rfl mapl_nil)) Try.func10 NN_10 NB_10) (Calls.mono h ?_)
    rintro _ w10 ⟨r88, rfl, h⟩
    refine ⟨_, rfl, ?_⟩
    refine wpR_val (v := (Value.tuple #[(Sl.v r88.1), (Value.int .i64 r88.2)])) (w' := w10) rfl rfl rfl (x_move (v := (Value.tuple #[(Sl.v r88.1), (Value.int .i64 r88.2)])) rfl rfl) ?_
    refine wpR_val (v := (Sl.v r88.1)) (w' := w10) rfl rfl rfl (x_extract rfl rfl rfl) ?_
    refine wpR_val (v := (Value.int .i64 r88.2)) (w' := w10) rfl rfl rfl (x_extract rfl rfl rfl) ?_
    refine wpR_val (v := (Sl.v r88.1)) (w' := w10) rfl rfl rfl (x_assign (v := (Sl.v r88.1)) rfl rfl) ?_
    refine wpR_val (v := (Value.int .i64 r88.2)) (w' := w10) rfl rfl rfl (x_assign (v := (Value.int .i64 r88.2)) rfl rfl) ?_
    refine wpR_nil ?_
    refine wpC_seq ?_
    refine wpC_cut (fun ρ => ρ 1 = (Value.pointer (some (Addr.mk b10 0 none))) ∧ ρ 2 = (Sl.v r34.1) ∧ ρ 4 = (Sl.v (⟨some ⟨b38, 0, none⟩, 5, 5⟩ : Sl)) ∧ ρ 5 = (Sl.v r61.1) ∧ ρ 6 = (Value.int .i64 r61.2) ∧ ρ 7 = (Sl.v r63) ∧ ρ 8 = (Sl.v r88.1) ∧ True) ⟨e1, e2, e4, e5, e6, e7, rfl, trivial⟩ ?_
    rintro ρ ⟨e1, e2, e4, e5, e6, e7, e8, -⟩
    refine wpC_region ?_
    obtain ⟨b89, hb89⟩ : ∃ u, u = w10.heap.size := ⟨_, rfl⟩
    obtain ⟨w11, hw89⟩ : ∃ u, u = w10.alloc (.cells #[] 46) := ⟨_, rfl⟩
    replace h := h b89 w11 hb89 hw89
    refine wpR_val (v := (Sl.v (⟨some ⟨b89, 0, none⟩, 0, 0⟩ : Sl))) (w' := w11) rfl rfl rfl ((x_buildSlice (qs := []) rfl (by rfl) (BS_25_0_ )).trans (by rw [← hb89, ← hw89])) ?_
    refine wpR_val (v := (Sl.v r34.1)) (w' := w11) rfl rfl rfl (x_move (v := (Sl.v r34.1)) rfl e2) ?_
    obtain ⟨r90, w12, q90, h⟩ := h
    refine wpR_val (v := (Sl.v r90)) (w' := w12) rfl rfl rfl (x_append (s := (⟨some ⟨b89, 0, none⟩, 0, 0⟩ : Sl)) (u := r34.1) rfl rfl rfl rfl q90) ?_
    refine wpR_val (v := (Sl.v r90)) (w' := w12) rfl rfl rfl (x_assign (v := (Sl.v r90)) rfl rfl) ?_
    refine wpR_nil ?_
    refine wpC_seq ?_
    refine wpC_cut (fun ρ => ρ 1 = (Value.pointer (some (Addr.mk b10 0 none))) ∧ ρ 2 = (Sl.v r34.1) ∧ ρ 4 = (Sl.v (⟨some ⟨b38, 0, none⟩, 5, 5⟩ : Sl)) ∧ ρ 5 = (Sl.v r61.1) ∧ ρ 6 = (Value.int .i64 r61.2) ∧ ρ 7 = (Sl.v r63) ∧ ρ 8 = (Sl.v r88.1) ∧ ρ 10 = (Sl.v r90) ∧ True) ⟨e1, e2, e4, e5, e6, e7, e8, rfl, trivial⟩ ?_
    rintro ρ ⟨e1, e2, e4, e5, e6, e7, e8, e10, -⟩
    refine wpC_region ?_
    refine wpR_val (v := (Sl.v r90)) (w' := w12) rfl rfl rfl (x_move (v := (Sl.v r90)) rfl e10) ?_
    refine wpR_val (v := (Value.agg #[(Value.int .i64 0), (Value.int .i64 0)])) (w' := w12) rfl rfl rfl (x_build (qs := []) rfl (by rfl) (BD_46_  _)) ?_
    obtain ⟨q91, z91, r91, h⟩ := h
    generalize hp91 : z91.add ((8 : Int).toNat * 2) = p91 at h
    refine wpR_val (v := (Value.pointer (some p91))) (w' := w12) rfl rfl rfl ((x_indexAddr (s := r90) rfl rfl rfl ES_25 q91 r91).trans (by rw [hp91])) ?_
    obtain ⟨q92, h⟩ := h
    obtain ⟨w13, hw92⟩ : ∃ u, u = setAll w12 p91 [(Value.int .i64 0), (Value.int .i64 0)] 0 := ⟨_, rfl⟩
    replace h := h w13 hw92
    refine wpR_skp (w' := w13) rfl rfl ((x_store (v := (Value.agg #[(Value.int .i64 0), (Value.int .i64 0)])) rfl rfl rfl SZ_46 (ones (by rfl)) q92).trans (by rw [hw92]; rfl)) ?_
    refine wpR_nil ?_
    refine wpC_seq ?_
    refine wpC_cut (fun ρ => ρ 1 = (Value.pointer (some (Addr.mk b10 0 none))) ∧ ρ 2 = (Sl.v r34.1) ∧ ρ 4 = (Sl.v (⟨some ⟨b38, 0, none⟩, 5, 5⟩ : Sl)) ∧ ρ 5 = (Sl.v r61.1) ∧ ρ 6 = (Value.int .i64 r61.2) ∧ ρ 7 = (Sl.v r63) ∧ ρ 8 = (Sl.v r88.1) ∧ ρ 10 = (Sl.v r90) ∧ True) ⟨e1, e2, e4, e5, e6, e7, e8, e10, trivial⟩ ?_
    rintro ρ ⟨e1, e2, e4, e5, e6, e7, e8, e10, -⟩
    refine wpC_region ?_
    obtain ⟨x93, q93, x94, q94, x95, q95, x96, q96, x97, q97, x98, q98, x99, q99, x100, q100, x101, q101, x102, q102, x103, q103, x104, q104, x105, q105, x106, q106, x107, q107, x108, q108, x109, q109, x110, q110, x111, q111, x112, q112, x113, q113, x114, q114, h⟩ := h
    refine wpR_val (v := (V23 x93 x94 x95 x96 x97 x98 x99 x100 x101 x102 x103 x104 x105 x106 x107 x108 x109 x110 x111 x112 x113 x114)) (w' := w13) rfl rfl rfl (x_loadN (S23 x93 x94 x95 x96 x97 x98 x99 x100 x101 x102 x103 x104 x105 x106 x107 x108 x109 x110 x111 x112 x113 x114) rfl e1 SH_24 (K23 ⟨q93, q94, q95, q96, q97, q98, q99, q100, q101, q102, q103, q104, q105, q106, q107, q108, q109, q110, q111, q112, q113, q114⟩)) ?_
    refine wpR_val (v := (Sl.v r90)) (w' := w13) rfl rfl rfl (x_move (v := (Sl.v r90)) rfl e10) ?_
    refine wpR_enter rfl rfl rfl (x_call (vs := [(V23 x93 x94 x95 x96 x97 x98 x99 x100 x101 x102 x103 x104 x105 x106 x107 x108 x109 x110 x111 x112 x113 x114), (Sl.v r90)]) rfl rfl (mapl_cons rfl (mapl_cons rfl mapl_nil)) Try.func10 NN_10 NB_10) (Calls.mono h ?_)
    rintro _ w14 ⟨r115, rfl, h⟩
    refine ⟨_, rfl, ?_⟩
    refine wpR_val (v := (Value.tuple #[(Sl.v r115.1), (Value.int .i64 r115.2)])) (w' := w14) rfl rfl rfl (x_move (v := (Value.tuple #[(Sl.v r115.1), (Value.int .i64 r115.2)])) rfl rfl) ?_
    refine wpR_val (v := (Sl.v r115.1)) (w' := w14) rfl rfl rfl (x_extract rfl rfl rfl) ?_
    refine wpR_val (v := (Value.int .i64 r115.2)) (w' := w14) rfl rfl rfl (x_extract rfl rfl rfl) ?_
    refine wpR_val (v := (Sl.v r115.1)) (w' := w14) rfl rfl rfl (x_assign (v := (Sl.v r115.1)) rfl rfl) ?_
    refine wpR_val (v := (Value.int .i64 r115.2)) (w' := w14) rfl rfl rfl (x_assign (v := (Value.int .i64 r115.2)) rfl rfl) ?_
    refine wpR_nil ?_
    refine wpC_seq ?_
    refine wpC_cut (fun ρ => ρ 1 = (Value.pointer (some (Addr.mk b10 0 none))) ∧ ρ 2 = (Sl.v r34.1) ∧ ρ 4 = (Sl.v (⟨some ⟨b38, 0, none⟩, 5, 5⟩ : Sl)) ∧ ρ 5 = (Sl.v r61.1) ∧ ρ 6 = (Value.int .i64 r61.2) ∧ ρ 7 = (Sl.v r63) ∧ ρ 8 = (Sl.v r88.1) ∧ ρ 10 = (Sl.v r90) ∧ ρ 11 = (Sl.v r115.1) ∧ True) ⟨e1, e2, e4, e5, e6, e7, e8, e10, rfl, trivial⟩ ?_
    rintro ρ ⟨e1, e2, e4, e5, e6, e7, e8, e10, e11, -⟩
    obtain ⟨J117, h, hk⟩ := h
    refine wpC_drawJ (by kernel_rfl) (fun (x : Bool) ρ => ρ 13 = (Value.bool x) ∧ ρ 1 = (Value.pointer (some (Addr.mk b10 0 none))) ∧ ρ 5 = (Sl.v r61.1) ∧ ρ 7 = (Sl.v r63) ∧ ρ 8 = (Sl.v r88.1) ∧ ρ 10 = (Sl.v r90) ∧ ρ 11 = (Sl.v r115.1) ∧ True) J117 ?_ ?_
    · clear hk
      unfold tk at h
      generalize w14.drew = w15 at h ⊢
      refine wpD_take (v := (Value.int .i64 r61.2)) 0 (fun _ => True) rfl (by kernel_rfl) (by kernel_rfl) (by kernel_rfl) rfl rfl rfl trivial (fun w _ => (x_move (v := (Value.int .i64 r61.2)) rfl e6)) ?_
      refine wpD_take (v := (Value.bool (decide (r61.2 = 0)))) 1 (fun _ => True) rfl (by kernel_rfl) (by kernel_rfl) (by kernel_rfl) rfl rfl rfl trivial (fun w _ => (x_eql rfl rfl rfl)) ?_
      refine wpD_take (v := (Value.bool (decide (r61.2 = 0)))) 2 (fun _ => True) rfl (by kernel_rfl) (by kernel_rfl) (by kernel_rfl) rfl rfl rfl trivial (fun w _ => (x_move (v := (Value.bool (decide (r61.2 = 0)))) rfl rfl)) ?_
      rcases Bool.eq_false_or_eq_true (decide (r61.2 = 0)) with hc118 | hc118
      · replace h := h.1 hc118
        refine wpD_take (v := (Sl.v r61.1)) 3 (fun _ => True) rfl (by kernel_rfl) (by kernel_rfl) (by kernel_rfl) (wantG rfl rfl rfl hc118) rfl rfl trivial (fun w _ => (x_move (v := (Sl.v r61.1)) rfl e5)) ?_
        refine wpD_take (v := (Sl.v (⟨some ⟨b38, 0, none⟩, 5, 5⟩ : Sl))) 4 (fun _ => True) rfl (by kernel_rfl) (by kernel_rfl) (by kernel_rfl) (wantG rfl rfl rfl hc118) rfl rfl trivial (fun w _ => (x_move (v := (Sl.v (⟨some ⟨b38, 0, none⟩, 5, 5⟩ : Sl))) rfl e4)) ?_
        refine wpD_all (rs := [5]) (by kernel_rfl) (by simp) (allD_cons ?_ allD_nil)
        refine stepD_enterL (L' := [(1, fun _ => True), (0, fun _ => True)]) rfl (wantG rfl rfl rfl hc118) rfl rfl (x_call (vs := [(Sl.v r61.1), (Sl.v (⟨some ⟨b38, 0, none⟩, 5, 5⟩ : Sl))]) rfl rfl (mapl_cons rfl (mapl_cons rfl mapl_nil)) Try.func12 NN_12 NB_12) (by kernel_rfl) (Calls.mono h ?_)
        rintro _ w16 ⟨r119, rfl, h⟩
        refine ⟨_, rfl, (held_cons trivial (held_cons trivial held_nil)), ?_⟩
        refine wpD_take (v := (Value.bool r119)) 6 (fun _ => True) rfl (by kernel_rfl) (by kernel_rfl) (by kernel_rfl) rfl rfl rfl trivial (fun w _ => (x_pickT (v := (Value.bool r119)) rfl rfl hc118 rfl)) ?_
        refine wpD_take (v := (Value.bool r119)) 7 (fun _ => True) rfl (by kernel_rfl) (by kernel_rfl) (by kernel_rfl) rfl rfl rfl trivial (fun w _ => (x_move (v := (Value.bool r119)) rfl rfl)) ?_
        rcases Bool.eq_false_or_eq_true (r119) with hc120 | hc120
        · replace h := h.1 hc120
          obtain ⟨x121, q121, x122, q122, x123, q123, x124, q124, x125, q125, x126, q126, x127, q127, x128, q128, x129, q129, x130, q130, x131, q131, x132, q132, x133, q133, x134, q134, x135, q135, x136, q136, x137, q137, x138, q138, x139, q139, x140, q140, x141, q141, x142, q142, h⟩ := h
          refine wpD_take (v := (V23 x121 x122 x123 x124 x125 x126 x127 x128 x129 x130 x131 x132 x133 x134 x135 x136 x137 x138 x139 x140 x141 x142)) 8 (fun w => C23 (Addr.mk b10 0 none) x121 x122 x123 x124 x125 x126 x127 x128 x129 x130 x131 x132 x133 x134 x135 x136 x137 x138 x139 x140 x141 x142 w) rfl (by kernel_rfl) (by kernel_rfl) (by kernel_rfl) (wantG rfl rfl rfl hc120) rfl rfl ⟨q121, q122, q123, q124, q125, q126, q127, q128, q129, q130, q131, q132, q133, q134, q135, q136, q137, q138, q139, q140, q141, q142⟩ (fun w q => (x_loadN (S23 x121 x122 x123 x124 x125 x126 x127 x128 x129 x130 x131 x132 x133 x134 x135 x136 x137 x138 x139 x140 x141 x142) rfl e1 SH_24 (K23 q))) ?_
          refine wpD_take (v := (Sl.v r34.1)) 9 (fun _ => True) rfl (by kernel_rfl) (by kernel_rfl) (by kernel_rfl) (wantG rfl rfl rfl hc120) rfl rfl trivial (fun w _ => (x_move (v := (Sl.v r34.1)) rfl e2)) ?_
          refine wpD_take (v := (Sl.v r61.1)) 10 (fun _ => True) rfl (by kernel_rfl) (by kernel_rfl) (by kernel_rfl) (wantG rfl rfl rfl hc120) rfl rfl trivial (fun w _ => (x_move (v := (Sl.v r61.1)) rfl e5)) ?_
          refine wpD_all (rs := [11]) (by kernel_rfl) (by simp) (allD_cons ?_ allD_nil)
          refine stepD_enterL (L' := [(6, fun _ => True), (1, fun _ => True), (0, fun _ => True)]) rfl (wantG rfl rfl rfl hc120) rfl rfl (x_call (vs := [(V23 x121 x122 x123 x124 x125 x126 x127 x128 x129 x130 x131 x132 x133 x134 x135 x136 x137 x138 x139 x140 x141 x142), (Sl.v r34.1), (Sl.v r61.1)]) rfl rfl (mapl_cons rfl (mapl_cons rfl (mapl_cons rfl mapl_nil))) Try.func13 NN_13 NB_13) (by kernel_rfl) (Calls.mono h ?_)
          rintro _ w17 ⟨r143, rfl, h⟩
          refine ⟨_, rfl, (held_cons trivial (held_cons trivial (held_cons trivial held_nil))), ?_⟩
          refine wpD_take (v := (Value.bool (decide (r143 = 0)))) 12 (fun _ => True) rfl (by kernel_rfl) (by kernel_rfl) (by kernel_rfl) (wantG rfl rfl rfl hc120) rfl rfl trivial (fun w _ => (x_eql rfl rfl rfl)) ?_
          refine wpD_take (v := (Value.bool (decide (r143 = 0)))) 13 (fun _ => True) rfl (by kernel_rfl) (by kernel_rfl) (by kernel_rfl) rfl rfl rfl trivial (fun w _ => (x_pickT (v := (Value.bool (decide (r143 = 0)))) rfl rfl hc120 rfl)) ?_
          refine wpD_take (v := (Value.bool (decide (r143 = 0)))) 14 (fun _ => True) rfl (by kernel_rfl) (by kernel_rfl) (by kernel_rfl) rfl rfl rfl trivial (fun w _ => (x_move (v := (Value.bool (decide (r143 = 0)))) rfl rfl)) ?_
          rcases Bool.eq_false_or_eq_true (decide (r143 = 0)) with hc144 | hc144
          · replace h := h.1 hc144
            obtain ⟨x145, q145, x146, q146, x147, q147, x148, q148, x149, q149, x150, q150, x151, q151, x152, q152, x153, q153, x154, q154, x155, q155, x156, q156, x157, q157, x158, q158, x159, q159, x160, q160, x161, q161, x162, q162, x163, q163, x164, q164, x165, q165, x166, q166, h⟩ := h
            refine wpD_take (v := (V23 x145 x146 x147 x148 x149 x150 x151 x152 x153 x154 x155 x156 x157 x158 x159 x160 x161 x162 x163 x164 x165 x166)) 15 (fun w => C23 (Addr.mk b10 0 none) x145 x146 x147 x148 x149 x150 x151 x152 x153 x154 x155 x156 x157 x158 x159 x160 x161 x162 x163 x164 x165 x166 w) rfl (by kernel_rfl) (by kernel_rfl) (by kernel_rfl) (wantG rfl rfl rfl hc144) rfl rfl ⟨q145, q146, q147, q148, q149, q150, q151, q152, q153, q154, q155, q156, q157, q158, q159, q160, q161, q162, q163, q164, q165, q166⟩ (fun w q => (x_loadN (S23 x145 x146 x147 x148 x149 x150 x151 x152 x153 x154 x155 x156 x157 x158 x159 x160 x161 x162 x163 x164 x165 x166) rfl e1 SH_24 (K23 q))) ?_
            refine wpD_take (v := (Sl.v r34.1)) 16 (fun _ => True) rfl (by kernel_rfl) (by kernel_rfl) (by kernel_rfl) (wantG rfl rfl rfl hc144) rfl rfl trivial (fun w _ => (x_move (v := (Sl.v r34.1)) rfl e2)) ?_
            refine wpD_take (v := (Sl.v (⟨some ⟨b38, 0, none⟩, 5, 5⟩ : Sl))) 17 (fun _ => True) rfl (by kernel_rfl) (by kernel_rfl) (by kernel_rfl) (wantG rfl rfl rfl hc144) rfl rfl trivial (fun w _ => (x_move (v := (Sl.v (⟨some ⟨b38, 0, none⟩, 5, 5⟩ : Sl))) rfl e4)) ?_
            refine wpD_all (rs := [18]) (by kernel_rfl) (by simp) (allD_cons ?_ allD_nil)
            obtain ⟨r167, w18, q167, h⟩ := h
            obtain ⟨o15, h⟩ := h
            refine stepD_valL (L' := [(16, fun _ => True), (15, fun w => C23 (Addr.mk b10 0 none) x145 x146 x147 x148 x149 x150 x151 x152 x153 x154 x155 x156 x157 x158 x159 x160 x161 x162 x163 x164 x165 x166 w), (13, fun _ => True), (12, fun _ => True), (6, fun _ => True), (1, fun _ => True), (0, fun _ => True)]) (v := (Sl.v r167)) (w' := w18) rfl (wantG rfl rfl rfl hc144) rfl rfl (x_sliceAt rfl rfl rfl (congrArg some rfl) rfl q167) (by kernel_rfl) (held_cons trivial (held_cons o15 (held_cons trivial (held_cons trivial (held_cons trivial (held_cons trivial (held_cons trivial held_nil))))))) ?_
            refine wpD_all (rs := [19]) (by kernel_rfl) (by simp) (allD_cons ?_ allD_nil)
            refine stepD_enterL (L' := [(13, fun _ => True), (12, fun _ => True), (6, fun _ => True), (1, fun _ => True), (0, fun _ => True)]) rfl (wantG rfl rfl rfl hc144) rfl rfl (x_call (vs := [(V23 x145 x146 x147 x148 x149 x150 x151 x152 x153 x154 x155 x156 x157 x158 x159 x160 x161 x162 x163 x164 x165 x166), (Sl.v r34.1), (Sl.v r167)]) rfl rfl (mapl_cons rfl (mapl_cons rfl (mapl_cons rfl mapl_nil))) Try.func13 NN_13 NB_13) (by kernel_rfl) (Calls.mono h ?_)
            rintro _ w19 ⟨r168, rfl, h⟩
            refine ⟨_, rfl, (held_cons trivial (held_cons trivial (held_cons trivial (held_cons trivial (held_cons trivial held_nil))))), ?_⟩
            refine wpD_take (v := (Value.bool (decide (r168 = 18)))) 20 (fun _ => True) rfl (by kernel_rfl) (by kernel_rfl) (by kernel_rfl) (wantG rfl rfl rfl hc144) rfl rfl trivial (fun w _ => (x_eql rfl rfl rfl)) ?_
            refine wpD_take (v := (Value.bool (decide (r168 = 18)))) 21 (fun _ => True) rfl (by kernel_rfl) (by kernel_rfl) (by kernel_rfl) rfl rfl rfl trivial (fun w _ => (x_pickT (v := (Value.bool (decide (r168 = 18)))) rfl rfl hc144 rfl)) ?_
            refine wpD_take (v := (Value.bool (decide (r168 = 18)))) 22 (fun _ => True) rfl (by kernel_rfl) (by kernel_rfl) (by kernel_rfl) rfl rfl rfl trivial (fun w _ => (x_assign (v := (Value.bool (decide (r168 = 18)))) rfl rfl)) ?_
            exact wpD_done (by kernel_rfl) ⟨decide (r168 = 18), ⟨rfl, e1, e5, e7, e8, e10, e11, trivial⟩, h⟩
          · replace h := h.2 hc144
            refine wpD_pass 15 rfl (by kernel_rfl) (by kernel_rfl) (by kernel_rfl) (wantN rfl rfl rfl hc144) rfl rfl ?_
            refine wpD_pass 16 rfl (by kernel_rfl) (by kernel_rfl) (by kernel_rfl) (wantN rfl rfl rfl hc144) rfl rfl ?_
            refine wpD_pass 17 rfl (by kernel_rfl) (by kernel_rfl) (by kernel_rfl) (wantN rfl rfl rfl hc144) rfl rfl ?_
            refine wpD_pass 18 rfl (by kernel_rfl) (by kernel_rfl) (by kernel_rfl) (wantN rfl rfl rfl hc144) rfl rfl ?_
            refine wpD_pass 19 rfl (by kernel_rfl) (by kernel_rfl) (by kernel_rfl) (wantN rfl rfl rfl hc144) rfl rfl ?_
            refine wpD_pass 20 rfl (by kernel_rfl) (by kernel_rfl) (by kernel_rfl) (wantN rfl rfl rfl hc144) rfl rfl ?_
            refine wpD_take (v := (Value.bool false)) 21 (fun _ => True) rfl (by kernel_rfl) (by kernel_rfl) (by kernel_rfl) rfl rfl rfl trivial (fun w _ => (x_pickF (v := (Value.bool false)) rfl rfl hc144 rfl)) ?_
            refine wpD_take (v := (Value.bool false)) 22 (fun _ => True) rfl (by kernel_rfl) (by kernel_rfl) (by kernel_rfl) rfl rfl rfl trivial (fun w _ => (x_assign (v := (Value.bool false)) rfl rfl)) ?_
            exact wpD_done (by kernel_rfl) ⟨false, ⟨rfl, e1, e5, e7, e8, e10, e11, trivial⟩, h⟩
        · replace h := h.2 hc120
          refine wpD_pass 8 rfl (by kernel_rfl) (by kernel_rfl) (by kernel_rfl) (wantN rfl rfl rfl hc120) rfl rfl ?_
          refine wpD_pass 9 rfl (by kernel_rfl) (by kernel_rfl) (by kernel_rfl) (wantN rfl rfl rfl hc120) rfl rfl ?_
          refine wpD_pass 10 rfl (by kernel_rfl) (by kernel_rfl) (by kernel_rfl) (wantN rfl rfl rfl hc120) rfl rfl ?_
          refine wpD_pass 11 rfl (by kernel_rfl) (by kernel_rfl) (by kernel_rfl) (wantN rfl rfl rfl hc120) rfl rfl ?_
          refine wpD_pass 12 rfl (by kernel_rfl) (by kernel_rfl) (by kernel_rfl) (wantN rfl rfl rfl hc120) rfl rfl ?_
          refine wpD_take (v := (Value.bool false)) 13 (fun _ => True) rfl (by kernel_rfl) (by kernel_rfl) (by kernel_rfl) rfl rfl rfl trivial (fun w _ => (x_pickF (v := (Value.bool false)) rfl rfl hc120 rfl)) ?_
          refine wpD_take (v := (Value.bool false)) 14 (fun _ => True) rfl (by kernel_rfl) (by kernel_rfl) (by kernel_rfl) rfl rfl rfl trivial (fun w _ => (x_move (v := (Value.bool false)) rfl rfl)) ?_
          refine wpD_pass 15 rfl (by kernel_rfl) (by kernel_rfl) (by kernel_rfl) (wantN rfl rfl rfl rfl) rfl rfl ?_
          refine wpD_pass 16 rfl (by kernel_rfl) (by kernel_rfl) (by kernel_rfl) (wantN rfl rfl rfl rfl) rfl rfl ?_
          refine wpD_pass 17 rfl (by kernel_rfl) (by kernel_rfl) (by kernel_rfl) (wantN rfl rfl rfl rfl) rfl rfl ?_
          refine wpD_pass 18 rfl (by kernel_rfl) (by kernel_rfl) (by kernel_rfl) (wantN rfl rfl rfl rfl) rfl rfl ?_
          refine wpD_pass 19 rfl (by kernel_rfl) (by kernel_rfl) (by kernel_rfl) (wantN rfl rfl rfl rfl) rfl rfl ?_
          refine wpD_pass 20 rfl (by kernel_rfl) (by kernel_rfl) (by kernel_rfl) (wantN rfl rfl rfl rfl) rfl rfl ?_
          refine wpD_take (v := (Value.bool false)) 21 (fun _ => True) rfl (by kernel_rfl) (by kernel_rfl) (by kernel_rfl) rfl rfl rfl trivial (fun w _ => (x_pickF (v := (Value.bool false)) rfl rfl rfl rfl)) ?_
          refine wpD_take (v := (Value.bool false)) 22 (fun _ => True) rfl (by kernel_rfl) (by kernel_rfl) (by kernel_rfl) rfl rfl rfl trivial (fun w _ => (x_assign (v := (Value.bool false)) rfl rfl)) ?_
          exact wpD_done (by kernel_rfl) ⟨false, ⟨rfl, e1, e5, e7, e8, e10, e11, trivial⟩, h⟩
      · replace h := h.2 hc118
        refine wpD_pass 3 rfl (by kernel_rfl) (by kernel_rfl) (by kernel_rfl) (wantN rfl rfl rfl hc118) rfl rfl ?_
        refine wpD_pass 4 rfl (by kernel_rfl) (by kernel_rfl) (by kernel_rfl) (wantN rfl rfl rfl hc118) rfl rfl ?_
        refine wpD_pass 5 rfl (by kernel_rfl) (by kernel_rfl) (by kernel_rfl) (wantN rfl rfl rfl hc118) rfl rfl ?_
        refine wpD_take (v := (Value.bool false)) 6 (fun _ => True) rfl (by kernel_rfl) (by kernel_rfl) (by kernel_rfl) rfl rfl rfl trivial (fun w _ => (x_pickF (v := (Value.bool false)) rfl rfl hc118 rfl)) ?_
        refine wpD_take (v := (Value.bool false)) 7 (fun _ => True) rfl (by kernel_rfl) (by kernel_rfl) (by kernel_rfl) rfl rfl rfl trivial (fun w _ => (x_move (v := (Value.bool false)) rfl rfl)) ?_
        refine wpD_pass 8 rfl (by kernel_rfl) (by kernel_rfl) (by kernel_rfl) (wantN rfl rfl rfl rfl) rfl rfl ?_
        refine wpD_pass 9 rfl (by kernel_rfl) (by kernel_rfl) (by kernel_rfl) (wantN rfl rfl rfl rfl) rfl rfl ?_
        refine wpD_pass 10 rfl (by kernel_rfl) (by kernel_rfl) (by kernel_rfl) (wantN rfl rfl rfl rfl) rfl rfl ?_
        refine wpD_pass 11 rfl (by kernel_rfl) (by kernel_rfl) (by kernel_rfl) (wantN rfl rfl rfl rfl) rfl rfl ?_
        refine wpD_pass 12 rfl (by kernel_rfl) (by kernel_rfl) (by kernel_rfl) (wantN rfl rfl rfl rfl) rfl rfl ?_
        refine wpD_take (v := (Value.bool false)) 13 (fun _ => True) rfl (by kernel_rfl) (by kernel_rfl) (by kernel_rfl) rfl rfl rfl trivial (fun w _ => (x_pickF (v := (Value.bool false)) rfl rfl rfl rfl)) ?_
        refine wpD_take (v := (Value.bool false)) 14 (fun _ => True) rfl (by kernel_rfl) (by kernel_rfl) (by kernel_rfl) rfl rfl rfl trivial (fun w _ => (x_move (v := (Value.bool false)) rfl rfl)) ?_
        refine wpD_pass 15 rfl (by kernel_rfl) (by kernel_rfl) (by kernel_rfl) (wantN rfl rfl rfl rfl) rfl rfl ?_
        refine wpD_pass 16 rfl (by kernel_rfl) (by kernel_rfl) (by kernel_rfl) (wantN rfl rfl rfl rfl) rfl rfl ?_
        refine wpD_pass 17 rfl (by kernel_rfl) (by kernel_rfl) (by kernel_rfl) (wantN rfl rfl rfl rfl) rfl rfl ?_
        refine wpD_pass 18 rfl (by kernel_rfl) (by kernel_rfl) (by kernel_rfl) (wantN rfl rfl rfl rfl) rfl rfl ?_
        refine wpD_pass 19 rfl (by kernel_rfl) (by kernel_rfl) (by kernel_rfl) (wantN rfl rfl rfl rfl) rfl rfl ?_
        refine wpD_pass 20 rfl (by kernel_rfl) (by kernel_rfl) (by kernel_rfl) (wantN rfl rfl rfl rfl) rfl rfl ?_
        refine wpD_take (v := (Value.bool false)) 21 (fun _ => True) rfl (by kernel_rfl) (by kernel_rfl) (by kernel_rfl) rfl rfl rfl trivial (fun w _ => (x_pickF (v := (Value.bool false)) rfl rfl rfl rfl)) ?_
        refine wpD_take (v := (Value.bool false)) 22 (fun _ => True) rfl (by kernel_rfl) (by kernel_rfl) (by kernel_rfl) rfl rfl rfl trivial (fun w _ => (x_assign (v := (Value.bool false)) rfl rfl)) ?_
        exact wpD_done (by kernel_rfl) ⟨false, ⟨rfl, e1, e5, e7, e8, e10, e11, trivial⟩, h⟩
    clear h
    rintro l169 ρ w20 ⟨e13, e1, e5, e7, e8, e10, e11, -⟩ h
    replace h := hk l169 w20 h
    clear hk
    refine wpC_seq ?_
    refine wpC_region ?_
    refine wpR_val (v := (Value.bool l169)) (w' := w20) rfl rfl rfl (x_move (v := (Value.bool l169)) rfl e13) ?_
    refine wpR_val (v := (Value.bool l169)) (w' := w20) rfl rfl rfl (x_move (v := (Value.bool l169)) rfl rfl) ?_
    obtain ⟨J170, h, hk⟩ := h
    refine wpR_joinJ 6 (fun x ρ => ρ 92 = Value.bool x ∧ ρ 1 = (Value.pointer (some (Addr.mk b10 0 none))) ∧ ρ 5 = (Sl.v r61.1) ∧ ρ 8 = (Sl.v r88.1) ∧ ρ 10 = (Sl.v r90) ∧ ρ 11 = (Sl.v r115.1) ∧ True) (J170) ?_ ?_
    · clear hk
      rcases Bool.eq_false_or_eq_true (l169) with hc171 | hc171
      · replace h := h.1 hc171
        obtain ⟨x172, q172, x173, q173, x174, q174, x175, q175, x176, q176, x177, q177, x178, q178, x179, q179, x180, q180, x181, q181, x182, q182, x183, q183, x184, q184, x185, q185, x186, q186, x187, q187, x188, q188, x189, q189, x190, q190, x191, q191, x192, q192, x193, q193, h⟩ := h
        refine wpR_val (v := (V23 x172 x173 x174 x175 x176 x177 x178 x179 x180 x181 x182 x183 x184 x185 x186 x187 x188 x189 x190 x191 x192 x193)) (w' := w20) (wantG rfl rfl rfl hc171) rfl rfl (x_loadN (S23 x172 x173 x174 x175 x176 x177 x178 x179 x180 x181 x182 x183 x184 x185 x186 x187 x188 x189 x190 x191 x192 x193) rfl e1 SH_24 (K23 ⟨q172, q173, q174, q175, q176, q177, q178, q179, q180, q181, q182, q183, q184, q185, q186, q187, q188, q189, q190, q191, q192, q193⟩)) ?_
        refine wpR_val (v := (Sl.v r63)) (w' := w20) (wantG rfl rfl rfl hc171) rfl rfl (x_move (v := (Sl.v r63)) rfl e7) ?_
        refine wpR_val (v := (Sl.v r88.1)) (w' := w20) (wantG rfl rfl rfl hc171) rfl rfl (x_move (v := (Sl.v r88.1)) rfl e8) ?_
        refine wpR_enter (wantG rfl rfl rfl hc171) rfl rfl (x_call (vs := [(V23 x172 x173 x174 x175 x176 x177 x178 x179 x180 x181 x182 x183 x184 x185 x186 x187 x188 x189 x190 x191 x192 x193), (Sl.v r63), (Sl.v r88.1)]) rfl rfl (mapl_cons rfl (mapl_cons rfl (mapl_cons rfl mapl_nil))) Try.func13 NN_13 NB_13) (Calls.mono h ?_)
        rintro _ w21 ⟨r194, rfl, h⟩
        refine ⟨_, rfl, ?_⟩
        refine wpR_val (v := (Value.bool (decide (r194 = 18)))) (w' := w21) (wantG rfl rfl rfl hc171) rfl rfl (x_eql rfl rfl rfl) ?_
        refine wpR_val (v := (Value.bool (decide (r194 = 18)))) (w' := w21) rfl rfl rfl (x_pickT (v := (Value.bool (decide (r194 = 18)))) rfl rfl hc171 rfl) ?_
        refine wpR_nil ?_
        exact ⟨decide (r194 = 18), ⟨rfl, e1, e5, e8, e10, e11, trivial⟩, h⟩
      · replace h := h.2 hc171
        refine wpR_pass (wantN rfl rfl rfl hc171) rfl rfl ?_
        refine wpR_pass (wantN rfl rfl rfl hc171) rfl rfl ?_
        refine wpR_pass (wantN rfl rfl rfl hc171) rfl rfl ?_
        refine wpR_pass (wantN rfl rfl rfl hc171) rfl rfl ?_
        refine wpR_pass (wantN rfl rfl rfl hc171) rfl rfl ?_
        refine wpR_val (v := (Value.bool false)) (w' := w20) rfl rfl rfl (x_pickF (v := (Value.bool false)) rfl rfl hc171 rfl) ?_
        refine wpR_nil ?_
        exact ⟨false, ⟨rfl, e1, e5, e8, e10, e11, trivial⟩, h⟩
    clear h
    rintro c195 ρ w22 ⟨e92, e1, e5, e8, e10, e11, -⟩ h
    replace h := hk c195 w22 h
    clear hk
    refine wpR_val (v := (Value.bool c195)) (w' := w22) rfl rfl rfl (x_move (v := (Value.bool c195)) rfl e92) ?_
    obtain ⟨J196, h, hk⟩ := h
    refine wpR_joinJ 6 (fun x ρ => ρ 99 = Value.bool x ∧ ρ 5 = (Sl.v r61.1) ∧ ρ 8 = (Sl.v r88.1) ∧ True) (J196) ?_ ?_
    · clear hk
      rcases Bool.eq_false_or_eq_true (c195) with hc197 | hc197
      · replace h := h.1 hc197
        obtain ⟨x198, q198, x199, q199, x200, q200, x201, q201, x202, q202, x203, q203, x204, q204, x205, q205, x206, q206, x207, q207, x208, q208, x209, q209, x210, q210, x211, q211, x212, q212, x213, q213, x214, q214, x215, q215, x216, q216, x217, q217, x218, q218, x219, q219, h⟩ := h
        refine wpR_val (v := (V23 x198 x199 x200 x201 x202 x203 x204 x205 x206 x207 x208 x209 x210 x211 x212 x213 x214 x215 x216 x217 x218 x219)) (w' := w22) (wantG rfl rfl rfl hc197) rfl rfl (x_loadN (S23 x198 x199 x200 x201 x202 x203 x204 x205 x206 x207 x208 x209 x210 x211 x212 x213 x214 x215 x216 x217 x218 x219) rfl e1 SH_24 (K23 ⟨q198, q199, q200, q201, q202, q203, q204, q205, q206, q207, q208, q209, q210, q211, q212, q213, q214, q215, q216, q217, q218, q219⟩)) ?_
        refine wpR_val (v := (Sl.v r90)) (w' := w22) (wantG rfl rfl rfl hc197) rfl rfl (x_move (v := (Sl.v r90)) rfl e10) ?_
        refine wpR_val (v := (Sl.v r115.1)) (w' := w22) (wantG rfl rfl rfl hc197) rfl rfl (x_move (v := (Sl.v r115.1)) rfl e11) ?_
        refine wpR_enter (wantG rfl rfl rfl hc197) rfl rfl (x_call (vs := [(V23 x198 x199 x200 x201 x202 x203 x204 x205 x206 x207 x208 x209 x210 x211 x212 x213 x214 x215 x216 x217 x218 x219), (Sl.v r90), (Sl.v r115.1)]) rfl rfl (mapl_cons rfl (mapl_cons rfl (mapl_cons rfl mapl_nil))) Try.func13 NN_13 NB_13) (Calls.mono h ?_)
        rintro _ w23 ⟨r220, rfl, h⟩
        refine ⟨_, rfl, ?_⟩
        refine wpR_val (v := (Value.bool (decide (r220 = 7)))) (w' := w23) (wantG rfl rfl rfl hc197) rfl rfl (x_eql rfl rfl rfl) ?_
        refine wpR_val (v := (Value.bool (decide (r220 = 7)))) (w' := w23) rfl rfl rfl (x_pickT (v := (Value.bool (decide (r220 = 7)))) rfl rfl hc197 rfl) ?_
        refine wpR_nil ?_
        exact ⟨decide (r220 = 7), ⟨rfl, e5, e8, trivial⟩, h⟩
      · replace h := h.2 hc197
        refine wpR_pass (wantN rfl rfl rfl hc197) rfl rfl ?_
        refine wpR_pass (wantN rfl rfl rfl hc197) rfl rfl ?_
        refine wpR_pass (wantN rfl rfl rfl hc197) rfl rfl ?_
        refine wpR_pass (wantN rfl rfl rfl hc197) rfl rfl ?_
        refine wpR_pass (wantN rfl rfl rfl hc197) rfl rfl ?_
        refine wpR_val (v := (Value.bool false)) (w' := w22) rfl rfl rfl (x_pickF (v := (Value.bool false)) rfl rfl hc197 rfl) ?_
        refine wpR_nil ?_
        exact ⟨false, ⟨rfl, e5, e8, trivial⟩, h⟩
    clear h
    rintro c221 ρ w24 ⟨e99, e5, e8, -⟩ h
    replace h := hk c221 w24 h
    clear hk
    refine wpR_val (v := (Value.bool c221)) (w' := w24) rfl rfl rfl (x_move (v := (Value.bool c221)) rfl e99) ?_
    obtain ⟨J222, h, hk⟩ := h
    refine wpR_joinJ 3 (fun x ρ => ρ 103 = Value.bool x ∧ ρ 5 = (Sl.v r61.1) ∧ ρ 8 = (Sl.v r88.1) ∧ True) (J222) ?_ ?_
    · clear hk
      rcases Bool.eq_false_or_eq_true (c221) with hc223 | hc223
      · replace h := h.1 hc223
        refine wpR_val (v := (Sl.v r61.1)) (w' := w24) (wantG rfl rfl rfl hc223) rfl rfl (x_move (v := (Sl.v r61.1)) rfl e5) ?_
        refine wpR_enter (wantG rfl rfl rfl hc223) rfl rfl (x_call (vs := [(Sl.v r61.1), (Sl.v Sl.nil)]) rfl rfl (mapl_cons rfl (mapl_cons rfl mapl_nil)) Try.func15 NN_15 NB_15) (Calls.mono h ?_)
        rintro _ w25 ⟨r224, rfl, h⟩
        refine ⟨_, rfl, ?_⟩
        refine wpR_val (v := (Value.bool r224)) (w' := w25) rfl rfl rfl (x_pickT (v := (Value.bool r224)) rfl rfl hc223 rfl) ?_
        refine wpR_nil ?_
        exact ⟨r224, ⟨rfl, e5, e8, trivial⟩, h⟩
      · replace h := h.2 hc223
        refine wpR_pass (wantN rfl rfl rfl hc223) rfl rfl ?_
        refine wpR_pass (wantN rfl rfl rfl hc223) rfl rfl ?_
        refine wpR_val (v := (Value.bool false)) (w' := w24) rfl rfl rfl (x_pickF (v := (Value.bool false)) rfl rfl hc223 rfl) ?_
        refine wpR_nil ?_
        exact ⟨false, ⟨rfl, e5, e8, trivial⟩, h⟩
    clear h
    rintro c225 ρ w26 ⟨e103, e5, e8, -⟩ h
    replace h := hk c225 w26 h
    clear hk
    refine wpR_val (v := (Value.bool c225)) (w' := w26) rfl rfl rfl (x_move (v := (Value.bool c225)) rfl e103) ?_
    obtain ⟨J226, h, hk⟩ := h
    refine wpR_joinJ 5 (fun x ρ => ρ 109 = Value.bool x ∧ ρ 5 = (Sl.v r61.1) ∧ ρ 8 = (Sl.v r88.1) ∧ True) (J226) ?_ ?_
    · clear hk
      rcases Bool.eq_false_or_eq_true (c225) with hc227 | hc227
      · replace h := h.1 hc227
        refine wpR_val (v := (Sl.v r61.1)) (w' := w26) (wantG rfl rfl rfl hc227) rfl rfl (x_move (v := (Sl.v r61.1)) rfl e5) ?_
        refine wpR_val (v := (Sl.v r61.1)) (w' := w26) (wantG rfl rfl rfl hc227) rfl rfl (x_move (v := (Sl.v r61.1)) rfl e5) ?_
        refine wpR_enter (wantG rfl rfl rfl hc227) rfl rfl (x_call (vs := [(Sl.v r61.1), (Sl.v r61.1)]) rfl rfl (mapl_cons rfl (mapl_cons rfl mapl_nil)) Try.func15 NN_15 NB_15) (Calls.mono h ?_)
        rintro _ w27 ⟨r228, rfl, h⟩
        refine ⟨_, rfl, ?_⟩
        refine wpR_val (v := (Value.bool (!r228))) (w' := w27) (wantG rfl rfl rfl hc227) rfl rfl (x_not rfl rfl) ?_
        refine wpR_val (v := (Value.bool (!r228))) (w' := w27) rfl rfl rfl (x_pickT (v := (Value.bool (!r228))) rfl rfl hc227 rfl) ?_
        refine wpR_nil ?_
        exact ⟨!r228, ⟨rfl, e5, e8, trivial⟩, h⟩
      · replace h := h.2 hc227
        refine wpR_pass (wantN rfl rfl rfl hc227) rfl rfl ?_
        refine wpR_pass (wantN rfl rfl rfl hc227) rfl rfl ?_
        refine wpR_pass (wantN rfl rfl rfl hc227) rfl rfl ?_
        refine wpR_pass (wantN rfl rfl rfl hc227) rfl rfl ?_
        refine wpR_val (v := (Value.bool false)) (w' := w26) rfl rfl rfl (x_pickF (v := (Value.bool false)) rfl rfl hc227 rfl) ?_
        refine wpR_nil ?_
        exact ⟨false, ⟨rfl, e5, e8, trivial⟩, h⟩
    clear h
    rintro c229 ρ w28 ⟨e109, e5, e8, -⟩ h
    replace h := hk c229 w28 h
    clear hk
    refine wpR_val (v := (Value.bool c229)) (w' := w28) rfl rfl rfl (x_move (v := (Value.bool c229)) rfl e109) ?_
    obtain ⟨J230, h, hk⟩ := h
    refine wpR_joinJ 4 (fun x ρ => ρ 114 = Value.bool x ∧ True) (J230) ?_ ?_
    · clear hk
      rcases Bool.eq_false_or_eq_true (c229) with hc231 | hc231
      · replace h := h.1 hc231
        refine wpR_val (v := (Sl.v r88.1)) (w' := w28) (wantG rfl rfl rfl hc231) rfl rfl (x_move (v := (Sl.v r88.1)) rfl e8) ?_
        refine wpR_val (v := (Sl.v r61.1)) (w' := w28) (wantG rfl rfl rfl hc231) rfl rfl (x_move (v := (Sl.v r61.1)) rfl e5) ?_
        refine wpR_enter (wantG rfl rfl rfl hc231) rfl rfl (x_call (vs := [(Sl.v r88.1), (Sl.v r61.1)]) rfl rfl (mapl_cons rfl (mapl_cons rfl mapl_nil)) Try.func15 NN_15 NB_15) (Calls.mono h ?_)
        rintro _ w29 ⟨r232, rfl, h⟩
        refine ⟨_, rfl, ?_⟩
        refine wpR_val (v := (Value.bool r232)) (w' := w29) rfl rfl rfl (x_pickT (v := (Value.bool r232)) rfl rfl hc231 rfl) ?_
        refine wpR_nil ?_
        exact ⟨r232, ⟨rfl, trivial⟩, h⟩
      · replace h := h.2 hc231
        refine wpR_pass (wantN rfl rfl rfl hc231) rfl rfl ?_
        refine wpR_pass (wantN rfl rfl rfl hc231) rfl rfl ?_
        refine wpR_pass (wantN rfl rfl rfl hc231) rfl rfl ?_
        refine wpR_val (v := (Value.bool false)) (w' := w28) rfl rfl rfl (x_pickF (v := (Value.bool false)) rfl rfl hc231 rfl) ?_
        refine wpR_nil ?_
        exact ⟨false, ⟨rfl, trivial⟩, h⟩
    clear h
    rintro c233 ρ w30 ⟨e114, -⟩ h
    replace h := hk c233 w30 h
    clear hk
    refine wpR_val (v := (Value.bool c233)) (w' := w30) rfl rfl rfl (x_assign (v := (Value.bool c233)) rfl e114) ?_
    refine wpR_nil ?_
    refine wpC_ret ?_
    exact ⟨.inl rfl, fun a ha => ⟨_, results_rep1 rfl ha rfl, c233, rfl, h⟩⟩

/-- linguaref13.Few -/
def F9 (p0_0 : ByteArray) (p0_1 : Int) (p0_2 : Int) (p0_3 : Int) (p0_4 : Bool) (p0_5 : Int) (p0_6 : Bool) (p0_7 : Bool) (p0_8 : Int) (p0_9 : Int) (p0_10 : Int) (p0_11 : Int) (p0_12 : Sl) (p0_13 : Int) (p0_14 : Int) (p0_15 : Int) (p0_16 : Int) (p0_17 : Bool) (p0_18 : Int) (p0_19 : Int) (p0_20 : Int) (p0_21 : Int) (w0 : World) (K : Bool → World → Prop) : Prop :=
  nw 24 (A23 p0_0 p0_1 p0_2 p0_3 p0_4 p0_5 p0_6 p0_7 p0_8 p0_9 p0_10 p0_11 p0_12 p0_13 p0_14 p0_15 p0_16 p0_17 p0_18 p0_19 p0_20 p0_21) w0 fun b9 w1 =>
  lp (fun (next10 : Int → World → Prop) l10 w2 =>
    ld Sl.v ((Addr.mk b9 0 none).add 12) w2 fun x11 =>
    cnd ((decide (l10 < (x11.len : Int))) && (decide (l10 < 13)))
      (
      ld Sl.v ((Addr.mk b9 0 none).add 12) w2 fun x15 =>
      ix x15 l10 1 fun p16 =>
      ld Value.string p16 w2 fun x17 =>
      cnd (decide (60 < (x17.size : Int)))
        (
        K false w2
        )
        (
        next10 (IntKind.i64.wrap (l10 + 1)) w2
        )
      )
      (
      ld Sl.v ((Addr.mk b9 0 none).add 12) w2 fun x19 =>
      jp (fun J20 => cnd (decide ((x19.len : Int) ≤ 12))
        (
        ld Value.string ((Addr.mk b9 0 none).add 0) w2 fun x22 =>
        J20 (decide ((x22.size : Int) ≤ 60))
        )
        (
        J20 false
        ))
      fun c23 =>
      K c23 w2
      )
  ) 0 w1
set_option maxRecDepth 100000 in
theorem D9 (p0_0 : ByteArray) (p0_1 : Int) (p0_2 : Int) (p0_3 : Int) (p0_4 : Bool) (p0_5 : Int) (p0_6 : Bool) (p0_7 : Bool) (p0_8 : Int) (p0_9 : Int) (p0_10 : Int) (p0_11 : Int) (p0_12 : Sl) (p0_13 : Int) (p0_14 : Int) (p0_15 : Int) (p0_16 : Int) (p0_17 : Bool) (p0_18 : Int) (p0_19 : Int) (p0_20 : Int) (p0_21 : Int) (w0 : World) (K : Bool → World → Prop) (h : F9 p0_0 p0_1 p0_2 p0_3 p0_4 p0_5 p0_6 p0_7 p0_8 p0_9 p0_10 p0_11 p0_12 p0_13 p0_14 p0_15 p0_16 p0_17 p0_18 p0_19 p0_20 p0_21 w0 K) : callC Try.prog 9 #[(V23 p0_0 p0_1 p0_2 p0_3 p0_4 p0_5 p0_6 p0_7 p0_8 p0_9 p0_10 p0_11 p0_12 p0_13 p0_14 p0_15 p0_16 p0_17 p0_18 p0_19 p0_20 p0_21)] (fun (r : Bool) => (Value.bool r)) w0 K := by
  unfold F9 at h
  refine calls_of_wpC Try.func9 rfl 32 rfl (by simp) ?_
  intro ρ hρ
  have e0 : ρ 0 = (V23 p0_0 p0_1 p0_2 p0_3 p0_4 p0_5 p0_6 p0_7 p0_8 p0_9 p0_10 p0_11 p0_12 p0_13 p0_14 p0_15 p0_16 p0_17 p0_18 p0_19 p0_20 p0_21) := hρ 0
  clear hρ
  refine wpC_seq ?_
  refine wpC_region ?_
  obtain ⟨b9, hb9⟩ : ∃ u, u = w0.heap.size := ⟨_, rfl⟩
  obtain ⟨w1, hw9⟩ : ∃ u, u = w0.alloc (.cells (A23 p0_0 p0_1 p0_2 p0_3 p0_4 p0_5 p0_6 p0_7 p0_8 p0_9 p0_10 p0_11 p0_12 p0_13 p0_14 p0_15 p0_16 p0_17 p0_18 p0_19 p0_20 p0_21) 24) := ⟨_, rfl⟩
  replace h := h b9 w1 hb9 hw9
  refine wpR_val (v := (Value.pointer (some (Addr.mk b9 0 none)))) (w' := w1) rfl rfl rfl ((x_box (v := (V23 p0_0 p0_1 p0_2 p0_3 p0_4 p0_5 p0_6 p0_7 p0_8 p0_9 p0_10 p0_11 p0_12 p0_13 p0_14 p0_15 p0_16 p0_17 p0_18 p0_19 p0_20 p0_21)) rfl e0).trans (by rw [hb9, hw9]; rfl)) ?_
  refine wpR_val (v := (Value.bool false)) (w' := w1) rfl rfl rfl (x_assign (v := (Value.bool false)) rfl rfl) ?_
  refine wpR_nil ?_
  refine wpC_seq ?_
  refine wpC_seq ?_
  refine wpC_cut (fun ρ => ρ 1 = (Value.pointer (some (Addr.mk b9 0 none))) ∧ True) ⟨rfl, trivial⟩ ?_
  rintro ρ ⟨e1, -⟩
  refine wpC_region ?_
  refine wpR_val (v := (Value.int .i64 0)) (w' := w1) rfl rfl rfl (x_assign (v := (Value.int .i64 0)) rfl rfl) ?_
  refine wpR_nil ?_
  refine wpC_block ?_
  obtain ⟨I10, μ10, hI10, hr10⟩ := h
  refine wpC_loop (fun (x : Int) ρ => ρ 3 = (Value.int .i64 x) ∧ ρ 1 = (Value.pointer (some (Addr.mk b9 0 none))) ∧ True) I10 μ10 0 ⟨rfl, e1, trivial⟩ hI10 ?_
  rintro l10 ρ w2 ⟨e3, e1, -⟩ h
  replace h := hr10 l10 w2 h
  clear hr10 hI10
  refine wpC_seq ?_
  refine wpC_seq ?_
  refine wpC_region ?_
  refine wpR_val (v := (Value.int .i64 l10)) (w' := w2) rfl rfl rfl (x_move (v := (Value.int .i64 l10)) rfl e3) ?_
  refine wpR_val (v := (Value.pointer (some ((Addr.mk b9 0 none).add 12)))) (w' := w2) rfl rfl rfl (x_fieldAddr rfl e1 FA_24_12) ?_
  obtain ⟨x11, q11, h⟩ := h
  refine wpR_val (v := (Sl.v x11)) (w' := w2) rfl rfl rfl (x_load1 rfl rfl SH_22 q11) ?_
  refine wpR_val (v := (Value.int .i64 (x11.len : Int))) (w' := w2) rfl rfl rfl (x_lenS (s := x11) rfl rfl isSliceT_22) ?_
  refine wpR_val (v := (Value.bool (decide (l10 < (x11.len : Int))))) (w' := w2) rfl rfl rfl (x_lss rfl rfl rfl) ?_
  refine wpR_val (v := (Value.bool (decide (l10 < (x11.len : Int))))) (w' := w2) rfl rfl rfl (x_move (v := (Value.bool (decide (l10 < (x11.len : Int))))) rfl rfl) ?_
  refine wpR_joinJ 3 (fun (_ : Unit) ρ => ρ 12 = Value.bool ((decide (l10 < (x11.len : Int))) && (decide (l10 < 13))) ∧ ρ 1 = (Value.pointer (some (Addr.mk b9 0 none))) ∧ ρ 3 = (Value.int .i64 l10) ∧ True) (fun _ w => w2 = w) ?_ ?_
  · clear h
    rcases Bool.eq_false_or_eq_true (decide (l10 < (x11.len : Int))) with hc13 | hc13
    · skip
      refine wpR_val (v := (Value.int .i64 l10)) (w' := w2) (wantG rfl rfl rfl hc13) rfl rfl (x_move (v := (Value.int .i64 l10)) rfl e3) ?_
      refine wpR_val (v := (Value.bool (decide (l10 < 13)))) (w' := w2) (wantG rfl rfl rfl hc13) rfl rfl (x_lss rfl rfl rfl) ?_
      refine wpR_val (v := (Value.bool (decide (l10 < 13)))) (w' := w2) rfl rfl rfl (x_pickT (v := (Value.bool (decide (l10 < 13)))) rfl rfl hc13 rfl) ?_
      refine wpR_nil ?_
      exact ⟨(), ⟨(by rw [hc13]; rfl), e1, e3, trivial⟩, rfl⟩
    · skip
      refine wpR_pass (wantN rfl rfl rfl hc13) rfl rfl ?_
      refine wpR_pass (wantN rfl rfl rfl hc13) rfl rfl ?_
      refine wpR_val (v := (Value.bool false)) (w' := w2) rfl rfl rfl (x_pickF (v := (Value.bool false)) rfl rfl hc13 rfl) ?_
      refine wpR_nil ?_
      exact ⟨(), ⟨(by rw [hc13]; rfl), e1, e3, trivial⟩, rfl⟩
  rintro _ ρ wj ⟨e12, e1, e3, -⟩ rfl
  refine wpR_nil ?_
  refine wpC_cond (b := (decide (l10 < (x11.len : Int))) && (decide (l10 < 13))) e12 (fun hc14 => ?_) (fun hc14 => ?_)
  · replace h := h.1 hc14
    refine wpC_skip ?_
    refine wpC_seq ?_
    refine wpC_block ?_
    refine wpC_seq ?_
    refine wpC_region ?_
    refine wpR_val (v := (Value.pointer (some ((Addr.mk b9 0 none).add 12)))) (w' := w2) rfl rfl rfl (x_fieldAddr rfl e1 FA_24_12) ?_
    obtain ⟨x15, q15, h⟩ := h
    refine wpR_val (v := (Sl.v x15)) (w' := w2) rfl rfl rfl (x_load1 rfl rfl SH_22 q15) ?_
    refine wpR_val (v := (Value.int .i64 l10)) (w' := w2) rfl rfl rfl (x_move (v := (Value.int .i64 l10)) rfl e3) ?_
    obtain ⟨q16, z16, r16, h⟩ := h
    generalize hp16 : z16.add ((l10 : Int).toNat * 1) = p16 at h
    refine wpR_val (v := (Value.pointer (some p16))) (w' := w2) rfl rfl rfl ((x_indexAddr (s := x15) rfl rfl rfl ES_22 q16 r16).trans (by rw [hp16])) ?_
    obtain ⟨x17, q17, h⟩ := h
    refine wpR_val (v := (Value.string x17)) (w' := w2) rfl rfl rfl (x_load1 rfl rfl SH_9 q17) ?_
    refine wpR_val (v := (Value.int .i64 (x17.size : Int))) (w' := w2) rfl rfl rfl (x_lenStr rfl rfl isStrT_9) ?_
    refine wpR_val (v := (Value.bool (decide (60 < (x17.size : Int))))) (w' := w2) rfl rfl rfl (x_gtr rfl rfl rfl) ?_
    refine wpR_nil ?_
    refine wpC_cond (b := decide (60 < (x17.size : Int))) rfl (fun hc18 => ?_) (fun hc18 => ?_)
    · replace h := h.1 hc18
      refine wpC_seq ?_
      refine wpC_cut (fun ρ => True) trivial ?_
      rintro ρ -
      refine wpC_region ?_
      refine wpR_val (v := (Value.bool false)) (w' := w2) rfl rfl rfl (x_assign (v := (Value.bool false)) rfl rfl) ?_
      refine wpR_nil ?_
      refine wpC_ret ?_
      exact ⟨.inl rfl, fun a ha => ⟨_, results_rep1 rfl ha rfl, false, rfl, h⟩⟩
    · replace h := h.2 hc18
      refine wpC_skip ?_
      refine wpC_cut (fun ρ => ρ 1 = (Value.pointer (some (Addr.mk b9 0 none))) ∧ ρ 3 = (Value.int .i64 l10) ∧ True) ⟨e1, e3, trivial⟩ ?_
      rintro ρ ⟨e1, e3, -⟩
      refine wpC_region ?_
      refine wpR_val (v := (Value.int .i64 l10)) (w' := w2) rfl rfl rfl (x_move (v := (Value.int .i64 l10)) rfl e3) ?_
      refine wpR_val (v := (Value.int .i64 (IntKind.i64.wrap (l10 + 1)))) (w' := w2) rfl rfl rfl (x_add rfl rfl rfl) ?_
      refine wpR_val (v := (Value.int .i64 (IntKind.i64.wrap (l10 + 1)))) (w' := w2) rfl rfl rfl (x_assign (v := (Value.int .i64 (IntKind.i64.wrap (l10 + 1)))) rfl rfl) ?_
      refine wpR_nil ?_
      exact ⟨IntKind.i64.wrap (l10 + 1), ⟨rfl, e1, trivial⟩, h⟩
  · replace h := h.2 hc14
    refine wpC_exit ?_
    refine wpC_seq ?_
    refine wpC_region ?_
    refine wpR_val (v := (Value.pointer (some ((Addr.mk b9 0 none).add 12)))) (w' := w2) rfl rfl rfl (x_fieldAddr rfl e1 FA_24_12) ?_
    obtain ⟨x19, q19, h⟩ := h
    refine wpR_val (v := (Sl.v x19)) (w' := w2) rfl rfl rfl (x_load1 rfl rfl SH_22 q19) ?_
    refine wpR_val (v := (Value.int .i64 (x19.len : Int))) (w' := w2) rfl rfl rfl (x_lenS (s := x19) rfl rfl isSliceT_22) ?_
    refine wpR_val (v := (Value.bool (decide ((x19.len : Int) ≤ 12)))) (w' := w2) rfl rfl rfl (x_leq rfl rfl rfl) ?_
    refine wpR_val (v := (Value.bool (decide ((x19.len : Int) ≤ 12)))) (w' := w2) rfl rfl rfl (x_move (v := (Value.bool (decide ((x19.len : Int) ≤ 12)))) rfl rfl) ?_
    obtain ⟨J20, h, hk⟩ := h
    refine wpR_joinJ 5 (fun x ρ => ρ 31 = Value.bool x ∧ True) (fun x w => J20 x ∧ w2 = w) ?_ ?_
    · clear hk
      rcases Bool.eq_false_or_eq_true (decide ((x19.len : Int) ≤ 12)) with hc21 | hc21
      · replace h := h.1 hc21
        refine wpR_val (v := (Value.pointer (some ((Addr.mk b9 0 none).add 0)))) (w' := w2) (wantG rfl rfl rfl hc21) rfl rfl (x_fieldAddr rfl e1 FA_24_0) ?_
        obtain ⟨x22, q22, h⟩ := h
        refine wpR_val (v := (Value.string x22)) (w' := w2) (wantG rfl rfl rfl hc21) rfl rfl (x_load1 rfl rfl SH_9 q22) ?_
        refine wpR_val (v := (Value.int .i64 (x22.size : Int))) (w' := w2) (wantG rfl rfl rfl hc21) rfl rfl (x_lenStr rfl rfl isStrT_9) ?_
        refine wpR_val (v := (Value.bool (decide ((x22.size : Int) ≤ 60)))) (w' := w2) (wantG rfl rfl rfl hc21) rfl rfl (x_leq rfl rfl rfl) ?_
        refine wpR_val (v := (Value.bool (decide ((x22.size : Int) ≤ 60)))) (w' := w2) rfl rfl rfl (x_pickT (v := (Value.bool (decide ((x22.size : Int) ≤ 60)))) rfl rfl hc21 rfl) ?_
        refine wpR_nil ?_
        exact ⟨decide ((x22.size : Int) ≤ 60), ⟨rfl, trivial⟩, h, rfl⟩
      · replace h := h.2 hc21
        refine wpR_pass (wantN rfl rfl rfl hc21) rfl rfl ?_
        refine wpR_pass (wantN rfl rfl rfl hc21) rfl rfl ?_
        refine wpR_pass (wantN rfl rfl rfl hc21) rfl rfl ?_
        refine wpR_pass (wantN rfl rfl rfl hc21) rfl rfl ?_
        refine wpR_val (v := (Value.bool false)) (w' := w2) rfl rfl rfl (x_pickF (v := (Value.bool false)) rfl rfl hc21 rfl) ?_
        refine wpR_nil ?_
        exact ⟨false, ⟨rfl, trivial⟩, h, rfl⟩
    clear h
    rintro c23 ρ wj ⟨e31, -⟩ ⟨h, rfl⟩
    replace h := hk c23 h
    clear hk
    refine wpR_val (v := (Value.bool c23)) (w' := w2) rfl rfl rfl (x_assign (v := (Value.bool c23)) rfl e31) ?_
    refine wpR_nil ?_
    refine wpC_ret ?_
    exact ⟨.inl rfl, fun a ha => ⟨_, results_rep1 rfl ha rfl, c23, rfl, h⟩⟩

/-- loss.Certify -/
def F10 (p0_0 : ByteArray) (p0_1 : Int) (p0_2 : Int) (p0_3 : Int) (p0_4 : Bool) (p0_5 : Int) (p0_6 : Bool) (p0_7 : Bool) (p0_8 : Int) (p0_9 : Int) (p0_10 : Int) (p0_11 : Int) (p0_12 : Sl) (p0_13 : Int) (p0_14 : Int) (p0_15 : Int) (p0_16 : Int) (p0_17 : Bool) (p0_18 : Int) (p0_19 : Int) (p0_20 : Int) (p0_21 : Int) (p1 : Sl) (w0 : World) (K : (Sl × Int) → World → Prop) : Prop :=
  nw 24 (A23 p0_0 p0_1 p0_2 p0_3 p0_4 p0_5 p0_6 p0_7 p0_8 p0_9 p0_10 p0_11 p0_12 p0_13 p0_14 p0_15 p0_16 p0_17 p0_18 p0_19 p0_20 p0_21) w0 fun b9 w1 =>
  L23 (Addr.mk b9 0 none) w1 fun x10 x11 x12 x13 x14 x15 x16 x17 x18 x19 x20 x21 x22 x23 x24 x25 x26 x27 x28 x29 x30 x31 =>
  callC Try.prog 17 #[(V23 x10 x11 x12 x13 x14 x15 x16 x17 x18 x19 x20 x21 x22 x23 x24 x25 x26 x27 x28 x29 x30 x31)] (fun (r : Int) => (Value.int .i64 r)) w1 fun r32 w2 =>
  cnd (!decide (r32 = 0))
    (
    K (Sl.nil, 1) w2
    )
    (
    callC Try.prog 26 #[(Sl.v p1)] (fun (r : Bool) => (Value.bool r)) w2 fun r34 w3 =>
    cnd (!r34)
      (
      K (Sl.nil, 2) w3
      )
      (
      lp (fun (next36 : (Sl × Int) → World → Prop) l36 w4 =>
        cnd (decide (l36.2 < (p1.len : Int)))
          (
          jn (fun (J38 : Sl → World → Prop) =>
            ix p1 l36.2 2 fun p40 =>
            ld (Value.int .i64) (p40.add 0) w4 fun x41 =>
            ld (Value.int .i64) (p40.add 1) w4 fun x42 =>
            nw 46 #[(Value.int .i64 0), (Value.int .i64 0)] w4 fun b43 w6 =>
            st (Addr.mk b43 0 none) [(Value.int .i64 x41), (Value.int .i64 x42)] w6 fun w7 =>
            ld (Value.int .i64) ((Addr.mk b43 0 none).add 0) w7 fun x45 =>
            cnd (!decide (x45 = 0))
              (
              ld (Value.int .i64) ((Addr.mk b43 0 none).add 0) w7 fun x47 =>
              ld (Value.int .i64) ((Addr.mk b43 0 none).add 1) w7 fun x48 =>
              nw 44 #[(Value.int .i64 l36.2), (Value.int .i64 x47), (Value.int .i64 x48)] w7 fun b49 w8 =>
              rn Try.prog (Builtin.append_ #[26, 26] 26 #[Sl.v l36.1, Sl.v (⟨some ⟨b49, 0, none⟩, 1, 1⟩ : Sl)]) Sl.v w8 fun r50 w9 =>
              J38 r50 w9
              )
              (
              J38 l36.1 w7
              )
          )
          fun l39 w5 =>
          next36 (l39, IntKind.i64.wrap (l36.2 + 1)) w5
          )
          (
          K (l36.1, 0) w4
          )
      ) (Sl.nil, 0) w3
      )
    )
set_option maxRecDepth 100000 in
theorem D10 (p0_0 : ByteArray) (p0_1 : Int) (p0_2 : Int) (p0_3 : Int) (p0_4 : Bool) (p0_5 : Int) (p0_6 : Bool) (p0_7 : Bool) (p0_8 : Int) (p0_9 : Int) (p0_10 : Int) (p0_11 : Int) (p0_12 : Sl) (p0_13 : Int) (p0_14 : Int) (p0_15 : Int) (p0_16 : Int) (p0_17 : Bool) (p0_18 : Int) (p0_19 : Int) (p0_20 : Int) (p0_21 : Int) (p1 : Sl) (w0 : World) (K : (Sl × Int) → World → Prop) (h : F10 p0_0 p0_1 p0_2 p0_3 p0_4 p0_5 p0_6 p0_7 p0_8 p0_9 p0_10 p0_11 p0_12 p0_13 p0_14 p0_15 p0_16 p0_17 p0_18 p0_19 p0_20 p0_21 p1 w0 K) : callC Try.prog 10 #[(V23 p0_0 p0_1 p0_2 p0_3 p0_4 p0_5 p0_6 p0_7 p0_8 p0_9 p0_10 p0_11 p0_12 p0_13 p0_14 p0_15 p0_16 p0_17 p0_18 p0_19 p0_20 p0_21), (Sl.v p1)] (fun (r : Sl × Int) => (Value.tuple #[(Sl.v r.1), (Value.int .i64 r.2)])) w0 K := by
  unfold F10 at h
  refine calls_of_wpC Try.func10 rfl 36 rfl (by simp) ?_
  intro ρ hρ
  have e0 : ρ 0 = (V23 p0_0 p0_1 p0_2 p0_3 p0_4 p0_5 p0_6 p0_7 p0_8 p0_9 p0_10 p0_11 p0_12 p0_13 p0_14 p0_15 p0_16 p0_17 p0_18 p0_19 p0_20 p0_21) := hρ 0
  have e1 : ρ 1 = (Sl.v p1) := hρ 1
  clear hρ
  refine wpC_seq ?_
  refine wpC_region ?_
  obtain ⟨b9, hb9⟩ : ∃ u, u = w0.heap.size := ⟨_, rfl⟩
  obtain ⟨w1, hw9⟩ : ∃ u, u = w0.alloc (.cells (A23 p0_0 p0_1 p0_2 p0_3 p0_4 p0_5 p0_6 p0_7 p0_8 p0_9 p0_10 p0_11 p0_12 p0_13 p0_14 p0_15 p0_16 p0_17 p0_18 p0_19 p0_20 p0_21) 24) := ⟨_, rfl⟩
  replace h := h b9 w1 hb9 hw9
  refine wpR_val (v := (Value.pointer (some (Addr.mk b9 0 none)))) (w' := w1) rfl rfl rfl ((x_box (v := (V23 p0_0 p0_1 p0_2 p0_3 p0_4 p0_5 p0_6 p0_7 p0_8 p0_9 p0_10 p0_11 p0_12 p0_13 p0_14 p0_15 p0_16 p0_17 p0_18 p0_19 p0_20 p0_21)) rfl e0).trans (by rw [hb9, hw9]; rfl)) ?_
  refine wpR_val (v := (Sl.v Sl.nil)) (w' := w1) rfl rfl rfl (x_assign (v := (Sl.v Sl.nil)) rfl rfl) ?_
  refine wpR_val (v := (Value.int .i64 0)) (w' := w1) rfl rfl rfl (x_assign (v := (Value.int .i64 0)) rfl rfl) ?_
  refine wpR_nil ?_
  refine wpC_seq ?_
  refine wpC_seq ?_
  refine wpC_cut (fun ρ => ρ 1 = (Sl.v p1) ∧ ρ 2 = (Value.pointer (some (Addr.mk b9 0 none))) ∧ True) ⟨e1, rfl, trivial⟩ ?_
  rintro ρ ⟨e1, e2, -⟩
  refine wpC_region ?_
  obtain ⟨x10, q10, x11, q11, x12, q12, x13, q13, x14, q14, x15, q15, x16, q16, x17, q17, x18, q18, x19, q19, x20, q20, x21, q21, x22, q22, x23, q23, x24, q24, x25, q25, x26, q26, x27, q27, x28, q28, x29, q29, x30, q30, x31, q31, h⟩ := h
  refine wpR_val (v := (V23 x10 x11 x12 x13 x14 x15 x16 x17 x18 x19 x20 x21 x22 x23 x24 x25 x26 x27 x28 x29 x30 x31)) (w' := w1) rfl rfl rfl (x_loadN (S23 x10 x11 x12 x13 x14 x15 x16 x17 x18 x19 x20 x21 x22 x23 x24 x25 x26 x27 x28 x29 x30 x31) rfl e2 SH_24 (K23 ⟨q10, q11, q12, q13, q14, q15, q16, q17, q18, q19, q20, q21, q22, q23, q24, q25, q26, q27, q28, q29, q30, q31⟩)) ?_
  refine wpR_enter rfl rfl rfl (x_call (vs := [(V23 x10 x11 x12 x13 x14 x15 x16 x17 x18 x19 x20 x21 x22 x23 x24 x25 x26 x27 x28 x29 x30 x31)]) rfl rfl (mapl_cons rfl mapl_nil) Try.func17 NN_17 NB_17) (Calls.mono h ?_)
  rintro _ w2 ⟨r32, rfl, h⟩
  refine ⟨_, rfl, ?_⟩
  refine wpR_val (v := (Value.bool (!decide (r32 = 0)))) (w' := w2) rfl rfl rfl (x_neq rfl rfl rfl) ?_
  refine wpR_nil ?_
  refine wpC_cond (b := !decide (r32 = 0)) rfl (fun hc33 => ?_) (fun hc33 => ?_)
  · replace h := h.1 hc33
    refine wpC_seq ?_
    refine wpC_cut (fun ρ => True) trivial ?_
    rintro ρ -
    refine wpC_region ?_
    refine wpR_val (v := (Sl.v Sl.nil)) (w' := w2) rfl rfl rfl (x_assign (v := (Sl.v Sl.nil)) rfl rfl) ?_
    refine wpR_val (v := (Value.int .i64 1)) (w' := w2) rfl rfl rfl (x_assign (v := (Value.int .i64 1)) rfl rfl) ?_
    refine wpR_nil ?_
    refine wpC_ret ?_
    exact ⟨.inl rfl, fun a ha => ⟨_, results_rep2 rfl ha rfl rfl, (Sl.nil, 1), rfl, h⟩⟩
  · replace h := h.2 hc33
    refine wpC_skip ?_
    refine wpC_seq ?_
    refine wpC_seq ?_
    refine wpC_cut (fun ρ => ρ 1 = (Sl.v p1) ∧ True) ⟨e1, trivial⟩ ?_
    rintro ρ ⟨e1, -⟩
    refine wpC_region ?_
    refine wpR_val (v := (Sl.v p1)) (w' := w2) rfl rfl rfl (x_move (v := (Sl.v p1)) rfl e1) ?_
    refine wpR_enter rfl rfl rfl (x_call (vs := [(Sl.v p1)]) rfl rfl (mapl_cons rfl mapl_nil) Try.func26 NN_26 NB_26) (Calls.mono h ?_)
    rintro _ w3 ⟨r34, rfl, h⟩
    refine ⟨_, rfl, ?_⟩
    refine wpR_val (v := (Value.bool (!r34))) (w' := w3) rfl rfl rfl (x_not rfl rfl) ?_
    refine wpR_nil ?_
    refine wpC_cond (b := !r34) rfl (fun hc35 => ?_) (fun hc35 => ?_)
    · replace h := h.1 hc35
      refine wpC_seq ?_
      refine wpC_cut (fun ρ => True) trivial ?_
      rintro ρ -
      refine wpC_region ?_
      refine wpR_val (v := (Sl.v Sl.nil)) (w' := w3) rfl rfl rfl (x_assign (v := (Sl.v Sl.nil)) rfl rfl) ?_
      refine wpR_val (v := (Value.int .i64 2)) (w' := w3) rfl rfl rfl (x_assign (v := (Value.int .i64 2)) rfl rfl) ?_
      refine wpR_nil ?_
      refine wpC_ret ?_
      exact ⟨.inl rfl, fun a ha => ⟨_, results_rep2 rfl ha rfl rfl, (Sl.nil, 2), rfl, h⟩⟩
    · replace h := h.2 hc35
      refine wpC_skip ?_
      refine wpC_seq ?_
      refine wpC_cut (fun ρ => ρ 1 = (Sl.v p1) ∧ True) ⟨e1, trivial⟩ ?_
      rintro ρ ⟨e1, -⟩
      refine wpC_region ?_
      refine wpR_val (v := (Sl.v Sl.nil)) (w' := w3) rfl rfl rfl (x_assign (v := (Sl.v Sl.nil)) rfl rfl) ?_
      refine wpR_nil ?_
      refine wpC_seq ?_
      refine wpC_seq ?_
      refine wpC_cut (fun ρ => ρ 1 = (Sl.v p1) ∧ ρ 6 = (Sl.v Sl.nil) ∧ True) ⟨e1, rfl, trivial⟩ ?_
      rintro ρ ⟨e1, e6, -⟩
      refine wpC_region ?_
      refine wpR_val (v := (Sl.v p1)) (w' := w3) rfl rfl rfl (x_move (v := (Sl.v p1)) rfl e1) ?_
      refine wpR_val (v := (Value.int .i64 (p1.len : Int))) (w' := w3) rfl rfl rfl (x_lenS (s := p1) rfl rfl isSliceT_25) ?_
      refine wpR_val (v := (Value.int .i64 0)) (w' := w3) rfl rfl rfl (x_move (v := (Value.int .i64 0)) rfl rfl) ?_
      refine wpR_nil ?_
      refine wpC_block ?_
      obtain ⟨I36, μ36, hI36, hr36⟩ := h
      refine wpC_loop (fun (x : Sl × Int) ρ => ρ 6 = (Sl.v x.1) ∧ ρ 17 = (Value.int .i64 x.2) ∧ ρ 15 = (Sl.v p1) ∧ ρ 16 = (Value.int .i64 (p1.len : Int)) ∧ True) I36 μ36 (Sl.nil, 0) ⟨e6, rfl, rfl, rfl, trivial⟩ hI36 ?_
      rintro l36 ρ w4 ⟨e6, e17, e15, e16, -⟩ h
      replace h := hr36 l36 w4 h
      clear hr36 hI36
      refine wpC_seq ?_
      refine wpC_region ?_
      refine wpR_val (v := (Value.bool (decide (l36.2 < (p1.len : Int))))) (w' := w4) rfl rfl rfl (x_lss rfl e17 e16) ?_
      refine wpR_nil ?_
      refine wpC_seq ?_
      refine wpC_cond (b := decide (l36.2 < (p1.len : Int))) rfl (fun hc37 => ?_) (fun hc37 => ?_)
      · replace h := h.1 hc37
        refine wpC_skip ?_
        obtain ⟨J38, h, hk⟩ := h
        refine wpC_seqJ (fun (x : Sl) ρ => ρ 6 = (Sl.v x) ∧ ρ 15 = (Sl.v p1) ∧ ρ 16 = (Value.int .i64 (p1.len : Int)) ∧ ρ 17 = (Value.int .i64 l36.2) ∧ True) J38 ?_ ?_
        · clear hk
          refine wpC_block ?_
          refine wpC_seq ?_
          refine wpC_cut (fun ρ => ρ 6 = (Sl.v l36.1) ∧ ρ 15 = (Sl.v p1) ∧ ρ 16 = (Value.int .i64 (p1.len : Int)) ∧ ρ 17 = (Value.int .i64 l36.2) ∧ True) ⟨e6, e15, e16, e17, trivial⟩ ?_
          rintro ρ ⟨e6, e15, e16, e17, -⟩
          refine wpC_region ?_
          refine wpR_val (v := (Value.int .i64 l36.2)) (w' := w4) rfl rfl rfl (x_move (v := (Value.int .i64 l36.2)) rfl e17) ?_
          obtain ⟨q40, z40, r40, h⟩ := h
          generalize hp40 : z40.add ((l36.2 : Int).toNat * 2) = p40 at h
          refine wpR_val (v := (Value.pointer (some p40))) (w' := w4) rfl rfl rfl ((x_indexAddr (s := p1) rfl e15 e17 ES_25 q40 r40).trans (by rw [hp40])) ?_
          obtain ⟨x41, q41, x42, q42, h⟩ := h
          refine wpR_val (v := (Value.agg #[(Value.int .i64 x41), (Value.int .i64 x42)])) (w' := w4) rfl rfl rfl (x_loadN [(Value.int .i64 x41), (Value.int .i64 x42)] rfl rfl SH_46 (CellsAt.out (CellsAt.cons q41 (CellsAt.cons q42 CellsAt.nil)))) ?_
          obtain ⟨b43, hb43⟩ : ∃ u, u = w4.heap.size := ⟨_, rfl⟩
          obtain ⟨w6, hw43⟩ : ∃ u, u = w4.alloc (.cells #[(Value.int .i64 0), (Value.int .i64 0)] 46) := ⟨_, rfl⟩
          replace h := h b43 w6 hb43 hw43
          refine wpR_val (v := (Value.pointer (some (Addr.mk b43 0 none)))) (w' := w6) rfl rfl rfl ((x_alloc rfl ZV_46).trans (by rw [hb43, hw43]; rfl)) ?_
          refine wpR_val (v := (Value.int .i64 l36.2)) (w' := w6) rfl rfl rfl (x_assign (v := (Value.int .i64 l36.2)) rfl rfl) ?_
          obtain ⟨q44, h⟩ := h
          obtain ⟨w7, hw44⟩ : ∃ u, u = setAll w6 (Addr.mk b43 0 none) [(Value.int .i64 x41), (Value.int .i64 x42)] 0 := ⟨_, rfl⟩
          replace h := h w7 hw44
          refine wpR_skp (w' := w7) rfl rfl ((x_store (v := (Value.agg #[(Value.int .i64 x41), (Value.int .i64 x42)])) rfl rfl rfl SZ_46 (ones (by rfl)) q44).trans (by rw [hw44]; rfl)) ?_
          refine wpR_nil ?_
          refine wpC_seq ?_
          refine wpC_cut (fun ρ => ρ 6 = (Sl.v l36.1) ∧ ρ 7 = (Value.int .i64 l36.2) ∧ ρ 8 = (Value.pointer (some (Addr.mk b43 0 none))) ∧ ρ 15 = (Sl.v p1) ∧ ρ 16 = (Value.int .i64 (p1.len : Int)) ∧ ρ 17 = (Value.int .i64 l36.2) ∧ True) ⟨e6, rfl, rfl, e15, e16, e17, trivial⟩ ?_
          rintro ρ ⟨e6, e7, e8, e15, e16, e17, -⟩
          refine wpC_region ?_
          refine wpR_val (v := (Value.pointer (some ((Addr.mk b43 0 none).add 0)))) (w' := w7) rfl rfl rfl (x_fieldAddr rfl e8 FA_46_0) ?_
          obtain ⟨x45, q45, h⟩ := h
          refine wpR_val (v := (Value.int .i64 x45)) (w' := w7) rfl rfl rfl (x_load1 rfl rfl SH_3 q45) ?_
          refine wpR_val (v := (Value.bool (!decide (x45 = 0)))) (w' := w7) rfl rfl rfl (x_neq rfl rfl rfl) ?_
          refine wpR_nil ?_
          refine wpC_cond (b := !decide (x45 = 0)) rfl (fun hc46 => ?_) (fun hc46 => ?_)
          · replace h := h.1 hc46
            refine wpC_cut (fun ρ => ρ 6 = (Sl.v l36.1) ∧ ρ 7 = (Value.int .i64 l36.2) ∧ ρ 8 = (Value.pointer (some (Addr.mk b43 0 none))) ∧ ρ 15 = (Sl.v p1) ∧ ρ 16 = (Value.int .i64 (p1.len : Int)) ∧ ρ 17 = (Value.int .i64 l36.2) ∧ True) ⟨e6, e7, e8, e15, e16, e17, trivial⟩ ?_
            rintro ρ ⟨e6, e7, e8, e15, e16, e17, -⟩
            refine wpC_region ?_
            refine wpR_val (v := (Sl.v l36.1)) (w' := w7) rfl rfl rfl (x_move (v := (Sl.v l36.1)) rfl e6) ?_
            refine wpR_val (v := (Value.int .i64 l36.2)) (w' := w7) rfl rfl rfl (x_move (v := (Value.int .i64 l36.2)) rfl e7) ?_
            refine wpR_val (v := (Value.pointer (some ((Addr.mk b43 0 none).add 0)))) (w' := w7) rfl rfl rfl (x_fieldAddr rfl e8 FA_46_0) ?_
            obtain ⟨x47, q47, h⟩ := h
            refine wpR_val (v := (Value.int .i64 x47)) (w' := w7) rfl rfl rfl (x_load1 rfl rfl SH_3 q47) ?_
            refine wpR_val (v := (Value.pointer (some ((Addr.mk b43 0 none).add 1)))) (w' := w7) rfl rfl rfl (x_fieldAddr rfl e8 FA_46_1) ?_
            obtain ⟨x48, q48, h⟩ := h
            refine wpR_val (v := (Value.int .i64 x48)) (w' := w7) rfl rfl rfl (x_load1 rfl rfl SH_3 q48) ?_
            refine wpR_val (v := (Value.agg #[(Value.int .i64 l36.2), (Value.int .i64 x47), (Value.int .i64 x48)])) (w' := w7) rfl rfl rfl (x_build (qs := [(0, (Value.int .i64 l36.2)), (1, (Value.int .i64 x47)), (2, (Value.int .i64 x48))]) rfl (by rfl) (BD_44_0_1_2 l36.2 x47 x48 _)) ?_
            obtain ⟨b49, hb49⟩ : ∃ u, u = w7.heap.size := ⟨_, rfl⟩
            obtain ⟨w8, hw49⟩ : ∃ u, u = w7.alloc (.cells #[(Value.int .i64 l36.2), (Value.int .i64 x47), (Value.int .i64 x48)] 44) := ⟨_, rfl⟩
            replace h := h b49 w8 hb49 hw49
            refine wpR_val (v := (Sl.v (⟨some ⟨b49, 0, none⟩, 1, 1⟩ : Sl))) (w' := w8) rfl rfl rfl ((x_buildSlice (qs := [(0, (Value.agg #[(Value.int .i64 l36.2), (Value.int .i64 x47), (Value.int .i64 x48)]))]) rfl (by rfl) (BS_26_1_0 l36.2 x47 x48)).trans (by rw [← hb49, ← hw49])) ?_
            obtain ⟨r50, w9, q50, h⟩ := h
            refine wpR_val (v := (Sl.v r50)) (w' := w9) rfl rfl rfl (x_append (s := l36.1) (u := (⟨some ⟨b49, 0, none⟩, 1, 1⟩ : Sl)) rfl rfl rfl rfl q50) ?_
            refine wpR_val (v := (Sl.v r50)) (w' := w9) rfl rfl rfl (x_assign (v := (Sl.v r50)) rfl rfl) ?_
            refine wpR_nil ?_
            exact ⟨r50, ⟨rfl, e15, e16, e17, trivial⟩, h⟩
          · replace h := h.2 hc46
            refine wpC_skip ?_
            exact ⟨l36.1, ⟨e6, e15, e16, e17, trivial⟩, h⟩
        clear h
        rintro l39 ρ w5 ⟨e6, e15, e16, e17, -⟩ h
        replace h := hk l39 w5 h
        clear hk
        refine wpC_region ?_
        refine wpR_val (v := (Value.int .i64 (IntKind.i64.wrap (l36.2 + 1)))) (w' := w5) rfl rfl rfl (x_add rfl e17 rfl) ?_
        refine wpR_val (v := (Value.int .i64 (IntKind.i64.wrap (l36.2 + 1)))) (w' := w5) rfl rfl rfl (x_move (v := (Value.int .i64 (IntKind.i64.wrap (l36.2 + 1)))) rfl rfl) ?_
        refine wpR_nil ?_
        exact ⟨(l39, IntKind.i64.wrap (l36.2 + 1)), ⟨e6, rfl, e15, e16, trivial⟩, h⟩
      · replace h := h.2 hc37
        refine wpC_exit ?_
        refine wpC_seq ?_
        refine wpC_cut (fun ρ => ρ 6 = (Sl.v l36.1) ∧ True) ⟨e6, trivial⟩ ?_
        rintro ρ ⟨e6, -⟩
        refine wpC_region ?_
        refine wpR_val (v := (Sl.v l36.1)) (w' := w4) rfl rfl rfl (x_move (v := (Sl.v l36.1)) rfl e6) ?_
        refine wpR_val (v := (Sl.v l36.1)) (w' := w4) rfl rfl rfl (x_assign (v := (Sl.v l36.1)) rfl rfl) ?_
        refine wpR_val (v := (Value.int .i64 0)) (w' := w4) rfl rfl rfl (x_assign (v := (Value.int .i64 0)) rfl rfl) ?_
        refine wpR_nil ?_
        refine wpC_ret ?_
        exact ⟨.inl rfl, fun a ha => ⟨_, results_rep2 rfl ha rfl rfl, (l36.1, 0), rfl, h⟩⟩

/-- linguaref20.Certify -/
def F11 (p0_0 : ByteArray) (p0_1 : Int) (p0_2 : Int) (p0_3 : Int) (p0_4 : Bool) (p0_5 : Int) (p0_6 : Bool) (p0_7 : Bool) (p0_8 : Int) (p0_9 : Int) (p0_10 : Int) (p0_11 : Int) (p0_12 : Sl) (p0_13 : Int) (p0_14 : Int) (p0_15 : Int) (p0_16 : Int) (p0_17 : Bool) (p0_18 : Int) (p0_19 : Int) (p0_20 : Int) (p0_21 : Int) (p1 : Sl) (w0 : World) (K : (Sl × Int) → World → Prop) : Prop :=
  nw 24 (A23 p0_0 p0_1 p0_2 p0_3 p0_4 p0_5 p0_6 p0_7 p0_8 p0_9 p0_10 p0_11 p0_12 p0_13 p0_14 p0_15 p0_16 p0_17 p0_18 p0_19 p0_20 p0_21) w0 fun b9 w1 =>
  L23 (Addr.mk b9 0 none) w1 fun x10 x11 x12 x13 x14 x15 x16 x17 x18 x19 x20 x21 x22 x23 x24 x25 x26 x27 x28 x29 x30 x31 =>
  callC Try.prog 27 #[(V23 x10 x11 x12 x13 x14 x15 x16 x17 x18 x19 x20 x21 x22 x23 x24 x25 x26 x27 x28 x29 x30 x31)] (fun (r : Int) => (Value.int .i64 r)) w1 fun r32 w2 =>
  cnd (!decide (r32 = 0))
    (
    K (Sl.nil, 1) w2
    )
    (
    callC Try.prog 28 #[(Sl.v p1)] (fun (r : Bool) => (Value.bool r)) w2 fun r34 w3 =>
    cnd (!r34)
      (
      K (Sl.nil, 2) w3
      )
      (
      lp (fun (next36 : (Sl × Int) → World → Prop) l36 w4 =>
        cnd (decide (l36.2 < (p1.len : Int)))
          (
          jn (fun (J38 : Sl → World → Prop) =>
            ix p1 l36.2 2 fun p40 =>
            ld (Value.int .i64) (p40.add 0) w4 fun x41 =>
            cnd (!decide (x41 = 0))
              (
              jn (fun (J44 : Sl → World → Prop) => tk w4 fun w6 =>
                ix p1 l36.2 2 fun p45 =>
                ld (Value.int .i64) (p45.add 0) w6 fun x46 =>
                ix p1 l36.2 2 fun p47 =>
                ld (Value.int .i64) (p47.add 1) w6 fun x48 =>
                nw 44 #[(Value.int .i64 l36.2), (Value.int .i64 x46), (Value.int .i64 x48)] w6 fun b49 w7 =>
                (w7.cell? (p47.add 1) = some (Value.int .i64 x48)) ∧
                (w7.cell? (p45.add 0) = some (Value.int .i64 x46)) ∧
                rn Try.prog (Builtin.append_ #[26, 26] 26 #[Sl.v l36.1, Sl.v (⟨some ⟨b49, 0, none⟩, 1, 1⟩ : Sl)]) Sl.v w7 fun r50 w8 =>
                (w8.cell? (p47.add 1) = some (Value.int .i64 x48)) ∧
                (w8.cell? (p45.add 0) = some (Value.int .i64 x46)) ∧
                J44 r50 w8
              )
              fun l51 w9 =>
              J38 l51 w9
              )
              (
              J38 l36.1 w4
              )
          )
          fun l39 w5 =>
          next36 (l39, IntKind.i64.wrap (l36.2 + 1)) w5
          )
          (
          K (l36.1, 0) w4
          )
      ) (Sl.nil, 0) w3
      )
    )
set_option maxRecDepth 100000 in
theorem D11 (p0_0 : ByteArray) (p0_1 : Int) (p0_2 : Int) (p0_3 : Int) (p0_4 : Bool) (p0_5 : Int) (p0_6 : Bool) (p0_7 : Bool) (p0_8 : Int) (p0_9 : Int) (p0_10 : Int) (p0_11 : Int) (p0_12 : Sl) (p0_13 : Int) (p0_14 : Int) (p0_15 : Int) (p0_16 : Int) (p0_17 : Bool) (p0_18 : Int) (p0_19 : Int) (p0_20 : Int) (p0_21 : Int) (p1 : Sl) (w0 : World) (K : (Sl × Int) → World → Prop) (h : F11 p0_0 p0_1 p0_2 p0_3 p0_4 p0_5 p0_6 p0_7 p0_8 p0_9 p0_10 p0_11 p0_12 p0_13 p0_14 p0_15 p0_16 p0_17 p0_18 p0_19 p0_20 p0_21 p1 w0 K) : callC Try.prog 11 #[(V23 p0_0 p0_1 p0_2 p0_3 p0_4 p0_5 p0_6 p0_7 p0_8 p0_9 p0_10 p0_11 p0_12 p0_13 p0_14 p0_15 p0_16 p0_17 p0_18 p0_19 p0_20 p0_21), (Sl.v p1)] (fun (r : Sl × Int) => (Value.tuple #[(Sl.v r.1), (Value.int .i64 r.2)])) w0 K := by
  unfold F11 at h
  refine calls_of_wpC Try.func11 rfl 42 rfl (by simp) ?_
  intro ρ hρ
  have e0 : ρ 0 = (V23 p0_0 p0_1 p0_2 p0_3 p0_4 p0_5 p0_6 p0_7 p0_8 p0_9 p0_10 p0_11 p0_12 p0_13 p0_14 p0_15 p0_16 p0_17 p0_18 p0_19 p0_20 p0_21) := hρ 0
  have e1 : ρ 1 = (Sl.v p1) := hρ 1
  clear hρ
  refine wpC_seq ?_
  refine wpC_region ?_
  obtain ⟨b9, hb9⟩ : ∃ u, u = w0.heap.size := ⟨_, rfl⟩
  obtain ⟨w1, hw9⟩ : ∃ u, u = w0.alloc (.cells (A23 p0_0 p0_1 p0_2 p0_3 p0_4 p0_5 p0_6 p0_7 p0_8 p0_9 p0_10 p0_11 p0_12 p0_13 p0_14 p0_15 p0_16 p0_17 p0_18 p0_19 p0_20 p0_21) 24) := ⟨_, rfl⟩
  replace h := h b9 w1 hb9 hw9
  refine wpR_val (v := (Value.pointer (some (Addr.mk b9 0 none)))) (w' := w1) rfl rfl rfl ((x_box (v := (V23 p0_0 p0_1 p0_2 p0_3 p0_4 p0_5 p0_6 p0_7 p0_8 p0_9 p0_10 p0_11 p0_12 p0_13 p0_14 p0_15 p0_16 p0_17 p0_18 p0_19 p0_20 p0_21)) rfl e0).trans (by rw [hb9, hw9]; rfl)) ?_
  refine wpR_val (v := (Sl.v Sl.nil)) (w' := w1) rfl rfl rfl (x_assign (v := (Sl.v Sl.nil)) rfl rfl) ?_
  refine wpR_val (v := (Value.int .i64 0)) (w' := w1) rfl rfl rfl (x_assign (v := (Value.int .i64 0)) rfl rfl) ?_
  refine wpR_nil ?_
  refine wpC_seq ?_
  refine wpC_seq ?_
  refine wpC_cut (fun ρ => ρ 1 = (Sl.v p1) ∧ ρ 2 = (Value.pointer (some (Addr.mk b9 0 none))) ∧ True) ⟨e1, rfl, trivial⟩ ?_
  rintro ρ ⟨e1, e2, -⟩
  refine wpC_region ?_
  obtain ⟨x10, q10, x11, q11, x12, q12, x13, q13, x14, q14, x15, q15, x16, q16, x17, q17, x18, q18, x19, q19, x20, q20, x21, q21, x22, q22, x23, q23, x24, q24, x25, q25, x26, q26, x27, q27, x28, q28, x29, q29, x30, q30, x31, q31, h⟩ := h
  refine wpR_val (v := (V23 x10 x11 x12 x13 x14 x15 x16 x17 x18 x19 x20 x21 x22 x23 x24 x25 x26 x27 x28 x29 x30 x31)) (w' := w1) rfl rfl rfl (x_loadN (S23 x10 x11 x12 x13 x14 x15 x16 x17 x18 x19 x20 x21 x22 x23 x24 x25 x26 x27 x28 x29 x30 x31) rfl e2 SH_24 (K23 ⟨q10, q11, q12, q13, q14, q15, q16, q17, q18, q19, q20, q21, q22, q23, q24, q25, q26, q27, q28, q29, q30, q31⟩)) ?_
  refine wpR_enter rfl rfl rfl (x_call (vs := [(V23 x10 x11 x12 x13 x14 x15 x16 x17 x18 x19 x20 x21 x22 x23 x24 x25 x26 x27 x28 x29 x30 x31)]) rfl rfl (mapl_cons rfl mapl_nil) Try.func27 NN_27 NB_27) (Calls.mono h ?_)
  rintro _ w2 ⟨r32, rfl, h⟩
  refine ⟨_, rfl, ?_⟩
  refine wpR_val (v := (Value.bool (!decide (r32 = 0)))) (w' := w2) rfl rfl rfl (x_neq rfl rfl rfl) ?_
  refine wpR_nil ?_
  refine wpC_cond (b := !decide (r32 = 0)) rfl (fun hc33 => ?_) (fun hc33 => ?_)
  · replace h := h.1 hc33
    refine wpC_seq ?_
    refine wpC_cut (fun ρ => True) trivial ?_
    rintro ρ -
    refine wpC_region ?_
    refine wpR_val (v := (Sl.v Sl.nil)) (w' := w2) rfl rfl rfl (x_assign (v := (Sl.v Sl.nil)) rfl rfl) ?_
    refine wpR_val (v := (Value.int .i64 1)) (w' := w2) rfl rfl rfl (x_assign (v := (Value.int .i64 1)) rfl rfl) ?_
    refine wpR_nil ?_
    refine wpC_ret ?_
    exact ⟨.inl rfl, fun a ha => ⟨_, results_rep2 rfl ha rfl rfl, (Sl.nil, 1), rfl, h⟩⟩
  · replace h := h.2 hc33
    refine wpC_skip ?_
    refine wpC_seq ?_
    refine wpC_seq ?_
    refine wpC_cut (fun ρ => ρ 1 = (Sl.v p1) ∧ True) ⟨e1, trivial⟩ ?_
    rintro ρ ⟨e1, -⟩
    refine wpC_region ?_
    refine wpR_val (v := (Sl.v p1)) (w' := w2) rfl rfl rfl (x_move (v := (Sl.v p1)) rfl e1) ?_
    refine wpR_enter rfl rfl rfl (x_call (vs := [(Sl.v p1)]) rfl rfl (mapl_cons rfl mapl_nil) Try.func28 NN_28 NB_28) (Calls.mono h ?_)
    rintro _ w3 ⟨r34, rfl, h⟩
    refine ⟨_, rfl, ?_⟩
    refine wpR_val (v := (Value.bool (!r34))) (w' := w3) rfl rfl rfl (x_not rfl rfl) ?_
    refine wpR_nil ?_
    refine wpC_cond (b := !r34) rfl (fun hc35 => ?_) (fun hc35 => ?_)
    · replace h := h.1 hc35
      refine wpC_seq ?_
      refine wpC_cut (fun ρ => True) trivial ?_
      rintro ρ -
      refine wpC_region ?_
      refine wpR_val (v := (Sl.v Sl.nil)) (w' := w3) rfl rfl rfl (x_assign (v := (Sl.v Sl.nil)) rfl rfl) ?_
      refine wpR_val (v := (Value.int .i64 2)) (w' := w3) rfl rfl rfl (x_assign (v := (Value.int .i64 2)) rfl rfl) ?_
      refine wpR_nil ?_
      refine wpC_ret ?_
      exact ⟨.inl rfl, fun a ha => ⟨_, results_rep2 rfl ha rfl rfl, (Sl.nil, 2), rfl, h⟩⟩
    · replace h := h.2 hc35
      refine wpC_skip ?_
      refine wpC_seq ?_
      refine wpC_cut (fun ρ => ρ 1 = (Sl.v p1) ∧ True) ⟨e1, trivial⟩ ?_
      rintro ρ ⟨e1, -⟩
      refine wpC_region ?_
      refine wpR_val (v := (Sl.v Sl.nil)) (w' := w3) rfl rfl rfl (x_assign (v := (Sl.v Sl.nil)) rfl rfl) ?_
      refine wpR_nil ?_
      refine wpC_seq ?_
      refine wpC_seq ?_
      refine wpC_cut (fun ρ => ρ 1 = (Sl.v p1) ∧ ρ 6 = (Sl.v Sl.nil) ∧ True) ⟨e1, rfl, trivial⟩ ?_
      rintro ρ ⟨e1, e6, -⟩
      refine wpC_region ?_
      refine wpR_val (v := (Value.int .i64 0)) (w' := w3) rfl rfl rfl (x_assign (v := (Value.int .i64 0)) rfl rfl) ?_
      refine wpR_nil ?_
      refine wpC_block ?_
      obtain ⟨I36, μ36, hI36, hr36⟩ := h
      refine wpC_loop (fun (x : Sl × Int) ρ => ρ 6 = (Sl.v x.1) ∧ ρ 7 = (Value.int .i64 x.2) ∧ ρ 1 = (Sl.v p1) ∧ True) I36 μ36 (Sl.nil, 0) ⟨e6, rfl, e1, trivial⟩ hI36 ?_
      rintro l36 ρ w4 ⟨e6, e7, e1, -⟩ h
      replace h := hr36 l36 w4 h
      clear hr36 hI36
      refine wpC_seq ?_
      refine wpC_seq ?_
      refine wpC_region ?_
      refine wpR_val (v := (Value.int .i64 l36.2)) (w' := w4) rfl rfl rfl (x_move (v := (Value.int .i64 l36.2)) rfl e7) ?_
      refine wpR_val (v := (Sl.v p1)) (w' := w4) rfl rfl rfl (x_move (v := (Sl.v p1)) rfl e1) ?_
      refine wpR_val (v := (Value.int .i64 (p1.len : Int))) (w' := w4) rfl rfl rfl (x_lenS (s := p1) rfl rfl isSliceT_25) ?_
      refine wpR_val (v := (Value.bool (decide (l36.2 < (p1.len : Int))))) (w' := w4) rfl rfl rfl (x_lss rfl rfl rfl) ?_
      refine wpR_nil ?_
      refine wpC_cond (b := decide (l36.2 < (p1.len : Int))) rfl (fun hc37 => ?_) (fun hc37 => ?_)
      · replace h := h.1 hc37
        refine wpC_skip ?_
        obtain ⟨J38, h, hk⟩ := h
        refine wpC_seqJ (fun (x : Sl) ρ => ρ 6 = (Sl.v x) ∧ ρ 1 = (Sl.v p1) ∧ ρ 7 = (Value.int .i64 l36.2) ∧ True) J38 ?_ ?_
        · clear hk
          refine wpC_block ?_
          refine wpC_seq ?_
          refine wpC_cut (fun ρ => ρ 1 = (Sl.v p1) ∧ ρ 6 = (Sl.v l36.1) ∧ ρ 7 = (Value.int .i64 l36.2) ∧ True) ⟨e1, e6, e7, trivial⟩ ?_
          rintro ρ ⟨e1, e6, e7, -⟩
          refine wpC_region ?_
          refine wpR_val (v := (Sl.v p1)) (w' := w4) rfl rfl rfl (x_move (v := (Sl.v p1)) rfl e1) ?_
          refine wpR_val (v := (Value.int .i64 l36.2)) (w' := w4) rfl rfl rfl (x_move (v := (Value.int .i64 l36.2)) rfl e7) ?_
          obtain ⟨q40, z40, r40, h⟩ := h
          generalize hp40 : z40.add ((l36.2 : Int).toNat * 2) = p40 at h
          refine wpR_val (v := (Value.pointer (some p40))) (w' := w4) rfl rfl rfl ((x_indexAddr (s := p1) rfl rfl rfl ES_25 q40 r40).trans (by rw [hp40])) ?_
          refine wpR_val (v := (Value.pointer (some (p40.add 0)))) (w' := w4) rfl rfl rfl (x_fieldAddr rfl rfl FA_46_0) ?_
          obtain ⟨x41, q41, h⟩ := h
          refine wpR_val (v := (Value.int .i64 x41)) (w' := w4) rfl rfl rfl (x_load1 rfl rfl SH_3 q41) ?_
          refine wpR_val (v := (Value.bool (!decide (x41 = 0)))) (w' := w4) rfl rfl rfl (x_neq rfl rfl rfl) ?_
          refine wpR_nil ?_
          refine wpC_cond (b := !decide (x41 = 0)) rfl (fun hc42 => ?_) (fun hc42 => ?_)
          · replace h := h.1 hc42
            refine wpC_cut (fun ρ => ρ 1 = (Sl.v p1) ∧ ρ 6 = (Sl.v l36.1) ∧ ρ 7 = (Value.int .i64 l36.2) ∧ True) ⟨e1, e6, e7, trivial⟩ ?_
            rintro ρ ⟨e1, e6, e7, -⟩
            obtain ⟨J44, h, hk⟩ := h
            refine wpC_drawJ (by kernel_rfl) (fun (x : Sl) ρ => ρ 6 = (Sl.v x) ∧ ρ 1 = (Sl.v p1) ∧ ρ 7 = (Value.int .i64 l36.2) ∧ True) J44 ?_ ?_
            · clear hk
              unfold tk at h
              generalize w4.drew = w6 at h ⊢
              refine wpD_take (v := (Sl.v l36.1)) 0 (fun _ => True) rfl (by kernel_rfl) (by kernel_rfl) (by kernel_rfl) rfl rfl rfl trivial (fun w _ => (x_move (v := (Sl.v l36.1)) rfl e6)) ?_
              refine wpD_take (v := (Value.int .i64 l36.2)) 1 (fun _ => True) rfl (by kernel_rfl) (by kernel_rfl) (by kernel_rfl) rfl rfl rfl trivial (fun w _ => (x_move (v := (Value.int .i64 l36.2)) rfl e7)) ?_
              refine wpD_take (v := (Sl.v p1)) 2 (fun _ => True) rfl (by kernel_rfl) (by kernel_rfl) (by kernel_rfl) rfl rfl rfl trivial (fun w _ => (x_move (v := (Sl.v p1)) rfl e1)) ?_
              refine wpD_take (v := (Value.int .i64 l36.2)) 3 (fun _ => True) rfl (by kernel_rfl) (by kernel_rfl) (by kernel_rfl) rfl rfl rfl trivial (fun w _ => (x_move (v := (Value.int .i64 l36.2)) rfl e7)) ?_
              obtain ⟨q45, z45, r45, h⟩ := h
              generalize hp45 : z45.add ((l36.2 : Int).toNat * 2) = p45 at h
              refine wpD_take (v := (Value.pointer (some p45))) 4 (fun _ => True) rfl (by kernel_rfl) (by kernel_rfl) (by kernel_rfl) rfl rfl rfl trivial (fun w _ => ((x_indexAddr (s := p1) rfl rfl rfl ES_25 q45 r45).trans (by rw [hp45]))) ?_
              refine wpD_take (v := (Value.pointer (some (p45.add 0)))) 5 (fun _ => True) rfl (by kernel_rfl) (by kernel_rfl) (by kernel_rfl) rfl rfl rfl trivial (fun w _ => (x_fieldAddr rfl rfl FA_46_0)) ?_
              obtain ⟨x46, q46, h⟩ := h
              refine wpD_take (v := (Value.int .i64 x46)) 6 (fun w => w.cell? (p45.add 0) = some (Value.int .i64 x46)) rfl (by kernel_rfl) (by kernel_rfl) (by kernel_rfl) rfl rfl rfl q46 (fun w q46 => (x_load1 rfl rfl SH_3 q46)) ?_
              refine wpD_take (v := (Sl.v p1)) 7 (fun _ => True) rfl (by kernel_rfl) (by kernel_rfl) (by kernel_rfl) rfl rfl rfl trivial (fun w _ => (x_move (v := (Sl.v p1)) rfl e1)) ?_
              refine wpD_take (v := (Value.int .i64 l36.2)) 8 (fun _ => True) rfl (by kernel_rfl) (by kernel_rfl) (by kernel_rfl) rfl rfl rfl trivial (fun w _ => (x_move (v := (Value.int .i64 l36.2)) rfl e7)) ?_
              obtain ⟨q47, z47, r47, h⟩ := h
              generalize hp47 : z47.add ((l36.2 : Int).toNat * 2) = p47 at h
              refine wpD_take (v := (Value.pointer (some p47))) 9 (fun _ => True) rfl (by kernel_rfl) (by kernel_rfl) (by kernel_rfl) rfl rfl rfl trivial (fun w _ => ((x_indexAddr (s := p1) rfl rfl rfl ES_25 q47 r47).trans (by rw [hp47]))) ?_
              refine wpD_take (v := (Value.pointer (some (p47.add 1)))) 10 (fun _ => True) rfl (by kernel_rfl) (by kernel_rfl) (by kernel_rfl) rfl rfl rfl trivial (fun w _ => (x_fieldAddr rfl rfl FA_46_1)) ?_
              obtain ⟨x48, q48, h⟩ := h
              refine wpD_take (v := (Value.int .i64 x48)) 11 (fun w => w.cell? (p47.add 1) = some (Value.int .i64 x48)) rfl (by kernel_rfl) (by kernel_rfl) (by kernel_rfl) rfl rfl rfl q48 (fun w q48 => (x_load1 rfl rfl SH_3 q48)) ?_
              refine wpD_take (v := (Value.agg #[(Value.int .i64 l36.2), (Value.int .i64 x46), (Value.int .i64 x48)])) 12 (fun _ => True) rfl (by kernel_rfl) (by kernel_rfl) (by kernel_rfl) rfl rfl rfl trivial (fun w _ => (x_build (qs := [(0, (Value.int .i64 l36.2)), (1, (Value.int .i64 x46)), (2, (Value.int .i64 x48))]) rfl (by rfl) (BD_44_0_1_2 l36.2 x46 x48 _))) ?_
              refine wpD_all (rs := [13]) (by kernel_rfl) (by simp) (allD_cons ?_ allD_nil)
              obtain ⟨b49, hb49⟩ : ∃ u, u = w6.heap.size := ⟨_, rfl⟩
              obtain ⟨w7, hw49⟩ : ∃ u, u = w6.alloc (.cells #[(Value.int .i64 l36.2), (Value.int .i64 x46), (Value.int .i64 x48)] 44) := ⟨_, rfl⟩
              replace h := h b49 w7 hb49 hw49
              obtain ⟨o11, h⟩ := h
              obtain ⟨o6, h⟩ := h
              refine stepD_valL (L' := [(11, fun w => w.cell? (p47.add 1) = some (Value.int .i64 x48)), (10, fun _ => True), (9, fun _ => True), (8, fun _ => True), (7, fun _ => True), (6, fun w => w.cell? (p45.add 0) = some (Value.int .i64 x46)), (5, fun _ => True), (4, fun _ => True), (3, fun _ => True), (2, fun _ => True), (1, fun _ => True), (0, fun _ => True)]) (v := (Sl.v (⟨some ⟨b49, 0, none⟩, 1, 1⟩ : Sl))) (w' := w7) rfl rfl rfl rfl ((x_buildSlice (qs := [(0, (Value.agg #[(Value.int .i64 l36.2), (Value.int .i64 x46), (Value.int .i64 x48)]))]) rfl (by rfl) (BS_26_1_0 l36.2 x46 x48)).trans (by rw [← hb49, ← hw49])) (by kernel_rfl) (held_cons o11 (held_cons trivial (held_cons trivial (held_cons trivial (held_cons trivial (held_cons o6 (held_cons trivial (held_cons trivial (held_cons trivial (held_cons trivial (held_cons trivial (held_cons trivial held_nil)))))))))))) ?_
              refine wpD_all (rs := [14]) (by kernel_rfl) (by simp) (allD_cons ?_ allD_nil)
              obtain ⟨r50, w8, q50, h⟩ := h
              obtain ⟨o11, h⟩ := h
              obtain ⟨o6, h⟩ := h
              refine stepD_valL (L' := [(11, fun w => w.cell? (p47.add 1) = some (Value.int .i64 x48)), (10, fun _ => True), (9, fun _ => True), (8, fun _ => True), (7, fun _ => True), (6, fun w => w.cell? (p45.add 0) = some (Value.int .i64 x46)), (5, fun _ => True), (4, fun _ => True), (3, fun _ => True), (2, fun _ => True), (1, fun _ => True)]) (v := (Sl.v r50)) (w' := w8) rfl rfl rfl rfl (x_append (s := l36.1) (u := (⟨some ⟨b49, 0, none⟩, 1, 1⟩ : Sl)) rfl rfl rfl rfl q50) (by kernel_rfl) (held_cons o11 (held_cons trivial (held_cons trivial (held_cons trivial (held_cons trivial (held_cons o6 (held_cons trivial (held_cons trivial (held_cons trivial (held_cons trivial (held_cons trivial held_nil))))))))))) ?_
              refine wpD_take (v := (Sl.v r50)) 15 (fun _ => True) rfl (by kernel_rfl) (by kernel_rfl) (by kernel_rfl) rfl rfl rfl trivial (fun w _ => (x_assign (v := (Sl.v r50)) rfl rfl)) ?_
              exact wpD_done (by kernel_rfl) ⟨r50, ⟨rfl, e1, e7, trivial⟩, h⟩
            clear h
            rintro l51 ρ w9 ⟨e6, e1, e7, -⟩ h
            replace h := hk l51 w9 h
            clear hk
            exact ⟨l51, ⟨e6, e1, e7, trivial⟩, h⟩
          · replace h := h.2 hc42
            refine wpC_skip ?_
            exact ⟨l36.1, ⟨e6, e1, e7, trivial⟩, h⟩
        clear h
        rintro l39 ρ w5 ⟨e6, e1, e7, -⟩ h
        replace h := hk l39 w5 h
        clear hk
        refine wpC_region ?_
        refine wpR_val (v := (Value.int .i64 l36.2)) (w' := w5) rfl rfl rfl (x_move (v := (Value.int .i64 l36.2)) rfl e7) ?_
        refine wpR_val (v := (Value.int .i64 (IntKind.i64.wrap (l36.2 + 1)))) (w' := w5) rfl rfl rfl (x_add rfl rfl rfl) ?_
        refine wpR_val (v := (Value.int .i64 (IntKind.i64.wrap (l36.2 + 1)))) (w' := w5) rfl rfl rfl (x_assign (v := (Value.int .i64 (IntKind.i64.wrap (l36.2 + 1)))) rfl rfl) ?_
        refine wpR_nil ?_
        exact ⟨(l39, IntKind.i64.wrap (l36.2 + 1)), ⟨e6, rfl, e1, trivial⟩, h⟩
      · replace h := h.2 hc37
        refine wpC_exit ?_
        refine wpC_seq ?_
        refine wpC_cut (fun ρ => ρ 6 = (Sl.v l36.1) ∧ True) ⟨e6, trivial⟩ ?_
        rintro ρ ⟨e6, -⟩
        refine wpC_region ?_
        refine wpR_val (v := (Sl.v l36.1)) (w' := w4) rfl rfl rfl (x_move (v := (Sl.v l36.1)) rfl e6) ?_
        refine wpR_val (v := (Sl.v l36.1)) (w' := w4) rfl rfl rfl (x_assign (v := (Sl.v l36.1)) rfl rfl) ?_
        refine wpR_val (v := (Value.int .i64 0)) (w' := w4) rfl rfl rfl (x_assign (v := (Value.int .i64 0)) rfl rfl) ?_
        refine wpR_nil ?_
        refine wpC_ret ?_
        exact ⟨.inl rfl, fun a ha => ⟨_, results_rep2 rfl ha rfl rfl, (l36.1, 0), rfl, h⟩⟩


end Go.Proofs.Ytnoahloppffndaa
