import Derived.Test.YtcnnnhligkpamaaRows
import Derived.Test.YtcnnnhligkpamaaDecRaw
namespace Go.Proofs.Ytcnnnhligkpamaa
open Go.Dec
set_option maxHeartbeats 400000

theorem BD_33_14_15 (y14 : Int) (y15 : Int) : ∀ w, (Instr.build 33 #[(14, (Value.int .i64 y14)), (15, (Value.int .i64 y15))]).run Try.prog w = .ok (Value.agg #[(Value.string (ByteArray.mk #[])), (Value.int .i64 0), (Value.int .i64 0), (Value.int .i64 0), (Value.bool false), (Value.int .i64 0), (Value.bool false), (Value.bool false), (Value.int .i64 0), (Value.int .i64 0), (Value.int .i64 0), (Value.int .i64 0), (Sl.v Sl.nil), (Value.int .i64 0), (Value.int .i64 y14), (Value.int .i64 y15), (Value.int .i64 0), (Value.bool false), (Value.int .i64 0), (Value.int .i64 0), (Value.int .i64 0), (Value.int .i64 0)]) w := fun w => by kernel_rfl
theorem BD_41_3_5_6_7 (y3 : Int) (y5 : Int) (y6 : Int) (y7 : Int) : ∀ w, (Instr.build 41 #[(3, (Value.int .i64 y3)), (5, (Value.int .i64 y5)), (6, (Value.int .i64 y6)), (7, (Value.int .i64 y7))]).run Try.prog w = .ok (Value.agg #[(Value.int .i64 0), (Value.int .i64 0), (Sl.v Sl.nil), (Value.int .i64 y3), (Value.int .i64 0), (Value.int .i64 y5), (Value.int .i64 y6), (Value.int .i64 y7), (Value.int .i64 0), (Value.string (ByteArray.mk #[])), (Sl.v Sl.nil), (Value.int .i64 0)]) w := fun w => by kernel_rfl
theorem BD_43_0_1_2_3 (y0 : Int) (y1 : Int) (y2 : Int) (y3 : Int) : ∀ w, (Instr.build 43 #[(0, (Value.int .i64 y0)), (1, (Value.int .i64 y1)), (2, (Value.int .i64 y2)), (3, (Value.int .i64 y3))]).run Try.prog w = .ok (Value.agg #[(Value.int .i64 y0), (Value.int .i64 y1), (Value.int .i64 y2), (Value.int .i64 y3)]) w := fun w => by kernel_rfl
theorem BD_54_0_1 (y0 : Int) (y1 : Int) : ∀ w, (Instr.build 54 #[(0, (Value.int .i64 y0)), (1, (Value.int .i64 y1))]).run Try.prog w = .ok (Value.agg #[(Value.int .i64 y0), (Value.int .i64 y1)]) w := fun w => by kernel_rfl
theorem BS_22_0_ : ∀ w, (Instr.buildSlice 22 0 #[]).run Try.prog w = .ok (.slice (some ⟨w.heap.size, 0, none⟩) 0 0) (w.alloc (.cells #[] 33)) := fun w => by kernel_rfl
theorem BS_22_1_0 (y0 : ByteArray) (y1 : Int) (y2 : Int) (y3 : Int) (y4 : Bool) (y5 : Int) (y6 : Bool) (y7 : Bool) (y8 : Int) (y9 : Int) (y10 : Int) (y11 : Int) (y12 : Sl) (y13 : Int) (y14 : Int) (y15 : Int) (y16 : Int) (y17 : Bool) (y18 : Int) (y19 : Int) (y20 : Int) (y21 : Int) : ∀ w, (Instr.buildSlice 22 1 #[(0, (Value.agg #[(Value.string y0), (Value.int .i64 y1), (Value.int .i64 y2), (Value.int .i64 y3), (Value.bool y4), (Value.int .i64 y5), (Value.bool y6), (Value.bool y7), (Value.int .i64 y8), (Value.int .i64 y9), (Value.int .i64 y10), (Value.int .i64 y11), (Sl.v y12), (Value.int .i64 y13), (Value.int .i64 y14), (Value.int .i64 y15), (Value.int .i64 y16), (Value.bool y17), (Value.int .i64 y18), (Value.int .i64 y19), (Value.int .i64 y20), (Value.int .i64 y21)]))]).run Try.prog w = .ok (.slice (some ⟨w.heap.size, 0, none⟩) 1 1) (w.alloc (.cells #[(Value.string y0), (Value.int .i64 y1), (Value.int .i64 y2), (Value.int .i64 y3), (Value.bool y4), (Value.int .i64 y5), (Value.bool y6), (Value.bool y7), (Value.int .i64 y8), (Value.int .i64 y9), (Value.int .i64 y10), (Value.int .i64 y11), (Sl.v y12), (Value.int .i64 y13), (Value.int .i64 y14), (Value.int .i64 y15), (Value.int .i64 y16), (Value.bool y17), (Value.int .i64 y18), (Value.int .i64 y19), (Value.int .i64 y20), (Value.int .i64 y21)] 33)) := fun w => by kernel_rfl
theorem BS_22_2_0_1 (y0 : ByteArray) (y1 : Int) (y2 : Int) (y3 : Int) (y4 : Bool) (y5 : Int) (y6 : Bool) (y7 : Bool) (y8 : Int) (y9 : Int) (y10 : Int) (y11 : Int) (y12 : Sl) (y13 : Int) (y14 : Int) (y15 : Int) (y16 : Int) (y17 : Bool) (y18 : Int) (y19 : Int) (y20 : Int) (y21 : Int) (y22 : ByteArray) (y23 : Int) (y24 : Int) (y25 : Int) (y26 : Bool) (y27 : Int) (y28 : Bool) (y29 : Bool) (y30 : Int) (y31 : Int) (y32 : Int) (y33 : Int) (y34 : Sl) (y35 : Int) (y36 : Int) (y37 : Int) (y38 : Int) (y39 : Bool) (y40 : Int) (y41 : Int) (y42 : Int) (y43 : Int) : ∀ w, (Instr.buildSlice 22 2 #[(0, (Value.agg #[(Value.string y0), (Value.int .i64 y1), (Value.int .i64 y2), (Value.int .i64 y3), (Value.bool y4), (Value.int .i64 y5), (Value.bool y6), (Value.bool y7), (Value.int .i64 y8), (Value.int .i64 y9), (Value.int .i64 y10), (Value.int .i64 y11), (Sl.v y12), (Value.int .i64 y13), (Value.int .i64 y14), (Value.int .i64 y15), (Value.int .i64 y16), (Value.bool y17), (Value.int .i64 y18), (Value.int .i64 y19), (Value.int .i64 y20), (Value.int .i64 y21)])), (1, (Value.agg #[(Value.string y22), (Value.int .i64 y23), (Value.int .i64 y24), (Value.int .i64 y25), (Value.bool y26), (Value.int .i64 y27), (Value.bool y28), (Value.bool y29), (Value.int .i64 y30), (Value.int .i64 y31), (Value.int .i64 y32), (Value.int .i64 y33), (Sl.v y34), (Value.int .i64 y35), (Value.int .i64 y36), (Value.int .i64 y37), (Value.int .i64 y38), (Value.bool y39), (Value.int .i64 y40), (Value.int .i64 y41), (Value.int .i64 y42), (Value.int .i64 y43)]))]).run Try.prog w = .ok (.slice (some ⟨w.heap.size, 0, none⟩) 2 2) (w.alloc (.cells #[(Value.string y0), (Value.int .i64 y1), (Value.int .i64 y2), (Value.int .i64 y3), (Value.bool y4), (Value.int .i64 y5), (Value.bool y6), (Value.bool y7), (Value.int .i64 y8), (Value.int .i64 y9), (Value.int .i64 y10), (Value.int .i64 y11), (Sl.v y12), (Value.int .i64 y13), (Value.int .i64 y14), (Value.int .i64 y15), (Value.int .i64 y16), (Value.bool y17), (Value.int .i64 y18), (Value.int .i64 y19), (Value.int .i64 y20), (Value.int .i64 y21), (Value.string y22), (Value.int .i64 y23), (Value.int .i64 y24), (Value.int .i64 y25), (Value.bool y26), (Value.int .i64 y27), (Value.bool y28), (Value.bool y29), (Value.int .i64 y30), (Value.int .i64 y31), (Value.int .i64 y32), (Value.int .i64 y33), (Sl.v y34), (Value.int .i64 y35), (Value.int .i64 y36), (Value.int .i64 y37), (Value.int .i64 y38), (Value.bool y39), (Value.int .i64 y40), (Value.int .i64 y41), (Value.int .i64 y42), (Value.int .i64 y43)] 33)) := fun w => by kernel_rfl
theorem BS_23_8_0_1_2_3_4_5_6_7 (y0 : Int) (y1 : Int) (y2 : Sl) (y3 : Int) (y4 : Int) (y5 : Int) (y6 : Int) (y7 : Int) (y8 : Int) (y9 : ByteArray) (y10 : Sl) (y11 : Int) (y12 : Int) (y13 : Int) (y14 : Sl) (y15 : Int) (y16 : Int) (y17 : Int) (y18 : Int) (y19 : Int) (y20 : Int) (y21 : ByteArray) (y22 : Sl) (y23 : Int) (y24 : Int) (y25 : Int) (y26 : Sl) (y27 : Int) (y28 : Int) (y29 : Int) (y30 : Int) (y31 : Int) (y32 : Int) (y33 : ByteArray) (y34 : Sl) (y35 : Int) (y36 : Int) (y37 : Int) (y38 : Sl) (y39 : Int) (y40 : Int) (y41 : Int) (y42 : Int) (y43 : Int) (y44 : Int) (y45 : ByteArray) (y46 : Sl) (y47 : Int) (y48 : Int) (y49 : Int) (y50 : Sl) (y51 : Int) (y52 : Int) (y53 : Int) (y54 : Int) (y55 : Int) (y56 : Int) (y57 : ByteArray) (y58 : Sl) (y59 : Int) (y60 : Int) (y61 : Int) (y62 : Sl) (y63 : Int) (y64 : Int) (y65 : Int) (y66 : Int) (y67 : Int) (y68 : Int) (y69 : ByteArray) (y70 : Sl) (y71 : Int) (y72 : Int) (y73 : Int) (y74 : Sl) (y75 : Int) (y76 : Int) (y77 : Int) (y78 : Int) (y79 : Int) (y80 : Int) (y81 : ByteArray) (y82 : Sl) (y83 : Int) (y84 : Int) (y85 : Int) (y86 : Sl) (y87 : Int) (y88 : Int) (y89 : Int) (y90 : Int) (y91 : Int) (y92 : Int) (y93 : ByteArray) (y94 : Sl) (y95 : Int) : ∀ w, (Instr.buildSlice 23 8 #[(0, (Value.agg #[(Value.int .i64 y0), (Value.int .i64 y1), (Sl.v y2), (Value.int .i64 y3), (Value.int .i64 y4), (Value.int .i64 y5), (Value.int .i64 y6), (Value.int .i64 y7), (Value.int .i64 y8), (Value.string y9), (Sl.v y10), (Value.int .i64 y11)])), (1, (Value.agg #[(Value.int .i64 y12), (Value.int .i64 y13), (Sl.v y14), (Value.int .i64 y15), (Value.int .i64 y16), (Value.int .i64 y17), (Value.int .i64 y18), (Value.int .i64 y19), (Value.int .i64 y20), (Value.string y21), (Sl.v y22), (Value.int .i64 y23)])), (2, (Value.agg #[(Value.int .i64 y24), (Value.int .i64 y25), (Sl.v y26), (Value.int .i64 y27), (Value.int .i64 y28), (Value.int .i64 y29), (Value.int .i64 y30), (Value.int .i64 y31), (Value.int .i64 y32), (Value.string y33), (Sl.v y34), (Value.int .i64 y35)])), (3, (Value.agg #[(Value.int .i64 y36), (Value.int .i64 y37), (Sl.v y38), (Value.int .i64 y39), (Value.int .i64 y40), (Value.int .i64 y41), (Value.int .i64 y42), (Value.int .i64 y43), (Value.int .i64 y44), (Value.string y45), (Sl.v y46), (Value.int .i64 y47)])), (4, (Value.agg #[(Value.int .i64 y48), (Value.int .i64 y49), (Sl.v y50), (Value.int .i64 y51), (Value.int .i64 y52), (Value.int .i64 y53), (Value.int .i64 y54), (Value.int .i64 y55), (Value.int .i64 y56), (Value.string y57), (Sl.v y58), (Value.int .i64 y59)])), (5, (Value.agg #[(Value.int .i64 y60), (Value.int .i64 y61), (Sl.v y62), (Value.int .i64 y63), (Value.int .i64 y64), (Value.int .i64 y65), (Value.int .i64 y66), (Value.int .i64 y67), (Value.int .i64 y68), (Value.string y69), (Sl.v y70), (Value.int .i64 y71)])), (6, (Value.agg #[(Value.int .i64 y72), (Value.int .i64 y73), (Sl.v y74), (Value.int .i64 y75), (Value.int .i64 y76), (Value.int .i64 y77), (Value.int .i64 y78), (Value.int .i64 y79), (Value.int .i64 y80), (Value.string y81), (Sl.v y82), (Value.int .i64 y83)])), (7, (Value.agg #[(Value.int .i64 y84), (Value.int .i64 y85), (Sl.v y86), (Value.int .i64 y87), (Value.int .i64 y88), (Value.int .i64 y89), (Value.int .i64 y90), (Value.int .i64 y91), (Value.int .i64 y92), (Value.string y93), (Sl.v y94), (Value.int .i64 y95)]))]).run Try.prog w = .ok (.slice (some ⟨w.heap.size, 0, none⟩) 8 8) (w.alloc (.cells #[(Value.int .i64 y0), (Value.int .i64 y1), (Sl.v y2), (Value.int .i64 y3), (Value.int .i64 y4), (Value.int .i64 y5), (Value.int .i64 y6), (Value.int .i64 y7), (Value.int .i64 y8), (Value.string y9), (Sl.v y10), (Value.int .i64 y11), (Value.int .i64 y12), (Value.int .i64 y13), (Sl.v y14), (Value.int .i64 y15), (Value.int .i64 y16), (Value.int .i64 y17), (Value.int .i64 y18), (Value.int .i64 y19), (Value.int .i64 y20), (Value.string y21), (Sl.v y22), (Value.int .i64 y23), (Value.int .i64 y24), (Value.int .i64 y25), (Sl.v y26), (Value.int .i64 y27), (Value.int .i64 y28), (Value.int .i64 y29), (Value.int .i64 y30), (Value.int .i64 y31), (Value.int .i64 y32), (Value.string y33), (Sl.v y34), (Value.int .i64 y35), (Value.int .i64 y36), (Value.int .i64 y37), (Sl.v y38), (Value.int .i64 y39), (Value.int .i64 y40), (Value.int .i64 y41), (Value.int .i64 y42), (Value.int .i64 y43), (Value.int .i64 y44), (Value.string y45), (Sl.v y46), (Value.int .i64 y47), (Value.int .i64 y48), (Value.int .i64 y49), (Sl.v y50), (Value.int .i64 y51), (Value.int .i64 y52), (Value.int .i64 y53), (Value.int .i64 y54), (Value.int .i64 y55), (Value.int .i64 y56), (Value.string y57), (Sl.v y58), (Value.int .i64 y59), (Value.int .i64 y60), (Value.int .i64 y61), (Sl.v y62), (Value.int .i64 y63), (Value.int .i64 y64), (Value.int .i64 y65), (Value.int .i64 y66), (Value.int .i64 y67), (Value.int .i64 y68), (Value.string y69), (Sl.v y70), (Value.int .i64 y71), (Value.int .i64 y72), (Value.int .i64 y73), (Sl.v y74), (Value.int .i64 y75), (Value.int .i64 y76), (Value.int .i64 y77), (Value.int .i64 y78), (Value.int .i64 y79), (Value.int .i64 y80), (Value.string y81), (Sl.v y82), (Value.int .i64 y83), (Value.int .i64 y84), (Value.int .i64 y85), (Sl.v y86), (Value.int .i64 y87), (Value.int .i64 y88), (Value.int .i64 y89), (Value.int .i64 y90), (Value.int .i64 y91), (Value.int .i64 y92), (Value.string y93), (Sl.v y94), (Value.int .i64 y95)] 41)) := fun w => by kernel_rfl
theorem BS_28_1_0 (y0 : Int) : ∀ w, (Instr.buildSlice 28 1 #[(0, (Value.int .i64 y0))]).run Try.prog w = .ok (.slice (some ⟨w.heap.size, 0, none⟩) 1 1) (w.alloc (.cells #[(Value.int .i64 y0)] 3)) := fun w => by kernel_rfl
theorem BS_28_4_0_1_2_3 (y0 : Int) (y1 : Int) (y2 : Int) (y3 : Int) : ∀ w, (Instr.buildSlice 28 4 #[(0, (Value.int .i64 y0)), (1, (Value.int .i64 y1)), (2, (Value.int .i64 y2)), (3, (Value.int .i64 y3))]).run Try.prog w = .ok (.slice (some ⟨w.heap.size, 0, none⟩) 4 4) (w.alloc (.cells #[(Value.int .i64 y0), (Value.int .i64 y1), (Value.int .i64 y2), (Value.int .i64 y3)] 3)) := fun w => by kernel_rfl
theorem BS_28_6_0_1_2_3_4_5 (y0 : Int) (y1 : Int) (y2 : Int) (y3 : Int) (y4 : Int) (y5 : Int) : ∀ w, (Instr.buildSlice 28 6 #[(0, (Value.int .i64 y0)), (1, (Value.int .i64 y1)), (2, (Value.int .i64 y2)), (3, (Value.int .i64 y3)), (4, (Value.int .i64 y4)), (5, (Value.int .i64 y5))]).run Try.prog w = .ok (.slice (some ⟨w.heap.size, 0, none⟩) 6 6) (w.alloc (.cells #[(Value.int .i64 y0), (Value.int .i64 y1), (Value.int .i64 y2), (Value.int .i64 y3), (Value.int .i64 y4), (Value.int .i64 y5)] 3)) := fun w => by kernel_rfl
theorem BS_37_1_0 (y0 : Int) (y1 : Int) (y2 : Int) (y3 : Int) : ∀ w, (Instr.buildSlice 37 1 #[(0, (Value.agg #[(Value.int .i64 y0), (Value.int .i64 y1), (Value.int .i64 y2), (Value.int .i64 y3)]))]).run Try.prog w = .ok (.slice (some ⟨w.heap.size, 0, none⟩) 1 1) (w.alloc (.cells #[(Value.int .i64 y0), (Value.int .i64 y1), (Value.int .i64 y2), (Value.int .i64 y3)] 43)) := fun w => by kernel_rfl
theorem ES_22 : elemSize Try.prog 22 = some 22 := by kernel_rfl
theorem ES_23 : elemSize Try.prog 23 = some 12 := by kernel_rfl
theorem ES_28 : elemSize Try.prog 28 = some 1 := by kernel_rfl
theorem ES_37 : elemSize Try.prog 37 = some 4 := by kernel_rfl
theorem FA_33_14 : fieldOff Try.prog 33 14 = some 14 := by kernel_rfl
theorem FA_33_15 : fieldOff Try.prog 33 15 = some 15 := by kernel_rfl
theorem FA_41_0 : fieldOff Try.prog 41 0 = some 0 := by kernel_rfl
theorem FA_41_10 : fieldOff Try.prog 41 10 = some 10 := by kernel_rfl
theorem FA_41_2 : fieldOff Try.prog 41 2 = some 2 := by kernel_rfl
theorem FA_41_3 : fieldOff Try.prog 41 3 = some 3 := by kernel_rfl
theorem FA_41_4 : fieldOff Try.prog 41 4 = some 4 := by kernel_rfl
theorem FA_41_7 : fieldOff Try.prog 41 7 = some 7 := by kernel_rfl
theorem FA_41_9 : fieldOff Try.prog 41 9 = some 9 := by kernel_rfl
theorem FA_43_0 : fieldOff Try.prog 43 0 = some 0 := by kernel_rfl
theorem FA_43_1 : fieldOff Try.prog 43 1 = some 1 := by kernel_rfl
theorem FA_43_2 : fieldOff Try.prog 43 2 = some 2 := by kernel_rfl
theorem FA_43_3 : fieldOff Try.prog 43 3 = some 3 := by kernel_rfl
theorem FA_54_0 : fieldOff Try.prog 54 0 = some 0 := by kernel_rfl
theorem FA_54_1 : fieldOff Try.prog 54 1 = some 1 := by kernel_rfl
theorem IK_3 : intKindT Try.prog 3 = some .i64 := by kernel_rfl
theorem IK_5 : intKindT Try.prog 5 = some .u8 := by kernel_rfl
theorem NB_10 : Try.f10.body.isNone = false := by kernel_rfl
theorem NN_10 : (Try.f10.name == "runtime.NumGoroutine") = false := by kernel_rfl
theorem NB_11 : Try.f11.body.isNone = false := by kernel_rfl
theorem NN_11 : (Try.f11.name == "runtime.NumGoroutine") = false := by kernel_rfl
theorem NB_12 : Try.f12.body.isNone = false := by kernel_rfl
theorem NN_12 : (Try.f12.name == "runtime.NumGoroutine") = false := by kernel_rfl
theorem NB_13 : Try.f13.body.isNone = false := by kernel_rfl
theorem NN_13 : (Try.f13.name == "runtime.NumGoroutine") = false := by kernel_rfl
theorem NB_14 : Try.f14.body.isNone = false := by kernel_rfl
theorem NN_14 : (Try.f14.name == "runtime.NumGoroutine") = false := by kernel_rfl
theorem NB_15 : Try.f15.body.isNone = false := by kernel_rfl
theorem NN_15 : (Try.f15.name == "runtime.NumGoroutine") = false := by kernel_rfl
theorem NB_16 : Try.f16.body.isNone = false := by kernel_rfl
theorem NN_16 : (Try.f16.name == "runtime.NumGoroutine") = false := by kernel_rfl
theorem NB_17 : Try.f17.body.isNone = false := by kernel_rfl
theorem NN_17 : (Try.f17.name == "runtime.NumGoroutine") = false := by kernel_rfl
theorem NB_18 : Try.f18.body.isNone = false := by kernel_rfl
theorem NN_18 : (Try.f18.name == "runtime.NumGoroutine") = false := by kernel_rfl
theorem NB_19 : Try.f19.body.isNone = false := by kernel_rfl
theorem NN_19 : (Try.f19.name == "runtime.NumGoroutine") = false := by kernel_rfl
theorem NB_20 : Try.f20.body.isNone = false := by kernel_rfl
theorem NN_20 : (Try.f20.name == "runtime.NumGoroutine") = false := by kernel_rfl
theorem NB_21 : Try.f21.body.isNone = false := by kernel_rfl
theorem NN_21 : (Try.f21.name == "runtime.NumGoroutine") = false := by kernel_rfl
theorem NB_22 : Try.f22.body.isNone = false := by kernel_rfl
theorem NN_22 : (Try.f22.name == "runtime.NumGoroutine") = false := by kernel_rfl
theorem NB_23 : Try.f23.body.isNone = false := by kernel_rfl
theorem NN_23 : (Try.f23.name == "runtime.NumGoroutine") = false := by kernel_rfl
theorem NB_24 : Try.f24.body.isNone = false := by kernel_rfl
theorem NN_24 : (Try.f24.name == "runtime.NumGoroutine") = false := by kernel_rfl
theorem NB_25 : Try.f25.body.isNone = false := by kernel_rfl
theorem NN_25 : (Try.f25.name == "runtime.NumGoroutine") = false := by kernel_rfl
theorem NB_26 : Try.f26.body.isNone = false := by kernel_rfl
theorem NN_26 : (Try.f26.name == "runtime.NumGoroutine") = false := by kernel_rfl
theorem NB_27 : Try.f27.body.isNone = false := by kernel_rfl
theorem NN_27 : (Try.f27.name == "runtime.NumGoroutine") = false := by kernel_rfl
theorem NB_28 : Try.f28.body.isNone = false := by kernel_rfl
theorem NN_28 : (Try.f28.name == "runtime.NumGoroutine") = false := by kernel_rfl
theorem NB_29 : Try.f29.body.isNone = false := by kernel_rfl
theorem NN_29 : (Try.f29.name == "runtime.NumGoroutine") = false := by kernel_rfl
theorem NB_30 : Try.f30.body.isNone = false := by kernel_rfl
theorem NN_30 : (Try.f30.name == "runtime.NumGoroutine") = false := by kernel_rfl
theorem NB_31 : Try.f31.body.isNone = false := by kernel_rfl
theorem NN_31 : (Try.f31.name == "runtime.NumGoroutine") = false := by kernel_rfl
theorem NB_32 : Try.f32.body.isNone = false := by kernel_rfl
theorem NN_32 : (Try.f32.name == "runtime.NumGoroutine") = false := by kernel_rfl
theorem NB_33 : Try.f33.body.isNone = false := by kernel_rfl
theorem NN_33 : (Try.f33.name == "runtime.NumGoroutine") = false := by kernel_rfl
theorem NB_34 : Try.f34.body.isNone = false := by kernel_rfl
theorem NN_34 : (Try.f34.name == "runtime.NumGoroutine") = false := by kernel_rfl
theorem NB_35 : Try.f35.body.isNone = false := by kernel_rfl
theorem NN_35 : (Try.f35.name == "runtime.NumGoroutine") = false := by kernel_rfl
theorem NB_36 : Try.f36.body.isNone = false := by kernel_rfl
theorem NN_36 : (Try.f36.name == "runtime.NumGoroutine") = false := by kernel_rfl
theorem NB_37 : Try.f37.body.isNone = false := by kernel_rfl
theorem NN_37 : (Try.f37.name == "runtime.NumGoroutine") = false := by kernel_rfl
theorem NB_38 : Try.f38.body.isNone = false := by kernel_rfl
theorem NN_38 : (Try.f38.name == "runtime.NumGoroutine") = false := by kernel_rfl
theorem NB_39 : Try.f39.body.isNone = false := by kernel_rfl
theorem NN_39 : (Try.f39.name == "runtime.NumGoroutine") = false := by kernel_rfl
theorem NB_40 : Try.f40.body.isNone = false := by kernel_rfl
theorem NN_40 : (Try.f40.name == "runtime.NumGoroutine") = false := by kernel_rfl
theorem NB_41 : Try.f41.body.isNone = false := by kernel_rfl
theorem NN_41 : (Try.f41.name == "runtime.NumGoroutine") = false := by kernel_rfl
theorem NB_42 : Try.f42.body.isNone = false := by kernel_rfl
theorem NN_42 : (Try.f42.name == "runtime.NumGoroutine") = false := by kernel_rfl
theorem NB_43 : Try.f43.body.isNone = false := by kernel_rfl
theorem NN_43 : (Try.f43.name == "runtime.NumGoroutine") = false := by kernel_rfl
theorem NB_7 : Try.f7.body.isNone = false := by kernel_rfl
theorem NN_7 : (Try.f7.name == "runtime.NumGoroutine") = false := by kernel_rfl
theorem NB_8 : Try.f8.body.isNone = false := by kernel_rfl
theorem NN_8 : (Try.f8.name == "runtime.NumGoroutine") = false := by kernel_rfl
theorem NB_9 : Try.f9.body.isNone = false := by kernel_rfl
theorem NN_9 : (Try.f9.name == "runtime.NumGoroutine") = false := by kernel_rfl
theorem SH_22 : shapeT Try.prog 22 = some 0 := by kernel_rfl
theorem SH_23 : shapeT Try.prog 23 = some 0 := by kernel_rfl
theorem SH_28 : shapeT Try.prog 28 = some 0 := by kernel_rfl
theorem SH_3 : shapeT Try.prog 3 = some 0 := by kernel_rfl
theorem SH_33 : shapeT Try.prog 33 = some 23 := by kernel_rfl
theorem SH_37 : shapeT Try.prog 37 = some 0 := by kernel_rfl
theorem SH_41 : shapeT Try.prog 41 = some 13 := by kernel_rfl
theorem SH_43 : shapeT Try.prog 43 = some 5 := by kernel_rfl
theorem SH_54 : shapeT Try.prog 54 = some 3 := by kernel_rfl
theorem SH_9 : shapeT Try.prog 9 = some 0 := by kernel_rfl
theorem SZ_3 : sizeT Try.prog 3 = some 1 := by kernel_rfl
theorem SZ_33 : sizeT Try.prog 33 = some 22 := by kernel_rfl
theorem SZ_37 : sizeT Try.prog 37 = some 1 := by kernel_rfl
theorem SZ_41 : sizeT Try.prog 41 = some 12 := by kernel_rfl
theorem SZ_43 : sizeT Try.prog 43 = some 4 := by kernel_rfl
theorem SZ_54 : sizeT Try.prog 54 = some 2 := by kernel_rfl
theorem ZV_33 : (Try.prog.info? 33).bind (·.zero) = some (Value.agg #[(Value.string (ByteArray.mk #[])), (Value.int .i64 0), (Value.int .i64 0), (Value.int .i64 0), (Value.bool false), (Value.int .i64 0), (Value.bool false), (Value.bool false), (Value.int .i64 0), (Value.int .i64 0), (Value.int .i64 0), (Value.int .i64 0), (Sl.v Sl.nil), (Value.int .i64 0), (Value.int .i64 0), (Value.int .i64 0), (Value.int .i64 0), (Value.bool false), (Value.int .i64 0), (Value.int .i64 0), (Value.int .i64 0), (Value.int .i64 0)]) := by kernel_rfl
theorem ZV_37 : (Try.prog.info? 37).bind (·.zero) = some (Sl.v Sl.nil) := by kernel_rfl
theorem ZV_41 : (Try.prog.info? 41).bind (·.zero) = some (Value.agg #[(Value.int .i64 0), (Value.int .i64 0), (Sl.v Sl.nil), (Value.int .i64 0), (Value.int .i64 0), (Value.int .i64 0), (Value.int .i64 0), (Value.int .i64 0), (Value.int .i64 0), (Value.string (ByteArray.mk #[])), (Sl.v Sl.nil), (Value.int .i64 0)]) := by kernel_rfl
theorem ZV_43 : (Try.prog.info? 43).bind (·.zero) = some (Value.agg #[(Value.int .i64 0), (Value.int .i64 0), (Value.int .i64 0), (Value.int .i64 0)]) := by kernel_rfl
theorem ZV_54 : (Try.prog.info? 54).bind (·.zero) = some (Value.agg #[(Value.int .i64 0), (Value.int .i64 0)]) := by kernel_rfl
theorem isBoolT_4 : isBoolT Try.prog 4 = true := by kernel_rfl
theorem isSliceT_22 : isSliceT Try.prog 22 = true := by kernel_rfl
theorem isSliceT_23 : isSliceT Try.prog 23 = true := by kernel_rfl
theorem isSliceT_28 : isSliceT Try.prog 28 = true := by kernel_rfl
theorem isSliceT_37 : isSliceT Try.prog 37 = true := by kernel_rfl
theorem isStrT_9 : isStrT Try.prog 9 = true := by kernel_rfl

/-- lingualaw18.SightTells -/
def F3 (p0 : Sl) (p1 : Sl) (p2 : Int) (p3 : Int) (p4 : Int) (w0 : World) (K : Bool → World → Prop) : Prop :=
  callC Try.prog 7 #[] (fun (r : Bool) => (Value.bool r)) w0 fun r1 w1 =>
  callC Try.prog 8 #[(Sl.v p0), (Sl.v p1), (Value.int .i64 20)] (fun (r : Bool) => (Value.bool r)) w1 fun r2 w2 =>
  cnd (!r2)
    (
    K r1 w2
    )
    (
    callC Try.prog 9 #[(Sl.v p0), (Sl.v p1), (Value.int .i64 p2), (Value.int .i64 p4)] (fun (r : Bool) => (Value.bool r)) w2 fun r4 w3 =>
    callC Try.prog 10 #[(Sl.v p0), (Sl.v p1), (Value.int .i64 p2), (Value.int .i64 p4)] (fun (r : Bool) => (Value.bool r)) w3 fun r5 w4 =>
    jn (fun J6 => cnd (r4 == r5)
      (
      callC Try.prog 11 #[(Sl.v p0), (Sl.v p1), (Value.int .i64 p3), (Value.int .i64 p4)] (fun (r : Bool) => (Value.bool r)) w4 fun r8 w5 =>
      callC Try.prog 12 #[(Sl.v p0), (Sl.v p1), (Value.int .i64 p3), (Value.int .i64 p4)] (fun (r : Bool) => (Value.bool r)) w5 fun r9 w6 =>
      J6 (r8 == r9) w6
      )
      (
      J6 false w4
      ))
    fun c10 w7 =>
    jn (fun J13 => cnd (r1 && c10)
      (
      callC Try.prog 14 #[(Sl.v p0), (Sl.v p1), (Value.int .i64 p2)] (fun (r : Sl) => (Sl.v r)) w7 fun r15 w8 =>
      callC Try.prog 15 #[(Sl.v p0), (Sl.v p1), (Value.int .i64 p2)] (fun (r : Sl) => (Sl.v r)) w8 fun r16 w9 =>
      callC Try.prog 13 #[(Sl.v r15), (Sl.v r16)] (fun (r : Bool) => (Value.bool r)) w9 fun r17 w10 =>
      J13 r17 w10
      )
      (
      J13 false w7
      ))
    fun c18 w11 =>
    K c18 w11
    )
set_option maxRecDepth 100000 in
theorem D3 (p0 : Sl) (p1 : Sl) (p2 : Int) (p3 : Int) (p4 : Int) (w0 : World) (K : Bool → World → Prop) (h : F3 p0 p1 p2 p3 p4 w0 K) : callC Try.prog 3 #[(Sl.v p0), (Sl.v p1), (Value.int .i64 p2), (Value.int .i64 p3), (Value.int .i64 p4)] (fun (r : Bool) => (Value.bool r)) w0 K := by
  unfold F3 at h
  refine calls_of_wpC Try.func3 rfl 58 rfl (by simp) ?_
  intro ρ hρ
  have e0 : ρ 0 = (Sl.v p0) := hρ 0
  have e1 : ρ 1 = (Sl.v p1) := hρ 1
  have e2 : ρ 2 = (Value.int .i64 p2) := hρ 2
  have e3 : ρ 3 = (Value.int .i64 p3) := hρ 3
  have e4 : ρ 4 = (Value.int .i64 p4) := hρ 4
  clear hρ
  refine wpC_seq ?_
  refine wpC_region ?_
  refine wpR_val (v := (Value.bool false)) (w' := w0) rfl rfl rfl (x_assign (v := (Value.bool false)) rfl rfl) ?_
  refine wpR_nil ?_
  refine wpC_seq ?_
  refine wpC_cut (fun ρ => ρ 0 = (Sl.v p0) ∧ ρ 1 = (Sl.v p1) ∧ ρ 2 = (Value.int .i64 p2) ∧ ρ 3 = (Value.int .i64 p3) ∧ ρ 4 = (Value.int .i64 p4) ∧ True) ⟨e0, e1, e2, e3, e4, trivial⟩ ?_
  rintro ρ ⟨e0, e1, e2, e3, e4, -⟩
  refine wpC_region ?_
  refine wpR_enter rfl rfl rfl (x_call (vs := []) rfl rfl mapl_nil Try.func7 NN_7 NB_7) (Calls.mono h ?_)
  rintro _ w1 ⟨r1, rfl, h⟩
  refine ⟨_, rfl, ?_⟩
  refine wpR_val (v := (Value.bool r1)) (w' := w1) rfl rfl rfl (x_assign (v := (Value.bool r1)) rfl rfl) ?_
  refine wpR_nil ?_
  refine wpC_seq ?_
  refine wpC_seq ?_
  refine wpC_cut (fun ρ => ρ 0 = (Sl.v p0) ∧ ρ 1 = (Sl.v p1) ∧ ρ 2 = (Value.int .i64 p2) ∧ ρ 3 = (Value.int .i64 p3) ∧ ρ 4 = (Value.int .i64 p4) ∧ ρ 11 = (Value.bool r1) ∧ True) ⟨e0, e1, e2, e3, e4, rfl, trivial⟩ ?_
  rintro ρ ⟨e0, e1, e2, e3, e4, e11, -⟩
  refine wpC_region ?_
  refine wpR_val (v := (Sl.v p0)) (w' := w1) rfl rfl rfl (x_move (v := (Sl.v p0)) rfl e0) ?_
  refine wpR_val (v := (Sl.v p1)) (w' := w1) rfl rfl rfl (x_move (v := (Sl.v p1)) rfl e1) ?_
  refine wpR_enter rfl rfl rfl (x_call (vs := [(Sl.v p0), (Sl.v p1), (Value.int .i64 20)]) rfl rfl (mapl_cons rfl (mapl_cons rfl (mapl_cons rfl mapl_nil))) Try.func8 NN_8 NB_8) (Calls.mono h ?_)
  rintro _ w2 ⟨r2, rfl, h⟩
  refine ⟨_, rfl, ?_⟩
  refine wpR_val (v := (Value.bool (!r2))) (w' := w2) rfl rfl rfl (x_not rfl rfl) ?_
  refine wpR_nil ?_
  refine wpC_cond (b := !r2) rfl (fun hc3 => ?_) (fun hc3 => ?_)
  · replace h := h.1 hc3
    refine wpC_seq ?_
    refine wpC_cut (fun ρ => ρ 11 = (Value.bool r1) ∧ True) ⟨e11, trivial⟩ ?_
    rintro ρ ⟨e11, -⟩
    refine wpC_region ?_
    refine wpR_val (v := (Value.bool r1)) (w' := w2) rfl rfl rfl (x_move (v := (Value.bool r1)) rfl e11) ?_
    refine wpR_val (v := (Value.bool r1)) (w' := w2) rfl rfl rfl (x_assign (v := (Value.bool r1)) rfl rfl) ?_
    refine wpR_nil ?_
    refine wpC_ret ?_
    exact ⟨.inl rfl, fun a ha => ⟨_, results_rep1 rfl ha rfl, r1, rfl, h⟩⟩
  · replace h := h.2 hc3
    refine wpC_skip ?_
    refine wpC_seq ?_
    refine wpC_cut (fun ρ => ρ 0 = (Sl.v p0) ∧ ρ 1 = (Sl.v p1) ∧ ρ 2 = (Value.int .i64 p2) ∧ ρ 3 = (Value.int .i64 p3) ∧ ρ 4 = (Value.int .i64 p4) ∧ ρ 11 = (Value.bool r1) ∧ True) ⟨e0, e1, e2, e3, e4, e11, trivial⟩ ?_
    rintro ρ ⟨e0, e1, e2, e3, e4, e11, -⟩
    refine wpC_region ?_
    refine wpR_val (v := (Sl.v p0)) (w' := w2) rfl rfl rfl (x_move (v := (Sl.v p0)) rfl e0) ?_
    refine wpR_val (v := (Sl.v p1)) (w' := w2) rfl rfl rfl (x_move (v := (Sl.v p1)) rfl e1) ?_
    refine wpR_val (v := (Value.int .i64 p2)) (w' := w2) rfl rfl rfl (x_move (v := (Value.int .i64 p2)) rfl e2) ?_
    refine wpR_val (v := (Value.int .i64 p4)) (w' := w2) rfl rfl rfl (x_move (v := (Value.int .i64 p4)) rfl e4) ?_
    refine wpR_enter rfl rfl rfl (x_call (vs := [(Sl.v p0), (Sl.v p1), (Value.int .i64 p2), (Value.int .i64 p4)]) rfl rfl (mapl_cons rfl (mapl_cons rfl (mapl_cons rfl (mapl_cons rfl mapl_nil)))) Try.func9 NN_9 NB_9) (Calls.mono h ?_)
    rintro _ w3 ⟨r4, rfl, h⟩
    refine ⟨_, rfl, ?_⟩
    refine wpR_val (v := (Sl.v p0)) (w' := w3) rfl rfl rfl (x_move (v := (Sl.v p0)) rfl e0) ?_
    refine wpR_val (v := (Sl.v p1)) (w' := w3) rfl rfl rfl (x_move (v := (Sl.v p1)) rfl e1) ?_
    refine wpR_val (v := (Value.int .i64 p2)) (w' := w3) rfl rfl rfl (x_move (v := (Value.int .i64 p2)) rfl e2) ?_
    refine wpR_val (v := (Value.int .i64 p4)) (w' := w3) rfl rfl rfl (x_move (v := (Value.int .i64 p4)) rfl e4) ?_
    refine wpR_enter rfl rfl rfl (x_call (vs := [(Sl.v p0), (Sl.v p1), (Value.int .i64 p2), (Value.int .i64 p4)]) rfl rfl (mapl_cons rfl (mapl_cons rfl (mapl_cons rfl (mapl_cons rfl mapl_nil)))) Try.func10 NN_10 NB_10) (Calls.mono h ?_)
    rintro _ w4 ⟨r5, rfl, h⟩
    refine ⟨_, rfl, ?_⟩
    refine wpR_val (v := (Value.bool (r4 == r5))) (w' := w4) rfl rfl rfl (x_eqlB rfl rfl rfl isBoolT_4) ?_
    refine wpR_val (v := (Value.bool (r4 == r5))) (w' := w4) rfl rfl rfl (x_move (v := (Value.bool (r4 == r5))) rfl rfl) ?_
    obtain ⟨J6, h, hk⟩ := h
    refine wpR_joinJ 12 (fun x ρ => ρ 42 = Value.bool x ∧ ρ 0 = (Sl.v p0) ∧ ρ 1 = (Sl.v p1) ∧ ρ 2 = (Value.int .i64 p2) ∧ ρ 11 = (Value.bool r1) ∧ True) (J6) ?_ ?_
    · clear hk
      rcases Bool.eq_false_or_eq_true (r4 == r5) with hc7 | hc7
      · replace h := h.1 hc7
        refine wpR_val (v := (Sl.v p0)) (w' := w4) (wantG rfl rfl rfl hc7) rfl rfl (x_move (v := (Sl.v p0)) rfl e0) ?_
        refine wpR_val (v := (Sl.v p1)) (w' := w4) (wantG rfl rfl rfl hc7) rfl rfl (x_move (v := (Sl.v p1)) rfl e1) ?_
        refine wpR_val (v := (Value.int .i64 p3)) (w' := w4) (wantG rfl rfl rfl hc7) rfl rfl (x_move (v := (Value.int .i64 p3)) rfl e3) ?_
        refine wpR_val (v := (Value.int .i64 p4)) (w' := w4) (wantG rfl rfl rfl hc7) rfl rfl (x_move (v := (Value.int .i64 p4)) rfl e4) ?_
        refine wpR_enter (wantG rfl rfl rfl hc7) rfl rfl (x_call (vs := [(Sl.v p0), (Sl.v p1), (Value.int .i64 p3), (Value.int .i64 p4)]) rfl rfl (mapl_cons rfl (mapl_cons rfl (mapl_cons rfl (mapl_cons rfl mapl_nil)))) Try.func11 NN_11 NB_11) (Calls.mono h ?_)
        rintro _ w5 ⟨r8, rfl, h⟩
        refine ⟨_, rfl, ?_⟩
        refine wpR_val (v := (Sl.v p0)) (w' := w5) (wantG rfl rfl rfl hc7) rfl rfl (x_move (v := (Sl.v p0)) rfl e0) ?_
        refine wpR_val (v := (Sl.v p1)) (w' := w5) (wantG rfl rfl rfl hc7) rfl rfl (x_move (v := (Sl.v p1)) rfl e1) ?_
        refine wpR_val (v := (Value.int .i64 p3)) (w' := w5) (wantG rfl rfl rfl hc7) rfl rfl (x_move (v := (Value.int .i64 p3)) rfl e3) ?_
        refine wpR_val (v := (Value.int .i64 p4)) (w' := w5) (wantG rfl rfl rfl hc7) rfl rfl (x_move (v := (Value.int .i64 p4)) rfl e4) ?_
        refine wpR_enter (wantG rfl rfl rfl hc7) rfl rfl (x_call (vs := [(Sl.v p0), (Sl.v p1), (Value.int .i64 p3), (Value.int .i64 p4)]) rfl rfl (mapl_cons rfl (mapl_cons rfl (mapl_cons rfl (mapl_cons rfl mapl_nil)))) Try.func12 NN_12 NB_12) (Calls.mono h ?_)
        rintro _ w6 ⟨r9, rfl, h⟩
        refine ⟨_, rfl, ?_⟩
        refine wpR_val (v := (Value.bool (r8 == r9))) (w' := w6) (wantG rfl rfl rfl hc7) rfl rfl (x_eqlB rfl rfl rfl isBoolT_4) ?_
        refine wpR_val (v := (Value.bool (r8 == r9))) (w' := w6) rfl rfl rfl (x_pickT (v := (Value.bool (r8 == r9))) rfl rfl hc7 rfl) ?_
        refine wpR_nil ?_
        exact ⟨r8 == r9, ⟨rfl, e0, e1, e2, e11, trivial⟩, h⟩
      · replace h := h.2 hc7
        refine wpR_pass (wantN rfl rfl rfl hc7) rfl rfl ?_
        refine wpR_pass (wantN rfl rfl rfl hc7) rfl rfl ?_
        refine wpR_pass (wantN rfl rfl rfl hc7) rfl rfl ?_
        refine wpR_pass (wantN rfl rfl rfl hc7) rfl rfl ?_
        refine wpR_pass (wantN rfl rfl rfl hc7) rfl rfl ?_
        refine wpR_pass (wantN rfl rfl rfl hc7) rfl rfl ?_
        refine wpR_pass (wantN rfl rfl rfl hc7) rfl rfl ?_
        refine wpR_pass (wantN rfl rfl rfl hc7) rfl rfl ?_
        refine wpR_pass (wantN rfl rfl rfl hc7) rfl rfl ?_
        refine wpR_pass (wantN rfl rfl rfl hc7) rfl rfl ?_
        refine wpR_pass (wantN rfl rfl rfl hc7) rfl rfl ?_
        refine wpR_val (v := (Value.bool false)) (w' := w4) rfl rfl rfl (x_pickF (v := (Value.bool false)) rfl rfl hc7 rfl) ?_
        refine wpR_nil ?_
        exact ⟨false, ⟨rfl, e0, e1, e2, e11, trivial⟩, h⟩
    clear h
    rintro c10 ρ w7 ⟨e42, e0, e1, e2, e11, -⟩ h
    replace h := hk c10 w7 h
    clear hk
    refine wpR_val (v := (Value.bool c10)) (w' := w7) rfl rfl rfl (x_assign (v := (Value.bool c10)) rfl e42) ?_
    refine wpR_nil ?_
    refine wpC_seq ?_
    refine wpC_cut (fun ρ => ρ 0 = (Sl.v p0) ∧ ρ 1 = (Sl.v p1) ∧ ρ 2 = (Value.int .i64 p2) ∧ ρ 11 = (Value.bool r1) ∧ ρ 12 = (Value.bool c10) ∧ True) ⟨e0, e1, e2, e11, rfl, trivial⟩ ?_
    rintro ρ ⟨e0, e1, e2, e11, e12, -⟩
    refine wpC_region ?_
    refine wpR_val (v := (Value.bool r1)) (w' := w7) rfl rfl rfl (x_move (v := (Value.bool r1)) rfl e11) ?_
    refine wpR_val (v := (Value.bool r1)) (w' := w7) rfl rfl rfl (x_move (v := (Value.bool r1)) rfl rfl) ?_
    refine wpR_joinJ 2 (fun (_ : Unit) ρ => ρ 46 = Value.bool (r1 && c10) ∧ ρ 0 = (Sl.v p0) ∧ ρ 1 = (Sl.v p1) ∧ ρ 2 = (Value.int .i64 p2) ∧ True) (fun _ w => w7 = w) ?_ ?_
    · clear h
      rcases Bool.eq_false_or_eq_true (r1) with hc12 | hc12
      · skip
        refine wpR_val (v := (Value.bool c10)) (w' := w7) (wantG rfl rfl rfl hc12) rfl rfl (x_move (v := (Value.bool c10)) rfl e12) ?_
        refine wpR_val (v := (Value.bool c10)) (w' := w7) rfl rfl rfl (x_pickT (v := (Value.bool c10)) rfl rfl hc12 rfl) ?_
        refine wpR_nil ?_
        exact ⟨(), ⟨(by rw [hc12]; rfl), e0, e1, e2, trivial⟩, rfl⟩
      · skip
        refine wpR_pass (wantN rfl rfl rfl hc12) rfl rfl ?_
        refine wpR_val (v := (Value.bool false)) (w' := w7) rfl rfl rfl (x_pickF (v := (Value.bool false)) rfl rfl hc12 rfl) ?_
        refine wpR_nil ?_
        exact ⟨(), ⟨(by rw [hc12]; rfl), e0, e1, e2, trivial⟩, rfl⟩
    rintro _ ρ wj ⟨e46, e0, e1, e2, -⟩ rfl
    refine wpR_val (v := (Value.bool (r1 && c10))) (w' := w7) rfl rfl rfl (x_move (v := (Value.bool (r1 && c10))) rfl e46) ?_
    obtain ⟨J13, h, hk⟩ := h
    refine wpR_joinJ 10 (fun x ρ => ρ 57 = Value.bool x ∧ True) (J13) ?_ ?_
    · clear hk
      rcases Bool.eq_false_or_eq_true (r1 && c10) with hc14 | hc14
      · replace h := h.1 hc14
        refine wpR_val (v := (Sl.v p0)) (w' := w7) (wantG rfl rfl rfl hc14) rfl rfl (x_move (v := (Sl.v p0)) rfl e0) ?_
        refine wpR_val (v := (Sl.v p1)) (w' := w7) (wantG rfl rfl rfl hc14) rfl rfl (x_move (v := (Sl.v p1)) rfl e1) ?_
        refine wpR_val (v := (Value.int .i64 p2)) (w' := w7) (wantG rfl rfl rfl hc14) rfl rfl (x_move (v := (Value.int .i64 p2)) rfl e2) ?_
        refine wpR_enter (wantG rfl rfl rfl hc14) rfl rfl (x_call (vs := [(Sl.v p0), (Sl.v p1), (Value.int .i64 p2)]) rfl rfl (mapl_cons rfl (mapl_cons rfl (mapl_cons rfl mapl_nil))) Try.func14 NN_14 NB_14) (Calls.mono h ?_)
        rintro _ w8 ⟨r15, rfl, h⟩
        refine ⟨_, rfl, ?_⟩
        refine wpR_val (v := (Sl.v p0)) (w' := w8) (wantG rfl rfl rfl hc14) rfl rfl (x_move (v := (Sl.v p0)) rfl e0) ?_
        refine wpR_val (v := (Sl.v p1)) (w' := w8) (wantG rfl rfl rfl hc14) rfl rfl (x_move (v := (Sl.v p1)) rfl e1) ?_
        refine wpR_val (v := (Value.int .i64 p2)) (w' := w8) (wantG rfl rfl rfl hc14) rfl rfl (x_move (v := (Value.int .i64 p2)) rfl e2) ?_
        refine wpR_enter (wantG rfl rfl rfl hc14) rfl rfl (x_call (vs := [(Sl.v p0), (Sl.v p1), (Value.int .i64 p2)]) rfl rfl (mapl_cons rfl (mapl_cons rfl (mapl_cons rfl mapl_nil))) Try.func15 NN_15 NB_15) (Calls.mono h ?_)
        rintro _ w9 ⟨r16, rfl, h⟩
        refine ⟨_, rfl, ?_⟩
        refine wpR_enter (wantG rfl rfl rfl hc14) rfl rfl (x_call (vs := [(Sl.v r15), (Sl.v r16)]) rfl rfl (mapl_cons rfl (mapl_cons rfl mapl_nil)) Try.func13 NN_13 NB_13) (Calls.mono h ?_)
        rintro _ w10 ⟨r17, rfl, h⟩
        refine ⟨_, rfl, ?_⟩
        refine wpR_val (v := (Value.bool r17)) (w' := w10) rfl rfl rfl (x_pickT (v := (Value.bool r17)) rfl rfl hc14 rfl) ?_
        refine wpR_nil ?_
        exact ⟨r17, ⟨rfl, trivial⟩, h⟩
      · replace h := h.2 hc14
        refine wpR_pass (wantN rfl rfl rfl hc14) rfl rfl ?_
        refine wpR_pass (wantN rfl rfl rfl hc14) rfl rfl ?_
        refine wpR_pass (wantN rfl rfl rfl hc14) rfl rfl ?_
        refine wpR_pass (wantN rfl rfl rfl hc14) rfl rfl ?_
        refine wpR_pass (wantN rfl rfl rfl hc14) rfl rfl ?_
        refine wpR_pass (wantN rfl rfl rfl hc14) rfl rfl ?_
        refine wpR_pass (wantN rfl rfl rfl hc14) rfl rfl ?_
        refine wpR_pass (wantN rfl rfl rfl hc14) rfl rfl ?_
        refine wpR_pass (wantN rfl rfl rfl hc14) rfl rfl ?_
        refine wpR_val (v := (Value.bool false)) (w' := w7) rfl rfl rfl (x_pickF (v := (Value.bool false)) rfl rfl hc14 rfl) ?_
        refine wpR_nil ?_
        exact ⟨false, ⟨rfl, trivial⟩, h⟩
    clear h
    rintro c18 ρ w11 ⟨e57, -⟩ h
    replace h := hk c18 w11 h
    clear hk
    refine wpR_val (v := (Value.bool c18)) (w' := w11) rfl rfl rfl (x_assign (v := (Value.bool c18)) rfl e57) ?_
    refine wpR_nil ?_
    refine wpC_ret ?_
    exact ⟨.inl rfl, fun a ha => ⟨_, results_rep1 rfl ha rfl, c18, rfl, h⟩⟩

/-- lingualaw18.SightLess -/
def F4 (p0 : Sl) (p1 : Sl) (p2_0 : ByteArray) (p2_1 : Int) (p2_2 : Int) (p2_3 : Int) (p2_4 : Bool) (p2_5 : Int) (p2_6 : Bool) (p2_7 : Bool) (p2_8 : Int) (p2_9 : Int) (p2_10 : Int) (p2_11 : Int) (p2_12 : Sl) (p2_13 : Int) (p2_14 : Int) (p2_15 : Int) (p2_16 : Int) (p2_17 : Bool) (p2_18 : Int) (p2_19 : Int) (p2_20 : Int) (p2_21 : Int) (p3 : Int) (w0 : World) (K : Bool → World → Prop) : Prop :=
  nw 33 #[(Value.string p2_0), (Value.int .i64 p2_1), (Value.int .i64 p2_2), (Value.int .i64 p2_3), (Value.bool p2_4), (Value.int .i64 p2_5), (Value.bool p2_6), (Value.bool p2_7), (Value.int .i64 p2_8), (Value.int .i64 p2_9), (Value.int .i64 p2_10), (Value.int .i64 p2_11), (Sl.v p2_12), (Value.int .i64 p2_13), (Value.int .i64 p2_14), (Value.int .i64 p2_15), (Value.int .i64 p2_16), (Value.bool p2_17), (Value.int .i64 p2_18), (Value.int .i64 p2_19), (Value.int .i64 p2_20), (Value.int .i64 p2_21)] w0 fun b1 w1 =>
  callC Try.prog 7 #[] (fun (r : Bool) => (Value.bool r)) w1 fun r2 w2 =>
  callC Try.prog 8 #[(Sl.v p0), (Sl.v p1), (Value.int .i64 20)] (fun (r : Bool) => (Value.bool r)) w2 fun r3 w3 =>
  cnd ((!r3) || (decide (3 < (p0.len : Int))))
    (
    K r2 w3
    )
    (
    jn (fun (J8 : Sl → World → Prop) => tk w3 fun w4 =>
      ld Value.string ((Addr.mk b1 0 none).add 0) w4 fun x9 =>
      ld (Value.int .i64) ((Addr.mk b1 0 none).add 1) w4 fun x10 =>
      ld (Value.int .i64) ((Addr.mk b1 0 none).add 2) w4 fun x11 =>
      ld (Value.int .i64) ((Addr.mk b1 0 none).add 3) w4 fun x12 =>
      ld Value.bool ((Addr.mk b1 0 none).add 4) w4 fun x13 =>
      ld (Value.int .i64) ((Addr.mk b1 0 none).add 5) w4 fun x14 =>
      ld Value.bool ((Addr.mk b1 0 none).add 6) w4 fun x15 =>
      ld Value.bool ((Addr.mk b1 0 none).add 7) w4 fun x16 =>
      ld (Value.int .i64) ((Addr.mk b1 0 none).add 8) w4 fun x17 =>
      ld (Value.int .i64) ((Addr.mk b1 0 none).add 9) w4 fun x18 =>
      ld (Value.int .i64) ((Addr.mk b1 0 none).add 10) w4 fun x19 =>
      ld (Value.int .i64) ((Addr.mk b1 0 none).add 11) w4 fun x20 =>
      ld Sl.v ((Addr.mk b1 0 none).add 12) w4 fun x21 =>
      ld (Value.int .i64) ((Addr.mk b1 0 none).add 13) w4 fun x22 =>
      ld (Value.int .i64) ((Addr.mk b1 0 none).add 14) w4 fun x23 =>
      ld (Value.int .i64) ((Addr.mk b1 0 none).add 15) w4 fun x24 =>
      ld (Value.int .i64) ((Addr.mk b1 0 none).add 16) w4 fun x25 =>
      ld Value.bool ((Addr.mk b1 0 none).add 17) w4 fun x26 =>
      ld (Value.int .i64) ((Addr.mk b1 0 none).add 18) w4 fun x27 =>
      ld (Value.int .i64) ((Addr.mk b1 0 none).add 19) w4 fun x28 =>
      ld (Value.int .i64) ((Addr.mk b1 0 none).add 20) w4 fun x29 =>
      ld (Value.int .i64) ((Addr.mk b1 0 none).add 21) w4 fun x30 =>
      (
        nw 33 #[] w4 fun b31 w5 =>
        (w5.cell? ((Addr.mk b1 0 none).add 0) = some (Value.string x9) ∧ w5.cell? ((Addr.mk b1 0 none).add 1) = some (Value.int .i64 x10) ∧ w5.cell? ((Addr.mk b1 0 none).add 2) = some (Value.int .i64 x11) ∧ w5.cell? ((Addr.mk b1 0 none).add 3) = some (Value.int .i64 x12) ∧ w5.cell? ((Addr.mk b1 0 none).add 4) = some (Value.bool x13) ∧ w5.cell? ((Addr.mk b1 0 none).add 5) = some (Value.int .i64 x14) ∧ w5.cell? ((Addr.mk b1 0 none).add 6) = some (Value.bool x15) ∧ w5.cell? ((Addr.mk b1 0 none).add 7) = some (Value.bool x16) ∧ w5.cell? ((Addr.mk b1 0 none).add 8) = some (Value.int .i64 x17) ∧ w5.cell? ((Addr.mk b1 0 none).add 9) = some (Value.int .i64 x18) ∧ w5.cell? ((Addr.mk b1 0 none).add 10) = some (Value.int .i64 x19) ∧ w5.cell? ((Addr.mk b1 0 none).add 11) = some (Value.int .i64 x20) ∧ w5.cell? ((Addr.mk b1 0 none).add 12) = some (Sl.v x21) ∧ w5.cell? ((Addr.mk b1 0 none).add 13) = some (Value.int .i64 x22) ∧ w5.cell? ((Addr.mk b1 0 none).add 14) = some (Value.int .i64 x23) ∧ w5.cell? ((Addr.mk b1 0 none).add 15) = some (Value.int .i64 x24) ∧ w5.cell? ((Addr.mk b1 0 none).add 16) = some (Value.int .i64 x25) ∧ w5.cell? ((Addr.mk b1 0 none).add 17) = some (Value.bool x26) ∧ w5.cell? ((Addr.mk b1 0 none).add 18) = some (Value.int .i64 x27) ∧ w5.cell? ((Addr.mk b1 0 none).add 19) = some (Value.int .i64 x28) ∧ w5.cell? ((Addr.mk b1 0 none).add 20) = some (Value.int .i64 x29) ∧ w5.cell? ((Addr.mk b1 0 none).add 21) = some (Value.int .i64 x30)) ∧
        (
          rn Try.prog (Builtin.append_ #[22, 22] 22 #[Sl.v (⟨some ⟨b31, 0, none⟩, 0, 0⟩ : Sl), Sl.v p0]) Sl.v w5 fun r32 w6 =>
          (w6.cell? ((Addr.mk b1 0 none).add 0) = some (Value.string x9) ∧ w6.cell? ((Addr.mk b1 0 none).add 1) = some (Value.int .i64 x10) ∧ w6.cell? ((Addr.mk b1 0 none).add 2) = some (Value.int .i64 x11) ∧ w6.cell? ((Addr.mk b1 0 none).add 3) = some (Value.int .i64 x12) ∧ w6.cell? ((Addr.mk b1 0 none).add 4) = some (Value.bool x13) ∧ w6.cell? ((Addr.mk b1 0 none).add 5) = some (Value.int .i64 x14) ∧ w6.cell? ((Addr.mk b1 0 none).add 6) = some (Value.bool x15) ∧ w6.cell? ((Addr.mk b1 0 none).add 7) = some (Value.bool x16) ∧ w6.cell? ((Addr.mk b1 0 none).add 8) = some (Value.int .i64 x17) ∧ w6.cell? ((Addr.mk b1 0 none).add 9) = some (Value.int .i64 x18) ∧ w6.cell? ((Addr.mk b1 0 none).add 10) = some (Value.int .i64 x19) ∧ w6.cell? ((Addr.mk b1 0 none).add 11) = some (Value.int .i64 x20) ∧ w6.cell? ((Addr.mk b1 0 none).add 12) = some (Sl.v x21) ∧ w6.cell? ((Addr.mk b1 0 none).add 13) = some (Value.int .i64 x22) ∧ w6.cell? ((Addr.mk b1 0 none).add 14) = some (Value.int .i64 x23) ∧ w6.cell? ((Addr.mk b1 0 none).add 15) = some (Value.int .i64 x24) ∧ w6.cell? ((Addr.mk b1 0 none).add 16) = some (Value.int .i64 x25) ∧ w6.cell? ((Addr.mk b1 0 none).add 17) = some (Value.bool x26) ∧ w6.cell? ((Addr.mk b1 0 none).add 18) = some (Value.int .i64 x27) ∧ w6.cell? ((Addr.mk b1 0 none).add 19) = some (Value.int .i64 x28) ∧ w6.cell? ((Addr.mk b1 0 none).add 20) = some (Value.int .i64 x29) ∧ w6.cell? ((Addr.mk b1 0 none).add 21) = some (Value.int .i64 x30)) ∧
          nw 33 #[(Value.string x9), (Value.int .i64 x10), (Value.int .i64 x11), (Value.int .i64 x12), (Value.bool x13), (Value.int .i64 x14), (Value.bool x15), (Value.bool x16), (Value.int .i64 x17), (Value.int .i64 x18), (Value.int .i64 x19), (Value.int .i64 x20), (Sl.v x21), (Value.int .i64 x22), (Value.int .i64 x23), (Value.int .i64 x24), (Value.int .i64 x25), (Value.bool x26), (Value.int .i64 x27), (Value.int .i64 x28), (Value.int .i64 x29), (Value.int .i64 x30)] w6 fun b33 w7 =>
          rn Try.prog (Builtin.append_ #[22, 22] 22 #[Sl.v r32, Sl.v (⟨some ⟨b33, 0, none⟩, 1, 1⟩ : Sl)]) Sl.v w7 fun r34 w8 =>
          J8 r34 w8
        )
        ∧
        (
          nw 33 #[(Value.string x9), (Value.int .i64 x10), (Value.int .i64 x11), (Value.int .i64 x12), (Value.bool x13), (Value.int .i64 x14), (Value.bool x15), (Value.bool x16), (Value.int .i64 x17), (Value.int .i64 x18), (Value.int .i64 x19), (Value.int .i64 x20), (Sl.v x21), (Value.int .i64 x22), (Value.int .i64 x23), (Value.int .i64 x24), (Value.int .i64 x25), (Value.bool x26), (Value.int .i64 x27), (Value.int .i64 x28), (Value.int .i64 x29), (Value.int .i64 x30)] w5 fun b35 w9 =>
          rn Try.prog (Builtin.append_ #[22, 22] 22 #[Sl.v (⟨some ⟨b31, 0, none⟩, 0, 0⟩ : Sl), Sl.v p0]) Sl.v w9 fun r36 w10 =>
          rn Try.prog (Builtin.append_ #[22, 22] 22 #[Sl.v r36, Sl.v (⟨some ⟨b35, 0, none⟩, 1, 1⟩ : Sl)]) Sl.v w10 fun r37 w11 =>
          J8 r37 w11
        )
      )
      ∧
      (
        nw 33 #[(Value.string x9), (Value.int .i64 x10), (Value.int .i64 x11), (Value.int .i64 x12), (Value.bool x13), (Value.int .i64 x14), (Value.bool x15), (Value.bool x16), (Value.int .i64 x17), (Value.int .i64 x18), (Value.int .i64 x19), (Value.int .i64 x20), (Sl.v x21), (Value.int .i64 x22), (Value.int .i64 x23), (Value.int .i64 x24), (Value.int .i64 x25), (Value.bool x26), (Value.int .i64 x27), (Value.int .i64 x28), (Value.int .i64 x29), (Value.int .i64 x30)] w4 fun b38 w12 =>
        nw 33 #[] w12 fun b39 w13 =>
        rn Try.prog (Builtin.append_ #[22, 22] 22 #[Sl.v (⟨some ⟨b39, 0, none⟩, 0, 0⟩ : Sl), Sl.v p0]) Sl.v w13 fun r40 w14 =>
        rn Try.prog (Builtin.append_ #[22, 22] 22 #[Sl.v r40, Sl.v (⟨some ⟨b38, 0, none⟩, 1, 1⟩ : Sl)]) Sl.v w14 fun r41 w15 =>
        J8 r41 w15
      )
    )
    fun l42 w16 =>
    jn (fun (J44 : Sl → World → Prop) => tk w16 fun w17 =>
      ld Value.string ((Addr.mk b1 0 none).add 0) w17 fun x45 =>
      ld (Value.int .i64) ((Addr.mk b1 0 none).add 1) w17 fun x46 =>
      ld (Value.int .i64) ((Addr.mk b1 0 none).add 2) w17 fun x47 =>
      ld (Value.int .i64) ((Addr.mk b1 0 none).add 3) w17 fun x48 =>
      ld Value.bool ((Addr.mk b1 0 none).add 4) w17 fun x49 =>
      ld (Value.int .i64) ((Addr.mk b1 0 none).add 5) w17 fun x50 =>
      ld Value.bool ((Addr.mk b1 0 none).add 6) w17 fun x51 =>
      ld Value.bool ((Addr.mk b1 0 none).add 7) w17 fun x52 =>
      ld (Value.int .i64) ((Addr.mk b1 0 none).add 8) w17 fun x53 =>
      ld (Value.int .i64) ((Addr.mk b1 0 none).add 9) w17 fun x54 =>
      ld (Value.int .i64) ((Addr.mk b1 0 none).add 10) w17 fun x55 =>
      ld (Value.int .i64) ((Addr.mk b1 0 none).add 11) w17 fun x56 =>
      ld Sl.v ((Addr.mk b1 0 none).add 12) w17 fun x57 =>
      ld (Value.int .i64) ((Addr.mk b1 0 none).add 13) w17 fun x58 =>
      ld (Value.int .i64) ((Addr.mk b1 0 none).add 14) w17 fun x59 =>
      ld (Value.int .i64) ((Addr.mk b1 0 none).add 15) w17 fun x60 =>
      ld (Value.int .i64) ((Addr.mk b1 0 none).add 16) w17 fun x61 =>
      ld Value.bool ((Addr.mk b1 0 none).add 17) w17 fun x62 =>
      ld (Value.int .i64) ((Addr.mk b1 0 none).add 18) w17 fun x63 =>
      ld (Value.int .i64) ((Addr.mk b1 0 none).add 19) w17 fun x64 =>
      ld (Value.int .i64) ((Addr.mk b1 0 none).add 20) w17 fun x65 =>
      ld (Value.int .i64) ((Addr.mk b1 0 none).add 21) w17 fun x66 =>
      (
        nw 33 #[] w17 fun b67 w18 =>
        (w18.cell? ((Addr.mk b1 0 none).add 0) = some (Value.string x45) ∧ w18.cell? ((Addr.mk b1 0 none).add 1) = some (Value.int .i64 x46) ∧ w18.cell? ((Addr.mk b1 0 none).add 2) = some (Value.int .i64 x47) ∧ w18.cell? ((Addr.mk b1 0 none).add 3) = some (Value.int .i64 x48) ∧ w18.cell? ((Addr.mk b1 0 none).add 4) = some (Value.bool x49) ∧ w18.cell? ((Addr.mk b1 0 none).add 5) = some (Value.int .i64 x50) ∧ w18.cell? ((Addr.mk b1 0 none).add 6) = some (Value.bool x51) ∧ w18.cell? ((Addr.mk b1 0 none).add 7) = some (Value.bool x52) ∧ w18.cell? ((Addr.mk b1 0 none).add 8) = some (Value.int .i64 x53) ∧ w18.cell? ((Addr.mk b1 0 none).add 9) = some (Value.int .i64 x54) ∧ w18.cell? ((Addr.mk b1 0 none).add 10) = some (Value.int .i64 x55) ∧ w18.cell? ((Addr.mk b1 0 none).add 11) = some (Value.int .i64 x56) ∧ w18.cell? ((Addr.mk b1 0 none).add 12) = some (Sl.v x57) ∧ w18.cell? ((Addr.mk b1 0 none).add 13) = some (Value.int .i64 x58) ∧ w18.cell? ((Addr.mk b1 0 none).add 14) = some (Value.int .i64 x59) ∧ w18.cell? ((Addr.mk b1 0 none).add 15) = some (Value.int .i64 x60) ∧ w18.cell? ((Addr.mk b1 0 none).add 16) = some (Value.int .i64 x61) ∧ w18.cell? ((Addr.mk b1 0 none).add 17) = some (Value.bool x62) ∧ w18.cell? ((Addr.mk b1 0 none).add 18) = some (Value.int .i64 x63) ∧ w18.cell? ((Addr.mk b1 0 none).add 19) = some (Value.int .i64 x64) ∧ w18.cell? ((Addr.mk b1 0 none).add 20) = some (Value.int .i64 x65) ∧ w18.cell? ((Addr.mk b1 0 none).add 21) = some (Value.int .i64 x66)) ∧
        (
          rn Try.prog (Builtin.append_ #[22, 22] 22 #[Sl.v (⟨some ⟨b67, 0, none⟩, 0, 0⟩ : Sl), Sl.v l42]) Sl.v w18 fun r68 w19 =>
          (w19.cell? ((Addr.mk b1 0 none).add 0) = some (Value.string x45) ∧ w19.cell? ((Addr.mk b1 0 none).add 1) = some (Value.int .i64 x46) ∧ w19.cell? ((Addr.mk b1 0 none).add 2) = some (Value.int .i64 x47) ∧ w19.cell? ((Addr.mk b1 0 none).add 3) = some (Value.int .i64 x48) ∧ w19.cell? ((Addr.mk b1 0 none).add 4) = some (Value.bool x49) ∧ w19.cell? ((Addr.mk b1 0 none).add 5) = some (Value.int .i64 x50) ∧ w19.cell? ((Addr.mk b1 0 none).add 6) = some (Value.bool x51) ∧ w19.cell? ((Addr.mk b1 0 none).add 7) = some (Value.bool x52) ∧ w19.cell? ((Addr.mk b1 0 none).add 8) = some (Value.int .i64 x53) ∧ w19.cell? ((Addr.mk b1 0 none).add 9) = some (Value.int .i64 x54) ∧ w19.cell? ((Addr.mk b1 0 none).add 10) = some (Value.int .i64 x55) ∧ w19.cell? ((Addr.mk b1 0 none).add 11) = some (Value.int .i64 x56) ∧ w19.cell? ((Addr.mk b1 0 none).add 12) = some (Sl.v x57) ∧ w19.cell? ((Addr.mk b1 0 none).add 13) = some (Value.int .i64 x58) ∧ w19.cell? ((Addr.mk b1 0 none).add 14) = some (Value.int .i64 x59) ∧ w19.cell? ((Addr.mk b1 0 none).add 15) = some (Value.int .i64 x60) ∧ w19.cell? ((Addr.mk b1 0 none).add 16) = some (Value.int .i64 x61) ∧ w19.cell? ((Addr.mk b1 0 none).add 17) = some (Value.bool x62) ∧ w19.cell? ((Addr.mk b1 0 none).add 18) = some (Value.int .i64 x63) ∧ w19.cell? ((Addr.mk b1 0 none).add 19) = some (Value.int .i64 x64) ∧ w19.cell? ((Addr.mk b1 0 none).add 20) = some (Value.int .i64 x65) ∧ w19.cell? ((Addr.mk b1 0 none).add 21) = some (Value.int .i64 x66)) ∧
          nw 33 #[(Value.string x45), (Value.int .i64 x46), (Value.int .i64 x47), (Value.int .i64 x48), (Value.bool x49), (Value.int .i64 x50), (Value.bool x51), (Value.bool x52), (Value.int .i64 x53), (Value.int .i64 x54), (Value.int .i64 x55), (Value.int .i64 x56), (Sl.v x57), (Value.int .i64 x58), (Value.int .i64 x59), (Value.int .i64 x60), (Value.int .i64 x61), (Value.bool x62), (Value.int .i64 x63), (Value.int .i64 x64), (Value.int .i64 x65), (Value.int .i64 x66)] w19 fun b69 w20 =>
          rn Try.prog (Builtin.append_ #[22, 22] 22 #[Sl.v r68, Sl.v (⟨some ⟨b69, 0, none⟩, 1, 1⟩ : Sl)]) Sl.v w20 fun r70 w21 =>
          J44 r70 w21
        )
        ∧
        (
          nw 33 #[(Value.string x45), (Value.int .i64 x46), (Value.int .i64 x47), (Value.int .i64 x48), (Value.bool x49), (Value.int .i64 x50), (Value.bool x51), (Value.bool x52), (Value.int .i64 x53), (Value.int .i64 x54), (Value.int .i64 x55), (Value.int .i64 x56), (Sl.v x57), (Value.int .i64 x58), (Value.int .i64 x59), (Value.int .i64 x60), (Value.int .i64 x61), (Value.bool x62), (Value.int .i64 x63), (Value.int .i64 x64), (Value.int .i64 x65), (Value.int .i64 x66)] w18 fun b71 w22 =>
          rn Try.prog (Builtin.append_ #[22, 22] 22 #[Sl.v (⟨some ⟨b67, 0, none⟩, 0, 0⟩ : Sl), Sl.v l42]) Sl.v w22 fun r72 w23 =>
          rn Try.prog (Builtin.append_ #[22, 22] 22 #[Sl.v r72, Sl.v (⟨some ⟨b71, 0, none⟩, 1, 1⟩ : Sl)]) Sl.v w23 fun r73 w24 =>
          J44 r73 w24
        )
      )
      ∧
      (
        nw 33 #[(Value.string x45), (Value.int .i64 x46), (Value.int .i64 x47), (Value.int .i64 x48), (Value.bool x49), (Value.int .i64 x50), (Value.bool x51), (Value.bool x52), (Value.int .i64 x53), (Value.int .i64 x54), (Value.int .i64 x55), (Value.int .i64 x56), (Sl.v x57), (Value.int .i64 x58), (Value.int .i64 x59), (Value.int .i64 x60), (Value.int .i64 x61), (Value.bool x62), (Value.int .i64 x63), (Value.int .i64 x64), (Value.int .i64 x65), (Value.int .i64 x66)] w17 fun b74 w25 =>
        nw 33 #[] w25 fun b75 w26 =>
        rn Try.prog (Builtin.append_ #[22, 22] 22 #[Sl.v (⟨some ⟨b75, 0, none⟩, 0, 0⟩ : Sl), Sl.v l42]) Sl.v w26 fun r76 w27 =>
        rn Try.prog (Builtin.append_ #[22, 22] 22 #[Sl.v r76, Sl.v (⟨some ⟨b74, 0, none⟩, 1, 1⟩ : Sl)]) Sl.v w27 fun r77 w28 =>
        J44 r77 w28
      )
    )
    fun l78 w29 =>
    lp (fun (next79 : Int → World → Prop) l79 w30 =>
      cnd (decide (l79 < (p1.len : Int)))
        (
        callC Try.prog 9 #[(Sl.v l42), (Sl.v p1), (Value.int .i64 p3), (Value.int .i64 l79)] (fun (r : Bool) => (Value.bool r)) w30 fun r81 w31 =>
        jn (fun J82 => cnd (r81)
          (
          callC Try.prog 9 #[(Sl.v p0), (Sl.v p1), (Value.int .i64 p3), (Value.int .i64 l79)] (fun (r : Bool) => (Value.bool r)) w31 fun r84 w32 =>
          J82 (!r84) w32
          )
          (
          J82 false w31
          ))
        fun c85 w33 =>
        jn (fun J86 => cnd (c85)
          (
          J86 true w33
          )
          (
          callC Try.prog 9 #[(Sl.v l78), (Sl.v p1), (Value.int .i64 p3), (Value.int .i64 l79)] (fun (r : Bool) => (Value.bool r)) w33 fun r88 w34 =>
          callC Try.prog 9 #[(Sl.v l42), (Sl.v p1), (Value.int .i64 p3), (Value.int .i64 l79)] (fun (r : Bool) => (Value.bool r)) w34 fun r89 w35 =>
          J86 (!(r88 == r89)) w35
          ))
        fun c90 w36 =>
        cnd (c90)
          (
          K false w36
          )
          (
          lp (fun (next92 : Int → World → Prop) l92 w37 =>
            cnd (decide (l92 < 12))
              (
              callC Try.prog 11 #[(Sl.v l42), (Sl.v p1), (Value.int .i64 l92), (Value.int .i64 l79)] (fun (r : Bool) => (Value.bool r)) w37 fun r94 w38 =>
              jn (fun J95 => cnd (r94)
                (
                callC Try.prog 11 #[(Sl.v p0), (Sl.v p1), (Value.int .i64 l92), (Value.int .i64 l79)] (fun (r : Bool) => (Value.bool r)) w38 fun r97 w39 =>
                J95 (!r97) w39
                )
                (
                J95 false w38
                ))
              fun c98 w40 =>
              cnd (c98)
                (
                K false w40
                )
                (
                next92 (IntKind.i64.wrap (l92 + 1)) w40
                )
              )
              (
              next79 (IntKind.i64.wrap (l79 + 1)) w37
              )
          ) 0 w36
          )
        )
        (
        K r2 w30
        )
    ) 0 w29
    )
set_option maxRecDepth 100000 in
theorem D4 (p0 : Sl) (p1 : Sl) (p2_0 : ByteArray) (p2_1 : Int) (p2_2 : Int) (p2_3 : Int) (p2_4 : Bool) (p2_5 : Int) (p2_6 : Bool) (p2_7 : Bool) (p2_8 : Int) (p2_9 : Int) (p2_10 : Int) (p2_11 : Int) (p2_12 : Sl) (p2_13 : Int) (p2_14 : Int) (p2_15 : Int) (p2_16 : Int) (p2_17 : Bool) (p2_18 : Int) (p2_19 : Int) (p2_20 : Int) (p2_21 : Int) (p3 : Int) (w0 : World) (K : Bool → World → Prop) (h : F4 p0 p1 p2_0 p2_1 p2_2 p2_3 p2_4 p2_5 p2_6 p2_7 p2_8 p2_9 p2_10 p2_11 p2_12 p2_13 p2_14 p2_15 p2_16 p2_17 p2_18 p2_19 p2_20 p2_21 p3 w0 K) : callC Try.prog 4 #[(Sl.v p0), (Sl.v p1), (Value.agg #[(Value.string p2_0), (Value.int .i64 p2_1), (Value.int .i64 p2_2), (Value.int .i64 p2_3), (Value.bool p2_4), (Value.int .i64 p2_5), (Value.bool p2_6), (Value.bool p2_7), (Value.int .i64 p2_8), (Value.int .i64 p2_9), (Value.int .i64 p2_10), (Value.int .i64 p2_11), (Sl.v p2_12), (Value.int .i64 p2_13), (Value.int .i64 p2_14), (Value.int .i64 p2_15), (Value.int .i64 p2_16), (Value.bool p2_17), (Value.int .i64 p2_18), (Value.int .i64 p2_19), (Value.int .i64 p2_20), (Value.int .i64 p2_21)]), (Value.int .i64 p3)] (fun (r : Bool) => (Value.bool r)) w0 K := by
  unfold F4 at h
  refine calls_of_wpC Try.func4 rfl 87 rfl (by simp) ?_
  intro ρ hρ
  have e0 : ρ 0 = (Sl.v p0) := hρ 0
  have e1 : ρ 1 = (Sl.v p1) := hρ 1
  have e2 : ρ 2 = (Value.agg #[(Value.string p2_0), (Value.int .i64 p2_1), (Value.int .i64 p2_2), (Value.int .i64 p2_3), (Value.bool p2_4), (Value.int .i64 p2_5), (Value.bool p2_6), (Value.bool p2_7), (Value.int .i64 p2_8), (Value.int .i64 p2_9), (Value.int .i64 p2_10), (Value.int .i64 p2_11), (Sl.v p2_12), (Value.int .i64 p2_13), (Value.int .i64 p2_14), (Value.int .i64 p2_15), (Value.int .i64 p2_16), (Value.bool p2_17), (Value.int .i64 p2_18), (Value.int .i64 p2_19), (Value.int .i64 p2_20), (Value.int .i64 p2_21)]) := hρ 2
  have e3 : ρ 3 = (Value.int .i64 p3) := hρ 3
  clear hρ
  refine wpC_seq ?_
  refine wpC_region ?_
  obtain ⟨b1, hb1⟩ : ∃ u, u = w0.heap.size := ⟨_, rfl⟩
  obtain ⟨w1, hw1⟩ : ∃ u, u = w0.alloc (.cells #[(Value.string p2_0), (Value.int .i64 p2_1), (Value.int .i64 p2_2), (Value.int .i64 p2_3), (Value.bool p2_4), (Value.int .i64 p2_5), (Value.bool p2_6), (Value.bool p2_7), (Value.int .i64 p2_8), (Value.int .i64 p2_9), (Value.int .i64 p2_10), (Value.int .i64 p2_11), (Sl.v p2_12), (Value.int .i64 p2_13), (Value.int .i64 p2_14), (Value.int .i64 p2_15), (Value.int .i64 p2_16), (Value.bool p2_17), (Value.int .i64 p2_18), (Value.int .i64 p2_19), (Value.int .i64 p2_20), (Value.int .i64 p2_21)] 33) := ⟨_, rfl⟩
  replace h := h b1 w1 hb1 hw1
  refine wpR_val (v := (Value.pointer (some (Addr.mk b1 0 none)))) (w' := w1) rfl rfl rfl ((x_box (v := (Value.agg #[(Value.string p2_0), (Value.int .i64 p2_1), (Value.int .i64 p2_2), (Value.int .i64 p2_3), (Value.bool p2_4), (Value.int .i64 p2_5), (Value.bool p2_6), (Value.bool p2_7), (Value.int .i64 p2_8), (Value.int .i64 p2_9), (Value.int .i64 p2_10), (Value.int .i64 p2_11), (Sl.v p2_12), (Value.int .i64 p2_13), (Value.int .i64 p2_14), (Value.int .i64 p2_15), (Value.int .i64 p2_16), (Value.bool p2_17), (Value.int .i64 p2_18), (Value.int .i64 p2_19), (Value.int .i64 p2_20), (Value.int .i64 p2_21)])) rfl e2).trans (by rw [hb1, hw1]; rfl)) ?_
  refine wpR_val (v := (Value.bool false)) (w' := w1) rfl rfl rfl (x_assign (v := (Value.bool false)) rfl rfl) ?_
  refine wpR_nil ?_
  refine wpC_seq ?_
  refine wpC_cut (fun ρ => ρ 0 = (Sl.v p0) ∧ ρ 1 = (Sl.v p1) ∧ ρ 3 = (Value.int .i64 p3) ∧ ρ 6 = (Value.pointer (some (Addr.mk b1 0 none))) ∧ True) ⟨e0, e1, e3, rfl, trivial⟩ ?_
  rintro ρ ⟨e0, e1, e3, e6, -⟩
  refine wpC_region ?_
  refine wpR_enter rfl rfl rfl (x_call (vs := []) rfl rfl mapl_nil Try.func7 NN_7 NB_7) (Calls.mono h ?_)
  rintro _ w2 ⟨r2, rfl, h⟩
  refine ⟨_, rfl, ?_⟩
  refine wpR_val (v := (Value.bool r2)) (w' := w2) rfl rfl rfl (x_assign (v := (Value.bool r2)) rfl rfl) ?_
  refine wpR_nil ?_
  refine wpC_seq ?_
  refine wpC_seq ?_
  refine wpC_cut (fun ρ => ρ 0 = (Sl.v p0) ∧ ρ 1 = (Sl.v p1) ∧ ρ 3 = (Value.int .i64 p3) ∧ ρ 6 = (Value.pointer (some (Addr.mk b1 0 none))) ∧ ρ 9 = (Value.bool r2) ∧ True) ⟨e0, e1, e3, e6, rfl, trivial⟩ ?_
  rintro ρ ⟨e0, e1, e3, e6, e9, -⟩
  refine wpC_region ?_
  refine wpR_val (v := (Sl.v p0)) (w' := w2) rfl rfl rfl (x_move (v := (Sl.v p0)) rfl e0) ?_
  refine wpR_val (v := (Sl.v p1)) (w' := w2) rfl rfl rfl (x_move (v := (Sl.v p1)) rfl e1) ?_
  refine wpR_enter rfl rfl rfl (x_call (vs := [(Sl.v p0), (Sl.v p1), (Value.int .i64 20)]) rfl rfl (mapl_cons rfl (mapl_cons rfl (mapl_cons rfl mapl_nil))) Try.func8 NN_8 NB_8) (Calls.mono h ?_)
  rintro _ w3 ⟨r3, rfl, h⟩
  refine ⟨_, rfl, ?_⟩
  refine wpR_val (v := (Value.bool (!r3))) (w' := w3) rfl rfl rfl (x_not rfl rfl) ?_
  refine wpR_val (v := (Value.bool (!r3))) (w' := w3) rfl rfl rfl (x_move (v := (Value.bool (!r3))) rfl rfl) ?_
  refine wpR_joinJ 4 (fun (_ : Unit) ρ => ρ 23 = Value.bool ((!r3) || (decide (3 < (p0.len : Int)))) ∧ ρ 0 = (Sl.v p0) ∧ ρ 1 = (Sl.v p1) ∧ ρ 3 = (Value.int .i64 p3) ∧ ρ 6 = (Value.pointer (some (Addr.mk b1 0 none))) ∧ ρ 9 = (Value.bool r2) ∧ True) (fun _ w => w3 = w) ?_ ?_
  · clear h
    rcases Bool.eq_false_or_eq_true (!r3) with hc5 | hc5
    · skip
      refine wpR_pass (wantN rfl rfl rfl hc5) rfl rfl ?_
      refine wpR_pass (wantN rfl rfl rfl hc5) rfl rfl ?_
      refine wpR_pass (wantN rfl rfl rfl hc5) rfl rfl ?_
      refine wpR_val (v := (Value.bool true)) (w' := w3) rfl rfl rfl (x_pickT (v := (Value.bool true)) rfl rfl hc5 rfl) ?_
      refine wpR_nil ?_
      exact ⟨(), ⟨(by rw [hc5]; rfl), e0, e1, e3, e6, e9, trivial⟩, rfl⟩
    · skip
      refine wpR_val (v := (Sl.v p0)) (w' := w3) (wantG rfl rfl rfl hc5) rfl rfl (x_move (v := (Sl.v p0)) rfl e0) ?_
      refine wpR_val (v := (Value.int .i64 (p0.len : Int))) (w' := w3) (wantG rfl rfl rfl hc5) rfl rfl (x_lenS (s := p0) rfl rfl isSliceT_22) ?_
      refine wpR_val (v := (Value.bool (decide (3 < (p0.len : Int))))) (w' := w3) (wantG rfl rfl rfl hc5) rfl rfl (x_gtr rfl rfl rfl) ?_
      refine wpR_val (v := (Value.bool (decide (3 < (p0.len : Int))))) (w' := w3) rfl rfl rfl (x_pickF (v := (Value.bool (decide (3 < (p0.len : Int))))) rfl rfl hc5 rfl) ?_
      refine wpR_nil ?_
      exact ⟨(), ⟨(by rw [hc5]; rfl), e0, e1, e3, e6, e9, trivial⟩, rfl⟩
  rintro _ ρ wj ⟨e23, e0, e1, e3, e6, e9, -⟩ rfl
  refine wpR_nil ?_
  refine wpC_cond (b := (!r3) || (decide (3 < (p0.len : Int)))) e23 (fun hc6 => ?_) (fun hc6 => ?_)
  · replace h := h.1 hc6
    refine wpC_seq ?_
    refine wpC_region ?_
    refine wpR_val (v := (Value.bool r2)) (w' := w3) rfl rfl rfl (x_move (v := (Value.bool r2)) rfl e9) ?_
    refine wpR_val (v := (Value.bool r2)) (w' := w3) rfl rfl rfl (x_assign (v := (Value.bool r2)) rfl rfl) ?_
    refine wpR_nil ?_
    refine wpC_ret ?_
    exact ⟨.inl rfl, fun a ha => ⟨_, results_rep1 rfl ha rfl, r2, rfl, h⟩⟩
  · replace h := h.2 hc6
    refine wpC_skip ?_
    refine wpC_seq ?_
    obtain ⟨J8, h, hk⟩ := h
    refine wpC_drawJ (by kernel_rfl) (fun (x : Sl) ρ => ρ 10 = (Sl.v x) ∧ ρ 0 = (Sl.v p0) ∧ ρ 1 = (Sl.v p1) ∧ ρ 3 = (Value.int .i64 p3) ∧ ρ 6 = (Value.pointer (some (Addr.mk b1 0 none))) ∧ ρ 9 = (Value.bool r2) ∧ True) J8 ?_ ?_
    · clear hk
      unfold tk at h
      generalize w3.drew = w4 at h ⊢
      refine wpD_take (v := (Sl.v p0)) 1 (fun _ => True) rfl (by kernel_rfl) (by kernel_rfl) (by kernel_rfl) rfl rfl rfl trivial (fun w _ => (x_move (v := (Sl.v p0)) rfl e0)) ?_
      obtain ⟨x9, q9, h⟩ := h
      obtain ⟨x10, q10, h⟩ := h
      obtain ⟨x11, q11, h⟩ := h
      obtain ⟨x12, q12, h⟩ := h
      obtain ⟨x13, q13, h⟩ := h
      obtain ⟨x14, q14, h⟩ := h
      obtain ⟨x15, q15, h⟩ := h
      obtain ⟨x16, q16, h⟩ := h
      obtain ⟨x17, q17, h⟩ := h
      obtain ⟨x18, q18, h⟩ := h
      obtain ⟨x19, q19, h⟩ := h
      obtain ⟨x20, q20, h⟩ := h
      obtain ⟨x21, q21, h⟩ := h
      obtain ⟨x22, q22, h⟩ := h
      obtain ⟨x23, q23, h⟩ := h
      obtain ⟨x24, q24, h⟩ := h
      obtain ⟨x25, q25, h⟩ := h
      obtain ⟨x26, q26, h⟩ := h
      obtain ⟨x27, q27, h⟩ := h
      obtain ⟨x28, q28, h⟩ := h
      obtain ⟨x29, q29, h⟩ := h
      obtain ⟨x30, q30, h⟩ := h
      refine wpD_take (v := (Value.agg #[(Value.string x9), (Value.int .i64 x10), (Value.int .i64 x11), (Value.int .i64 x12), (Value.bool x13), (Value.int .i64 x14), (Value.bool x15), (Value.bool x16), (Value.int .i64 x17), (Value.int .i64 x18), (Value.int .i64 x19), (Value.int .i64 x20), (Sl.v x21), (Value.int .i64 x22), (Value.int .i64 x23), (Value.int .i64 x24), (Value.int .i64 x25), (Value.bool x26), (Value.int .i64 x27), (Value.int .i64 x28), (Value.int .i64 x29), (Value.int .i64 x30)])) 3 (fun w => w.cell? ((Addr.mk b1 0 none).add 0) = some (Value.string x9) ∧ w.cell? ((Addr.mk b1 0 none).add 1) = some (Value.int .i64 x10) ∧ w.cell? ((Addr.mk b1 0 none).add 2) = some (Value.int .i64 x11) ∧ w.cell? ((Addr.mk b1 0 none).add 3) = some (Value.int .i64 x12) ∧ w.cell? ((Addr.mk b1 0 none).add 4) = some (Value.bool x13) ∧ w.cell? ((Addr.mk b1 0 none).add 5) = some (Value.int .i64 x14) ∧ w.cell? ((Addr.mk b1 0 none).add 6) = some (Value.bool x15) ∧ w.cell? ((Addr.mk b1 0 none).add 7) = some (Value.bool x16) ∧ w.cell? ((Addr.mk b1 0 none).add 8) = some (Value.int .i64 x17) ∧ w.cell? ((Addr.mk b1 0 none).add 9) = some (Value.int .i64 x18) ∧ w.cell? ((Addr.mk b1 0 none).add 10) = some (Value.int .i64 x19) ∧ w.cell? ((Addr.mk b1 0 none).add 11) = some (Value.int .i64 x20) ∧ w.cell? ((Addr.mk b1 0 none).add 12) = some (Sl.v x21) ∧ w.cell? ((Addr.mk b1 0 none).add 13) = some (Value.int .i64 x22) ∧ w.cell? ((Addr.mk b1 0 none).add 14) = some (Value.int .i64 x23) ∧ w.cell? ((Addr.mk b1 0 none).add 15) = some (Value.int .i64 x24) ∧ w.cell? ((Addr.mk b1 0 none).add 16) = some (Value.int .i64 x25) ∧ w.cell? ((Addr.mk b1 0 none).add 17) = some (Value.bool x26) ∧ w.cell? ((Addr.mk b1 0 none).add 18) = some (Value.int .i64 x27) ∧ w.cell? ((Addr.mk b1 0 none).add 19) = some (Value.int .i64 x28) ∧ w.cell? ((Addr.mk b1 0 none).add 20) = some (Value.int .i64 x29) ∧ w.cell? ((Addr.mk b1 0 none).add 21) = some (Value.int .i64 x30)) rfl (by kernel_rfl) (by kernel_rfl) (by kernel_rfl) rfl rfl rfl ⟨q9, q10, q11, q12, q13, q14, q15, q16, q17, q18, q19, q20, q21, q22, q23, q24, q25, q26, q27, q28, q29, q30⟩ (fun w ⟨q9, q10, q11, q12, q13, q14, q15, q16, q17, q18, q19, q20, q21, q22, q23, q24, q25, q26, q27, q28, q29, q30⟩ => (x_loadN [(Value.string x9), (Value.int .i64 x10), (Value.int .i64 x11), (Value.int .i64 x12), (Value.bool x13), (Value.int .i64 x14), (Value.bool x15), (Value.bool x16), (Value.int .i64 x17), (Value.int .i64 x18), (Value.int .i64 x19), (Value.int .i64 x20), (Sl.v x21), (Value.int .i64 x22), (Value.int .i64 x23), (Value.int .i64 x24), (Value.int .i64 x25), (Value.bool x26), (Value.int .i64 x27), (Value.int .i64 x28), (Value.int .i64 x29), (Value.int .i64 x30)] rfl e6 SH_33 (CellsAt.out (CellsAt.cons q9 (CellsAt.cons q10 (CellsAt.cons q11 (CellsAt.cons q12 (CellsAt.cons q13 (CellsAt.cons q14 (CellsAt.cons q15 (CellsAt.cons q16 (CellsAt.cons q17 (CellsAt.cons q18 (CellsAt.cons q19 (CellsAt.cons q20 (CellsAt.cons q21 (CellsAt.cons q22 (CellsAt.cons q23 (CellsAt.cons q24 (CellsAt.cons q25 (CellsAt.cons q26 (CellsAt.cons q27 (CellsAt.cons q28 (CellsAt.cons q29 (CellsAt.cons q30 CellsAt.nil))))))))))))))))))))))))) ?_
      refine wpD_all (rs := [0, 4]) (by kernel_rfl) (by simp) (allD_cons ?_ (allD_cons ?_ allD_nil))
      · replace h := h.1
        obtain ⟨b31, hb31⟩ : ∃ u, u = w4.heap.size := ⟨_, rfl⟩
        obtain ⟨w5, hw31⟩ : ∃ u, u = w4.alloc (.cells #[] 33) := ⟨_, rfl⟩
        replace h := h b31 w5 hb31 hw31
        obtain ⟨o3, h⟩ := h
        refine stepD_valL (L' := [(3, fun w => w.cell? ((Addr.mk b1 0 none).add 0) = some (Value.string x9) ∧ w.cell? ((Addr.mk b1 0 none).add 1) = some (Value.int .i64 x10) ∧ w.cell? ((Addr.mk b1 0 none).add 2) = some (Value.int .i64 x11) ∧ w.cell? ((Addr.mk b1 0 none).add 3) = some (Value.int .i64 x12) ∧ w.cell? ((Addr.mk b1 0 none).add 4) = some (Value.bool x13) ∧ w.cell? ((Addr.mk b1 0 none).add 5) = some (Value.int .i64 x14) ∧ w.cell? ((Addr.mk b1 0 none).add 6) = some (Value.bool x15) ∧ w.cell? ((Addr.mk b1 0 none).add 7) = some (Value.bool x16) ∧ w.cell? ((Addr.mk b1 0 none).add 8) = some (Value.int .i64 x17) ∧ w.cell? ((Addr.mk b1 0 none).add 9) = some (Value.int .i64 x18) ∧ w.cell? ((Addr.mk b1 0 none).add 10) = some (Value.int .i64 x19) ∧ w.cell? ((Addr.mk b1 0 none).add 11) = some (Value.int .i64 x20) ∧ w.cell? ((Addr.mk b1 0 none).add 12) = some (Sl.v x21) ∧ w.cell? ((Addr.mk b1 0 none).add 13) = some (Value.int .i64 x22) ∧ w.cell? ((Addr.mk b1 0 none).add 14) = some (Value.int .i64 x23) ∧ w.cell? ((Addr.mk b1 0 none).add 15) = some (Value.int .i64 x24) ∧ w.cell? ((Addr.mk b1 0 none).add 16) = some (Value.int .i64 x25) ∧ w.cell? ((Addr.mk b1 0 none).add 17) = some (Value.bool x26) ∧ w.cell? ((Addr.mk b1 0 none).add 18) = some (Value.int .i64 x27) ∧ w.cell? ((Addr.mk b1 0 none).add 19) = some (Value.int .i64 x28) ∧ w.cell? ((Addr.mk b1 0 none).add 20) = some (Value.int .i64 x29) ∧ w.cell? ((Addr.mk b1 0 none).add 21) = some (Value.int .i64 x30)), (1, fun _ => True)]) (v := (Sl.v (⟨some ⟨b31, 0, none⟩, 0, 0⟩ : Sl))) (w' := w5) rfl rfl rfl rfl ((x_buildSlice (qs := []) rfl (by rfl) (BS_22_0_ )).trans (by rw [← hb31, ← hw31])) (by kernel_rfl) (held_cons o3 (held_cons trivial held_nil)) ?_
        refine wpD_all (rs := [2, 4]) (by kernel_rfl) (by simp) (allD_cons ?_ (allD_cons ?_ allD_nil))
        · replace h := h.1
          obtain ⟨r32, w6, q32, h⟩ := h
          obtain ⟨o3, h⟩ := h
          refine stepD_valL (L' := [(3, fun w => w.cell? ((Addr.mk b1 0 none).add 0) = some (Value.string x9) ∧ w.cell? ((Addr.mk b1 0 none).add 1) = some (Value.int .i64 x10) ∧ w.cell? ((Addr.mk b1 0 none).add 2) = some (Value.int .i64 x11) ∧ w.cell? ((Addr.mk b1 0 none).add 3) = some (Value.int .i64 x12) ∧ w.cell? ((Addr.mk b1 0 none).add 4) = some (Value.bool x13) ∧ w.cell? ((Addr.mk b1 0 none).add 5) = some (Value.int .i64 x14) ∧ w.cell? ((Addr.mk b1 0 none).add 6) = some (Value.bool x15) ∧ w.cell? ((Addr.mk b1 0 none).add 7) = some (Value.bool x16) ∧ w.cell? ((Addr.mk b1 0 none).add 8) = some (Value.int .i64 x17) ∧ w.cell? ((Addr.mk b1 0 none).add 9) = some (Value.int .i64 x18) ∧ w.cell? ((Addr.mk b1 0 none).add 10) = some (Value.int .i64 x19) ∧ w.cell? ((Addr.mk b1 0 none).add 11) = some (Value.int .i64 x20) ∧ w.cell? ((Addr.mk b1 0 none).add 12) = some (Sl.v x21) ∧ w.cell? ((Addr.mk b1 0 none).add 13) = some (Value.int .i64 x22) ∧ w.cell? ((Addr.mk b1 0 none).add 14) = some (Value.int .i64 x23) ∧ w.cell? ((Addr.mk b1 0 none).add 15) = some (Value.int .i64 x24) ∧ w.cell? ((Addr.mk b1 0 none).add 16) = some (Value.int .i64 x25) ∧ w.cell? ((Addr.mk b1 0 none).add 17) = some (Value.bool x26) ∧ w.cell? ((Addr.mk b1 0 none).add 18) = some (Value.int .i64 x27) ∧ w.cell? ((Addr.mk b1 0 none).add 19) = some (Value.int .i64 x28) ∧ w.cell? ((Addr.mk b1 0 none).add 20) = some (Value.int .i64 x29) ∧ w.cell? ((Addr.mk b1 0 none).add 21) = some (Value.int .i64 x30))]) (v := (Sl.v r32)) (w' := w6) rfl rfl rfl rfl (x_append (s := (⟨some ⟨b31, 0, none⟩, 0, 0⟩ : Sl)) (u := p0) rfl rfl rfl rfl q32) (by kernel_rfl) (held_cons o3 held_nil) ?_
          refine wpD_all (rs := [4]) (by kernel_rfl) (by simp) (allD_cons ?_ allD_nil)
          obtain ⟨b33, hb33⟩ : ∃ u, u = w6.heap.size := ⟨_, rfl⟩
          obtain ⟨w7, hw33⟩ : ∃ u, u = w6.alloc (.cells #[(Value.string x9), (Value.int .i64 x10), (Value.int .i64 x11), (Value.int .i64 x12), (Value.bool x13), (Value.int .i64 x14), (Value.bool x15), (Value.bool x16), (Value.int .i64 x17), (Value.int .i64 x18), (Value.int .i64 x19), (Value.int .i64 x20), (Sl.v x21), (Value.int .i64 x22), (Value.int .i64 x23), (Value.int .i64 x24), (Value.int .i64 x25), (Value.bool x26), (Value.int .i64 x27), (Value.int .i64 x28), (Value.int .i64 x29), (Value.int .i64 x30)] 33) := ⟨_, rfl⟩
          replace h := h b33 w7 hb33 hw33
          refine stepD_valL (L' := []) (v := (Sl.v (⟨some ⟨b33, 0, none⟩, 1, 1⟩ : Sl))) (w' := w7) rfl rfl rfl rfl ((x_buildSlice (qs := [(0, (Value.agg #[(Value.string x9), (Value.int .i64 x10), (Value.int .i64 x11), (Value.int .i64 x12), (Value.bool x13), (Value.int .i64 x14), (Value.bool x15), (Value.bool x16), (Value.int .i64 x17), (Value.int .i64 x18), (Value.int .i64 x19), (Value.int .i64 x20), (Sl.v x21), (Value.int .i64 x22), (Value.int .i64 x23), (Value.int .i64 x24), (Value.int .i64 x25), (Value.bool x26), (Value.int .i64 x27), (Value.int .i64 x28), (Value.int .i64 x29), (Value.int .i64 x30)]))]) rfl (by rfl) (BS_22_1_0 x9 x10 x11 x12 x13 x14 x15 x16 x17 x18 x19 x20 x21 x22 x23 x24 x25 x26 x27 x28 x29 x30)).trans (by rw [← hb33, ← hw33])) (by kernel_rfl) held_nil ?_
          refine wpD_all (rs := [5]) (by kernel_rfl) (by simp) (allD_cons ?_ allD_nil)
          obtain ⟨r34, w8, q34, h⟩ := h
          refine stepD_valL (L' := []) (v := (Sl.v r34)) (w' := w8) rfl rfl rfl rfl (x_append (s := r32) (u := (⟨some ⟨b33, 0, none⟩, 1, 1⟩ : Sl)) rfl rfl rfl rfl q34) (by kernel_rfl) held_nil ?_
          refine wpD_take (v := (Sl.v r34)) 6 (fun _ => True) rfl (by kernel_rfl) (by kernel_rfl) (by kernel_rfl) rfl rfl rfl trivial (fun w _ => (x_assign (v := (Sl.v r34)) rfl rfl)) ?_
          exact wpD_done (by kernel_rfl) ⟨r34, ⟨rfl, e0, e1, e3, e6, e9, trivial⟩, h⟩
        · replace h := h.2
          obtain ⟨b35, hb35⟩ : ∃ u, u = w5.heap.size := ⟨_, rfl⟩
          obtain ⟨w9, hw35⟩ : ∃ u, u = w5.alloc (.cells #[(Value.string x9), (Value.int .i64 x10), (Value.int .i64 x11), (Value.int .i64 x12), (Value.bool x13), (Value.int .i64 x14), (Value.bool x15), (Value.bool x16), (Value.int .i64 x17), (Value.int .i64 x18), (Value.int .i64 x19), (Value.int .i64 x20), (Sl.v x21), (Value.int .i64 x22), (Value.int .i64 x23), (Value.int .i64 x24), (Value.int .i64 x25), (Value.bool x26), (Value.int .i64 x27), (Value.int .i64 x28), (Value.int .i64 x29), (Value.int .i64 x30)] 33) := ⟨_, rfl⟩
          replace h := h b35 w9 hb35 hw35
          refine stepD_valL (L' := [(1, fun _ => True)]) (v := (Sl.v (⟨some ⟨b35, 0, none⟩, 1, 1⟩ : Sl))) (w' := w9) rfl rfl rfl rfl ((x_buildSlice (qs := [(0, (Value.agg #[(Value.string x9), (Value.int .i64 x10), (Value.int .i64 x11), (Value.int .i64 x12), (Value.bool x13), (Value.int .i64 x14), (Value.bool x15), (Value.bool x16), (Value.int .i64 x17), (Value.int .i64 x18), (Value.int .i64 x19), (Value.int .i64 x20), (Sl.v x21), (Value.int .i64 x22), (Value.int .i64 x23), (Value.int .i64 x24), (Value.int .i64 x25), (Value.bool x26), (Value.int .i64 x27), (Value.int .i64 x28), (Value.int .i64 x29), (Value.int .i64 x30)]))]) rfl (by rfl) (BS_22_1_0 x9 x10 x11 x12 x13 x14 x15 x16 x17 x18 x19 x20 x21 x22 x23 x24 x25 x26 x27 x28 x29 x30)).trans (by rw [← hb35, ← hw35])) (by kernel_rfl) (held_cons trivial held_nil) ?_
          refine wpD_all (rs := [2]) (by kernel_rfl) (by simp) (allD_cons ?_ allD_nil)
          obtain ⟨r36, w10, q36, h⟩ := h
          refine stepD_valL (L' := []) (v := (Sl.v r36)) (w' := w10) rfl rfl rfl rfl (x_append (s := (⟨some ⟨b31, 0, none⟩, 0, 0⟩ : Sl)) (u := p0) rfl rfl rfl rfl q36) (by kernel_rfl) held_nil ?_
          refine wpD_all (rs := [5]) (by kernel_rfl) (by simp) (allD_cons ?_ allD_nil)
          obtain ⟨r37, w11, q37, h⟩ := h
          refine stepD_valL (L' := []) (v := (Sl.v r37)) (w' := w11) rfl rfl rfl rfl (x_append (s := r36) (u := (⟨some ⟨b35, 0, none⟩, 1, 1⟩ : Sl)) rfl rfl rfl rfl q37) (by kernel_rfl) held_nil ?_
          refine wpD_take (v := (Sl.v r37)) 6 (fun _ => True) rfl (by kernel_rfl) (by kernel_rfl) (by kernel_rfl) rfl rfl rfl trivial (fun w _ => (x_assign (v := (Sl.v r37)) rfl rfl)) ?_
          exact wpD_done (by kernel_rfl) ⟨r37, ⟨rfl, e0, e1, e3, e6, e9, trivial⟩, h⟩
      · replace h := h.2
        obtain ⟨b38, hb38⟩ : ∃ u, u = w4.heap.size := ⟨_, rfl⟩
        obtain ⟨w12, hw38⟩ : ∃ u, u = w4.alloc (.cells #[(Value.string x9), (Value.int .i64 x10), (Value.int .i64 x11), (Value.int .i64 x12), (Value.bool x13), (Value.int .i64 x14), (Value.bool x15), (Value.bool x16), (Value.int .i64 x17), (Value.int .i64 x18), (Value.int .i64 x19), (Value.int .i64 x20), (Sl.v x21), (Value.int .i64 x22), (Value.int .i64 x23), (Value.int .i64 x24), (Value.int .i64 x25), (Value.bool x26), (Value.int .i64 x27), (Value.int .i64 x28), (Value.int .i64 x29), (Value.int .i64 x30)] 33) := ⟨_, rfl⟩
        replace h := h b38 w12 hb38 hw38
        refine stepD_valL (L' := [(1, fun _ => True)]) (v := (Sl.v (⟨some ⟨b38, 0, none⟩, 1, 1⟩ : Sl))) (w' := w12) rfl rfl rfl rfl ((x_buildSlice (qs := [(0, (Value.agg #[(Value.string x9), (Value.int .i64 x10), (Value.int .i64 x11), (Value.int .i64 x12), (Value.bool x13), (Value.int .i64 x14), (Value.bool x15), (Value.bool x16), (Value.int .i64 x17), (Value.int .i64 x18), (Value.int .i64 x19), (Value.int .i64 x20), (Sl.v x21), (Value.int .i64 x22), (Value.int .i64 x23), (Value.int .i64 x24), (Value.int .i64 x25), (Value.bool x26), (Value.int .i64 x27), (Value.int .i64 x28), (Value.int .i64 x29), (Value.int .i64 x30)]))]) rfl (by rfl) (BS_22_1_0 x9 x10 x11 x12 x13 x14 x15 x16 x17 x18 x19 x20 x21 x22 x23 x24 x25 x26 x27 x28 x29 x30)).trans (by rw [← hb38, ← hw38])) (by kernel_rfl) (held_cons trivial held_nil) ?_
        refine wpD_all (rs := [0]) (by kernel_rfl) (by simp) (allD_cons ?_ allD_nil)
        obtain ⟨b39, hb39⟩ : ∃ u, u = w12.heap.size := ⟨_, rfl⟩
        obtain ⟨w13, hw39⟩ : ∃ u, u = w12.alloc (.cells #[] 33) := ⟨_, rfl⟩
        replace h := h b39 w13 hb39 hw39
        refine stepD_valL (L' := [(1, fun _ => True)]) (v := (Sl.v (⟨some ⟨b39, 0, none⟩, 0, 0⟩ : Sl))) (w' := w13) rfl rfl rfl rfl ((x_buildSlice (qs := []) rfl (by rfl) (BS_22_0_ )).trans (by rw [← hb39, ← hw39])) (by kernel_rfl) (held_cons trivial held_nil) ?_
        refine wpD_all (rs := [2]) (by kernel_rfl) (by simp) (allD_cons ?_ allD_nil)
        obtain ⟨r40, w14, q40, h⟩ := h
        refine stepD_valL (L' := []) (v := (Sl.v r40)) (w' := w14) rfl rfl rfl rfl (x_append (s := (⟨some ⟨b39, 0, none⟩, 0, 0⟩ : Sl)) (u := p0) rfl rfl rfl rfl q40) (by kernel_rfl) held_nil ?_
        refine wpD_all (rs := [5]) (by kernel_rfl) (by simp) (allD_cons ?_ allD_nil)
        obtain ⟨r41, w15, q41, h⟩ := h
        refine stepD_valL (L' := []) (v := (Sl.v r41)) (w' := w15) rfl rfl rfl rfl (x_append (s := r40) (u := (⟨some ⟨b38, 0, none⟩, 1, 1⟩ : Sl)) rfl rfl rfl rfl q41) (by kernel_rfl) held_nil ?_
        refine wpD_take (v := (Sl.v r41)) 6 (fun _ => True) rfl (by kernel_rfl) (by kernel_rfl) (by kernel_rfl) rfl rfl rfl trivial (fun w _ => (x_assign (v := (Sl.v r41)) rfl rfl)) ?_
        exact wpD_done (by kernel_rfl) ⟨r41, ⟨rfl, e0, e1, e3, e6, e9, trivial⟩, h⟩
    clear h
    rintro l42 ρ w16 ⟨e10, e0, e1, e3, e6, e9, -⟩ h
    replace h := hk l42 w16 h
    clear hk
    refine wpC_seq ?_
    obtain ⟨J44, h, hk⟩ := h
    refine wpC_drawJ (by kernel_rfl) (fun (x : Sl) ρ => ρ 11 = (Sl.v x) ∧ ρ 0 = (Sl.v p0) ∧ ρ 1 = (Sl.v p1) ∧ ρ 3 = (Value.int .i64 p3) ∧ ρ 9 = (Value.bool r2) ∧ ρ 10 = (Sl.v l42) ∧ True) J44 ?_ ?_
    · clear hk
      unfold tk at h
      generalize w16.drew = w17 at h ⊢
      refine wpD_take (v := (Sl.v l42)) 1 (fun _ => True) rfl (by kernel_rfl) (by kernel_rfl) (by kernel_rfl) rfl rfl rfl trivial (fun w _ => (x_move (v := (Sl.v l42)) rfl e10)) ?_
      obtain ⟨x45, q45, h⟩ := h
      obtain ⟨x46, q46, h⟩ := h
      obtain ⟨x47, q47, h⟩ := h
      obtain ⟨x48, q48, h⟩ := h
      obtain ⟨x49, q49, h⟩ := h
      obtain ⟨x50, q50, h⟩ := h
      obtain ⟨x51, q51, h⟩ := h
      obtain ⟨x52, q52, h⟩ := h
      obtain ⟨x53, q53, h⟩ := h
      obtain ⟨x54, q54, h⟩ := h
      obtain ⟨x55, q55, h⟩ := h
      obtain ⟨x56, q56, h⟩ := h
      obtain ⟨x57, q57, h⟩ := h
      obtain ⟨x58, q58, h⟩ := h
      obtain ⟨x59, q59, h⟩ := h
      obtain ⟨x60, q60, h⟩ := h
      obtain ⟨x61, q61, h⟩ := h
      obtain ⟨x62, q62, h⟩ := h
      obtain ⟨x63, q63, h⟩ := h
      obtain ⟨x64, q64, h⟩ := h
      obtain ⟨x65, q65, h⟩ := h
      obtain ⟨x66, q66, h⟩ := h
      refine wpD_take (v := (Value.agg #[(Value.string x45), (Value.int .i64 x46), (Value.int .i64 x47), (Value.int .i64 x48), (Value.bool x49), (Value.int .i64 x50), (Value.bool x51), (Value.bool x52), (Value.int .i64 x53), (Value.int .i64 x54), (Value.int .i64 x55), (Value.int .i64 x56), (Sl.v x57), (Value.int .i64 x58), (Value.int .i64 x59), (Value.int .i64 x60), (Value.int .i64 x61), (Value.bool x62), (Value.int .i64 x63), (Value.int .i64 x64), (Value.int .i64 x65), (Value.int .i64 x66)])) 3 (fun w => w.cell? ((Addr.mk b1 0 none).add 0) = some (Value.string x45) ∧ w.cell? ((Addr.mk b1 0 none).add 1) = some (Value.int .i64 x46) ∧ w.cell? ((Addr.mk b1 0 none).add 2) = some (Value.int .i64 x47) ∧ w.cell? ((Addr.mk b1 0 none).add 3) = some (Value.int .i64 x48) ∧ w.cell? ((Addr.mk b1 0 none).add 4) = some (Value.bool x49) ∧ w.cell? ((Addr.mk b1 0 none).add 5) = some (Value.int .i64 x50) ∧ w.cell? ((Addr.mk b1 0 none).add 6) = some (Value.bool x51) ∧ w.cell? ((Addr.mk b1 0 none).add 7) = some (Value.bool x52) ∧ w.cell? ((Addr.mk b1 0 none).add 8) = some (Value.int .i64 x53) ∧ w.cell? ((Addr.mk b1 0 none).add 9) = some (Value.int .i64 x54) ∧ w.cell? ((Addr.mk b1 0 none).add 10) = some (Value.int .i64 x55) ∧ w.cell? ((Addr.mk b1 0 none).add 11) = some (Value.int .i64 x56) ∧ w.cell? ((Addr.mk b1 0 none).add 12) = some (Sl.v x57) ∧ w.cell? ((Addr.mk b1 0 none).add 13) = some (Value.int .i64 x58) ∧ w.cell? ((Addr.mk b1 0 none).add 14) = some (Value.int .i64 x59) ∧ w.cell? ((Addr.mk b1 0 none).add 15) = some (Value.int .i64 x60) ∧ w.cell? ((Addr.mk b1 0 none).add 16) = some (Value.int .i64 x61) ∧ w.cell? ((Addr.mk b1 0 none).add 17) = some (Value.bool x62) ∧ w.cell? ((Addr.mk b1 0 none).add 18) = some (Value.int .i64 x63) ∧ w.cell? ((Addr.mk b1 0 none).add 19) = some (Value.int .i64 x64) ∧ w.cell? ((Addr.mk b1 0 none).add 20) = some (Value.int .i64 x65) ∧ w.cell? ((Addr.mk b1 0 none).add 21) = some (Value.int .i64 x66)) rfl (by kernel_rfl) (by kernel_rfl) (by kernel_rfl) rfl rfl rfl ⟨q45, q46, q47, q48, q49, q50, q51, q52, q53, q54, q55, q56, q57, q58, q59, q60, q61, q62, q63, q64, q65, q66⟩ (fun w ⟨q45, q46, q47, q48, q49, q50, q51, q52, q53, q54, q55, q56, q57, q58, q59, q60, q61, q62, q63, q64, q65, q66⟩ => (x_loadN [(Value.string x45), (Value.int .i64 x46), (Value.int .i64 x47), (Value.int .i64 x48), (Value.bool x49), (Value.int .i64 x50), (Value.bool x51), (Value.bool x52), (Value.int .i64 x53), (Value.int .i64 x54), (Value.int .i64 x55), (Value.int .i64 x56), (Sl.v x57), (Value.int .i64 x58), (Value.int .i64 x59), (Value.int .i64 x60), (Value.int .i64 x61), (Value.bool x62), (Value.int .i64 x63), (Value.int .i64 x64), (Value.int .i64 x65), (Value.int .i64 x66)] rfl e6 SH_33 (CellsAt.out (CellsAt.cons q45 (CellsAt.cons q46 (CellsAt.cons q47 (CellsAt.cons q48 (CellsAt.cons q49 (CellsAt.cons q50 (CellsAt.cons q51 (CellsAt.cons q52 (CellsAt.cons q53 (CellsAt.cons q54 (CellsAt.cons q55 (CellsAt.cons q56 (CellsAt.cons q57 (CellsAt.cons q58 (CellsAt.cons q59 (CellsAt.cons q60 (CellsAt.cons q61 (CellsAt.cons q62 (CellsAt.cons q63 (CellsAt.cons q64 (CellsAt.cons q65 (CellsAt.cons q66 CellsAt.nil))))))))))))))))))))))))) ?_
      refine wpD_all (rs := [0, 4]) (by kernel_rfl) (by simp) (allD_cons ?_ (allD_cons ?_ allD_nil))
      · replace h := h.1
        obtain ⟨b67, hb67⟩ : ∃ u, u = w17.heap.size := ⟨_, rfl⟩
        obtain ⟨w18, hw67⟩ : ∃ u, u = w17.alloc (.cells #[] 33) := ⟨_, rfl⟩
        replace h := h b67 w18 hb67 hw67
        obtain ⟨o3, h⟩ := h
        refine stepD_valL (L' := [(3, fun w => w.cell? ((Addr.mk b1 0 none).add 0) = some (Value.string x45) ∧ w.cell? ((Addr.mk b1 0 none).add 1) = some (Value.int .i64 x46) ∧ w.cell? ((Addr.mk b1 0 none).add 2) = some (Value.int .i64 x47) ∧ w.cell? ((Addr.mk b1 0 none).add 3) = some (Value.int .i64 x48) ∧ w.cell? ((Addr.mk b1 0 none).add 4) = some (Value.bool x49) ∧ w.cell? ((Addr.mk b1 0 none).add 5) = some (Value.int .i64 x50) ∧ w.cell? ((Addr.mk b1 0 none).add 6) = some (Value.bool x51) ∧ w.cell? ((Addr.mk b1 0 none).add 7) = some (Value.bool x52) ∧ w.cell? ((Addr.mk b1 0 none).add 8) = some (Value.int .i64 x53) ∧ w.cell? ((Addr.mk b1 0 none).add 9) = some (Value.int .i64 x54) ∧ w.cell? ((Addr.mk b1 0 none).add 10) = some (Value.int .i64 x55) ∧ w.cell? ((Addr.mk b1 0 none).add 11) = some (Value.int .i64 x56) ∧ w.cell? ((Addr.mk b1 0 none).add 12) = some (Sl.v x57) ∧ w.cell? ((Addr.mk b1 0 none).add 13) = some (Value.int .i64 x58) ∧ w.cell? ((Addr.mk b1 0 none).add 14) = some (Value.int .i64 x59) ∧ w.cell? ((Addr.mk b1 0 none).add 15) = some (Value.int .i64 x60) ∧ w.cell? ((Addr.mk b1 0 none).add 16) = some (Value.int .i64 x61) ∧ w.cell? ((Addr.mk b1 0 none).add 17) = some (Value.bool x62) ∧ w.cell? ((Addr.mk b1 0 none).add 18) = some (Value.int .i64 x63) ∧ w.cell? ((Addr.mk b1 0 none).add 19) = some (Value.int .i64 x64) ∧ w.cell? ((Addr.mk b1 0 none).add 20) = some (Value.int .i64 x65) ∧ w.cell? ((Addr.mk b1 0 none).add 21) = some (Value.int .i64 x66)), (1, fun _ => True)]) (v := (Sl.v (⟨some ⟨b67, 0, none⟩, 0, 0⟩ : Sl))) (w' := w18) rfl rfl rfl rfl ((x_buildSlice (qs := []) rfl (by rfl) (BS_22_0_ )).trans (by rw [← hb67, ← hw67])) (by kernel_rfl) (held_cons o3 (held_cons trivial held_nil)) ?_
        refine wpD_all (rs := [2, 4]) (by kernel_rfl) (by simp) (allD_cons ?_ (allD_cons ?_ allD_nil))
        · replace h := h.1
          obtain ⟨r68, w19, q68, h⟩ := h
          obtain ⟨o3, h⟩ := h
          refine stepD_valL (L' := [(3, fun w => w.cell? ((Addr.mk b1 0 none).add 0) = some (Value.string x45) ∧ w.cell? ((Addr.mk b1 0 none).add 1) = some (Value.int .i64 x46) ∧ w.cell? ((Addr.mk b1 0 none).add 2) = some (Value.int .i64 x47) ∧ w.cell? ((Addr.mk b1 0 none).add 3) = some (Value.int .i64 x48) ∧ w.cell? ((Addr.mk b1 0 none).add 4) = some (Value.bool x49) ∧ w.cell? ((Addr.mk b1 0 none).add 5) = some (Value.int .i64 x50) ∧ w.cell? ((Addr.mk b1 0 none).add 6) = some (Value.bool x51) ∧ w.cell? ((Addr.mk b1 0 none).add 7) = some (Value.bool x52) ∧ w.cell? ((Addr.mk b1 0 none).add 8) = some (Value.int .i64 x53) ∧ w.cell? ((Addr.mk b1 0 none).add 9) = some (Value.int .i64 x54) ∧ w.cell? ((Addr.mk b1 0 none).add 10) = some (Value.int .i64 x55) ∧ w.cell? ((Addr.mk b1 0 none).add 11) = some (Value.int .i64 x56) ∧ w.cell? ((Addr.mk b1 0 none).add 12) = some (Sl.v x57) ∧ w.cell? ((Addr.mk b1 0 none).add 13) = some (Value.int .i64 x58) ∧ w.cell? ((Addr.mk b1 0 none).add 14) = some (Value.int .i64 x59) ∧ w.cell? ((Addr.mk b1 0 none).add 15) = some (Value.int .i64 x60) ∧ w.cell? ((Addr.mk b1 0 none).add 16) = some (Value.int .i64 x61) ∧ w.cell? ((Addr.mk b1 0 none).add 17) = some (Value.bool x62) ∧ w.cell? ((Addr.mk b1 0 none).add 18) = some (Value.int .i64 x63) ∧ w.cell? ((Addr.mk b1 0 none).add 19) = some (Value.int .i64 x64) ∧ w.cell? ((Addr.mk b1 0 none).add 20) = some (Value.int .i64 x65) ∧ w.cell? ((Addr.mk b1 0 none).add 21) = some (Value.int .i64 x66))]) (v := (Sl.v r68)) (w' := w19) rfl rfl rfl rfl (x_append (s := (⟨some ⟨b67, 0, none⟩, 0, 0⟩ : Sl)) (u := l42) rfl rfl rfl rfl q68) (by kernel_rfl) (held_cons o3 held_nil) ?_
          refine wpD_all (rs := [4]) (by kernel_rfl) (by simp) (allD_cons ?_ allD_nil)
          obtain ⟨b69, hb69⟩ : ∃ u, u = w19.heap.size := ⟨_, rfl⟩
          obtain ⟨w20, hw69⟩ : ∃ u, u = w19.alloc (.cells #[(Value.string x45), (Value.int .i64 x46), (Value.int .i64 x47), (Value.int .i64 x48), (Value.bool x49), (Value.int .i64 x50), (Value.bool x51), (Value.bool x52), (Value.int .i64 x53), (Value.int .i64 x54), (Value.int .i64 x55), (Value.int .i64 x56), (Sl.v x57), (Value.int .i64 x58), (Value.int .i64 x59), (Value.int .i64 x60), (Value.int .i64 x61), (Value.bool x62), (Value.int .i64 x63), (Value.int .i64 x64), (Value.int .i64 x65), (Value.int .i64 x66)] 33) := ⟨_, rfl⟩
          replace h := h b69 w20 hb69 hw69
          refine stepD_valL (L' := []) (v := (Sl.v (⟨some ⟨b69, 0, none⟩, 1, 1⟩ : Sl))) (w' := w20) rfl rfl rfl rfl ((x_buildSlice (qs := [(0, (Value.agg #[(Value.string x45), (Value.int .i64 x46), (Value.int .i64 x47), (Value.int .i64 x48), (Value.bool x49), (Value.int .i64 x50), (Value.bool x51), (Value.bool x52), (Value.int .i64 x53), (Value.int .i64 x54), (Value.int .i64 x55), (Value.int .i64 x56), (Sl.v x57), (Value.int .i64 x58), (Value.int .i64 x59), (Value.int .i64 x60), (Value.int .i64 x61), (Value.bool x62), (Value.int .i64 x63), (Value.int .i64 x64), (Value.int .i64 x65), (Value.int .i64 x66)]))]) rfl (by rfl) (BS_22_1_0 x45 x46 x47 x48 x49 x50 x51 x52 x53 x54 x55 x56 x57 x58 x59 x60 x61 x62 x63 x64 x65 x66)).trans (by rw [← hb69, ← hw69])) (by kernel_rfl) held_nil ?_
          refine wpD_all (rs := [5]) (by kernel_rfl) (by simp) (allD_cons ?_ allD_nil)
          obtain ⟨r70, w21, q70, h⟩ := h
          refine stepD_valL (L' := []) (v := (Sl.v r70)) (w' := w21) rfl rfl rfl rfl (x_append (s := r68) (u := (⟨some ⟨b69, 0, none⟩, 1, 1⟩ : Sl)) rfl rfl rfl rfl q70) (by kernel_rfl) held_nil ?_
          refine wpD_take (v := (Sl.v r70)) 6 (fun _ => True) rfl (by kernel_rfl) (by kernel_rfl) (by kernel_rfl) rfl rfl rfl trivial (fun w _ => (x_assign (v := (Sl.v r70)) rfl rfl)) ?_
          exact wpD_done (by kernel_rfl) ⟨r70, ⟨rfl, e0, e1, e3, e9, e10, trivial⟩, h⟩
        · replace h := h.2
          obtain ⟨b71, hb71⟩ : ∃ u, u = w18.heap.size := ⟨_, rfl⟩
          obtain ⟨w22, hw71⟩ : ∃ u, u = w18.alloc (.cells #[(Value.string x45), (Value.int .i64 x46), (Value.int .i64 x47), (Value.int .i64 x48), (Value.bool x49), (Value.int .i64 x50), (Value.bool x51), (Value.bool x52), (Value.int .i64 x53), (Value.int .i64 x54), (Value.int .i64 x55), (Value.int .i64 x56), (Sl.v x57), (Value.int .i64 x58), (Value.int .i64 x59), (Value.int .i64 x60), (Value.int .i64 x61), (Value.bool x62), (Value.int .i64 x63), (Value.int .i64 x64), (Value.int .i64 x65), (Value.int .i64 x66)] 33) := ⟨_, rfl⟩
          replace h := h b71 w22 hb71 hw71
          refine stepD_valL (L' := [(1, fun _ => True)]) (v := (Sl.v (⟨some ⟨b71, 0, none⟩, 1, 1⟩ : Sl))) (w' := w22) rfl rfl rfl rfl ((x_buildSlice (qs := [(0, (Value.agg #[(Value.string x45), (Value.int .i64 x46), (Value.int .i64 x47), (Value.int .i64 x48), (Value.bool x49), (Value.int .i64 x50), (Value.bool x51), (Value.bool x52), (Value.int .i64 x53), (Value.int .i64 x54), (Value.int .i64 x55), (Value.int .i64 x56), (Sl.v x57), (Value.int .i64 x58), (Value.int .i64 x59), (Value.int .i64 x60), (Value.int .i64 x61), (Value.bool x62), (Value.int .i64 x63), (Value.int .i64 x64), (Value.int .i64 x65), (Value.int .i64 x66)]))]) rfl (by rfl) (BS_22_1_0 x45 x46 x47 x48 x49 x50 x51 x52 x53 x54 x55 x56 x57 x58 x59 x60 x61 x62 x63 x64 x65 x66)).trans (by rw [← hb71, ← hw71])) (by kernel_rfl) (held_cons trivial held_nil) ?_
          refine wpD_all (rs := [2]) (by kernel_rfl) (by simp) (allD_cons ?_ allD_nil)
          obtain ⟨r72, w23, q72, h⟩ := h
          refine stepD_valL (L' := []) (v := (Sl.v r72)) (w' := w23) rfl rfl rfl rfl (x_append (s := (⟨some ⟨b67, 0, none⟩, 0, 0⟩ : Sl)) (u := l42) rfl rfl rfl rfl q72) (by kernel_rfl) held_nil ?_
          refine wpD_all (rs := [5]) (by kernel_rfl) (by simp) (allD_cons ?_ allD_nil)
          obtain ⟨r73, w24, q73, h⟩ := h
          refine stepD_valL (L' := []) (v := (Sl.v r73)) (w' := w24) rfl rfl rfl rfl (x_append (s := r72) (u := (⟨some ⟨b71, 0, none⟩, 1, 1⟩ : Sl)) rfl rfl rfl rfl q73) (by kernel_rfl) held_nil ?_
          refine wpD_take (v := (Sl.v r73)) 6 (fun _ => True) rfl (by kernel_rfl) (by kernel_rfl) (by kernel_rfl) rfl rfl rfl trivial (fun w _ => (x_assign (v := (Sl.v r73)) rfl rfl)) ?_
          exact wpD_done (by kernel_rfl) ⟨r73, ⟨rfl, e0, e1, e3, e9, e10, trivial⟩, h⟩
      · replace h := h.2
        obtain ⟨b74, hb74⟩ : ∃ u, u = w17.heap.size := ⟨_, rfl⟩
        obtain ⟨w25, hw74⟩ : ∃ u, u = w17.alloc (.cells #[(Value.string x45), (Value.int .i64 x46), (Value.int .i64 x47), (Value.int .i64 x48), (Value.bool x49), (Value.int .i64 x50), (Value.bool x51), (Value.bool x52), (Value.int .i64 x53), (Value.int .i64 x54), (Value.int .i64 x55), (Value.int .i64 x56), (Sl.v x57), (Value.int .i64 x58), (Value.int .i64 x59), (Value.int .i64 x60), (Value.int .i64 x61), (Value.bool x62), (Value.int .i64 x63), (Value.int .i64 x64), (Value.int .i64 x65), (Value.int .i64 x66)] 33) := ⟨_, rfl⟩
        replace h := h b74 w25 hb74 hw74
        refine stepD_valL (L' := [(1, fun _ => True)]) (v := (Sl.v (⟨some ⟨b74, 0, none⟩, 1, 1⟩ : Sl))) (w' := w25) rfl rfl rfl rfl ((x_buildSlice (qs := [(0, (Value.agg #[(Value.string x45), (Value.int .i64 x46), (Value.int .i64 x47), (Value.int .i64 x48), (Value.bool x49), (Value.int .i64 x50), (Value.bool x51), (Value.bool x52), (Value.int .i64 x53), (Value.int .i64 x54), (Value.int .i64 x55), (Value.int .i64 x56), (Sl.v x57), (Value.int .i64 x58), (Value.int .i64 x59), (Value.int .i64 x60), (Value.int .i64 x61), (Value.bool x62), (Value.int .i64 x63), (Value.int .i64 x64), (Value.int .i64 x65), (Value.int .i64 x66)]))]) rfl (by rfl) (BS_22_1_0 x45 x46 x47 x48 x49 x50 x51 x52 x53 x54 x55 x56 x57 x58 x59 x60 x61 x62 x63 x64 x65 x66)).trans (by rw [← hb74, ← hw74])) (by kernel_rfl) (held_cons trivial held_nil) ?_
        refine wpD_all (rs := [0]) (by kernel_rfl) (by simp) (allD_cons ?_ allD_nil)
        obtain ⟨b75, hb75⟩ : ∃ u, u = w25.heap.size := ⟨_, rfl⟩
        obtain ⟨w26, hw75⟩ : ∃ u, u = w25.alloc (.cells #[] 33) := ⟨_, rfl⟩
        replace h := h b75 w26 hb75 hw75
        refine stepD_valL (L' := [(1, fun _ => True)]) (v := (Sl.v (⟨some ⟨b75, 0, none⟩, 0, 0⟩ : Sl))) (w' := w26) rfl rfl rfl rfl ((x_buildSlice (qs := []) rfl (by rfl) (BS_22_0_ )).trans (by rw [← hb75, ← hw75])) (by kernel_rfl) (held_cons trivial held_nil) ?_
        refine wpD_all (rs := [2]) (by kernel_rfl) (by simp) (allD_cons ?_ allD_nil)
        obtain ⟨r76, w27, q76, h⟩ := h
        refine stepD_valL (L' := []) (v := (Sl.v r76)) (w' := w27) rfl rfl rfl rfl (x_append (s := (⟨some ⟨b75, 0, none⟩, 0, 0⟩ : Sl)) (u := l42) rfl rfl rfl rfl q76) (by kernel_rfl) held_nil ?_
        refine wpD_all (rs := [5]) (by kernel_rfl) (by simp) (allD_cons ?_ allD_nil)
        obtain ⟨r77, w28, q77, h⟩ := h
        refine stepD_valL (L' := []) (v := (Sl.v r77)) (w' := w28) rfl rfl rfl rfl (x_append (s := r76) (u := (⟨some ⟨b74, 0, none⟩, 1, 1⟩ : Sl)) rfl rfl rfl rfl q77) (by kernel_rfl) held_nil ?_
        refine wpD_take (v := (Sl.v r77)) 6 (fun _ => True) rfl (by kernel_rfl) (by kernel_rfl) (by kernel_rfl) rfl rfl rfl trivial (fun w _ => (x_assign (v := (Sl.v r77)) rfl rfl)) ?_
        exact wpD_done (by kernel_rfl) ⟨r77, ⟨rfl, e0, e1, e3, e9, e10, trivial⟩, h⟩
    clear h
    rintro l78 ρ w29 ⟨e11, e0, e1, e3, e9, e10, -⟩ h
    replace h := hk l78 w29 h
    clear hk
    refine wpC_seq ?_
    refine wpC_seq ?_
    refine wpC_region ?_
    refine wpR_val (v := (Value.int .i64 0)) (w' := w29) rfl rfl rfl (x_assign (v := (Value.int .i64 0)) rfl rfl) ?_
    refine wpR_nil ?_
    refine wpC_block ?_
    obtain ⟨I79, μ79, hI79, hr79⟩ := h
    refine wpC_loop (fun (x : Int) ρ => ρ 12 = (Value.int .i64 x) ∧ ρ 0 = (Sl.v p0) ∧ ρ 1 = (Sl.v p1) ∧ ρ 3 = (Value.int .i64 p3) ∧ ρ 9 = (Value.bool r2) ∧ ρ 10 = (Sl.v l42) ∧ ρ 11 = (Sl.v l78) ∧ True) I79 μ79 0 ⟨rfl, e0, e1, e3, e9, e10, e11, trivial⟩ hI79 ?_
    rintro l79 ρ w30 ⟨e12, e0, e1, e3, e9, e10, e11, -⟩ h
    replace h := hr79 l79 w30 h
    clear hr79 hI79
    refine wpC_seq ?_
    refine wpC_seq ?_
    refine wpC_region ?_
    refine wpR_val (v := (Value.int .i64 l79)) (w' := w30) rfl rfl rfl (x_move (v := (Value.int .i64 l79)) rfl e12) ?_
    refine wpR_val (v := (Sl.v p1)) (w' := w30) rfl rfl rfl (x_move (v := (Sl.v p1)) rfl e1) ?_
    refine wpR_val (v := (Value.int .i64 (p1.len : Int))) (w' := w30) rfl rfl rfl (x_lenS (s := p1) rfl rfl isSliceT_23) ?_
    refine wpR_val (v := (Value.bool (decide (l79 < (p1.len : Int))))) (w' := w30) rfl rfl rfl (x_lss rfl rfl rfl) ?_
    refine wpR_nil ?_
    refine wpC_cond (b := decide (l79 < (p1.len : Int))) rfl (fun hc80 => ?_) (fun hc80 => ?_)
    · replace h := h.1 hc80
      refine wpC_skip ?_
      refine wpC_seq ?_
      refine wpC_block ?_
      refine wpC_seq ?_
      refine wpC_seq ?_
      refine wpC_cut (fun ρ => ρ 0 = (Sl.v p0) ∧ ρ 1 = (Sl.v p1) ∧ ρ 3 = (Value.int .i64 p3) ∧ ρ 9 = (Value.bool r2) ∧ ρ 10 = (Sl.v l42) ∧ ρ 11 = (Sl.v l78) ∧ ρ 12 = (Value.int .i64 l79) ∧ True) ⟨e0, e1, e3, e9, e10, e11, e12, trivial⟩ ?_
      rintro ρ ⟨e0, e1, e3, e9, e10, e11, e12, -⟩
      refine wpC_region ?_
      refine wpR_val (v := (Sl.v l42)) (w' := w30) rfl rfl rfl (x_move (v := (Sl.v l42)) rfl e10) ?_
      refine wpR_val (v := (Sl.v p1)) (w' := w30) rfl rfl rfl (x_move (v := (Sl.v p1)) rfl e1) ?_
      refine wpR_val (v := (Value.int .i64 p3)) (w' := w30) rfl rfl rfl (x_move (v := (Value.int .i64 p3)) rfl e3) ?_
      refine wpR_val (v := (Value.int .i64 l79)) (w' := w30) rfl rfl rfl (x_move (v := (Value.int .i64 l79)) rfl e12) ?_
      refine wpR_enter rfl rfl rfl (x_call (vs := [(Sl.v l42), (Sl.v p1), (Value.int .i64 p3), (Value.int .i64 l79)]) rfl rfl (mapl_cons rfl (mapl_cons rfl (mapl_cons rfl (mapl_cons rfl mapl_nil)))) Try.func9 NN_9 NB_9) (Calls.mono h ?_)
      rintro _ w31 ⟨r81, rfl, h⟩
      refine ⟨_, rfl, ?_⟩
      refine wpR_val (v := (Value.bool r81)) (w' := w31) rfl rfl rfl (x_move (v := (Value.bool r81)) rfl rfl) ?_
      obtain ⟨J82, h, hk⟩ := h
      refine wpR_joinJ 7 (fun x ρ => ρ 55 = Value.bool x ∧ ρ 0 = (Sl.v p0) ∧ ρ 1 = (Sl.v p1) ∧ ρ 3 = (Value.int .i64 p3) ∧ ρ 9 = (Value.bool r2) ∧ ρ 10 = (Sl.v l42) ∧ ρ 11 = (Sl.v l78) ∧ ρ 12 = (Value.int .i64 l79) ∧ True) (J82) ?_ ?_
      · clear hk
        rcases Bool.eq_false_or_eq_true (r81) with hc83 | hc83
        · replace h := h.1 hc83
          refine wpR_val (v := (Sl.v p0)) (w' := w31) (wantG rfl rfl rfl hc83) rfl rfl (x_move (v := (Sl.v p0)) rfl e0) ?_
          refine wpR_val (v := (Sl.v p1)) (w' := w31) (wantG rfl rfl rfl hc83) rfl rfl (x_move (v := (Sl.v p1)) rfl e1) ?_
          refine wpR_val (v := (Value.int .i64 p3)) (w' := w31) (wantG rfl rfl rfl hc83) rfl rfl (x_move (v := (Value.int .i64 p3)) rfl e3) ?_
          refine wpR_val (v := (Value.int .i64 l79)) (w' := w31) (wantG rfl rfl rfl hc83) rfl rfl (x_move (v := (Value.int .i64 l79)) rfl e12) ?_
          refine wpR_enter (wantG rfl rfl rfl hc83) rfl rfl (x_call (vs := [(Sl.v p0), (Sl.v p1), (Value.int .i64 p3), (Value.int .i64 l79)]) rfl rfl (mapl_cons rfl (mapl_cons rfl (mapl_cons rfl (mapl_cons rfl mapl_nil)))) Try.func9 NN_9 NB_9) (Calls.mono h ?_)
          rintro _ w32 ⟨r84, rfl, h⟩
          refine ⟨_, rfl, ?_⟩
          refine wpR_val (v := (Value.bool (!r84))) (w' := w32) (wantG rfl rfl rfl hc83) rfl rfl (x_not rfl rfl) ?_
          refine wpR_val (v := (Value.bool (!r84))) (w' := w32) rfl rfl rfl (x_pickT (v := (Value.bool (!r84))) rfl rfl hc83 rfl) ?_
          refine wpR_nil ?_
          exact ⟨!r84, ⟨rfl, e0, e1, e3, e9, e10, e11, e12, trivial⟩, h⟩
        · replace h := h.2 hc83
          refine wpR_pass (wantN rfl rfl rfl hc83) rfl rfl ?_
          refine wpR_pass (wantN rfl rfl rfl hc83) rfl rfl ?_
          refine wpR_pass (wantN rfl rfl rfl hc83) rfl rfl ?_
          refine wpR_pass (wantN rfl rfl rfl hc83) rfl rfl ?_
          refine wpR_pass (wantN rfl rfl rfl hc83) rfl rfl ?_
          refine wpR_pass (wantN rfl rfl rfl hc83) rfl rfl ?_
          refine wpR_val (v := (Value.bool false)) (w' := w31) rfl rfl rfl (x_pickF (v := (Value.bool false)) rfl rfl hc83 rfl) ?_
          refine wpR_nil ?_
          exact ⟨false, ⟨rfl, e0, e1, e3, e9, e10, e11, e12, trivial⟩, h⟩
      clear h
      rintro c85 ρ w33 ⟨e55, e0, e1, e3, e9, e10, e11, e12, -⟩ h
      replace h := hk c85 w33 h
      clear hk
      refine wpR_val (v := (Value.bool c85)) (w' := w33) rfl rfl rfl (x_move (v := (Value.bool c85)) rfl e55) ?_
      obtain ⟨J86, h, hk⟩ := h
      refine wpR_joinJ 12 (fun x ρ => ρ 68 = Value.bool x ∧ ρ 0 = (Sl.v p0) ∧ ρ 1 = (Sl.v p1) ∧ ρ 3 = (Value.int .i64 p3) ∧ ρ 9 = (Value.bool r2) ∧ ρ 10 = (Sl.v l42) ∧ ρ 11 = (Sl.v l78) ∧ ρ 12 = (Value.int .i64 l79) ∧ True) (J86) ?_ ?_
      · clear hk
        rcases Bool.eq_false_or_eq_true (c85) with hc87 | hc87
        · replace h := h.1 hc87
          refine wpR_pass (wantN rfl rfl rfl hc87) rfl rfl ?_
          refine wpR_pass (wantN rfl rfl rfl hc87) rfl rfl ?_
          refine wpR_pass (wantN rfl rfl rfl hc87) rfl rfl ?_
          refine wpR_pass (wantN rfl rfl rfl hc87) rfl rfl ?_
          refine wpR_pass (wantN rfl rfl rfl hc87) rfl rfl ?_
          refine wpR_pass (wantN rfl rfl rfl hc87) rfl rfl ?_
          refine wpR_pass (wantN rfl rfl rfl hc87) rfl rfl ?_
          refine wpR_pass (wantN rfl rfl rfl hc87) rfl rfl ?_
          refine wpR_pass (wantN rfl rfl rfl hc87) rfl rfl ?_
          refine wpR_pass (wantN rfl rfl rfl hc87) rfl rfl ?_
          refine wpR_pass (wantN rfl rfl rfl hc87) rfl rfl ?_
          refine wpR_val (v := (Value.bool true)) (w' := w33) rfl rfl rfl (x_pickT (v := (Value.bool true)) rfl rfl hc87 rfl) ?_
          refine wpR_nil ?_
          exact ⟨true, ⟨rfl, e0, e1, e3, e9, e10, e11, e12, trivial⟩, h⟩
        · replace h := h.2 hc87
          refine wpR_val (v := (Sl.v l78)) (w' := w33) (wantG rfl rfl rfl hc87) rfl rfl (x_move (v := (Sl.v l78)) rfl e11) ?_
          refine wpR_val (v := (Sl.v p1)) (w' := w33) (wantG rfl rfl rfl hc87) rfl rfl (x_move (v := (Sl.v p1)) rfl e1) ?_
          refine wpR_val (v := (Value.int .i64 p3)) (w' := w33) (wantG rfl rfl rfl hc87) rfl rfl (x_move (v := (Value.int .i64 p3)) rfl e3) ?_
          refine wpR_val (v := (Value.int .i64 l79)) (w' := w33) (wantG rfl rfl rfl hc87) rfl rfl (x_move (v := (Value.int .i64 l79)) rfl e12) ?_
          refine wpR_enter (wantG rfl rfl rfl hc87) rfl rfl (x_call (vs := [(Sl.v l78), (Sl.v p1), (Value.int .i64 p3), (Value.int .i64 l79)]) rfl rfl (mapl_cons rfl (mapl_cons rfl (mapl_cons rfl (mapl_cons rfl mapl_nil)))) Try.func9 NN_9 NB_9) (Calls.mono h ?_)
          rintro _ w34 ⟨r88, rfl, h⟩
          refine ⟨_, rfl, ?_⟩
          refine wpR_val (v := (Sl.v l42)) (w' := w34) (wantG rfl rfl rfl hc87) rfl rfl (x_move (v := (Sl.v l42)) rfl e10) ?_
          refine wpR_val (v := (Sl.v p1)) (w' := w34) (wantG rfl rfl rfl hc87) rfl rfl (x_move (v := (Sl.v p1)) rfl e1) ?_
          refine wpR_val (v := (Value.int .i64 p3)) (w' := w34) (wantG rfl rfl rfl hc87) rfl rfl (x_move (v := (Value.int .i64 p3)) rfl e3) ?_
          refine wpR_val (v := (Value.int .i64 l79)) (w' := w34) (wantG rfl rfl rfl hc87) rfl rfl (x_move (v := (Value.int .i64 l79)) rfl e12) ?_
          refine wpR_enter (wantG rfl rfl rfl hc87) rfl rfl (x_call (vs := [(Sl.v l42), (Sl.v p1), (Value.int .i64 p3), (Value.int .i64 l79)]) rfl rfl (mapl_cons rfl (mapl_cons rfl (mapl_cons rfl (mapl_cons rfl mapl_nil)))) Try.func9 NN_9 NB_9) (Calls.mono h ?_)
          rintro _ w35 ⟨r89, rfl, h⟩
          refine ⟨_, rfl, ?_⟩
          refine wpR_val (v := (Value.bool (!(r88 == r89)))) (w' := w35) (wantG rfl rfl rfl hc87) rfl rfl (x_neqB rfl rfl rfl isBoolT_4) ?_
          refine wpR_val (v := (Value.bool (!(r88 == r89)))) (w' := w35) rfl rfl rfl (x_pickF (v := (Value.bool (!(r88 == r89)))) rfl rfl hc87 rfl) ?_
          refine wpR_nil ?_
          exact ⟨!(r88 == r89), ⟨rfl, e0, e1, e3, e9, e10, e11, e12, trivial⟩, h⟩
      clear h
      rintro c90 ρ w36 ⟨e68, e0, e1, e3, e9, e10, e11, e12, -⟩ h
      replace h := hk c90 w36 h
      clear hk
      refine wpR_nil ?_
      refine wpC_cond (b := c90) e68 (fun hc91 => ?_) (fun hc91 => ?_)
      · replace h := h.1 hc91
        refine wpC_seq ?_
        refine wpC_region ?_
        refine wpR_val (v := (Value.bool false)) (w' := w36) rfl rfl rfl (x_assign (v := (Value.bool false)) rfl rfl) ?_
        refine wpR_nil ?_
        refine wpC_ret ?_
        exact ⟨.inl rfl, fun a ha => ⟨_, results_rep1 rfl ha rfl, false, rfl, h⟩⟩
      · replace h := h.2 hc91
        refine wpC_skip ?_
        refine wpC_seq ?_
        refine wpC_region ?_
        refine wpR_val (v := (Value.int .i64 0)) (w' := w36) rfl rfl rfl (x_assign (v := (Value.int .i64 0)) rfl rfl) ?_
        refine wpR_nil ?_
        refine wpC_block ?_
        obtain ⟨I92, μ92, hI92, hr92⟩ := h
        refine wpC_loop (fun (x : Int) ρ => ρ 13 = (Value.int .i64 x) ∧ ρ 0 = (Sl.v p0) ∧ ρ 1 = (Sl.v p1) ∧ ρ 3 = (Value.int .i64 p3) ∧ ρ 9 = (Value.bool r2) ∧ ρ 10 = (Sl.v l42) ∧ ρ 11 = (Sl.v l78) ∧ ρ 12 = (Value.int .i64 l79) ∧ True) I92 μ92 0 ⟨rfl, e0, e1, e3, e9, e10, e11, e12, trivial⟩ hI92 ?_
        rintro l92 ρ w37 ⟨e13, e0, e1, e3, e9, e10, e11, e12, -⟩ h
        replace h := hr92 l92 w37 h
        clear hr92 hI92
        refine wpC_seq ?_
        refine wpC_seq ?_
        refine wpC_region ?_
        refine wpR_val (v := (Value.int .i64 l92)) (w' := w37) rfl rfl rfl (x_move (v := (Value.int .i64 l92)) rfl e13) ?_
        refine wpR_val (v := (Value.bool (decide (l92 < 12)))) (w' := w37) rfl rfl rfl (x_lss rfl rfl rfl) ?_
        refine wpR_nil ?_
        refine wpC_cond (b := decide (l92 < 12)) rfl (fun hc93 => ?_) (fun hc93 => ?_)
        · replace h := h.1 hc93
          refine wpC_skip ?_
          refine wpC_seq ?_
          refine wpC_block ?_
          refine wpC_seq ?_
          refine wpC_cut (fun ρ => ρ 0 = (Sl.v p0) ∧ ρ 1 = (Sl.v p1) ∧ ρ 3 = (Value.int .i64 p3) ∧ ρ 9 = (Value.bool r2) ∧ ρ 10 = (Sl.v l42) ∧ ρ 11 = (Sl.v l78) ∧ ρ 12 = (Value.int .i64 l79) ∧ ρ 13 = (Value.int .i64 l92) ∧ True) ⟨e0, e1, e3, e9, e10, e11, e12, e13, trivial⟩ ?_
          rintro ρ ⟨e0, e1, e3, e9, e10, e11, e12, e13, -⟩
          refine wpC_region ?_
          refine wpR_val (v := (Sl.v l42)) (w' := w37) rfl rfl rfl (x_move (v := (Sl.v l42)) rfl e10) ?_
          refine wpR_val (v := (Sl.v p1)) (w' := w37) rfl rfl rfl (x_move (v := (Sl.v p1)) rfl e1) ?_
          refine wpR_val (v := (Value.int .i64 l92)) (w' := w37) rfl rfl rfl (x_move (v := (Value.int .i64 l92)) rfl e13) ?_
          refine wpR_val (v := (Value.int .i64 l79)) (w' := w37) rfl rfl rfl (x_move (v := (Value.int .i64 l79)) rfl e12) ?_
          refine wpR_enter rfl rfl rfl (x_call (vs := [(Sl.v l42), (Sl.v p1), (Value.int .i64 l92), (Value.int .i64 l79)]) rfl rfl (mapl_cons rfl (mapl_cons rfl (mapl_cons rfl (mapl_cons rfl mapl_nil)))) Try.func11 NN_11 NB_11) (Calls.mono h ?_)
          rintro _ w38 ⟨r94, rfl, h⟩
          refine ⟨_, rfl, ?_⟩
          refine wpR_val (v := (Value.bool r94)) (w' := w38) rfl rfl rfl (x_move (v := (Value.bool r94)) rfl rfl) ?_
          obtain ⟨J95, h, hk⟩ := h
          refine wpR_joinJ 7 (fun x ρ => ρ 85 = Value.bool x ∧ ρ 0 = (Sl.v p0) ∧ ρ 1 = (Sl.v p1) ∧ ρ 3 = (Value.int .i64 p3) ∧ ρ 9 = (Value.bool r2) ∧ ρ 10 = (Sl.v l42) ∧ ρ 11 = (Sl.v l78) ∧ ρ 12 = (Value.int .i64 l79) ∧ ρ 13 = (Value.int .i64 l92) ∧ True) (J95) ?_ ?_
          · clear hk
            rcases Bool.eq_false_or_eq_true (r94) with hc96 | hc96
            · replace h := h.1 hc96
              refine wpR_val (v := (Sl.v p0)) (w' := w38) (wantG rfl rfl rfl hc96) rfl rfl (x_move (v := (Sl.v p0)) rfl e0) ?_
              refine wpR_val (v := (Sl.v p1)) (w' := w38) (wantG rfl rfl rfl hc96) rfl rfl (x_move (v := (Sl.v p1)) rfl e1) ?_
              refine wpR_val (v := (Value.int .i64 l92)) (w' := w38) (wantG rfl rfl rfl hc96) rfl rfl (x_move (v := (Value.int .i64 l92)) rfl e13) ?_
              refine wpR_val (v := (Value.int .i64 l79)) (w' := w38) (wantG rfl rfl rfl hc96) rfl rfl (x_move (v := (Value.int .i64 l79)) rfl e12) ?_
              refine wpR_enter (wantG rfl rfl rfl hc96) rfl rfl (x_call (vs := [(Sl.v p0), (Sl.v p1), (Value.int .i64 l92), (Value.int .i64 l79)]) rfl rfl (mapl_cons rfl (mapl_cons rfl (mapl_cons rfl (mapl_cons rfl mapl_nil)))) Try.func11 NN_11 NB_11) (Calls.mono h ?_)
              rintro _ w39 ⟨r97, rfl, h⟩
              refine ⟨_, rfl, ?_⟩
              refine wpR_val (v := (Value.bool (!r97))) (w' := w39) (wantG rfl rfl rfl hc96) rfl rfl (x_not rfl rfl) ?_
              refine wpR_val (v := (Value.bool (!r97))) (w' := w39) rfl rfl rfl (x_pickT (v := (Value.bool (!r97))) rfl rfl hc96 rfl) ?_
              refine wpR_nil ?_
              exact ⟨!r97, ⟨rfl, e0, e1, e3, e9, e10, e11, e12, e13, trivial⟩, h⟩
            · replace h := h.2 hc96
              refine wpR_pass (wantN rfl rfl rfl hc96) rfl rfl ?_
              refine wpR_pass (wantN rfl rfl rfl hc96) rfl rfl ?_
              refine wpR_pass (wantN rfl rfl rfl hc96) rfl rfl ?_
              refine wpR_pass (wantN rfl rfl rfl hc96) rfl rfl ?_
              refine wpR_pass (wantN rfl rfl rfl hc96) rfl rfl ?_
              refine wpR_pass (wantN rfl rfl rfl hc96) rfl rfl ?_
              refine wpR_val (v := (Value.bool false)) (w' := w38) rfl rfl rfl (x_pickF (v := (Value.bool false)) rfl rfl hc96 rfl) ?_
              refine wpR_nil ?_
              exact ⟨false, ⟨rfl, e0, e1, e3, e9, e10, e11, e12, e13, trivial⟩, h⟩
          clear h
          rintro c98 ρ w40 ⟨e85, e0, e1, e3, e9, e10, e11, e12, e13, -⟩ h
          replace h := hk c98 w40 h
          clear hk
          refine wpR_nil ?_
          refine wpC_cond (b := c98) e85 (fun hc99 => ?_) (fun hc99 => ?_)
          · replace h := h.1 hc99
            refine wpC_seq ?_
            refine wpC_region ?_
            refine wpR_val (v := (Value.bool false)) (w' := w40) rfl rfl rfl (x_assign (v := (Value.bool false)) rfl rfl) ?_
            refine wpR_nil ?_
            refine wpC_ret ?_
            exact ⟨.inl rfl, fun a ha => ⟨_, results_rep1 rfl ha rfl, false, rfl, h⟩⟩
          · replace h := h.2 hc99
            refine wpC_skip ?_
            refine wpC_region ?_
            refine wpR_val (v := (Value.int .i64 l92)) (w' := w40) rfl rfl rfl (x_move (v := (Value.int .i64 l92)) rfl e13) ?_
            refine wpR_val (v := (Value.int .i64 (IntKind.i64.wrap (l92 + 1)))) (w' := w40) rfl rfl rfl (x_add rfl rfl rfl) ?_
            refine wpR_val (v := (Value.int .i64 (IntKind.i64.wrap (l92 + 1)))) (w' := w40) rfl rfl rfl (x_assign (v := (Value.int .i64 (IntKind.i64.wrap (l92 + 1)))) rfl rfl) ?_
            refine wpR_nil ?_
            exact ⟨IntKind.i64.wrap (l92 + 1), ⟨rfl, e0, e1, e3, e9, e10, e11, e12, trivial⟩, h⟩
        · replace h := h.2 hc93
          refine wpC_exit ?_
          refine wpC_cut (fun ρ => ρ 0 = (Sl.v p0) ∧ ρ 1 = (Sl.v p1) ∧ ρ 3 = (Value.int .i64 p3) ∧ ρ 9 = (Value.bool r2) ∧ ρ 10 = (Sl.v l42) ∧ ρ 11 = (Sl.v l78) ∧ ρ 12 = (Value.int .i64 l79) ∧ True) ⟨e0, e1, e3, e9, e10, e11, e12, trivial⟩ ?_
          rintro ρ ⟨e0, e1, e3, e9, e10, e11, e12, -⟩
          refine wpC_region ?_
          refine wpR_val (v := (Value.int .i64 l79)) (w' := w37) rfl rfl rfl (x_move (v := (Value.int .i64 l79)) rfl e12) ?_
          refine wpR_val (v := (Value.int .i64 (IntKind.i64.wrap (l79 + 1)))) (w' := w37) rfl rfl rfl (x_add rfl rfl rfl) ?_
          refine wpR_val (v := (Value.int .i64 (IntKind.i64.wrap (l79 + 1)))) (w' := w37) rfl rfl rfl (x_assign (v := (Value.int .i64 (IntKind.i64.wrap (l79 + 1)))) rfl rfl) ?_
          refine wpR_nil ?_
          exact ⟨IntKind.i64.wrap (l79 + 1), ⟨rfl, e0, e1, e3, e9, e10, e11, trivial⟩, h⟩
    · replace h := h.2 hc80
      refine wpC_exit ?_
      refine wpC_seq ?_
      refine wpC_cut (fun ρ => ρ 9 = (Value.bool r2) ∧ True) ⟨e9, trivial⟩ ?_
      rintro ρ ⟨e9, -⟩
      refine wpC_region ?_
      refine wpR_val (v := (Value.bool r2)) (w' := w30) rfl rfl rfl (x_move (v := (Value.bool r2)) rfl e9) ?_
      refine wpR_val (v := (Value.bool r2)) (w' := w30) rfl rfl rfl (x_assign (v := (Value.bool r2)) rfl rfl) ?_
      refine wpR_nil ?_
      refine wpC_ret ?_
      exact ⟨.inl rfl, fun a ha => ⟨_, results_rep1 rfl ha rfl, r2, rfl, h⟩⟩

/-- lingualaw18.SightStays -/
def F5 (p0 : Sl) (p1 : Sl) (p2 : Int) (p3 : Int) (w0 : World) (K : Bool → World → Prop) : Prop :=
  callC Try.prog 7 #[] (fun (r : Bool) => (Value.bool r)) w0 fun r1 w1 =>
  callC Try.prog 8 #[(Sl.v p0), (Sl.v p1), (Value.int .i64 20)] (fun (r : Bool) => (Value.bool r)) w1 fun r2 w2 =>
  cnd (!r2)
    (
    K r1 w2
    )
    (
    (IntKind.i64.wrap ((p1.len : Int) + 1)) ≠ 0 ∧
    rn Try.prog (Instr.sliceAt 23 (Sl.v p1) none (some (Value.int .i64 ((IntKind.i64.wrap p2).tmod (IntKind.i64.wrap ((p1.len : Int) + 1))))) none) (fun (r : Sl) => (Sl.v r)) w2 fun r5 w3 =>
    callC Try.prog 14 #[(Sl.v p0), (Sl.v r5), (Value.int .i64 p3)] (fun (r : Sl) => (Sl.v r)) w3 fun r6 w4 =>
    callC Try.prog 14 #[(Sl.v p0), (Sl.v p1), (Value.int .i64 p3)] (fun (r : Sl) => (Sl.v r)) w4 fun r7 w5 =>
    lp (fun (next8 : (Bool × Int) → World → Prop) l8 w6 =>
      cnd (decide (l8.2 < (p0.len : Int)))
        (
        jp (fun J10 => cnd (l8.1)
          (
          J10 true
          )
          (
          ix p0 l8.2 22 fun p12 =>
          ld (Value.int .i64) (p12.add 14) w6 fun x13 =>
          J10 (!decide (x13 = 1))
          ))
        fun c14 =>
        next8 (c14, IntKind.i64.wrap (l8.2 + 1)) w6
        )
        (
        lp (fun (next15 : Int → World → Prop) l15 w7 =>
          cnd (decide (l15 < ((IntKind.i64.wrap p2).tmod (IntKind.i64.wrap ((p1.len : Int) + 1)))))
            (
            callC Try.prog 16 #[(Sl.v r6), (Value.int .i64 l15)] (fun (r : Bool) => (Value.bool r)) w7 fun r17 w8 =>
            jn (fun J18 => cnd (r17)
              (
              callC Try.prog 16 #[(Sl.v r7), (Value.int .i64 l15)] (fun (r : Bool) => (Value.bool r)) w8 fun r20 w9 =>
              J18 (!r20) w9
              )
              (
              J18 false w8
              ))
            fun c21 w10 =>
            jn (fun J22 => cnd (c21)
              (
              J22 true w10
              )
              (
              jn (fun J24 => cnd (l8.1)
                (
                callC Try.prog 16 #[(Sl.v r7), (Value.int .i64 l15)] (fun (r : Bool) => (Value.bool r)) w10 fun r26 w11 =>
                J24 r26 w11
                )
                (
                J24 false w10
                ))
              fun c27 w12 =>
              jn (fun J28 => cnd (c27)
                (
                callC Try.prog 16 #[(Sl.v r6), (Value.int .i64 l15)] (fun (r : Bool) => (Value.bool r)) w12 fun r30 w13 =>
                J28 (!r30) w13
                )
                (
                J28 false w12
                ))
              fun c31 w14 =>
              J22 c31 w14
              ))
            fun c32 w15 =>
            cnd (c32)
              (
              K false w15
              )
              (
              next15 (IntKind.i64.wrap (l15 + 1)) w15
              )
            )
            (
            lp (fun (next34 : Int → World → Prop) l34 w16 =>
              cnd (decide (l34 < (r6.len : Int)))
                (
                jn (fun (J37 : Bool → World → Prop) => tk w16 fun w17 =>
                  ix r6 l34 1 fun p38 =>
                  ld (Value.int .i64) p38 w17 fun x39 =>
                  cnd (decide (x39 < 0))
                    (
                    J37 true w17
                    )
                    (
                    ix r6 l34 1 fun p41 =>
                    ld (Value.int .i64) p41 w17 fun x42 =>
                    cnd (decide (((IntKind.i64.wrap p2).tmod (IntKind.i64.wrap ((p1.len : Int) + 1))) ≤ x42))
                      (
                      J37 true w17
                      )
                      (
                      cnd (decide (0 < l34))
                        (
                        ix r6 l34 1 fun p45 =>
                        ld (Value.int .i64) p45 w17 fun x46 =>
                        ix r6 (max (IntKind.i64.wrap (l34 - 1)) 0) 1 fun p47 =>
                        ld (Value.int .i64) p47 w17 fun x48 =>
                        J37 (decide (x46 ≤ x48)) w17
                        )
                        (
                        J37 false w17
                        )
                      )
                    )
                )
                fun l49 w18 =>
                cnd (l49)
                  (
                  K false w18
                  )
                  (
                  next34 (IntKind.i64.wrap (l34 + 1)) w18
                  )
                )
                (
                K r1 w16
                )
            ) 0 w7
            )
        ) 0 w6
        )
    ) (false, 0) w5
    )
set_option maxRecDepth 100000 in
theorem D5 (p0 : Sl) (p1 : Sl) (p2 : Int) (p3 : Int) (w0 : World) (K : Bool → World → Prop) (h : F5 p0 p1 p2 p3 w0 K) : callC Try.prog 5 #[(Sl.v p0), (Sl.v p1), (Value.int .u8 p2), (Value.int .i64 p3)] (fun (r : Bool) => (Value.bool r)) w0 K := by
  unfold F5 at h
  refine calls_of_wpC Try.func5 rfl 119 rfl (by simp) ?_
  intro ρ hρ
  have e0 : ρ 0 = (Sl.v p0) := hρ 0
  have e1 : ρ 1 = (Sl.v p1) := hρ 1
  have e2 : ρ 2 = (Value.int .u8 p2) := hρ 2
  have e3 : ρ 3 = (Value.int .i64 p3) := hρ 3
  clear hρ
  refine wpC_seq ?_
  refine wpC_region ?_
  refine wpR_val (v := (Value.bool false)) (w' := w0) rfl rfl rfl (x_assign (v := (Value.bool false)) rfl rfl) ?_
  refine wpR_nil ?_
  refine wpC_seq ?_
  refine wpC_cut (fun ρ => ρ 0 = (Sl.v p0) ∧ ρ 1 = (Sl.v p1) ∧ ρ 2 = (Value.int .u8 p2) ∧ ρ 3 = (Value.int .i64 p3) ∧ True) ⟨e0, e1, e2, e3, trivial⟩ ?_
  rintro ρ ⟨e0, e1, e2, e3, -⟩
  refine wpC_region ?_
  refine wpR_enter rfl rfl rfl (x_call (vs := []) rfl rfl mapl_nil Try.func7 NN_7 NB_7) (Calls.mono h ?_)
  rintro _ w1 ⟨r1, rfl, h⟩
  refine ⟨_, rfl, ?_⟩
  refine wpR_val (v := (Value.bool r1)) (w' := w1) rfl rfl rfl (x_assign (v := (Value.bool r1)) rfl rfl) ?_
  refine wpR_nil ?_
  refine wpC_seq ?_
  refine wpC_seq ?_
  refine wpC_cut (fun ρ => ρ 0 = (Sl.v p0) ∧ ρ 1 = (Sl.v p1) ∧ ρ 2 = (Value.int .u8 p2) ∧ ρ 3 = (Value.int .i64 p3) ∧ ρ 9 = (Value.bool r1) ∧ True) ⟨e0, e1, e2, e3, rfl, trivial⟩ ?_
  rintro ρ ⟨e0, e1, e2, e3, e9, -⟩
  refine wpC_region ?_
  refine wpR_val (v := (Sl.v p0)) (w' := w1) rfl rfl rfl (x_move (v := (Sl.v p0)) rfl e0) ?_
  refine wpR_val (v := (Sl.v p1)) (w' := w1) rfl rfl rfl (x_move (v := (Sl.v p1)) rfl e1) ?_
  refine wpR_enter rfl rfl rfl (x_call (vs := [(Sl.v p0), (Sl.v p1), (Value.int .i64 20)]) rfl rfl (mapl_cons rfl (mapl_cons rfl (mapl_cons rfl mapl_nil))) Try.func8 NN_8 NB_8) (Calls.mono h ?_)
  rintro _ w2 ⟨r2, rfl, h⟩
  refine ⟨_, rfl, ?_⟩
  refine wpR_val (v := (Value.bool (!r2))) (w' := w2) rfl rfl rfl (x_not rfl rfl) ?_
  refine wpR_nil ?_
  refine wpC_cond (b := !r2) rfl (fun hc3 => ?_) (fun hc3 => ?_)
  · replace h := h.1 hc3
    refine wpC_seq ?_
    refine wpC_cut (fun ρ => ρ 9 = (Value.bool r1) ∧ True) ⟨e9, trivial⟩ ?_
    rintro ρ ⟨e9, -⟩
    refine wpC_region ?_
    refine wpR_val (v := (Value.bool r1)) (w' := w2) rfl rfl rfl (x_move (v := (Value.bool r1)) rfl e9) ?_
    refine wpR_val (v := (Value.bool r1)) (w' := w2) rfl rfl rfl (x_assign (v := (Value.bool r1)) rfl rfl) ?_
    refine wpR_nil ?_
    refine wpC_ret ?_
    exact ⟨.inl rfl, fun a ha => ⟨_, results_rep1 rfl ha rfl, r1, rfl, h⟩⟩
  · replace h := h.2 hc3
    refine wpC_skip ?_
    refine wpC_seq ?_
    refine wpC_cut (fun ρ => ρ 0 = (Sl.v p0) ∧ ρ 1 = (Sl.v p1) ∧ ρ 2 = (Value.int .u8 p2) ∧ ρ 3 = (Value.int .i64 p3) ∧ ρ 9 = (Value.bool r1) ∧ True) ⟨e0, e1, e2, e3, e9, trivial⟩ ?_
    rintro ρ ⟨e0, e1, e2, e3, e9, -⟩
    refine wpC_region ?_
    refine wpR_val (v := (Value.int .u8 p2)) (w' := w2) rfl rfl rfl (x_move (v := (Value.int .u8 p2)) rfl e2) ?_
    refine wpR_val (v := (Value.int .i64 (IntKind.i64.wrap p2))) (w' := w2) rfl rfl rfl (x_convI rfl rfl IK_3 IK_5) ?_
    refine wpR_val (v := (Sl.v p1)) (w' := w2) rfl rfl rfl (x_move (v := (Sl.v p1)) rfl e1) ?_
    refine wpR_val (v := (Value.int .i64 (p1.len : Int))) (w' := w2) rfl rfl rfl (x_lenS (s := p1) rfl rfl isSliceT_23) ?_
    refine wpR_val (v := (Value.int .i64 (IntKind.i64.wrap ((p1.len : Int) + 1)))) (w' := w2) rfl rfl rfl (x_add rfl rfl rfl) ?_
    obtain ⟨q4, h⟩ := h
    refine wpR_val (v := (Value.int .i64 ((IntKind.i64.wrap p2).tmod (IntKind.i64.wrap ((p1.len : Int) + 1))))) (w' := w2) rfl rfl rfl (x_rem rfl rfl rfl q4) ?_
    refine wpR_val (v := (Value.int .i64 ((IntKind.i64.wrap p2).tmod (IntKind.i64.wrap ((p1.len : Int) + 1))))) (w' := w2) rfl rfl rfl (x_assign (v := (Value.int .i64 ((IntKind.i64.wrap p2).tmod (IntKind.i64.wrap ((p1.len : Int) + 1))))) rfl rfl) ?_
    refine wpR_nil ?_
    refine wpC_seq ?_
    refine wpC_cut (fun ρ => ρ 0 = (Sl.v p0) ∧ ρ 1 = (Sl.v p1) ∧ ρ 3 = (Value.int .i64 p3) ∧ ρ 9 = (Value.bool r1) ∧ ρ 10 = (Value.int .i64 ((IntKind.i64.wrap p2).tmod (IntKind.i64.wrap ((p1.len : Int) + 1)))) ∧ True) ⟨e0, e1, e3, e9, rfl, trivial⟩ ?_
    rintro ρ ⟨e0, e1, e3, e9, e10, -⟩
    refine wpC_region ?_
    refine wpR_val (v := (Sl.v p0)) (w' := w2) rfl rfl rfl (x_move (v := (Sl.v p0)) rfl e0) ?_
    refine wpR_val (v := (Sl.v p1)) (w' := w2) rfl rfl rfl (x_move (v := (Sl.v p1)) rfl e1) ?_
    refine wpR_val (v := (Value.int .i64 ((IntKind.i64.wrap p2).tmod (IntKind.i64.wrap ((p1.len : Int) + 1))))) (w' := w2) rfl rfl rfl (x_move (v := (Value.int .i64 ((IntKind.i64.wrap p2).tmod (IntKind.i64.wrap ((p1.len : Int) + 1))))) rfl e10) ?_
    obtain ⟨r5, w3, q5, h⟩ := h
    refine wpR_val (v := (Sl.v r5)) (w' := w3) rfl rfl rfl (x_sliceAt rfl rfl rfl (congrArg some rfl) rfl q5) ?_
    refine wpR_val (v := (Value.int .i64 p3)) (w' := w3) rfl rfl rfl (x_move (v := (Value.int .i64 p3)) rfl e3) ?_
    refine wpR_enter rfl rfl rfl (x_call (vs := [(Sl.v p0), (Sl.v r5), (Value.int .i64 p3)]) rfl rfl (mapl_cons rfl (mapl_cons rfl (mapl_cons rfl mapl_nil))) Try.func14 NN_14 NB_14) (Calls.mono h ?_)
    rintro _ w4 ⟨r6, rfl, h⟩
    refine ⟨_, rfl, ?_⟩
    refine wpR_val (v := (Sl.v r6)) (w' := w4) rfl rfl rfl (x_assign (v := (Sl.v r6)) rfl rfl) ?_
    refine wpR_nil ?_
    refine wpC_seq ?_
    refine wpC_cut (fun ρ => ρ 0 = (Sl.v p0) ∧ ρ 1 = (Sl.v p1) ∧ ρ 3 = (Value.int .i64 p3) ∧ ρ 9 = (Value.bool r1) ∧ ρ 10 = (Value.int .i64 ((IntKind.i64.wrap p2).tmod (IntKind.i64.wrap ((p1.len : Int) + 1)))) ∧ ρ 11 = (Sl.v r6) ∧ True) ⟨e0, e1, e3, e9, e10, rfl, trivial⟩ ?_
    rintro ρ ⟨e0, e1, e3, e9, e10, e11, -⟩
    refine wpC_region ?_
    refine wpR_val (v := (Sl.v p0)) (w' := w4) rfl rfl rfl (x_move (v := (Sl.v p0)) rfl e0) ?_
    refine wpR_val (v := (Sl.v p1)) (w' := w4) rfl rfl rfl (x_move (v := (Sl.v p1)) rfl e1) ?_
    refine wpR_val (v := (Value.int .i64 p3)) (w' := w4) rfl rfl rfl (x_move (v := (Value.int .i64 p3)) rfl e3) ?_
    refine wpR_enter rfl rfl rfl (x_call (vs := [(Sl.v p0), (Sl.v p1), (Value.int .i64 p3)]) rfl rfl (mapl_cons rfl (mapl_cons rfl (mapl_cons rfl mapl_nil))) Try.func14 NN_14 NB_14) (Calls.mono h ?_)
    rintro _ w5 ⟨r7, rfl, h⟩
    refine ⟨_, rfl, ?_⟩
    refine wpR_val (v := (Sl.v r7)) (w' := w5) rfl rfl rfl (x_assign (v := (Sl.v r7)) rfl rfl) ?_
    refine wpR_nil ?_
    refine wpC_seq ?_
    refine wpC_cut (fun ρ => ρ 0 = (Sl.v p0) ∧ ρ 9 = (Value.bool r1) ∧ ρ 10 = (Value.int .i64 ((IntKind.i64.wrap p2).tmod (IntKind.i64.wrap ((p1.len : Int) + 1)))) ∧ ρ 11 = (Sl.v r6) ∧ ρ 12 = (Sl.v r7) ∧ True) ⟨e0, e9, e10, e11, rfl, trivial⟩ ?_
    rintro ρ ⟨e0, e9, e10, e11, e12, -⟩
    refine wpC_region ?_
    refine wpR_val (v := (Value.bool false)) (w' := w5) rfl rfl rfl (x_assign (v := (Value.bool false)) rfl rfl) ?_
    refine wpR_nil ?_
    refine wpC_seq ?_
    refine wpC_seq ?_
    refine wpC_cut (fun ρ => ρ 0 = (Sl.v p0) ∧ ρ 9 = (Value.bool r1) ∧ ρ 10 = (Value.int .i64 ((IntKind.i64.wrap p2).tmod (IntKind.i64.wrap ((p1.len : Int) + 1)))) ∧ ρ 11 = (Sl.v r6) ∧ ρ 12 = (Sl.v r7) ∧ ρ 13 = (Value.bool false) ∧ True) ⟨e0, e9, e10, e11, e12, rfl, trivial⟩ ?_
    rintro ρ ⟨e0, e9, e10, e11, e12, e13, -⟩
    refine wpC_region ?_
    refine wpR_val (v := (Value.int .i64 0)) (w' := w5) rfl rfl rfl (x_assign (v := (Value.int .i64 0)) rfl rfl) ?_
    refine wpR_nil ?_
    refine wpC_block ?_
    obtain ⟨I8, μ8, hI8, hr8⟩ := h
    refine wpC_loop (fun (x : Bool × Int) ρ => ρ 13 = (Value.bool x.1) ∧ ρ 14 = (Value.int .i64 x.2) ∧ ρ 0 = (Sl.v p0) ∧ ρ 9 = (Value.bool r1) ∧ ρ 10 = (Value.int .i64 ((IntKind.i64.wrap p2).tmod (IntKind.i64.wrap ((p1.len : Int) + 1)))) ∧ ρ 11 = (Sl.v r6) ∧ ρ 12 = (Sl.v r7) ∧ True) I8 μ8 (false, 0) ⟨e13, rfl, e0, e9, e10, e11, e12, trivial⟩ hI8 ?_
    rintro l8 ρ w6 ⟨e13, e14, e0, e9, e10, e11, e12, -⟩ h
    replace h := hr8 l8 w6 h
    clear hr8 hI8
    refine wpC_seq ?_
    refine wpC_seq ?_
    refine wpC_region ?_
    refine wpR_val (v := (Value.int .i64 l8.2)) (w' := w6) rfl rfl rfl (x_move (v := (Value.int .i64 l8.2)) rfl e14) ?_
    refine wpR_val (v := (Sl.v p0)) (w' := w6) rfl rfl rfl (x_move (v := (Sl.v p0)) rfl e0) ?_
    refine wpR_val (v := (Value.int .i64 (p0.len : Int))) (w' := w6) rfl rfl rfl (x_lenS (s := p0) rfl rfl isSliceT_22) ?_
    refine wpR_val (v := (Value.bool (decide (l8.2 < (p0.len : Int))))) (w' := w6) rfl rfl rfl (x_lss rfl rfl rfl) ?_
    refine wpR_nil ?_
    refine wpC_cond (b := decide (l8.2 < (p0.len : Int))) rfl (fun hc9 => ?_) (fun hc9 => ?_)
    · replace h := h.1 hc9
      refine wpC_skip ?_
      refine wpC_seq ?_
      refine wpC_block ?_
      refine wpC_cut (fun ρ => ρ 0 = (Sl.v p0) ∧ ρ 9 = (Value.bool r1) ∧ ρ 10 = (Value.int .i64 ((IntKind.i64.wrap p2).tmod (IntKind.i64.wrap ((p1.len : Int) + 1)))) ∧ ρ 11 = (Sl.v r6) ∧ ρ 12 = (Sl.v r7) ∧ ρ 13 = (Value.bool l8.1) ∧ ρ 14 = (Value.int .i64 l8.2) ∧ True) ⟨e0, e9, e10, e11, e12, e13, e14, trivial⟩ ?_
      rintro ρ ⟨e0, e9, e10, e11, e12, e13, e14, -⟩
      refine wpC_region ?_
      refine wpR_val (v := (Value.bool l8.1)) (w' := w6) rfl rfl rfl (x_move (v := (Value.bool l8.1)) rfl e13) ?_
      refine wpR_val (v := (Value.bool l8.1)) (w' := w6) rfl rfl rfl (x_move (v := (Value.bool l8.1)) rfl rfl) ?_
      obtain ⟨J10, h, hk⟩ := h
      refine wpR_joinJ 7 (fun x ρ => ρ 53 = Value.bool x ∧ ρ 0 = (Sl.v p0) ∧ ρ 9 = (Value.bool r1) ∧ ρ 10 = (Value.int .i64 ((IntKind.i64.wrap p2).tmod (IntKind.i64.wrap ((p1.len : Int) + 1)))) ∧ ρ 11 = (Sl.v r6) ∧ ρ 12 = (Sl.v r7) ∧ ρ 14 = (Value.int .i64 l8.2) ∧ True) (fun x w => J10 x ∧ w6 = w) ?_ ?_
      · clear hk
        rcases Bool.eq_false_or_eq_true (l8.1) with hc11 | hc11
        · replace h := h.1 hc11
          refine wpR_pass (wantN rfl rfl rfl hc11) rfl rfl ?_
          refine wpR_pass (wantN rfl rfl rfl hc11) rfl rfl ?_
          refine wpR_pass (wantN rfl rfl rfl hc11) rfl rfl ?_
          refine wpR_pass (wantN rfl rfl rfl hc11) rfl rfl ?_
          refine wpR_pass (wantN rfl rfl rfl hc11) rfl rfl ?_
          refine wpR_pass (wantN rfl rfl rfl hc11) rfl rfl ?_
          refine wpR_val (v := (Value.bool true)) (w' := w6) rfl rfl rfl (x_pickT (v := (Value.bool true)) rfl rfl hc11 rfl) ?_
          refine wpR_nil ?_
          exact ⟨true, ⟨rfl, e0, e9, e10, e11, e12, e14, trivial⟩, h, rfl⟩
        · replace h := h.2 hc11
          refine wpR_val (v := (Sl.v p0)) (w' := w6) (wantG rfl rfl rfl hc11) rfl rfl (x_move (v := (Sl.v p0)) rfl e0) ?_
          refine wpR_val (v := (Value.int .i64 l8.2)) (w' := w6) (wantG rfl rfl rfl hc11) rfl rfl (x_move (v := (Value.int .i64 l8.2)) rfl e14) ?_
          obtain ⟨q12, z12, r12, h⟩ := h
          generalize hp12 : z12.add ((l8.2 : Int).toNat * 22) = p12 at h
          refine wpR_val (v := (Value.pointer (some p12))) (w' := w6) (wantG rfl rfl rfl hc11) rfl rfl ((x_indexAddr (s := p0) rfl rfl rfl ES_22 q12 r12).trans (by rw [hp12])) ?_
          refine wpR_val (v := (Value.pointer (some (p12.add 14)))) (w' := w6) (wantG rfl rfl rfl hc11) rfl rfl (x_fieldAddr rfl rfl FA_33_14) ?_
          obtain ⟨x13, q13, h⟩ := h
          refine wpR_val (v := (Value.int .i64 x13)) (w' := w6) (wantG rfl rfl rfl hc11) rfl rfl (x_load1 rfl rfl SH_3 q13) ?_
          refine wpR_val (v := (Value.bool (!decide (x13 = 1)))) (w' := w6) (wantG rfl rfl rfl hc11) rfl rfl (x_neq rfl rfl rfl) ?_
          refine wpR_val (v := (Value.bool (!decide (x13 = 1)))) (w' := w6) rfl rfl rfl (x_pickF (v := (Value.bool (!decide (x13 = 1)))) rfl rfl hc11 rfl) ?_
          refine wpR_nil ?_
          exact ⟨!decide (x13 = 1), ⟨rfl, e0, e9, e10, e11, e12, e14, trivial⟩, h, rfl⟩
      clear h
      rintro c14 ρ wj ⟨e53, e0, e9, e10, e11, e12, e14, -⟩ ⟨h, rfl⟩
      replace h := hk c14 h
      clear hk
      refine wpR_val (v := (Value.bool c14)) (w' := w6) rfl rfl rfl (x_assign (v := (Value.bool c14)) rfl e53) ?_
      refine wpR_nil ?_
      refine wpC_cut (fun ρ => ρ 0 = (Sl.v p0) ∧ ρ 9 = (Value.bool r1) ∧ ρ 10 = (Value.int .i64 ((IntKind.i64.wrap p2).tmod (IntKind.i64.wrap ((p1.len : Int) + 1)))) ∧ ρ 11 = (Sl.v r6) ∧ ρ 12 = (Sl.v r7) ∧ ρ 13 = (Value.bool c14) ∧ ρ 14 = (Value.int .i64 l8.2) ∧ True) ⟨e0, e9, e10, e11, e12, rfl, e14, trivial⟩ ?_
      rintro ρ ⟨e0, e9, e10, e11, e12, e13, e14, -⟩
      refine wpC_region ?_
      refine wpR_val (v := (Value.int .i64 l8.2)) (w' := w6) rfl rfl rfl (x_move (v := (Value.int .i64 l8.2)) rfl e14) ?_
      refine wpR_val (v := (Value.int .i64 (IntKind.i64.wrap (l8.2 + 1)))) (w' := w6) rfl rfl rfl (x_add rfl rfl rfl) ?_
      refine wpR_val (v := (Value.int .i64 (IntKind.i64.wrap (l8.2 + 1)))) (w' := w6) rfl rfl rfl (x_assign (v := (Value.int .i64 (IntKind.i64.wrap (l8.2 + 1)))) rfl rfl) ?_
      refine wpR_nil ?_
      exact ⟨(c14, IntKind.i64.wrap (l8.2 + 1)), ⟨e13, rfl, e0, e9, e10, e11, e12, trivial⟩, h⟩
    · replace h := h.2 hc9
      refine wpC_exit ?_
      refine wpC_seq ?_
      refine wpC_seq ?_
      refine wpC_cut (fun ρ => ρ 9 = (Value.bool r1) ∧ ρ 10 = (Value.int .i64 ((IntKind.i64.wrap p2).tmod (IntKind.i64.wrap ((p1.len : Int) + 1)))) ∧ ρ 11 = (Sl.v r6) ∧ ρ 12 = (Sl.v r7) ∧ ρ 13 = (Value.bool l8.1) ∧ True) ⟨e9, e10, e11, e12, e13, trivial⟩ ?_
      rintro ρ ⟨e9, e10, e11, e12, e13, -⟩
      refine wpC_region ?_
      refine wpR_val (v := (Value.int .i64 0)) (w' := w6) rfl rfl rfl (x_assign (v := (Value.int .i64 0)) rfl rfl) ?_
      refine wpR_nil ?_
      refine wpC_block ?_
      obtain ⟨I15, μ15, hI15, hr15⟩ := h
      refine wpC_loop (fun (x : Int) ρ => ρ 15 = (Value.int .i64 x) ∧ ρ 9 = (Value.bool r1) ∧ ρ 10 = (Value.int .i64 ((IntKind.i64.wrap p2).tmod (IntKind.i64.wrap ((p1.len : Int) + 1)))) ∧ ρ 11 = (Sl.v r6) ∧ ρ 12 = (Sl.v r7) ∧ ρ 13 = (Value.bool l8.1) ∧ True) I15 μ15 0 ⟨rfl, e9, e10, e11, e12, e13, trivial⟩ hI15 ?_
      rintro l15 ρ w7 ⟨e15, e9, e10, e11, e12, e13, -⟩ h
      replace h := hr15 l15 w7 h
      clear hr15 hI15
      refine wpC_seq ?_
      refine wpC_seq ?_
      refine wpC_region ?_
      refine wpR_val (v := (Value.int .i64 l15)) (w' := w7) rfl rfl rfl (x_move (v := (Value.int .i64 l15)) rfl e15) ?_
      refine wpR_val (v := (Value.int .i64 ((IntKind.i64.wrap p2).tmod (IntKind.i64.wrap ((p1.len : Int) + 1))))) (w' := w7) rfl rfl rfl (x_move (v := (Value.int .i64 ((IntKind.i64.wrap p2).tmod (IntKind.i64.wrap ((p1.len : Int) + 1))))) rfl e10) ?_
      refine wpR_val (v := (Value.bool (decide (l15 < ((IntKind.i64.wrap p2).tmod (IntKind.i64.wrap ((p1.len : Int) + 1))))))) (w' := w7) rfl rfl rfl (x_lss rfl rfl rfl) ?_
      refine wpR_nil ?_
      refine wpC_cond (b := decide (l15 < ((IntKind.i64.wrap p2).tmod (IntKind.i64.wrap ((p1.len : Int) + 1))))) rfl (fun hc16 => ?_) (fun hc16 => ?_)
      · replace h := h.1 hc16
        refine wpC_skip ?_
        refine wpC_seq ?_
        refine wpC_block ?_
        refine wpC_seq ?_
        refine wpC_cut (fun ρ => ρ 9 = (Value.bool r1) ∧ ρ 10 = (Value.int .i64 ((IntKind.i64.wrap p2).tmod (IntKind.i64.wrap ((p1.len : Int) + 1)))) ∧ ρ 11 = (Sl.v r6) ∧ ρ 12 = (Sl.v r7) ∧ ρ 13 = (Value.bool l8.1) ∧ ρ 15 = (Value.int .i64 l15) ∧ True) ⟨e9, e10, e11, e12, e13, e15, trivial⟩ ?_
        rintro ρ ⟨e9, e10, e11, e12, e13, e15, -⟩
        refine wpC_region ?_
        refine wpR_val (v := (Sl.v r6)) (w' := w7) rfl rfl rfl (x_move (v := (Sl.v r6)) rfl e11) ?_
        refine wpR_val (v := (Value.int .i64 l15)) (w' := w7) rfl rfl rfl (x_move (v := (Value.int .i64 l15)) rfl e15) ?_
        refine wpR_enter rfl rfl rfl (x_call (vs := [(Sl.v r6), (Value.int .i64 l15)]) rfl rfl (mapl_cons rfl (mapl_cons rfl mapl_nil)) Try.func16 NN_16 NB_16) (Calls.mono h ?_)
        rintro _ w8 ⟨r17, rfl, h⟩
        refine ⟨_, rfl, ?_⟩
        refine wpR_val (v := (Value.bool r17)) (w' := w8) rfl rfl rfl (x_move (v := (Value.bool r17)) rfl rfl) ?_
        obtain ⟨J18, h, hk⟩ := h
        refine wpR_joinJ 5 (fun x ρ => ρ 67 = Value.bool x ∧ ρ 9 = (Value.bool r1) ∧ ρ 10 = (Value.int .i64 ((IntKind.i64.wrap p2).tmod (IntKind.i64.wrap ((p1.len : Int) + 1)))) ∧ ρ 11 = (Sl.v r6) ∧ ρ 12 = (Sl.v r7) ∧ ρ 13 = (Value.bool l8.1) ∧ ρ 15 = (Value.int .i64 l15) ∧ True) (J18) ?_ ?_
        · clear hk
          rcases Bool.eq_false_or_eq_true (r17) with hc19 | hc19
          · replace h := h.1 hc19
            refine wpR_val (v := (Sl.v r7)) (w' := w8) (wantG rfl rfl rfl hc19) rfl rfl (x_move (v := (Sl.v r7)) rfl e12) ?_
            refine wpR_val (v := (Value.int .i64 l15)) (w' := w8) (wantG rfl rfl rfl hc19) rfl rfl (x_move (v := (Value.int .i64 l15)) rfl e15) ?_
            refine wpR_enter (wantG rfl rfl rfl hc19) rfl rfl (x_call (vs := [(Sl.v r7), (Value.int .i64 l15)]) rfl rfl (mapl_cons rfl (mapl_cons rfl mapl_nil)) Try.func16 NN_16 NB_16) (Calls.mono h ?_)
            rintro _ w9 ⟨r20, rfl, h⟩
            refine ⟨_, rfl, ?_⟩
            refine wpR_val (v := (Value.bool (!r20))) (w' := w9) (wantG rfl rfl rfl hc19) rfl rfl (x_not rfl rfl) ?_
            refine wpR_val (v := (Value.bool (!r20))) (w' := w9) rfl rfl rfl (x_pickT (v := (Value.bool (!r20))) rfl rfl hc19 rfl) ?_
            refine wpR_nil ?_
            exact ⟨!r20, ⟨rfl, e9, e10, e11, e12, e13, e15, trivial⟩, h⟩
          · replace h := h.2 hc19
            refine wpR_pass (wantN rfl rfl rfl hc19) rfl rfl ?_
            refine wpR_pass (wantN rfl rfl rfl hc19) rfl rfl ?_
            refine wpR_pass (wantN rfl rfl rfl hc19) rfl rfl ?_
            refine wpR_pass (wantN rfl rfl rfl hc19) rfl rfl ?_
            refine wpR_val (v := (Value.bool false)) (w' := w8) rfl rfl rfl (x_pickF (v := (Value.bool false)) rfl rfl hc19 rfl) ?_
            refine wpR_nil ?_
            exact ⟨false, ⟨rfl, e9, e10, e11, e12, e13, e15, trivial⟩, h⟩
        clear h
        rintro c21 ρ w10 ⟨e67, e9, e10, e11, e12, e13, e15, -⟩ h
        replace h := hk c21 w10 h
        clear hk
        refine wpR_val (v := (Value.bool c21)) (w' := w10) rfl rfl rfl (x_move (v := (Value.bool c21)) rfl e67) ?_
        obtain ⟨J22, h, hk⟩ := h
        refine wpR_joinJ 13 (fun x ρ => ρ 81 = Value.bool x ∧ ρ 9 = (Value.bool r1) ∧ ρ 10 = (Value.int .i64 ((IntKind.i64.wrap p2).tmod (IntKind.i64.wrap ((p1.len : Int) + 1)))) ∧ ρ 11 = (Sl.v r6) ∧ ρ 12 = (Sl.v r7) ∧ ρ 13 = (Value.bool l8.1) ∧ ρ 15 = (Value.int .i64 l15) ∧ True) (J22) ?_ ?_
        · clear hk
          rcases Bool.eq_false_or_eq_true (c21) with hc23 | hc23
          · replace h := h.1 hc23
            refine wpR_pass (wantN rfl rfl rfl hc23) rfl rfl ?_
            refine wpR_pass (wantN rfl rfl rfl hc23) rfl rfl ?_
            refine wpR_pass (wantU rfl rfl rfl) rfl rfl ?_
            refine wpR_pass (wantU rfl rfl rfl) rfl rfl ?_
            refine wpR_pass (wantU rfl rfl rfl) rfl rfl ?_
            refine wpR_pass (wantN rfl rfl rfl hc23) rfl rfl ?_
            refine wpR_pass (wantN rfl rfl rfl hc23) rfl rfl ?_
            refine wpR_pass (wantU rfl rfl rfl) rfl rfl ?_
            refine wpR_pass (wantU rfl rfl rfl) rfl rfl ?_
            refine wpR_pass (wantU rfl rfl rfl) rfl rfl ?_
            refine wpR_pass (wantU rfl rfl rfl) rfl rfl ?_
            refine wpR_pass (wantN rfl rfl rfl hc23) rfl rfl ?_
            refine wpR_val (v := (Value.bool true)) (w' := w10) rfl rfl rfl (x_pickT (v := (Value.bool true)) rfl rfl hc23 rfl) ?_
            refine wpR_nil ?_
            exact ⟨true, ⟨rfl, e9, e10, e11, e12, e13, e15, trivial⟩, h⟩
          · replace h := h.2 hc23
            refine wpR_val (v := (Value.bool l8.1)) (w' := w10) (wantG rfl rfl rfl hc23) rfl rfl (x_move (v := (Value.bool l8.1)) rfl e13) ?_
            refine wpR_val (v := (Value.bool l8.1)) (w' := w10) (wantG rfl rfl rfl hc23) rfl rfl (x_move (v := (Value.bool l8.1)) rfl rfl) ?_
            obtain ⟨J24, h, hk⟩ := h
            refine wpR_joinJ 4 (fun x ρ => ρ 74 = Value.bool x ∧ ρ 9 = (Value.bool r1) ∧ ρ 10 = (Value.int .i64 ((IntKind.i64.wrap p2).tmod (IntKind.i64.wrap ((p1.len : Int) + 1)))) ∧ ρ 11 = (Sl.v r6) ∧ ρ 12 = (Sl.v r7) ∧ ρ 13 = (Value.bool l8.1) ∧ ρ 15 = (Value.int .i64 l15) ∧ ρ 68 = (Value.bool c21) ∧ True) (J24) ?_ ?_
            · clear hk
              rcases Bool.eq_false_or_eq_true (l8.1) with hc25 | hc25
              · replace h := h.1 hc25
                refine wpR_val (v := (Sl.v r7)) (w' := w10) (wantG rfl rfl rfl hc25) rfl rfl (x_move (v := (Sl.v r7)) rfl e12) ?_
                refine wpR_val (v := (Value.int .i64 l15)) (w' := w10) (wantG rfl rfl rfl hc25) rfl rfl (x_move (v := (Value.int .i64 l15)) rfl e15) ?_
                refine wpR_enter (wantG rfl rfl rfl hc25) rfl rfl (x_call (vs := [(Sl.v r7), (Value.int .i64 l15)]) rfl rfl (mapl_cons rfl (mapl_cons rfl mapl_nil)) Try.func16 NN_16 NB_16) (Calls.mono h ?_)
                rintro _ w11 ⟨r26, rfl, h⟩
                refine ⟨_, rfl, ?_⟩
                refine wpR_val (v := (Value.bool r26)) (w' := w11) (wantG rfl rfl rfl hc23) rfl rfl (x_pickT (v := (Value.bool r26)) rfl rfl hc25 rfl) ?_
                refine wpR_nil ?_
                exact ⟨r26, ⟨rfl, e9, e10, e11, e12, e13, e15, rfl, trivial⟩, h⟩
              · replace h := h.2 hc25
                refine wpR_pass (wantN rfl rfl rfl hc25) rfl rfl ?_
                refine wpR_pass (wantN rfl rfl rfl hc25) rfl rfl ?_
                refine wpR_pass (wantN rfl rfl rfl hc25) rfl rfl ?_
                refine wpR_val (v := (Value.bool false)) (w' := w10) (wantG rfl rfl rfl hc23) rfl rfl (x_pickF (v := (Value.bool false)) rfl rfl hc25 rfl) ?_
                refine wpR_nil ?_
                exact ⟨false, ⟨rfl, e9, e10, e11, e12, e13, e15, rfl, trivial⟩, h⟩
            clear h
            rintro c27 ρ w12 ⟨e74, e9, e10, e11, e12, e13, e15, e68, -⟩ h
            replace h := hk c27 w12 h
            clear hk
            refine wpR_val (v := (Value.bool c27)) (w' := w12) (wantG rfl rfl e68 hc23) rfl rfl (x_move (v := (Value.bool c27)) rfl e74) ?_
            obtain ⟨J28, h, hk⟩ := h
            refine wpR_joinJ 5 (fun x ρ => ρ 80 = Value.bool x ∧ ρ 9 = (Value.bool r1) ∧ ρ 10 = (Value.int .i64 ((IntKind.i64.wrap p2).tmod (IntKind.i64.wrap ((p1.len : Int) + 1)))) ∧ ρ 11 = (Sl.v r6) ∧ ρ 12 = (Sl.v r7) ∧ ρ 13 = (Value.bool l8.1) ∧ ρ 15 = (Value.int .i64 l15) ∧ ρ 68 = (Value.bool c21) ∧ True) (J28) ?_ ?_
            · clear hk
              rcases Bool.eq_false_or_eq_true (c27) with hc29 | hc29
              · replace h := h.1 hc29
                refine wpR_val (v := (Sl.v r6)) (w' := w12) (wantG rfl rfl rfl hc29) rfl rfl (x_move (v := (Sl.v r6)) rfl e11) ?_
                refine wpR_val (v := (Value.int .i64 l15)) (w' := w12) (wantG rfl rfl rfl hc29) rfl rfl (x_move (v := (Value.int .i64 l15)) rfl e15) ?_
                refine wpR_enter (wantG rfl rfl rfl hc29) rfl rfl (x_call (vs := [(Sl.v r6), (Value.int .i64 l15)]) rfl rfl (mapl_cons rfl (mapl_cons rfl mapl_nil)) Try.func16 NN_16 NB_16) (Calls.mono h ?_)
                rintro _ w13 ⟨r30, rfl, h⟩
                refine ⟨_, rfl, ?_⟩
                refine wpR_val (v := (Value.bool (!r30))) (w' := w13) (wantG rfl rfl rfl hc29) rfl rfl (x_not rfl rfl) ?_
                refine wpR_val (v := (Value.bool (!r30))) (w' := w13) (wantG rfl rfl e68 hc23) rfl rfl (x_pickT (v := (Value.bool (!r30))) rfl rfl hc29 rfl) ?_
                refine wpR_nil ?_
                exact ⟨!r30, ⟨rfl, e9, e10, e11, e12, e13, e15, e68, trivial⟩, h⟩
              · replace h := h.2 hc29
                refine wpR_pass (wantN rfl rfl rfl hc29) rfl rfl ?_
                refine wpR_pass (wantN rfl rfl rfl hc29) rfl rfl ?_
                refine wpR_pass (wantN rfl rfl rfl hc29) rfl rfl ?_
                refine wpR_pass (wantN rfl rfl rfl hc29) rfl rfl ?_
                refine wpR_val (v := (Value.bool false)) (w' := w12) (wantG rfl rfl e68 hc23) rfl rfl (x_pickF (v := (Value.bool false)) rfl rfl hc29 rfl) ?_
                refine wpR_nil ?_
                exact ⟨false, ⟨rfl, e9, e10, e11, e12, e13, e15, e68, trivial⟩, h⟩
            clear h
            rintro c31 ρ w14 ⟨e80, e9, e10, e11, e12, e13, e15, e68, -⟩ h
            replace h := hk c31 w14 h
            clear hk
            refine wpR_val (v := (Value.bool c31)) (w' := w14) rfl rfl rfl (x_pickF (v := (Value.bool c31)) rfl e68 hc23 e80) ?_
            refine wpR_nil ?_
            exact ⟨c31, ⟨rfl, e9, e10, e11, e12, e13, e15, trivial⟩, h⟩
        clear h
        rintro c32 ρ w15 ⟨e81, e9, e10, e11, e12, e13, e15, -⟩ h
        replace h := hk c32 w15 h
        clear hk
        refine wpR_nil ?_
        refine wpC_cond (b := c32) e81 (fun hc33 => ?_) (fun hc33 => ?_)
        · replace h := h.1 hc33
          refine wpC_seq ?_
          refine wpC_region ?_
          refine wpR_val (v := (Value.bool false)) (w' := w15) rfl rfl rfl (x_assign (v := (Value.bool false)) rfl rfl) ?_
          refine wpR_nil ?_
          refine wpC_ret ?_
          exact ⟨.inl rfl, fun a ha => ⟨_, results_rep1 rfl ha rfl, false, rfl, h⟩⟩
        · replace h := h.2 hc33
          refine wpC_skip ?_
          refine wpC_region ?_
          refine wpR_val (v := (Value.int .i64 l15)) (w' := w15) rfl rfl rfl (x_move (v := (Value.int .i64 l15)) rfl e15) ?_
          refine wpR_val (v := (Value.int .i64 (IntKind.i64.wrap (l15 + 1)))) (w' := w15) rfl rfl rfl (x_add rfl rfl rfl) ?_
          refine wpR_val (v := (Value.int .i64 (IntKind.i64.wrap (l15 + 1)))) (w' := w15) rfl rfl rfl (x_assign (v := (Value.int .i64 (IntKind.i64.wrap (l15 + 1)))) rfl rfl) ?_
          refine wpR_nil ?_
          exact ⟨IntKind.i64.wrap (l15 + 1), ⟨rfl, e9, e10, e11, e12, e13, trivial⟩, h⟩
      · replace h := h.2 hc16
        refine wpC_exit ?_
        refine wpC_seq ?_
        refine wpC_seq ?_
        refine wpC_cut (fun ρ => ρ 9 = (Value.bool r1) ∧ ρ 10 = (Value.int .i64 ((IntKind.i64.wrap p2).tmod (IntKind.i64.wrap ((p1.len : Int) + 1)))) ∧ ρ 11 = (Sl.v r6) ∧ True) ⟨e9, e10, e11, trivial⟩ ?_
        rintro ρ ⟨e9, e10, e11, -⟩
        refine wpC_region ?_
        refine wpR_val (v := (Value.int .i64 0)) (w' := w7) rfl rfl rfl (x_assign (v := (Value.int .i64 0)) rfl rfl) ?_
        refine wpR_nil ?_
        refine wpC_block ?_
        obtain ⟨I34, μ34, hI34, hr34⟩ := h
        refine wpC_loop (fun (x : Int) ρ => ρ 16 = (Value.int .i64 x) ∧ ρ 9 = (Value.bool r1) ∧ ρ 10 = (Value.int .i64 ((IntKind.i64.wrap p2).tmod (IntKind.i64.wrap ((p1.len : Int) + 1)))) ∧ ρ 11 = (Sl.v r6) ∧ True) I34 μ34 0 ⟨rfl, e9, e10, e11, trivial⟩ hI34 ?_
        rintro l34 ρ w16 ⟨e16, e9, e10, e11, -⟩ h
        replace h := hr34 l34 w16 h
        clear hr34 hI34
        refine wpC_seq ?_
        refine wpC_seq ?_
        refine wpC_region ?_
        refine wpR_val (v := (Value.int .i64 l34)) (w' := w16) rfl rfl rfl (x_move (v := (Value.int .i64 l34)) rfl e16) ?_
        refine wpR_val (v := (Sl.v r6)) (w' := w16) rfl rfl rfl (x_move (v := (Sl.v r6)) rfl e11) ?_
        refine wpR_val (v := (Value.int .i64 (r6.len : Int))) (w' := w16) rfl rfl rfl (x_lenS (s := r6) rfl rfl isSliceT_28) ?_
        refine wpR_val (v := (Value.bool (decide (l34 < (r6.len : Int))))) (w' := w16) rfl rfl rfl (x_lss rfl rfl rfl) ?_
        refine wpR_nil ?_
        refine wpC_cond (b := decide (l34 < (r6.len : Int))) rfl (fun hc35 => ?_) (fun hc35 => ?_)
        · replace h := h.1 hc35
          refine wpC_skip ?_
          refine wpC_seq ?_
          refine wpC_block ?_
          refine wpC_seq ?_
          refine wpC_cut (fun ρ => ρ 9 = (Value.bool r1) ∧ ρ 10 = (Value.int .i64 ((IntKind.i64.wrap p2).tmod (IntKind.i64.wrap ((p1.len : Int) + 1)))) ∧ ρ 11 = (Sl.v r6) ∧ ρ 16 = (Value.int .i64 l34) ∧ True) ⟨e9, e10, e11, e16, trivial⟩ ?_
          rintro ρ ⟨e9, e10, e11, e16, -⟩
          obtain ⟨J37, h, hk⟩ := h
          refine wpC_drawJ (by kernel_rfl) (fun (x : Bool) ρ => ρ 117 = (Value.bool x) ∧ ρ 9 = (Value.bool r1) ∧ ρ 10 = (Value.int .i64 ((IntKind.i64.wrap p2).tmod (IntKind.i64.wrap ((p1.len : Int) + 1)))) ∧ ρ 11 = (Sl.v r6) ∧ ρ 16 = (Value.int .i64 l34) ∧ True) J37 ?_ ?_
          · clear hk
            unfold tk at h
            generalize w16.drew = w17 at h ⊢
            refine wpD_take (v := (Sl.v r6)) 0 (fun _ => True) rfl (by kernel_rfl) (by kernel_rfl) (by kernel_rfl) rfl rfl rfl trivial (fun w _ => (x_move (v := (Sl.v r6)) rfl e11)) ?_
            refine wpD_take (v := (Value.int .i64 l34)) 1 (fun _ => True) rfl (by kernel_rfl) (by kernel_rfl) (by kernel_rfl) rfl rfl rfl trivial (fun w _ => (x_move (v := (Value.int .i64 l34)) rfl e16)) ?_
            obtain ⟨q38, z38, r38, h⟩ := h
            generalize hp38 : z38.add ((l34 : Int).toNat * 1) = p38 at h
            refine wpD_take (v := (Value.pointer (some p38))) 2 (fun _ => True) rfl (by kernel_rfl) (by kernel_rfl) (by kernel_rfl) rfl rfl rfl trivial (fun w _ => ((x_indexAddr (s := r6) rfl rfl rfl ES_28 q38 r38).trans (by rw [hp38]))) ?_
            obtain ⟨x39, q39, h⟩ := h
            refine wpD_take (v := (Value.int .i64 x39)) 3 (fun w => w.cell? p38 = some (Value.int .i64 x39)) rfl (by kernel_rfl) (by kernel_rfl) (by kernel_rfl) rfl rfl rfl q39 (fun w q39 => (x_load1 rfl rfl SH_3 q39)) ?_
            refine wpD_take (v := (Value.bool (decide (x39 < 0)))) 4 (fun _ => True) rfl (by kernel_rfl) (by kernel_rfl) (by kernel_rfl) rfl rfl rfl trivial (fun w _ => (x_lss rfl rfl rfl)) ?_
            refine wpD_take (v := (Value.bool (decide (x39 < 0)))) 5 (fun _ => True) rfl (by kernel_rfl) (by kernel_rfl) (by kernel_rfl) rfl rfl rfl trivial (fun w _ => (x_move (v := (Value.bool (decide (x39 < 0)))) rfl rfl)) ?_
            rcases Bool.eq_false_or_eq_true (decide (x39 < 0)) with hc40 | hc40
            · replace h := h.1 hc40
              refine wpD_pass 6 rfl (by kernel_rfl) (by kernel_rfl) (by kernel_rfl) (wantN rfl rfl rfl hc40) rfl rfl ?_
              refine wpD_pass 7 rfl (by kernel_rfl) (by kernel_rfl) (by kernel_rfl) (wantN rfl rfl rfl hc40) rfl rfl ?_
              refine wpD_pass 8 rfl (by kernel_rfl) (by kernel_rfl) (by kernel_rfl) (wantN rfl rfl rfl hc40) rfl rfl ?_
              refine wpD_pass 9 rfl (by kernel_rfl) (by kernel_rfl) (by kernel_rfl) (wantN rfl rfl rfl hc40) rfl rfl ?_
              refine wpD_pass 10 rfl (by kernel_rfl) (by kernel_rfl) (by kernel_rfl) (wantN rfl rfl rfl hc40) rfl rfl ?_
              refine wpD_pass 11 rfl (by kernel_rfl) (by kernel_rfl) (by kernel_rfl) (wantN rfl rfl rfl hc40) rfl rfl ?_
              refine wpD_take (v := (Value.bool true)) 12 (fun _ => True) rfl (by kernel_rfl) (by kernel_rfl) (by kernel_rfl) rfl rfl rfl trivial (fun w _ => (x_pickT (v := (Value.bool true)) rfl rfl hc40 rfl)) ?_
              refine wpD_take (v := (Value.bool true)) 13 (fun _ => True) rfl (by kernel_rfl) (by kernel_rfl) (by kernel_rfl) rfl rfl rfl trivial (fun w _ => (x_move (v := (Value.bool true)) rfl rfl)) ?_
              refine wpD_pass 14 rfl (by kernel_rfl) (by kernel_rfl) (by kernel_rfl) (wantN rfl rfl rfl rfl) rfl rfl ?_
              refine wpD_pass 15 rfl (by kernel_rfl) (by kernel_rfl) (by kernel_rfl) (wantN rfl rfl rfl rfl) rfl rfl ?_
              refine wpD_pass 16 rfl (by kernel_rfl) (by kernel_rfl) (by kernel_rfl) (wantN rfl rfl rfl rfl) rfl rfl ?_
              refine wpD_pass 17 rfl (by kernel_rfl) (by kernel_rfl) (by kernel_rfl) (wantU rfl rfl rfl) rfl rfl ?_
              refine wpD_pass 18 rfl (by kernel_rfl) (by kernel_rfl) (by kernel_rfl) (wantU rfl rfl rfl) rfl rfl ?_
              refine wpD_pass 19 rfl (by kernel_rfl) (by kernel_rfl) (by kernel_rfl) (wantU rfl rfl rfl) rfl rfl ?_
              refine wpD_pass 20 rfl (by kernel_rfl) (by kernel_rfl) (by kernel_rfl) (wantU rfl rfl rfl) rfl rfl ?_
              refine wpD_pass 21 rfl (by kernel_rfl) (by kernel_rfl) (by kernel_rfl) (wantU rfl rfl rfl) rfl rfl ?_
              refine wpD_pass 22 rfl (by kernel_rfl) (by kernel_rfl) (by kernel_rfl) (wantU rfl rfl rfl) rfl rfl ?_
              refine wpD_pass 23 rfl (by kernel_rfl) (by kernel_rfl) (by kernel_rfl) (wantU rfl rfl rfl) rfl rfl ?_
              refine wpD_pass 24 rfl (by kernel_rfl) (by kernel_rfl) (by kernel_rfl) (wantU rfl rfl rfl) rfl rfl ?_
              refine wpD_pass 25 rfl (by kernel_rfl) (by kernel_rfl) (by kernel_rfl) (wantU rfl rfl rfl) rfl rfl ?_
              refine wpD_pass 26 rfl (by kernel_rfl) (by kernel_rfl) (by kernel_rfl) (wantU rfl rfl rfl) rfl rfl ?_
              refine wpD_pass 27 rfl (by kernel_rfl) (by kernel_rfl) (by kernel_rfl) (wantU rfl rfl rfl) rfl rfl ?_
              refine wpD_pass 28 rfl (by kernel_rfl) (by kernel_rfl) (by kernel_rfl) (wantN rfl rfl rfl rfl) rfl rfl ?_
              refine wpD_take (v := (Value.bool true)) 29 (fun _ => True) rfl (by kernel_rfl) (by kernel_rfl) (by kernel_rfl) rfl rfl rfl trivial (fun w _ => (x_pickT (v := (Value.bool true)) rfl rfl rfl rfl)) ?_
              exact wpD_done (by kernel_rfl) ⟨true, ⟨rfl, e9, e10, e11, e16, trivial⟩, h⟩
            · replace h := h.2 hc40
              refine wpD_take (v := (Sl.v r6)) 6 (fun _ => True) rfl (by kernel_rfl) (by kernel_rfl) (by kernel_rfl) (wantG rfl rfl rfl hc40) rfl rfl trivial (fun w _ => (x_move (v := (Sl.v r6)) rfl e11)) ?_
              refine wpD_take (v := (Value.int .i64 l34)) 7 (fun _ => True) rfl (by kernel_rfl) (by kernel_rfl) (by kernel_rfl) (wantG rfl rfl rfl hc40) rfl rfl trivial (fun w _ => (x_move (v := (Value.int .i64 l34)) rfl e16)) ?_
              obtain ⟨q41, z41, r41, h⟩ := h
              generalize hp41 : z41.add ((l34 : Int).toNat * 1) = p41 at h
              refine wpD_take (v := (Value.pointer (some p41))) 8 (fun _ => True) rfl (by kernel_rfl) (by kernel_rfl) (by kernel_rfl) (wantG rfl rfl rfl hc40) rfl rfl trivial (fun w _ => ((x_indexAddr (s := r6) rfl rfl rfl ES_28 q41 r41).trans (by rw [hp41]))) ?_
              obtain ⟨x42, q42, h⟩ := h
              refine wpD_take (v := (Value.int .i64 x42)) 9 (fun w => w.cell? p41 = some (Value.int .i64 x42)) rfl (by kernel_rfl) (by kernel_rfl) (by kernel_rfl) (wantG rfl rfl rfl hc40) rfl rfl q42 (fun w q42 => (x_load1 rfl rfl SH_3 q42)) ?_
              refine wpD_take (v := (Value.int .i64 ((IntKind.i64.wrap p2).tmod (IntKind.i64.wrap ((p1.len : Int) + 1))))) 10 (fun _ => True) rfl (by kernel_rfl) (by kernel_rfl) (by kernel_rfl) (wantG rfl rfl rfl hc40) rfl rfl trivial (fun w _ => (x_move (v := (Value.int .i64 ((IntKind.i64.wrap p2).tmod (IntKind.i64.wrap ((p1.len : Int) + 1))))) rfl e10)) ?_
              refine wpD_take (v := (Value.bool (decide (((IntKind.i64.wrap p2).tmod (IntKind.i64.wrap ((p1.len : Int) + 1))) ≤ x42)))) 11 (fun _ => True) rfl (by kernel_rfl) (by kernel_rfl) (by kernel_rfl) (wantG rfl rfl rfl hc40) rfl rfl trivial (fun w _ => (x_geq rfl rfl rfl)) ?_
              refine wpD_take (v := (Value.bool (decide (((IntKind.i64.wrap p2).tmod (IntKind.i64.wrap ((p1.len : Int) + 1))) ≤ x42)))) 12 (fun _ => True) rfl (by kernel_rfl) (by kernel_rfl) (by kernel_rfl) rfl rfl rfl trivial (fun w _ => (x_pickF (v := (Value.bool (decide (((IntKind.i64.wrap p2).tmod (IntKind.i64.wrap ((p1.len : Int) + 1))) ≤ x42)))) rfl rfl hc40 rfl)) ?_
              refine wpD_take (v := (Value.bool (decide (((IntKind.i64.wrap p2).tmod (IntKind.i64.wrap ((p1.len : Int) + 1))) ≤ x42)))) 13 (fun _ => True) rfl (by kernel_rfl) (by kernel_rfl) (by kernel_rfl) rfl rfl rfl trivial (fun w _ => (x_move (v := (Value.bool (decide (((IntKind.i64.wrap p2).tmod (IntKind.i64.wrap ((p1.len : Int) + 1))) ≤ x42)))) rfl rfl)) ?_
              rcases Bool.eq_false_or_eq_true (decide (((IntKind.i64.wrap p2).tmod (IntKind.i64.wrap ((p1.len : Int) + 1))) ≤ x42)) with hc43 | hc43
              · replace h := h.1 hc43
                refine wpD_pass 14 rfl (by kernel_rfl) (by kernel_rfl) (by kernel_rfl) (wantN rfl rfl rfl hc43) rfl rfl ?_
                refine wpD_pass 15 rfl (by kernel_rfl) (by kernel_rfl) (by kernel_rfl) (wantN rfl rfl rfl hc43) rfl rfl ?_
                refine wpD_pass 16 rfl (by kernel_rfl) (by kernel_rfl) (by kernel_rfl) (wantN rfl rfl rfl hc43) rfl rfl ?_
                refine wpD_pass 17 rfl (by kernel_rfl) (by kernel_rfl) (by kernel_rfl) (wantU rfl rfl rfl) rfl rfl ?_
                refine wpD_pass 18 rfl (by kernel_rfl) (by kernel_rfl) (by kernel_rfl) (wantU rfl rfl rfl) rfl rfl ?_
                refine wpD_pass 19 rfl (by kernel_rfl) (by kernel_rfl) (by kernel_rfl) (wantU rfl rfl rfl) rfl rfl ?_
                refine wpD_pass 20 rfl (by kernel_rfl) (by kernel_rfl) (by kernel_rfl) (wantU rfl rfl rfl) rfl rfl ?_
                refine wpD_pass 21 rfl (by kernel_rfl) (by kernel_rfl) (by kernel_rfl) (wantU rfl rfl rfl) rfl rfl ?_
                refine wpD_pass 22 rfl (by kernel_rfl) (by kernel_rfl) (by kernel_rfl) (wantU rfl rfl rfl) rfl rfl ?_
                refine wpD_pass 23 rfl (by kernel_rfl) (by kernel_rfl) (by kernel_rfl) (wantU rfl rfl rfl) rfl rfl ?_
                refine wpD_pass 24 rfl (by kernel_rfl) (by kernel_rfl) (by kernel_rfl) (wantU rfl rfl rfl) rfl rfl ?_
                refine wpD_pass 25 rfl (by kernel_rfl) (by kernel_rfl) (by kernel_rfl) (wantU rfl rfl rfl) rfl rfl ?_
                refine wpD_pass 26 rfl (by kernel_rfl) (by kernel_rfl) (by kernel_rfl) (wantU rfl rfl rfl) rfl rfl ?_
                refine wpD_pass 27 rfl (by kernel_rfl) (by kernel_rfl) (by kernel_rfl) (wantU rfl rfl rfl) rfl rfl ?_
                refine wpD_pass 28 rfl (by kernel_rfl) (by kernel_rfl) (by kernel_rfl) (wantN rfl rfl rfl hc43) rfl rfl ?_
                refine wpD_take (v := (Value.bool true)) 29 (fun _ => True) rfl (by kernel_rfl) (by kernel_rfl) (by kernel_rfl) rfl rfl rfl trivial (fun w _ => (x_pickT (v := (Value.bool true)) rfl rfl hc43 rfl)) ?_
                exact wpD_done (by kernel_rfl) ⟨true, ⟨rfl, e9, e10, e11, e16, trivial⟩, h⟩
              · replace h := h.2 hc43
                refine wpD_take (v := (Value.int .i64 l34)) 14 (fun _ => True) rfl (by kernel_rfl) (by kernel_rfl) (by kernel_rfl) (wantG rfl rfl rfl hc43) rfl rfl trivial (fun w _ => (x_move (v := (Value.int .i64 l34)) rfl e16)) ?_
                refine wpD_take (v := (Value.bool (decide (0 < l34)))) 15 (fun _ => True) rfl (by kernel_rfl) (by kernel_rfl) (by kernel_rfl) (wantG rfl rfl rfl hc43) rfl rfl trivial (fun w _ => (x_gtr rfl rfl rfl)) ?_
                refine wpD_take (v := (Value.bool (decide (0 < l34)))) 16 (fun _ => True) rfl (by kernel_rfl) (by kernel_rfl) (by kernel_rfl) (wantG rfl rfl rfl hc43) rfl rfl trivial (fun w _ => (x_move (v := (Value.bool (decide (0 < l34)))) rfl rfl)) ?_
                rcases Bool.eq_false_or_eq_true (decide (0 < l34)) with hc44 | hc44
                · replace h := h.1 hc44
                  refine wpD_take (v := (Sl.v r6)) 17 (fun _ => True) rfl (by kernel_rfl) (by kernel_rfl) (by kernel_rfl) (wantG rfl rfl rfl hc44) rfl rfl trivial (fun w _ => (x_move (v := (Sl.v r6)) rfl e11)) ?_
                  refine wpD_take (v := (Value.int .i64 l34)) 18 (fun _ => True) rfl (by kernel_rfl) (by kernel_rfl) (by kernel_rfl) (wantG rfl rfl rfl hc44) rfl rfl trivial (fun w _ => (x_move (v := (Value.int .i64 l34)) rfl e16)) ?_
                  obtain ⟨q45, z45, r45, h⟩ := h
                  generalize hp45 : z45.add ((l34 : Int).toNat * 1) = p45 at h
                  refine wpD_take (v := (Value.pointer (some p45))) 19 (fun _ => True) rfl (by kernel_rfl) (by kernel_rfl) (by kernel_rfl) (wantG rfl rfl rfl hc44) rfl rfl trivial (fun w _ => ((x_indexAddr (s := r6) rfl rfl rfl ES_28 q45 r45).trans (by rw [hp45]))) ?_
                  obtain ⟨x46, q46, h⟩ := h
                  refine wpD_take (v := (Value.int .i64 x46)) 20 (fun w => w.cell? p45 = some (Value.int .i64 x46)) rfl (by kernel_rfl) (by kernel_rfl) (by kernel_rfl) (wantG rfl rfl rfl hc44) rfl rfl q46 (fun w q46 => (x_load1 rfl rfl SH_3 q46)) ?_
                  refine wpD_take (v := (Sl.v r6)) 21 (fun _ => True) rfl (by kernel_rfl) (by kernel_rfl) (by kernel_rfl) (wantG rfl rfl rfl hc44) rfl rfl trivial (fun w _ => (x_move (v := (Sl.v r6)) rfl e11)) ?_
                  refine wpD_take (v := (Value.int .i64 l34)) 22 (fun _ => True) rfl (by kernel_rfl) (by kernel_rfl) (by kernel_rfl) (wantG rfl rfl rfl hc44) rfl rfl trivial (fun w _ => (x_move (v := (Value.int .i64 l34)) rfl e16)) ?_
                  refine wpD_take (v := (Value.int .i64 (IntKind.i64.wrap (l34 - 1)))) 23 (fun _ => True) rfl (by kernel_rfl) (by kernel_rfl) (by kernel_rfl) (wantG rfl rfl rfl hc44) rfl rfl trivial (fun w _ => (x_sub rfl rfl rfl)) ?_
                  refine wpD_take (v := (Value.int .i64 (max (IntKind.i64.wrap (l34 - 1)) 0))) 24 (fun _ => True) rfl (by kernel_rfl) (by kernel_rfl) (by kernel_rfl) (wantG rfl rfl rfl hc44) rfl rfl trivial (fun w _ => (x_max rfl rfl rfl)) ?_
                  obtain ⟨q47, z47, r47, h⟩ := h
                  generalize hp47 : z47.add ((max (IntKind.i64.wrap (l34 - 1)) 0 : Int).toNat * 1) = p47 at h
                  refine wpD_take (v := (Value.pointer (some p47))) 25 (fun _ => True) rfl (by kernel_rfl) (by kernel_rfl) (by kernel_rfl) (wantG rfl rfl rfl hc44) rfl rfl trivial (fun w _ => ((x_indexAddr (s := r6) rfl rfl rfl ES_28 q47 r47).trans (by rw [hp47]))) ?_
                  obtain ⟨x48, q48, h⟩ := h
                  refine wpD_take (v := (Value.int .i64 x48)) 26 (fun w => w.cell? p47 = some (Value.int .i64 x48)) rfl (by kernel_rfl) (by kernel_rfl) (by kernel_rfl) (wantG rfl rfl rfl hc44) rfl rfl q48 (fun w q48 => (x_load1 rfl rfl SH_3 q48)) ?_
                  refine wpD_take (v := (Value.bool (decide (x46 ≤ x48)))) 27 (fun _ => True) rfl (by kernel_rfl) (by kernel_rfl) (by kernel_rfl) (wantG rfl rfl rfl hc44) rfl rfl trivial (fun w _ => (x_leq rfl rfl rfl)) ?_
                  refine wpD_take (v := (Value.bool (decide (x46 ≤ x48)))) 28 (fun _ => True) rfl (by kernel_rfl) (by kernel_rfl) (by kernel_rfl) (wantG rfl rfl rfl hc43) rfl rfl trivial (fun w _ => (x_pickT (v := (Value.bool (decide (x46 ≤ x48)))) rfl rfl hc44 rfl)) ?_
                  refine wpD_take (v := (Value.bool (decide (x46 ≤ x48)))) 29 (fun _ => True) rfl (by kernel_rfl) (by kernel_rfl) (by kernel_rfl) rfl rfl rfl trivial (fun w _ => (x_pickF (v := (Value.bool (decide (x46 ≤ x48)))) rfl rfl hc43 rfl)) ?_
                  exact wpD_done (by kernel_rfl) ⟨decide (x46 ≤ x48), ⟨rfl, e9, e10, e11, e16, trivial⟩, h⟩
                · replace h := h.2 hc44
                  refine wpD_pass 17 rfl (by kernel_rfl) (by kernel_rfl) (by kernel_rfl) (wantN rfl rfl rfl hc44) rfl rfl ?_
                  refine wpD_pass 18 rfl (by kernel_rfl) (by kernel_rfl) (by kernel_rfl) (wantN rfl rfl rfl hc44) rfl rfl ?_
                  refine wpD_pass 19 rfl (by kernel_rfl) (by kernel_rfl) (by kernel_rfl) (wantN rfl rfl rfl hc44) rfl rfl ?_
                  refine wpD_pass 20 rfl (by kernel_rfl) (by kernel_rfl) (by kernel_rfl) (wantN rfl rfl rfl hc44) rfl rfl ?_
                  refine wpD_pass 21 rfl (by kernel_rfl) (by kernel_rfl) (by kernel_rfl) (wantN rfl rfl rfl hc44) rfl rfl ?_
                  refine wpD_pass 22 rfl (by kernel_rfl) (by kernel_rfl) (by kernel_rfl) (wantN rfl rfl rfl hc44) rfl rfl ?_
                  refine wpD_pass 23 rfl (by kernel_rfl) (by kernel_rfl) (by kernel_rfl) (wantN rfl rfl rfl hc44) rfl rfl ?_
                  refine wpD_pass 24 rfl (by kernel_rfl) (by kernel_rfl) (by kernel_rfl) (wantN rfl rfl rfl hc44) rfl rfl ?_
                  refine wpD_pass 25 rfl (by kernel_rfl) (by kernel_rfl) (by kernel_rfl) (wantN rfl rfl rfl hc44) rfl rfl ?_
                  refine wpD_pass 26 rfl (by kernel_rfl) (by kernel_rfl) (by kernel_rfl) (wantN rfl rfl rfl hc44) rfl rfl ?_
                  refine wpD_pass 27 rfl (by kernel_rfl) (by kernel_rfl) (by kernel_rfl) (wantN rfl rfl rfl hc44) rfl rfl ?_
                  refine wpD_take (v := (Value.bool false)) 28 (fun _ => True) rfl (by kernel_rfl) (by kernel_rfl) (by kernel_rfl) (wantG rfl rfl rfl hc43) rfl rfl trivial (fun w _ => (x_pickF (v := (Value.bool false)) rfl rfl hc44 rfl)) ?_
                  refine wpD_take (v := (Value.bool false)) 29 (fun _ => True) rfl (by kernel_rfl) (by kernel_rfl) (by kernel_rfl) rfl rfl rfl trivial (fun w _ => (x_pickF (v := (Value.bool false)) rfl rfl hc43 rfl)) ?_
                  exact wpD_done (by kernel_rfl) ⟨false, ⟨rfl, e9, e10, e11, e16, trivial⟩, h⟩
          clear h
          rintro l49 ρ w18 ⟨e117, e9, e10, e11, e16, -⟩ h
          replace h := hk l49 w18 h
          clear hk
          refine wpC_cond (b := l49) e117 (fun hc50 => ?_) (fun hc50 => ?_)
          · replace h := h.1 hc50
            refine wpC_seq ?_
            refine wpC_region ?_
            refine wpR_val (v := (Value.bool false)) (w' := w18) rfl rfl rfl (x_assign (v := (Value.bool false)) rfl rfl) ?_
            refine wpR_nil ?_
            refine wpC_ret ?_
            exact ⟨.inl rfl, fun a ha => ⟨_, results_rep1 rfl ha rfl, false, rfl, h⟩⟩
          · replace h := h.2 hc50
            refine wpC_skip ?_
            refine wpC_region ?_
            refine wpR_val (v := (Value.int .i64 l34)) (w' := w18) rfl rfl rfl (x_move (v := (Value.int .i64 l34)) rfl e16) ?_
            refine wpR_val (v := (Value.int .i64 (IntKind.i64.wrap (l34 + 1)))) (w' := w18) rfl rfl rfl (x_add rfl rfl rfl) ?_
            refine wpR_val (v := (Value.int .i64 (IntKind.i64.wrap (l34 + 1)))) (w' := w18) rfl rfl rfl (x_assign (v := (Value.int .i64 (IntKind.i64.wrap (l34 + 1)))) rfl rfl) ?_
            refine wpR_nil ?_
            exact ⟨IntKind.i64.wrap (l34 + 1), ⟨rfl, e9, e10, e11, trivial⟩, h⟩
        · replace h := h.2 hc35
          refine wpC_exit ?_
          refine wpC_seq ?_
          refine wpC_cut (fun ρ => ρ 9 = (Value.bool r1) ∧ True) ⟨e9, trivial⟩ ?_
          rintro ρ ⟨e9, -⟩
          refine wpC_region ?_
          refine wpR_val (v := (Value.bool r1)) (w' := w16) rfl rfl rfl (x_move (v := (Value.bool r1)) rfl e9) ?_
          refine wpR_val (v := (Value.bool r1)) (w' := w16) rfl rfl rfl (x_assign (v := (Value.bool r1)) rfl rfl) ?_
          refine wpR_nil ?_
          refine wpC_ret ?_
          exact ⟨.inl rfl, fun a ha => ⟨_, results_rep1 rfl ha rfl, r1, rfl, h⟩⟩


end Go.Proofs.Ytcnnnhligkpamaa
