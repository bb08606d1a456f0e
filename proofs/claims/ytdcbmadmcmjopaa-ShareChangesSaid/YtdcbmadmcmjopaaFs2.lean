import Derived.Test.YtdcbmadmcmjopaaRows
import Derived.Test.YtdcbmadmcmjopaaFs1
import Derived.Test.YtdcbmadmcmjopaaDecRaw
namespace Go.Proofs.Ytdcbmadmcmjopaa
open Go.Dec
set_option maxHeartbeats 400000
set_option maxRecDepth 100000

/-- lingualaw06.small -/
def F7  (w0 : World) (K : Bool → World → Prop) : Prop :=
  nw 39 #[(Value.int .i64 1), (Value.int .i64 7), (Value.int .i64 2), (Value.int .i64 9)] w0 fun b9 w1 =>
  nw 39 #[] w1 fun b10 w2 =>
  rn Try.prog (Builtin.append_ #[22, 22] 22 #[Sl.v (⟨some ⟨b10, 0, none⟩, 0, 0⟩ : Sl), Sl.v (⟨some ⟨b9, 0, none⟩, 2, 2⟩ : Sl)]) Sl.v w2 fun r11 w3 =>
  nw 39 #[(Value.int .i64 3), (Value.int .i64 11)] w3 fun b12 w4 =>
  rn Try.prog (Builtin.append_ #[22, 22] 22 #[Sl.v r11, Sl.v (⟨some ⟨b12, 0, none⟩, 1, 1⟩ : Sl)]) Sl.v w4 fun r13 w5 =>
  nw 39 #[] w5 fun b14 w6 =>
  rn Try.prog (Builtin.append_ #[22, 22] 22 #[Sl.v (⟨some ⟨b14, 0, none⟩, 0, 0⟩ : Sl), Sl.v (⟨some ⟨b9, 0, none⟩, 2, 2⟩ : Sl)]) Sl.v w6 fun r15 w7 =>
  nw 39 #[(Value.int .i64 3), (Value.int .i64 12)] w7 fun b16 w8 =>
  rn Try.prog (Builtin.append_ #[22, 22] 22 #[Sl.v r15, Sl.v (⟨some ⟨b16, 0, none⟩, 1, 1⟩ : Sl)]) Sl.v w8 fun r17 w9 =>
  callC Try.prog 8 #[(Value.int .i64 5), (Value.int .i64 1), (Value.int .i64 3), (Value.int .i64 9)] (fun (r : Sl × Int) => (Value.tuple #[(Sl.v r.1), (Value.int .i64 r.2)])) w9 fun r18 w10 =>
  callC Try.prog 10 #[(Sl.v (⟨some ⟨b9, 0, none⟩, 2, 2⟩ : Sl)), (Value.int .i64 2)] (fun (r : Int × Int) => (Value.tuple #[(Value.int .i64 r.1), (Value.int .i64 r.2)])) w10 fun r19 w11 =>
  callC Try.prog 10 #[(Sl.v r13), (Value.int .i64 2)] (fun (r : Int × Int) => (Value.tuple #[(Value.int .i64 r.1), (Value.int .i64 r.2)])) w11 fun r20 w12 =>
  callC Try.prog 10 #[(Sl.v r17), (Value.int .i64 2)] (fun (r : Int × Int) => (Value.tuple #[(Value.int .i64 r.1), (Value.int .i64 r.2)])) w12 fun r21 w13 =>
  rn Try.prog (Instr.sliceAt 22 (Sl.v (⟨some ⟨b9, 0, none⟩, 2, 2⟩ : Sl)) none (some (Value.int .i64 1)) none) (fun (r : Sl) => (Sl.v r)) w13 fun r22 w14 =>
  callC Try.prog 10 #[(Sl.v r22), (Value.int .i64 2)] (fun (r : Int × Int) => (Value.tuple #[(Value.int .i64 r.1), (Value.int .i64 r.2)])) w14 fun r23 w15 =>
  jn (fun (J25 : Int → World → Prop) => tk w15 fun w16 =>
    ix (⟨some ⟨b9, 0, none⟩, 2, 2⟩ : Sl) 0 2 fun p26 =>
    ld (Value.int .i64) (p26.add 0) w16 fun x27 =>
    ld (Value.int .i64) (p26.add 1) w16 fun x28 =>
    ix (⟨some ⟨b9, 0, none⟩, 2, 2⟩ : Sl) 0 2 fun p29 =>
    ld (Value.int .i64) (p29.add 0) w16 fun x30 =>
    ld (Value.int .i64) (p29.add 1) w16 fun x31 =>
    nw 39 #[(Value.int .i64 x27), (Value.int .i64 x28), (Value.int .i64 x30), (Value.int .i64 x31)] w16 fun b32 w17 =>
    callC Try.prog 10 #[(Sl.v (⟨some ⟨b32, 0, none⟩, 2, 2⟩ : Sl)), (Value.int .i64 2)] (fun (r : Int × Int) => (Value.tuple #[(Value.int .i64 r.1), (Value.int .i64 r.2)])) w17 fun r33 w18 =>
    J25 r33.2 w18
  )
  fun l34 w19 =>
  jn (fun J35 => cnd (decide (r18.2 = 0))
    (
    nw 39 #[(Value.int .i64 1), (Value.int .i64 5), (Value.int .i64 2), (Value.int .i64 5), (Value.int .i64 3), (Value.int .i64 5)] w19 fun b37 w20 =>
    callC Try.prog 12 #[(Sl.v r18.1), (Sl.v (⟨some ⟨b37, 0, none⟩, 3, 3⟩ : Sl))] (fun (r : Bool) => (Value.bool r)) w20 fun r38 w21 =>
    J35 r38 w21
    )
    (
    J35 false w19
    ))
  fun c39 w22 =>
  jn (fun J54 => cnd (c39 && (((((((decide (r19.2 = 0)) && (decide (r20.2 = 0))) && (decide (r19.1 = 5))) && (decide (r20.1 = 5))) && (decide (r21.2 = 18))) && (decide (r23.2 = 20))) && (decide (l34 = 5))))
    (
    rn Try.prog (Instr.sliceAt 22 (Sl.v (⟨some ⟨b9, 0, none⟩, 2, 2⟩ : Sl)) none (some (Value.int .i64 1)) none) (fun (r : Sl) => (Sl.v r)) w22 fun r56 w23 =>
    callC Try.prog 13 #[(Sl.v r56), (Value.int .i64 2), (Value.int .i64 5)] (fun (r : Bool) => (Value.bool r)) w23 fun r57 w24 =>
    J54 r57 w24
    )
    (
    J54 false w22
    ))
  fun c58 w25 =>
  jn (fun J59 => cnd (c58)
    (
    rn Try.prog (Instr.sliceAt 22 (Sl.v (⟨some ⟨b9, 0, none⟩, 2, 2⟩ : Sl)) none (some (Value.int .i64 1)) none) (fun (r : Sl) => (Sl.v r)) w25 fun r61 w26 =>
    callC Try.prog 13 #[(Sl.v r61), (Value.int .i64 2), (Value.int .i64 6)] (fun (r : Bool) => (Value.bool r)) w26 fun r62 w27 =>
    J59 r62 w27
    )
    (
    J59 false w25
    ))
  fun c63 w28 =>
  jn (fun J64 => cnd (c63)
    (
    callC Try.prog 13 #[(Sl.v (⟨some ⟨b9, 0, none⟩, 2, 2⟩ : Sl)), (Value.int .i64 2), (Value.int .i64 5)] (fun (r : Bool) => (Value.bool r)) w28 fun r66 w29 =>
    J64 r66 w29
    )
    (
    J64 false w28
    ))
  fun c67 w30 =>
  jn (fun J68 => cnd (c67)
    (
    callC Try.prog 13 #[(Sl.v (⟨some ⟨b9, 0, none⟩, 2, 2⟩ : Sl)), (Value.int .i64 2), (Value.int .i64 6)] (fun (r : Bool) => (Value.bool r)) w30 fun r70 w31 =>
    J68 (!r70) w31
    )
    (
    J68 false w30
    ))
  fun c71 w32 =>
  K c71 w32
set_option maxRecDepth 100000 in
theorem D7  (w0 : World) (K : Bool → World → Prop) (h : F7  w0 K) : callC Try.prog 7 #[] (fun (r : Bool) => (Value.bool r)) w0 K := by
  unfold F7 at h
  refine calls_of_wpC Try.func7 rfl 128 rfl (by simp) ?_
  intro ρ hρ
  clear hρ
  refine wpC_seq ?_
  refine wpC_region ?_
  refine wpR_val (v := (Value.bool false)) (w' := w0) rfl rfl rfl (x_assign (v := (Value.bool false)) rfl rfl) ?_
  refine wpR_nil ?_
  refine wpC_seq ?_
  refine wpC_cut (fun ρ => True) trivial ?_
  rintro ρ -
  refine wpC_region ?_
  refine wpR_val (v := (Value.agg #[(Value.int .i64 1), (Value.int .i64 7)])) (w' := w0) rfl rfl rfl (x_build (qs := [(0, (Value.int .i64 1)), (1, (Value.int .i64 7))]) rfl (by rfl) (BD_39_0_1 1 7 _)) ?_
  refine wpR_val (v := (Value.agg #[(Value.int .i64 2), (Value.int .i64 9)])) (w' := w0) rfl rfl rfl (x_build (qs := [(0, (Value.int .i64 2)), (1, (Value.int .i64 9))]) rfl (by rfl) (BD_39_0_1 2 9 _)) ?_
  obtain ⟨b9, hb9⟩ : ∃ u, u = w0.heap.size := ⟨_, rfl⟩
  obtain ⟨w1, hw9⟩ : ∃ u, u = w0.alloc (.cells #[(Value.int .i64 1), (Value.int .i64 7), (Value.int .i64 2), (Value.int .i64 9)] 39) := ⟨_, rfl⟩
  replace h := h b9 w1 hb9 hw9
  refine wpR_val (v := (Sl.v (⟨some ⟨b9, 0, none⟩, 2, 2⟩ : Sl))) (w' := w1) rfl rfl rfl ((x_buildSlice (qs := [(0, (Value.agg #[(Value.int .i64 1), (Value.int .i64 7)])), (1, (Value.agg #[(Value.int .i64 2), (Value.int .i64 9)]))]) rfl (by rfl) (BS_22_2_0_1 1 7 2 9)).trans (by rw [← hb9, ← hw9])) ?_
  refine wpR_val (v := (Sl.v (⟨some ⟨b9, 0, none⟩, 2, 2⟩ : Sl))) (w' := w1) rfl rfl rfl (x_assign (v := (Sl.v (⟨some ⟨b9, 0, none⟩, 2, 2⟩ : Sl))) rfl rfl) ?_
  refine wpR_nil ?_
  refine wpC_seq ?_
  refine wpC_cut (fun ρ => ρ 1 = (Sl.v (⟨some ⟨b9, 0, none⟩, 2, 2⟩ : Sl)) ∧ True) ⟨rfl, trivial⟩ ?_
  rintro ρ ⟨e1, -⟩
  refine wpC_region ?_
  obtain ⟨b10, hb10⟩ : ∃ u, u = w1.heap.size := ⟨_, rfl⟩
  obtain ⟨w2, hw10⟩ : ∃ u, u = w1.alloc (.cells #[] 39) := ⟨_, rfl⟩
  replace h := h b10 w2 hb10 hw10
  refine wpR_val (v := (Sl.v (⟨some ⟨b10, 0, none⟩, 0, 0⟩ : Sl))) (w' := w2) rfl rfl rfl ((x_buildSlice (qs := []) rfl (by rfl) (BS_22_0_ )).trans (by rw [← hb10, ← hw10])) ?_
  refine wpR_val (v := (Sl.v (⟨some ⟨b9, 0, none⟩, 2, 2⟩ : Sl))) (w' := w2) rfl rfl rfl (x_move (v := (Sl.v (⟨some ⟨b9, 0, none⟩, 2, 2⟩ : Sl))) rfl e1) ?_
  obtain ⟨r11, w3, q11, h⟩ := h
  refine wpR_val (v := (Sl.v r11)) (w' := w3) rfl rfl rfl (x_append (s := (⟨some ⟨b10, 0, none⟩, 0, 0⟩ : Sl)) (u := (⟨some ⟨b9, 0, none⟩, 2, 2⟩ : Sl)) rfl rfl rfl rfl q11) ?_
  refine wpR_val (v := (Value.agg #[(Value.int .i64 3), (Value.int .i64 11)])) (w' := w3) rfl rfl rfl (x_build (qs := [(0, (Value.int .i64 3)), (1, (Value.int .i64 11))]) rfl (by rfl) (BD_39_0_1 3 11 _)) ?_
  obtain ⟨b12, hb12⟩ : ∃ u, u = w3.heap.size := ⟨_, rfl⟩
  obtain ⟨w4, hw12⟩ : ∃ u, u = w3.alloc (.cells #[(Value.int .i64 3), (Value.int .i64 11)] 39) := ⟨_, rfl⟩
  replace h := h b12 w4 hb12 hw12
  refine wpR_val (v := (Sl.v (⟨some ⟨b12, 0, none⟩, 1, 1⟩ : Sl))) (w' := w4) rfl rfl rfl ((x_buildSlice (qs := [(0, (Value.agg #[(Value.int .i64 3), (Value.int .i64 11)]))]) rfl (by rfl) (BS_22_1_0 3 11)).trans (by rw [← hb12, ← hw12])) ?_
  obtain ⟨r13, w5, q13, h⟩ := h
  refine wpR_val (v := (Sl.v r13)) (w' := w5) rfl rfl rfl (x_append (s := r11) (u := (⟨some ⟨b12, 0, none⟩, 1, 1⟩ : Sl)) rfl rfl rfl rfl q13) ?_
  refine wpR_val (v := (Sl.v r13)) (w' := w5) rfl rfl rfl (x_assign (v := (Sl.v r13)) rfl rfl) ?_
  refine wpR_nil ?_
  refine wpC_seq ?_
  refine wpC_cut (fun ρ => ρ 1 = (Sl.v (⟨some ⟨b9, 0, none⟩, 2, 2⟩ : Sl)) ∧ ρ 2 = (Sl.v r13) ∧ True) ⟨e1, rfl, trivial⟩ ?_
  rintro ρ ⟨e1, e2, -⟩
  refine wpC_region ?_
  obtain ⟨b14, hb14⟩ : ∃ u, u = w5.heap.size := ⟨_, rfl⟩
  obtain ⟨w6, hw14⟩ : ∃ u, u = w5.alloc (.cells #[] 39) := ⟨_, rfl⟩
  replace h := h b14 w6 hb14 hw14
  refine wpR_val (v := (Sl.v (⟨some ⟨b14, 0, none⟩, 0, 0⟩ : Sl))) (w' := w6) rfl rfl rfl ((x_buildSlice (qs := []) rfl (by rfl) (BS_22_0_ )).trans (by rw [← hb14, ← hw14])) ?_
  refine wpR_val (v := (Sl.v (⟨some ⟨b9, 0, none⟩, 2, 2⟩ : Sl))) (w' := w6) rfl rfl rfl (x_move (v := (Sl.v (⟨some ⟨b9, 0, none⟩, 2, 2⟩ : Sl))) rfl e1) ?_
  obtain ⟨r15, w7, q15, h⟩ := h
  refine wpR_val (v := (Sl.v r15)) (w' := w7) rfl rfl rfl (x_append (s := (⟨some ⟨b14, 0, none⟩, 0, 0⟩ : Sl)) (u := (⟨some ⟨b9, 0, none⟩, 2, 2⟩ : Sl)) rfl rfl rfl rfl q15) ?_
  refine wpR_val (v := (Value.agg #[(Value.int .i64 3), (Value.int .i64 12)])) (w' := w7) rfl rfl rfl (x_build (qs := [(0, (Value.int .i64 3)), (1, (Value.int .i64 12))]) rfl (by rfl) (BD_39_0_1 3 12 _)) ?_
  obtain ⟨b16, hb16⟩ : ∃ u, u = w7.heap.size := ⟨_, rfl⟩
  obtain ⟨w8, hw16⟩ : ∃ u, u = w7.alloc (.cells #[(Value.int .i64 3), (Value.int .i64 12)] 39) := ⟨_, rfl⟩
  replace h := h b16 w8 hb16 hw16
  refine wpR_val (v := (Sl.v (⟨some ⟨b16, 0, none⟩, 1, 1⟩ : Sl))) (w' := w8) rfl rfl rfl ((x_buildSlice (qs := [(0, (Value.agg #[(Value.int .i64 3), (Value.int .i64 12)]))]) rfl (by rfl) (BS_22_1_0 3 12)).trans (by rw [← hb16, ← hw16])) ?_
  obtain ⟨r17, w9, q17, h⟩ := h
  refine wpR_val (v := (Sl.v r17)) (w' := w9) rfl rfl rfl (x_append (s := r15) (u := (⟨some ⟨b16, 0, none⟩, 1, 1⟩ : Sl)) rfl rfl rfl rfl q17) ?_
  refine wpR_val (v := (Sl.v r17)) (w' := w9) rfl rfl rfl (x_assign (v := (Sl.v r17)) rfl rfl) ?_
  refine wpR_nil ?_
  refine wpC_seq ?_
  refine wpC_cut (fun ρ => ρ 1 = (Sl.v (⟨some ⟨b9, 0, none⟩, 2, 2⟩ : Sl)) ∧ ρ 2 = (Sl.v r13) ∧ ρ 3 = (Sl.v r17) ∧ True) ⟨e1, e2, rfl, trivial⟩ ?_
  rintro ρ ⟨e1, e2, e3, -⟩
  refine wpC_region ?_
  refine wpR_enter rfl rfl rfl (x_call (vs := [(Value.int .i64 5), (Value.int .i64 1), (Value.int .i64 3), (Value.int .i64 9)]) rfl rfl (mapl_cons rfl (mapl_cons rfl (mapl_cons rfl (mapl_cons rfl mapl_nil)))) Try.func8 NN_8 NB_8) (Calls.mono h ?_)
  rintro _ w10 ⟨r18, rfl, h⟩
  refine ⟨_, rfl, ?_⟩
  refine wpR_val (v := (Value.tuple #[(Sl.v r18.1), (Value.int .i64 r18.2)])) (w' := w10) rfl rfl rfl (x_move (v := (Value.tuple #[(Sl.v r18.1), (Value.int .i64 r18.2)])) rfl rfl) ?_
  refine wpR_val (v := (Sl.v r18.1)) (w' := w10) rfl rfl rfl (x_extract rfl rfl rfl) ?_
  refine wpR_val (v := (Value.int .i64 r18.2)) (w' := w10) rfl rfl rfl (x_extract rfl rfl rfl) ?_
  refine wpR_val (v := (Sl.v r18.1)) (w' := w10) rfl rfl rfl (x_assign (v := (Sl.v r18.1)) rfl rfl) ?_
  refine wpR_val (v := (Value.int .i64 r18.2)) (w' := w10) rfl rfl rfl (x_assign (v := (Value.int .i64 r18.2)) rfl rfl) ?_
  refine wpR_nil ?_
  refine wpC_seq ?_
  refine wpC_cut (fun ρ => ρ 1 = (Sl.v (⟨some ⟨b9, 0, none⟩, 2, 2⟩ : Sl)) ∧ ρ 2 = (Sl.v r13) ∧ ρ 3 = (Sl.v r17) ∧ ρ 4 = (Sl.v r18.1) ∧ ρ 5 = (Value.int .i64 r18.2) ∧ True) ⟨e1, e2, e3, rfl, rfl, trivial⟩ ?_
  rintro ρ ⟨e1, e2, e3, e4, e5, -⟩
  refine wpC_region ?_
  refine wpR_val (v := (Sl.v (⟨some ⟨b9, 0, none⟩, 2, 2⟩ : Sl))) (w' := w10) rfl rfl rfl (x_move (v := (Sl.v (⟨some ⟨b9, 0, none⟩, 2, 2⟩ : Sl))) rfl e1) ?_
  refine wpR_enter rfl rfl rfl (x_call (vs := [(Sl.v (⟨some ⟨b9, 0, none⟩, 2, 2⟩ : Sl)), (Value.int .i64 2)]) rfl rfl (mapl_cons rfl (mapl_cons rfl mapl_nil)) Try.func10 NN_10 NB_10) (Calls.mono h ?_)
  rintro _ w11 ⟨r19, rfl, h⟩
  refine ⟨_, rfl, ?_⟩
  refine wpR_val (v := (Value.tuple #[(Value.int .i64 r19.1), (Value.int .i64 r19.2)])) (w' := w11) rfl rfl rfl (x_move (v := (Value.tuple #[(Value.int .i64 r19.1), (Value.int .i64 r19.2)])) rfl rfl) ?_
  refine wpR_val (v := (Value.int .i64 r19.1)) (w' := w11) rfl rfl rfl (x_extract rfl rfl rfl) ?_
  refine wpR_val (v := (Value.int .i64 r19.2)) (w' := w11) rfl rfl rfl (x_extract rfl rfl rfl) ?_
  refine wpR_val (v := (Value.int .i64 r19.1)) (w' := w11) rfl rfl rfl (x_assign (v := (Value.int .i64 r19.1)) rfl rfl) ?_
  refine wpR_val (v := (Value.int .i64 r19.2)) (w' := w11) rfl rfl rfl (x_assign (v := (Value.int .i64 r19.2)) rfl rfl) ?_
  refine wpR_nil ?_
  refine wpC_seq ?_
  refine wpC_cut (fun ρ => ρ 1 = (Sl.v (⟨some ⟨b9, 0, none⟩, 2, 2⟩ : Sl)) ∧ ρ 2 = (Sl.v r13) ∧ ρ 3 = (Sl.v r17) ∧ ρ 4 = (Sl.v r18.1) ∧ ρ 5 = (Value.int .i64 r18.2) ∧ ρ 6 = (Value.int .i64 r19.1) ∧ ρ 7 = (Value.int .i64 r19.2) ∧ True) ⟨e1, e2, e3, e4, e5, rfl, rfl, trivial⟩ ?_
  rintro ρ ⟨e1, e2, e3, e4, e5, e6, e7, -⟩
  refine wpC_region ?_
  refine wpR_val (v := (Sl.v r13)) (w' := w11) rfl rfl rfl (x_move (v := (Sl.v r13)) rfl e2) ?_
  refine wpR_enter rfl rfl rfl (x_call (vs := [(Sl.v r13), (Value.int .i64 2)]) rfl rfl (mapl_cons rfl (mapl_cons rfl mapl_nil)) Try.func10 NN_10 NB_10) (Calls.mono h ?_)
  rintro _ w12 ⟨r20, rfl, h⟩
  refine ⟨_, rfl, ?_⟩
  refine wpR_val (v := (Value.tuple #[(Value.int .i64 r20.1), (Value.int .i64 r20.2)])) (w' := w12) rfl rfl rfl (x_move (v := (Value.tuple #[(Value.int .i64 r20.1), (Value.int .i64 r20.2)])) rfl rfl) ?_
  refine wpR_val (v := (Value.int .i64 r20.1)) (w' := w12) rfl rfl rfl (x_extract rfl rfl rfl) ?_
  refine wpR_val (v := (Value.int .i64 r20.2)) (w' := w12) rfl rfl rfl (x_extract rfl rfl rfl) ?_
  refine wpR_val (v := (Value.int .i64 r20.1)) (w' := w12) rfl rfl rfl (x_assign (v := (Value.int .i64 r20.1)) rfl rfl) ?_
  refine wpR_val (v := (Value.int .i64 r20.2)) (w' := w12) rfl rfl rfl (x_assign (v := (Value.int .i64 r20.2)) rfl rfl) ?_
  refine wpR_nil ?_
  refine wpC_seq ?_
  refine wpC_cut (fun ρ => ρ 1 = (Sl.v (⟨some ⟨b9, 0, none⟩, 2, 2⟩ : Sl)) ∧ ρ 3 = (Sl.v r17) ∧ ρ 4 = (Sl.v r18.1) ∧ ρ 5 = (Value.int .i64 r18.2) ∧ ρ 6 = (Value.int .i64 r19.1) ∧ ρ 7 = (Value.int .i64 r19.2) ∧ ρ 8 = (Value.int .i64 r20.1) ∧ ρ 9 = (Value.int .i64 r20.2) ∧ True) ⟨e1, e3, e4, e5, e6, e7, rfl, rfl, trivial⟩ ?_
  rintro ρ ⟨e1, e3, e4, e5, e6, e7, e8, e9, -⟩
  refine wpC_region ?_
  refine wpR_val (v := (Sl.v r17)) (w' := w12) rfl rfl rfl (x_move (v := (Sl.v r17)) rfl e3) ?_
  refine wpR_enter rfl rfl rfl (x_call (vs := [(Sl.v r17), (Value.int .i64 2)]) rfl rfl (mapl_cons rfl (mapl_cons rfl mapl_nil)) Try.func10 NN_10 NB_10) (Calls.mono h ?_)
  rintro _ w13 ⟨r21, rfl, h⟩
  refine ⟨_, rfl, ?_⟩
  refine wpR_val (v := (Value.tuple #[(Value.int .i64 r21.1), (Value.int .i64 r21.2)])) (w' := w13) rfl rfl rfl (x_move (v := (Value.tuple #[(Value.int .i64 r21.1), (Value.int .i64 r21.2)])) rfl rfl) ?_
  refine wpR_val (v := (Value.int .i64 r21.1)) (w' := w13) rfl rfl rfl (x_extract rfl rfl rfl) ?_
  refine wpR_val (v := (Value.int .i64 r21.2)) (w' := w13) rfl rfl rfl (x_extract rfl rfl rfl) ?_
  refine wpR_val (v := (Value.int .i64 r21.1)) (w' := w13) rfl rfl rfl (x_assign (v := (Value.int .i64 r21.1)) rfl rfl) ?_
  refine wpR_val (v := (Value.int .i64 r21.2)) (w' := w13) rfl rfl rfl (x_assign (v := (Value.int .i64 r21.2)) rfl rfl) ?_
  refine wpR_nil ?_
  refine wpC_seq ?_
  refine wpC_cut (fun ρ => ρ 1 = (Sl.v (⟨some ⟨b9, 0, none⟩, 2, 2⟩ : Sl)) ∧ ρ 4 = (Sl.v r18.1) ∧ ρ 5 = (Value.int .i64 r18.2) ∧ ρ 6 = (Value.int .i64 r19.1) ∧ ρ 7 = (Value.int .i64 r19.2) ∧ ρ 8 = (Value.int .i64 r20.1) ∧ ρ 9 = (Value.int .i64 r20.2) ∧ ρ 11 = (Value.int .i64 r21.2) ∧ True) ⟨e1, e4, e5, e6, e7, e8, e9, rfl, trivial⟩ ?_
  rintro ρ ⟨e1, e4, e5, e6, e7, e8, e9, e11, -⟩
  refine wpC_region ?_
  refine wpR_val (v := (Sl.v (⟨some ⟨b9, 0, none⟩, 2, 2⟩ : Sl))) (w' := w13) rfl rfl rfl (x_move (v := (Sl.v (⟨some ⟨b9, 0, none⟩, 2, 2⟩ : Sl))) rfl e1) ?_
  obtain ⟨r22, w14, q22, h⟩ := h
  refine wpR_val (v := (Sl.v r22)) (w' := w14) rfl rfl rfl (x_sliceAt rfl rfl rfl (congrArg some rfl) rfl q22) ?_
  refine wpR_enter rfl rfl rfl (x_call (vs := [(Sl.v r22), (Value.int .i64 2)]) rfl rfl (mapl_cons rfl (mapl_cons rfl mapl_nil)) Try.func10 NN_10 NB_10) (Calls.mono h ?_)
  rintro _ w15 ⟨r23, rfl, h⟩
  refine ⟨_, rfl, ?_⟩
  refine wpR_val (v := (Value.tuple #[(Value.int .i64 r23.1), (Value.int .i64 r23.2)])) (w' := w15) rfl rfl rfl (x_move (v := (Value.tuple #[(Value.int .i64 r23.1), (Value.int .i64 r23.2)])) rfl rfl) ?_
  refine wpR_val (v := (Value.int .i64 r23.1)) (w' := w15) rfl rfl rfl (x_extract rfl rfl rfl) ?_
  refine wpR_val (v := (Value.int .i64 r23.2)) (w' := w15) rfl rfl rfl (x_extract rfl rfl rfl) ?_
  refine wpR_val (v := (Value.int .i64 r23.1)) (w' := w15) rfl rfl rfl (x_assign (v := (Value.int .i64 r23.1)) rfl rfl) ?_
  refine wpR_val (v := (Value.int .i64 r23.2)) (w' := w15) rfl rfl rfl (x_assign (v := (Value.int .i64 r23.2)) rfl rfl) ?_
  refine wpR_nil ?_
  refine wpC_seq ?_
  refine wpC_cut (fun ρ => ρ 1 = (Sl.v (⟨some ⟨b9, 0, none⟩, 2, 2⟩ : Sl)) ∧ ρ 4 = (Sl.v r18.1) ∧ ρ 5 = (Value.int .i64 r18.2) ∧ ρ 6 = (Value.int .i64 r19.1) ∧ ρ 7 = (Value.int .i64 r19.2) ∧ ρ 8 = (Value.int .i64 r20.1) ∧ ρ 9 = (Value.int .i64 r20.2) ∧ ρ 11 = (Value.int .i64 r21.2) ∧ ρ 13 = (Value.int .i64 r23.2) ∧ True) ⟨e1, e4, e5, e6, e7, e8, e9, e11, rfl, trivial⟩ ?_
  rintro ρ ⟨e1, e4, e5, e6, e7, e8, e9, e11, e13, -⟩
  obtain ⟨J25, h, hk⟩ := h
  refine wpC_drawJ (by kernel_rfl) (fun (x : Int) ρ => ρ 15 = (Value.int .i64 x) ∧ ρ 1 = (Sl.v (⟨some ⟨b9, 0, none⟩, 2, 2⟩ : Sl)) ∧ ρ 4 = (Sl.v r18.1) ∧ ρ 5 = (Value.int .i64 r18.2) ∧ ρ 6 = (Value.int .i64 r19.1) ∧ ρ 7 = (Value.int .i64 r19.2) ∧ ρ 8 = (Value.int .i64 r20.1) ∧ ρ 9 = (Value.int .i64 r20.2) ∧ ρ 11 = (Value.int .i64 r21.2) ∧ ρ 13 = (Value.int .i64 r23.2) ∧ True) J25 ?_ ?_
  · clear hk
    unfold tk at h
    generalize w15.drew = w16 at h ⊢
    refine wpD_take (v := (Sl.v (⟨some ⟨b9, 0, none⟩, 2, 2⟩ : Sl))) 0 (fun _ => True) rfl (by kernel_rfl) (by kernel_rfl) (by kernel_rfl) rfl rfl rfl trivial (fun w _ => (x_move (v := (Sl.v (⟨some ⟨b9, 0, none⟩, 2, 2⟩ : Sl))) rfl e1)) ?_
    obtain ⟨q26, z26, r26, h⟩ := h
    generalize hp26 : z26.add ((0 : Int).toNat * 2) = p26 at h
    refine wpD_take (v := (Value.pointer (some p26))) 1 (fun _ => True) rfl (by kernel_rfl) (by kernel_rfl) (by kernel_rfl) rfl rfl rfl trivial (fun w _ => ((x_indexAddr (s := (⟨some ⟨b9, 0, none⟩, 2, 2⟩ : Sl)) rfl rfl rfl ES_22 q26 r26).trans (by rw [hp26]))) ?_
    obtain ⟨x27, q27, x28, q28, h⟩ := h
    refine wpD_take (v := (Value.agg #[(Value.int .i64 x27), (Value.int .i64 x28)])) 2 (fun w => w.cell? (p26.add 0) = some (Value.int .i64 x27) ∧ w.cell? (p26.add 1) = some (Value.int .i64 x28)) rfl (by kernel_rfl) (by kernel_rfl) (by kernel_rfl) rfl rfl rfl ⟨q27, q28⟩ (fun w ⟨q27, q28⟩ => (x_loadN [(Value.int .i64 x27), (Value.int .i64 x28)] rfl rfl SH_39 (CellsAt.out (CellsAt.cons q27 (CellsAt.cons q28 CellsAt.nil))))) ?_
    refine wpD_take (v := (Sl.v (⟨some ⟨b9, 0, none⟩, 2, 2⟩ : Sl))) 3 (fun _ => True) rfl (by kernel_rfl) (by kernel_rfl) (by kernel_rfl) rfl rfl rfl trivial (fun w _ => (x_move (v := (Sl.v (⟨some ⟨b9, 0, none⟩, 2, 2⟩ : Sl))) rfl e1)) ?_
    obtain ⟨q29, z29, r29, h⟩ := h
    generalize hp29 : z29.add ((0 : Int).toNat * 2) = p29 at h
    refine wpD_take (v := (Value.pointer (some p29))) 4 (fun _ => True) rfl (by kernel_rfl) (by kernel_rfl) (by kernel_rfl) rfl rfl rfl trivial (fun w _ => ((x_indexAddr (s := (⟨some ⟨b9, 0, none⟩, 2, 2⟩ : Sl)) rfl rfl rfl ES_22 q29 r29).trans (by rw [hp29]))) ?_
    obtain ⟨x30, q30, x31, q31, h⟩ := h
    refine wpD_take (v := (Value.agg #[(Value.int .i64 x30), (Value.int .i64 x31)])) 5 (fun w => w.cell? (p29.add 0) = some (Value.int .i64 x30) ∧ w.cell? (p29.add 1) = some (Value.int .i64 x31)) rfl (by kernel_rfl) (by kernel_rfl) (by kernel_rfl) rfl rfl rfl ⟨q30, q31⟩ (fun w ⟨q30, q31⟩ => (x_loadN [(Value.int .i64 x30), (Value.int .i64 x31)] rfl rfl SH_39 (CellsAt.out (CellsAt.cons q30 (CellsAt.cons q31 CellsAt.nil))))) ?_
    refine wpD_all (rs := [6]) (by kernel_rfl) (by simp) (allD_cons ?_ allD_nil)
    obtain ⟨b32, hb32⟩ : ∃ u, u = w16.heap.size := ⟨_, rfl⟩
    obtain ⟨w17, hw32⟩ : ∃ u, u = w16.alloc (.cells #[(Value.int .i64 x27), (Value.int .i64 x28), (Value.int .i64 x30), (Value.int .i64 x31)] 39) := ⟨_, rfl⟩
    replace h := h b32 w17 hb32 hw32
    refine stepD_valL (L' := [(4, fun _ => True), (3, fun _ => True), (1, fun _ => True), (0, fun _ => True)]) (v := (Sl.v (⟨some ⟨b32, 0, none⟩, 2, 2⟩ : Sl))) (w' := w17) rfl rfl rfl rfl ((x_buildSlice (qs := [(0, (Value.agg #[(Value.int .i64 x27), (Value.int .i64 x28)])), (1, (Value.agg #[(Value.int .i64 x30), (Value.int .i64 x31)]))]) rfl (by rfl) (BS_22_2_0_1 x27 x28 x30 x31)).trans (by rw [← hb32, ← hw32])) (by kernel_rfl) (held_cons trivial (held_cons trivial (held_cons trivial (held_cons trivial held_nil)))) ?_
    refine wpD_all (rs := [7]) (by kernel_rfl) (by simp) (allD_cons ?_ allD_nil)
    refine stepD_enterL (L' := [(4, fun _ => True), (3, fun _ => True), (1, fun _ => True), (0, fun _ => True)]) rfl rfl rfl rfl (x_call (vs := [(Sl.v (⟨some ⟨b32, 0, none⟩, 2, 2⟩ : Sl)), (Value.int .i64 2)]) rfl rfl (mapl_cons rfl (mapl_cons rfl mapl_nil)) Try.func10 NN_10 NB_10) (by kernel_rfl) (Calls.mono h ?_)
    rintro _ w18 ⟨r33, rfl, h⟩
    refine ⟨_, rfl, (held_cons trivial (held_cons trivial (held_cons trivial (held_cons trivial held_nil)))), ?_⟩
    refine wpD_take (v := (Value.tuple #[(Value.int .i64 r33.1), (Value.int .i64 r33.2)])) 8 (fun _ => True) rfl (by kernel_rfl) (by kernel_rfl) (by kernel_rfl) rfl rfl rfl trivial (fun w _ => (x_move (v := (Value.tuple #[(Value.int .i64 r33.1), (Value.int .i64 r33.2)])) rfl rfl)) ?_
    refine wpD_take (v := (Value.int .i64 r33.1)) 9 (fun _ => True) rfl (by kernel_rfl) (by kernel_rfl) (by kernel_rfl) rfl rfl rfl trivial (fun w _ => (x_extract rfl rfl rfl)) ?_
    refine wpD_take (v := (Value.int .i64 r33.2)) 10 (fun _ => True) rfl (by kernel_rfl) (by kernel_rfl) (by kernel_rfl) rfl rfl rfl trivial (fun w _ => (x_extract rfl rfl rfl)) ?_
    refine wpD_take (v := (Value.int .i64 r33.1)) 11 (fun _ => True) rfl (by kernel_rfl) (by kernel_rfl) (by kernel_rfl) rfl rfl rfl trivial (fun w _ => (x_assign (v := (Value.int .i64 r33.1)) rfl rfl)) ?_
    refine wpD_take (v := (Value.int .i64 r33.2)) 12 (fun _ => True) rfl (by kernel_rfl) (by kernel_rfl) (by kernel_rfl) rfl rfl rfl trivial (fun w _ => (x_assign (v := (Value.int .i64 r33.2)) rfl rfl)) ?_
    exact wpD_done (by kernel_rfl) ⟨r33.2, ⟨rfl, e1, e4, e5, e6, e7, e8, e9, e11, e13, trivial⟩, h⟩
  clear h
  rintro l34 ρ w19 ⟨e15, e1, e4, e5, e6, e7, e8, e9, e11, e13, -⟩ h
  replace h := hk l34 w19 h
  clear hk
  refine wpC_seq ?_
  refine wpC_region ?_
  refine wpR_val (v := (Value.int .i64 r18.2)) (w' := w19) rfl rfl rfl (x_move (v := (Value.int .i64 r18.2)) rfl e5) ?_
  refine wpR_val (v := (Value.bool (decide (r18.2 = 0)))) (w' := w19) rfl rfl rfl (x_eql rfl rfl rfl) ?_
  refine wpR_val (v := (Value.bool (decide (r18.2 = 0)))) (w' := w19) rfl rfl rfl (x_move (v := (Value.bool (decide (r18.2 = 0)))) rfl rfl) ?_
  obtain ⟨J35, h, hk⟩ := h
  refine wpR_joinJ 7 (fun x ρ => ρ 78 = Value.bool x ∧ ρ 1 = (Sl.v (⟨some ⟨b9, 0, none⟩, 2, 2⟩ : Sl)) ∧ ρ 6 = (Value.int .i64 r19.1) ∧ ρ 7 = (Value.int .i64 r19.2) ∧ ρ 8 = (Value.int .i64 r20.1) ∧ ρ 9 = (Value.int .i64 r20.2) ∧ ρ 11 = (Value.int .i64 r21.2) ∧ ρ 13 = (Value.int .i64 r23.2) ∧ ρ 15 = (Value.int .i64 l34) ∧ True) (J35) ?_ ?_
  · clear hk
    rcases Bool.eq_false_or_eq_true (decide (r18.2 = 0)) with hc36 | hc36
    · replace h := h.1 hc36
      refine wpR_val (v := (Sl.v r18.1)) (w' := w19) (wantG rfl rfl rfl hc36) rfl rfl (x_move (v := (Sl.v r18.1)) rfl e4) ?_
      refine wpR_val (v := (Value.agg #[(Value.int .i64 1), (Value.int .i64 5)])) (w' := w19) (wantG rfl rfl rfl hc36) rfl rfl (x_build (qs := [(0, (Value.int .i64 1)), (1, (Value.int .i64 5))]) rfl (by rfl) (BD_39_0_1 1 5 _)) ?_
      refine wpR_val (v := (Value.agg #[(Value.int .i64 2), (Value.int .i64 5)])) (w' := w19) (wantG rfl rfl rfl hc36) rfl rfl (x_build (qs := [(0, (Value.int .i64 2)), (1, (Value.int .i64 5))]) rfl (by rfl) (BD_39_0_1 2 5 _)) ?_
      refine wpR_val (v := (Value.agg #[(Value.int .i64 3), (Value.int .i64 5)])) (w' := w19) (wantG rfl rfl rfl hc36) rfl rfl (x_build (qs := [(0, (Value.int .i64 3)), (1, (Value.int .i64 5))]) rfl (by rfl) (BD_39_0_1 3 5 _)) ?_
      obtain ⟨b37, hb37⟩ : ∃ u, u = w19.heap.size := ⟨_, rfl⟩
      obtain ⟨w20, hw37⟩ : ∃ u, u = w19.alloc (.cells #[(Value.int .i64 1), (Value.int .i64 5), (Value.int .i64 2), (Value.int .i64 5), (Value.int .i64 3), (Value.int .i64 5)] 39) := ⟨_, rfl⟩
      replace h := h b37 w20 hb37 hw37
      refine wpR_val (v := (Sl.v (⟨some ⟨b37, 0, none⟩, 3, 3⟩ : Sl))) (w' := w20) (wantG rfl rfl rfl hc36) rfl rfl ((x_buildSlice (qs := [(0, (Value.agg #[(Value.int .i64 1), (Value.int .i64 5)])), (1, (Value.agg #[(Value.int .i64 2), (Value.int .i64 5)])), (2, (Value.agg #[(Value.int .i64 3), (Value.int .i64 5)]))]) rfl (by rfl) (BS_22_3_0_1_2 1 5 2 5 3 5)).trans (by rw [← hb37, ← hw37])) ?_
      refine wpR_enter (wantG rfl rfl rfl hc36) rfl rfl (x_call (vs := [(Sl.v r18.1), (Sl.v (⟨some ⟨b37, 0, none⟩, 3, 3⟩ : Sl))]) rfl rfl (mapl_cons rfl (mapl_cons rfl mapl_nil)) Try.func12 NN_12 NB_12) (Calls.mono h ?_)
      rintro _ w21 ⟨r38, rfl, h⟩
      refine ⟨_, rfl, ?_⟩
      refine wpR_val (v := (Value.bool r38)) (w' := w21) rfl rfl rfl (x_pickT (v := (Value.bool r38)) rfl rfl hc36 rfl) ?_
      refine wpR_nil ?_
      exact ⟨r38, ⟨rfl, e1, e6, e7, e8, e9, e11, e13, e15, trivial⟩, h⟩
    · replace h := h.2 hc36
      refine wpR_pass (wantN rfl rfl rfl hc36) rfl rfl ?_
      refine wpR_pass (wantN rfl rfl rfl hc36) rfl rfl ?_
      refine wpR_pass (wantN rfl rfl rfl hc36) rfl rfl ?_
      refine wpR_pass (wantN rfl rfl rfl hc36) rfl rfl ?_
      refine wpR_pass (wantN rfl rfl rfl hc36) rfl rfl ?_
      refine wpR_pass (wantN rfl rfl rfl hc36) rfl rfl ?_
      refine wpR_val (v := (Value.bool false)) (w' := w19) rfl rfl rfl (x_pickF (v := (Value.bool false)) rfl rfl hc36 rfl) ?_
      refine wpR_nil ?_
      exact ⟨false, ⟨rfl, e1, e6, e7, e8, e9, e11, e13, e15, trivial⟩, h⟩
  clear h
  rintro c39 ρ w22 ⟨e78, e1, e6, e7, e8, e9, e11, e13, e15, -⟩ h
  replace h := hk c39 w22 h
  clear hk
  refine wpR_val (v := (Value.bool c39)) (w' := w22) rfl rfl rfl (x_assign (v := (Value.bool c39)) rfl e78) ?_
  refine wpR_nil ?_
  refine wpC_seq ?_
  refine wpC_cut (fun ρ => ρ 1 = (Sl.v (⟨some ⟨b9, 0, none⟩, 2, 2⟩ : Sl)) ∧ ρ 6 = (Value.int .i64 r19.1) ∧ ρ 7 = (Value.int .i64 r19.2) ∧ ρ 8 = (Value.int .i64 r20.1) ∧ ρ 9 = (Value.int .i64 r20.2) ∧ ρ 11 = (Value.int .i64 r21.2) ∧ ρ 13 = (Value.int .i64 r23.2) ∧ ρ 15 = (Value.int .i64 l34) ∧ ρ 16 = (Value.bool c39) ∧ True) ⟨e1, e6, e7, e8, e9, e11, e13, e15, rfl, trivial⟩ ?_
  rintro ρ ⟨e1, e6, e7, e8, e9, e11, e13, e15, e16, -⟩
  refine wpC_region ?_
  refine wpR_val (v := (Value.int .i64 r19.2)) (w' := w22) rfl rfl rfl (x_move (v := (Value.int .i64 r19.2)) rfl e7) ?_
  refine wpR_val (v := (Value.bool (decide (r19.2 = 0)))) (w' := w22) rfl rfl rfl (x_eql rfl rfl rfl) ?_
  refine wpR_val (v := (Value.bool (decide (r19.2 = 0)))) (w' := w22) rfl rfl rfl (x_move (v := (Value.bool (decide (r19.2 = 0)))) rfl rfl) ?_
  refine wpR_joinJ 3 (fun (_ : Unit) ρ => ρ 84 = Value.bool ((decide (r19.2 = 0)) && (decide (r20.2 = 0))) ∧ ρ 1 = (Sl.v (⟨some ⟨b9, 0, none⟩, 2, 2⟩ : Sl)) ∧ ρ 6 = (Value.int .i64 r19.1) ∧ ρ 8 = (Value.int .i64 r20.1) ∧ ρ 11 = (Value.int .i64 r21.2) ∧ ρ 13 = (Value.int .i64 r23.2) ∧ ρ 15 = (Value.int .i64 l34) ∧ ρ 16 = (Value.bool c39) ∧ True) (fun _ w => w22 = w) ?_ ?_
  · clear h
    rcases Bool.eq_false_or_eq_true (decide (r19.2 = 0)) with hc41 | hc41
    · skip
      refine wpR_val (v := (Value.int .i64 r20.2)) (w' := w22) (wantG rfl rfl rfl hc41) rfl rfl (x_move (v := (Value.int .i64 r20.2)) rfl e9) ?_
      refine wpR_val (v := (Value.bool (decide (r20.2 = 0)))) (w' := w22) (wantG rfl rfl rfl hc41) rfl rfl (x_eql rfl rfl rfl) ?_
      refine wpR_val (v := (Value.bool (decide (r20.2 = 0)))) (w' := w22) rfl rfl rfl (x_pickT (v := (Value.bool (decide (r20.2 = 0)))) rfl rfl hc41 rfl) ?_
      refine wpR_nil ?_
      exact ⟨(), ⟨(by rw [hc41]; rfl), e1, e6, e8, e11, e13, e15, e16, trivial⟩, rfl⟩
    · skip
      refine wpR_pass (wantN rfl rfl rfl hc41) rfl rfl ?_
      refine wpR_pass (wantN rfl rfl rfl hc41) rfl rfl ?_
      refine wpR_val (v := (Value.bool false)) (w' := w22) rfl rfl rfl (x_pickF (v := (Value.bool false)) rfl rfl hc41 rfl) ?_
      refine wpR_nil ?_
      exact ⟨(), ⟨(by rw [hc41]; rfl), e1, e6, e8, e11, e13, e15, e16, trivial⟩, rfl⟩
  rintro _ ρ wj ⟨e84, e1, e6, e8, e11, e13, e15, e16, -⟩ rfl
  refine wpR_val (v := (Value.bool ((decide (r19.2 = 0)) && (decide (r20.2 = 0))))) (w' := w22) rfl rfl rfl (x_move (v := (Value.bool ((decide (r19.2 = 0)) && (decide (r20.2 = 0))))) rfl e84) ?_
  refine wpR_joinJ 3 (fun (_ : Unit) ρ => ρ 88 = Value.bool (((decide (r19.2 = 0)) && (decide (r20.2 = 0))) && (decide (r19.1 = 5))) ∧ ρ 1 = (Sl.v (⟨some ⟨b9, 0, none⟩, 2, 2⟩ : Sl)) ∧ ρ 8 = (Value.int .i64 r20.1) ∧ ρ 11 = (Value.int .i64 r21.2) ∧ ρ 13 = (Value.int .i64 r23.2) ∧ ρ 15 = (Value.int .i64 l34) ∧ ρ 16 = (Value.bool c39) ∧ True) (fun _ w => w22 = w) ?_ ?_
  · clear h
    rcases Bool.eq_false_or_eq_true ((decide (r19.2 = 0)) && (decide (r20.2 = 0))) with hc43 | hc43
    · skip
      refine wpR_val (v := (Value.int .i64 r19.1)) (w' := w22) (wantG rfl rfl rfl hc43) rfl rfl (x_move (v := (Value.int .i64 r19.1)) rfl e6) ?_
      refine wpR_val (v := (Value.bool (decide (r19.1 = 5)))) (w' := w22) (wantG rfl rfl rfl hc43) rfl rfl (x_eql rfl rfl rfl) ?_
      refine wpR_val (v := (Value.bool (decide (r19.1 = 5)))) (w' := w22) rfl rfl rfl (x_pickT (v := (Value.bool (decide (r19.1 = 5)))) rfl rfl hc43 rfl) ?_
      refine wpR_nil ?_
      exact ⟨(), ⟨(by rw [hc43]; rfl), e1, e8, e11, e13, e15, e16, trivial⟩, rfl⟩
    · skip
      refine wpR_pass (wantN rfl rfl rfl hc43) rfl rfl ?_
      refine wpR_pass (wantN rfl rfl rfl hc43) rfl rfl ?_
      refine wpR_val (v := (Value.bool false)) (w' := w22) rfl rfl rfl (x_pickF (v := (Value.bool false)) rfl rfl hc43 rfl) ?_
      refine wpR_nil ?_
      exact ⟨(), ⟨(by rw [hc43]; rfl), e1, e8, e11, e13, e15, e16, trivial⟩, rfl⟩
  rintro _ ρ wj ⟨e88, e1, e8, e11, e13, e15, e16, -⟩ rfl
  refine wpR_val (v := (Value.bool (((decide (r19.2 = 0)) && (decide (r20.2 = 0))) && (decide (r19.1 = 5))))) (w' := w22) rfl rfl rfl (x_move (v := (Value.bool (((decide (r19.2 = 0)) && (decide (r20.2 = 0))) && (decide (r19.1 = 5))))) rfl e88) ?_
  refine wpR_joinJ 3 (fun (_ : Unit) ρ => ρ 92 = Value.bool ((((decide (r19.2 = 0)) && (decide (r20.2 = 0))) && (decide (r19.1 = 5))) && (decide (r20.1 = 5))) ∧ ρ 1 = (Sl.v (⟨some ⟨b9, 0, none⟩, 2, 2⟩ : Sl)) ∧ ρ 11 = (Value.int .i64 r21.2) ∧ ρ 13 = (Value.int .i64 r23.2) ∧ ρ 15 = (Value.int .i64 l34) ∧ ρ 16 = (Value.bool c39) ∧ True) (fun _ w => w22 = w) ?_ ?_
  · clear h
    rcases Bool.eq_false_or_eq_true (((decide (r19.2 = 0)) && (decide (r20.2 = 0))) && (decide (r19.1 = 5))) with hc45 | hc45
    · skip
      refine wpR_val (v := (Value.int .i64 r20.1)) (w' := w22) (wantG rfl rfl rfl hc45) rfl rfl (x_move (v := (Value.int .i64 r20.1)) rfl e8) ?_
      refine wpR_val (v := (Value.bool (decide (r20.1 = 5)))) (w' := w22) (wantG rfl rfl rfl hc45) rfl rfl (x_eql rfl rfl rfl) ?_
      refine wpR_val (v := (Value.bool (decide (r20.1 = 5)))) (w' := w22) rfl rfl rfl (x_pickT (v := (Value.bool (decide (r20.1 = 5)))) rfl rfl hc45 rfl) ?_
      refine wpR_nil ?_
      exact ⟨(), ⟨(by rw [hc45]; rfl), e1, e11, e13, e15, e16, trivial⟩, rfl⟩
    · skip
      refine wpR_pass (wantN rfl rfl rfl hc45) rfl rfl ?_
      refine wpR_pass (wantN rfl rfl rfl hc45) rfl rfl ?_
      refine wpR_val (v := (Value.bool false)) (w' := w22) rfl rfl rfl (x_pickF (v := (Value.bool false)) rfl rfl hc45 rfl) ?_
      refine wpR_nil ?_
      exact ⟨(), ⟨(by rw [hc45]; rfl), e1, e11, e13, e15, e16, trivial⟩, rfl⟩
  rintro _ ρ wj ⟨e92, e1, e11, e13, e15, e16, -⟩ rfl
  refine wpR_val (v := (Value.bool ((((decide (r19.2 = 0)) && (decide (r20.2 = 0))) && (decide (r19.1 = 5))) && (decide (r20.1 = 5))))) (w' := w22) rfl rfl rfl (x_move (v := (Value.bool ((((decide (r19.2 = 0)) && (decide (r20.2 = 0))) && (decide (r19.1 = 5))) && (decide (r20.1 = 5))))) rfl e92) ?_
  refine wpR_joinJ 3 (fun (_ : Unit) ρ => ρ 96 = Value.bool (((((decide (r19.2 = 0)) && (decide (r20.2 = 0))) && (decide (r19.1 = 5))) && (decide (r20.1 = 5))) && (decide (r21.2 = 18))) ∧ ρ 1 = (Sl.v (⟨some ⟨b9, 0, none⟩, 2, 2⟩ : Sl)) ∧ ρ 13 = (Value.int .i64 r23.2) ∧ ρ 15 = (Value.int .i64 l34) ∧ ρ 16 = (Value.bool c39) ∧ True) (fun _ w => w22 = w) ?_ ?_
  · clear h
    rcases Bool.eq_false_or_eq_true ((((decide (r19.2 = 0)) && (decide (r20.2 = 0))) && (decide (r19.1 = 5))) && (decide (r20.1 = 5))) with hc47 | hc47
    · skip
      refine wpR_val (v := (Value.int .i64 r21.2)) (w' := w22) (wantG rfl rfl rfl hc47) rfl rfl (x_move (v := (Value.int .i64 r21.2)) rfl e11) ?_
      refine wpR_val (v := (Value.bool (decide (r21.2 = 18)))) (w' := w22) (wantG rfl rfl rfl hc47) rfl rfl (x_eql rfl rfl rfl) ?_
      refine wpR_val (v := (Value.bool (decide (r21.2 = 18)))) (w' := w22) rfl rfl rfl (x_pickT (v := (Value.bool (decide (r21.2 = 18)))) rfl rfl hc47 rfl) ?_
      refine wpR_nil ?_
      exact ⟨(), ⟨(by rw [hc47]; rfl), e1, e13, e15, e16, trivial⟩, rfl⟩
    · skip
      refine wpR_pass (wantN rfl rfl rfl hc47) rfl rfl ?_
      refine wpR_pass (wantN rfl rfl rfl hc47) rfl rfl ?_
      refine wpR_val (v := (Value.bool false)) (w' := w22) rfl rfl rfl (x_pickF (v := (Value.bool false)) rfl rfl hc47 rfl) ?_
      refine wpR_nil ?_
      exact ⟨(), ⟨(by rw [hc47]; rfl), e1, e13, e15, e16, trivial⟩, rfl⟩
  rintro _ ρ wj ⟨e96, e1, e13, e15, e16, -⟩ rfl
  refine wpR_val (v := (Value.bool (((((decide (r19.2 = 0)) && (decide (r20.2 = 0))) && (decide (r19.1 = 5))) && (decide (r20.1 = 5))) && (decide (r21.2 = 18))))) (w' := w22) rfl rfl rfl (x_move (v := (Value.bool (((((decide (r19.2 = 0)) && (decide (r20.2 = 0))) && (decide (r19.1 = 5))) && (decide (r20.1 = 5))) && (decide (r21.2 = 18))))) rfl e96) ?_
  refine wpR_joinJ 3 (fun (_ : Unit) ρ => ρ 100 = Value.bool ((((((decide (r19.2 = 0)) && (decide (r20.2 = 0))) && (decide (r19.1 = 5))) && (decide (r20.1 = 5))) && (decide (r21.2 = 18))) && (decide (r23.2 = 20))) ∧ ρ 1 = (Sl.v (⟨some ⟨b9, 0, none⟩, 2, 2⟩ : Sl)) ∧ ρ 15 = (Value.int .i64 l34) ∧ ρ 16 = (Value.bool c39) ∧ True) (fun _ w => w22 = w) ?_ ?_
  · clear h
    rcases Bool.eq_false_or_eq_true (((((decide (r19.2 = 0)) && (decide (r20.2 = 0))) && (decide (r19.1 = 5))) && (decide (r20.1 = 5))) && (decide (r21.2 = 18))) with hc49 | hc49
    · skip
      refine wpR_val (v := (Value.int .i64 r23.2)) (w' := w22) (wantG rfl rfl rfl hc49) rfl rfl (x_move (v := (Value.int .i64 r23.2)) rfl e13) ?_
      refine wpR_val (v := (Value.bool (decide (r23.2 = 20)))) (w' := w22) (wantG rfl rfl rfl hc49) rfl rfl (x_eql rfl rfl rfl) ?_
      refine wpR_val (v := (Value.bool (decide (r23.2 = 20)))) (w' := w22) rfl rfl rfl (x_pickT (v := (Value.bool (decide (r23.2 = 20)))) rfl rfl hc49 rfl) ?_
      refine wpR_nil ?_
      exact ⟨(), ⟨(by rw [hc49]; rfl), e1, e15, e16, trivial⟩, rfl⟩
    · skip
      refine wpR_pass (wantN rfl rfl rfl hc49) rfl rfl ?_
      refine wpR_pass (wantN rfl rfl rfl hc49) rfl rfl ?_
      refine wpR_val (v := (Value.bool false)) (w' := w22) rfl rfl rfl (x_pickF (v := (Value.bool false)) rfl rfl hc49 rfl) ?_
      refine wpR_nil ?_
      exact ⟨(), ⟨(by rw [hc49]; rfl), e1, e15, e16, trivial⟩, rfl⟩
  rintro _ ρ wj ⟨e100, e1, e15, e16, -⟩ rfl
  refine wpR_val (v := (Value.bool ((((((decide (r19.2 = 0)) && (decide (r20.2 = 0))) && (decide (r19.1 = 5))) && (decide (r20.1 = 5))) && (decide (r21.2 = 18))) && (decide (r23.2 = 20))))) (w' := w22) rfl rfl rfl (x_move (v := (Value.bool ((((((decide (r19.2 = 0)) && (decide (r20.2 = 0))) && (decide (r19.1 = 5))) && (decide (r20.1 = 5))) && (decide (r21.2 = 18))) && (decide (r23.2 = 20))))) rfl e100) ?_
  refine wpR_joinJ 3 (fun (_ : Unit) ρ => ρ 104 = Value.bool (((((((decide (r19.2 = 0)) && (decide (r20.2 = 0))) && (decide (r19.1 = 5))) && (decide (r20.1 = 5))) && (decide (r21.2 = 18))) && (decide (r23.2 = 20))) && (decide (l34 = 5))) ∧ ρ 1 = (Sl.v (⟨some ⟨b9, 0, none⟩, 2, 2⟩ : Sl)) ∧ ρ 16 = (Value.bool c39) ∧ True) (fun _ w => w22 = w) ?_ ?_
  · clear h
    rcases Bool.eq_false_or_eq_true ((((((decide (r19.2 = 0)) && (decide (r20.2 = 0))) && (decide (r19.1 = 5))) && (decide (r20.1 = 5))) && (decide (r21.2 = 18))) && (decide (r23.2 = 20))) with hc51 | hc51
    · skip
      refine wpR_val (v := (Value.int .i64 l34)) (w' := w22) (wantG rfl rfl rfl hc51) rfl rfl (x_move (v := (Value.int .i64 l34)) rfl e15) ?_
      refine wpR_val (v := (Value.bool (decide (l34 = 5)))) (w' := w22) (wantG rfl rfl rfl hc51) rfl rfl (x_eql rfl rfl rfl) ?_
      refine wpR_val (v := (Value.bool (decide (l34 = 5)))) (w' := w22) rfl rfl rfl (x_pickT (v := (Value.bool (decide (l34 = 5)))) rfl rfl hc51 rfl) ?_
      refine wpR_nil ?_
      exact ⟨(), ⟨(by rw [hc51]; rfl), e1, e16, trivial⟩, rfl⟩
    · skip
      refine wpR_pass (wantN rfl rfl rfl hc51) rfl rfl ?_
      refine wpR_pass (wantN rfl rfl rfl hc51) rfl rfl ?_
      refine wpR_val (v := (Value.bool false)) (w' := w22) rfl rfl rfl (x_pickF (v := (Value.bool false)) rfl rfl hc51 rfl) ?_
      refine wpR_nil ?_
      exact ⟨(), ⟨(by rw [hc51]; rfl), e1, e16, trivial⟩, rfl⟩
  rintro _ ρ wj ⟨e104, e1, e16, -⟩ rfl
  refine wpR_val (v := (Value.bool (((((((decide (r19.2 = 0)) && (decide (r20.2 = 0))) && (decide (r19.1 = 5))) && (decide (r20.1 = 5))) && (decide (r21.2 = 18))) && (decide (r23.2 = 20))) && (decide (l34 = 5))))) (w' := w22) rfl rfl rfl (x_assign (v := (Value.bool (((((((decide (r19.2 = 0)) && (decide (r20.2 = 0))) && (decide (r19.1 = 5))) && (decide (r20.1 = 5))) && (decide (r21.2 = 18))) && (decide (r23.2 = 20))) && (decide (l34 = 5))))) rfl e104) ?_
  refine wpR_nil ?_
  refine wpC_seq ?_
  refine wpC_cut (fun ρ => ρ 1 = (Sl.v (⟨some ⟨b9, 0, none⟩, 2, 2⟩ : Sl)) ∧ ρ 16 = (Value.bool c39) ∧ ρ 17 = (Value.bool (((((((decide (r19.2 = 0)) && (decide (r20.2 = 0))) && (decide (r19.1 = 5))) && (decide (r20.1 = 5))) && (decide (r21.2 = 18))) && (decide (r23.2 = 20))) && (decide (l34 = 5)))) ∧ True) ⟨e1, e16, rfl, trivial⟩ ?_
  rintro ρ ⟨e1, e16, e17, -⟩
  refine wpC_region ?_
  refine wpR_val (v := (Value.bool c39)) (w' := w22) rfl rfl rfl (x_move (v := (Value.bool c39)) rfl e16) ?_
  refine wpR_val (v := (Value.bool c39)) (w' := w22) rfl rfl rfl (x_move (v := (Value.bool c39)) rfl rfl) ?_
  refine wpR_joinJ 2 (fun (_ : Unit) ρ => ρ 108 = Value.bool (c39 && (((((((decide (r19.2 = 0)) && (decide (r20.2 = 0))) && (decide (r19.1 = 5))) && (decide (r20.1 = 5))) && (decide (r21.2 = 18))) && (decide (r23.2 = 20))) && (decide (l34 = 5)))) ∧ ρ 1 = (Sl.v (⟨some ⟨b9, 0, none⟩, 2, 2⟩ : Sl)) ∧ True) (fun _ w => w22 = w) ?_ ?_
  · clear h
    rcases Bool.eq_false_or_eq_true (c39) with hc53 | hc53
    · skip
      refine wpR_val (v := (Value.bool (((((((decide (r19.2 = 0)) && (decide (r20.2 = 0))) && (decide (r19.1 = 5))) && (decide (r20.1 = 5))) && (decide (r21.2 = 18))) && (decide (r23.2 = 20))) && (decide (l34 = 5))))) (w' := w22) (wantG rfl rfl rfl hc53) rfl rfl (x_move (v := (Value.bool (((((((decide (r19.2 = 0)) && (decide (r20.2 = 0))) && (decide (r19.1 = 5))) && (decide (r20.1 = 5))) && (decide (r21.2 = 18))) && (decide (r23.2 = 20))) && (decide (l34 = 5))))) rfl e17) ?_
      refine wpR_val (v := (Value.bool (((((((decide (r19.2 = 0)) && (decide (r20.2 = 0))) && (decide (r19.1 = 5))) && (decide (r20.1 = 5))) && (decide (r21.2 = 18))) && (decide (r23.2 = 20))) && (decide (l34 = 5))))) (w' := w22) rfl rfl rfl (x_pickT (v := (Value.bool (((((((decide (r19.2 = 0)) && (decide (r20.2 = 0))) && (decide (r19.1 = 5))) && (decide (r20.1 = 5))) && (decide (r21.2 = 18))) && (decide (r23.2 = 20))) && (decide (l34 = 5))))) rfl rfl hc53 rfl) ?_
      refine wpR_nil ?_
      exact ⟨(), ⟨(by rw [hc53]; rfl), e1, trivial⟩, rfl⟩
    · skip
      refine wpR_pass (wantN rfl rfl rfl hc53) rfl rfl ?_
      refine wpR_val (v := (Value.bool false)) (w' := w22) rfl rfl rfl (x_pickF (v := (Value.bool false)) rfl rfl hc53 rfl) ?_
      refine wpR_nil ?_
      exact ⟨(), ⟨(by rw [hc53]; rfl), e1, trivial⟩, rfl⟩
  rintro _ ρ wj ⟨e108, e1, -⟩ rfl
  refine wpR_val (v := (Value.bool (c39 && (((((((decide (r19.2 = 0)) && (decide (r20.2 = 0))) && (decide (r19.1 = 5))) && (decide (r20.1 = 5))) && (decide (r21.2 = 18))) && (decide (r23.2 = 20))) && (decide (l34 = 5)))))) (w' := w22) rfl rfl rfl (x_move (v := (Value.bool (c39 && (((((((decide (r19.2 = 0)) && (decide (r20.2 = 0))) && (decide (r19.1 = 5))) && (decide (r20.1 = 5))) && (decide (r21.2 = 18))) && (decide (r23.2 = 20))) && (decide (l34 = 5)))))) rfl e108) ?_
  obtain ⟨J54, h, hk⟩ := h
  refine wpR_joinJ 4 (fun x ρ => ρ 113 = Value.bool x ∧ ρ 1 = (Sl.v (⟨some ⟨b9, 0, none⟩, 2, 2⟩ : Sl)) ∧ True) (J54) ?_ ?_
  · clear hk
    rcases Bool.eq_false_or_eq_true (c39 && (((((((decide (r19.2 = 0)) && (decide (r20.2 = 0))) && (decide (r19.1 = 5))) && (decide (r20.1 = 5))) && (decide (r21.2 = 18))) && (decide (r23.2 = 20))) && (decide (l34 = 5)))) with hc55 | hc55
    · replace h := h.1 hc55
      refine wpR_val (v := (Sl.v (⟨some ⟨b9, 0, none⟩, 2, 2⟩ : Sl))) (w' := w22) (wantG rfl rfl rfl hc55) rfl rfl (x_move (v := (Sl.v (⟨some ⟨b9, 0, none⟩, 2, 2⟩ : Sl))) rfl e1) ?_
      obtain ⟨r56, w23, q56, h⟩ := h
      refine wpR_val (v := (Sl.v r56)) (w' := w23) (wantG rfl rfl rfl hc55) rfl rfl (x_sliceAt rfl rfl rfl (congrArg some rfl) rfl q56) ?_
      refine wpR_enter (wantG rfl rfl rfl hc55) rfl rfl (x_call (vs := [(Sl.v r56), (Value.int .i64 2), (Value.int .i64 5)]) rfl rfl (mapl_cons rfl (mapl_cons rfl (mapl_cons rfl mapl_nil))) Try.func13 NN_13 NB_13) (Calls.mono h ?_)
      rintro _ w24 ⟨r57, rfl, h⟩
      refine ⟨_, rfl, ?_⟩
      refine wpR_val (v := (Value.bool r57)) (w' := w24) rfl rfl rfl (x_pickT (v := (Value.bool r57)) rfl rfl hc55 rfl) ?_
      refine wpR_nil ?_
      exact ⟨r57, ⟨rfl, e1, trivial⟩, h⟩
    · replace h := h.2 hc55
      refine wpR_pass (wantN rfl rfl rfl hc55) rfl rfl ?_
      refine wpR_pass (wantN rfl rfl rfl hc55) rfl rfl ?_
      refine wpR_pass (wantN rfl rfl rfl hc55) rfl rfl ?_
      refine wpR_val (v := (Value.bool false)) (w' := w22) rfl rfl rfl (x_pickF (v := (Value.bool false)) rfl rfl hc55 rfl) ?_
      refine wpR_nil ?_
      exact ⟨false, ⟨rfl, e1, trivial⟩, h⟩
  clear h
  rintro c58 ρ w25 ⟨e113, e1, -⟩ h
  replace h := hk c58 w25 h
  clear hk
  refine wpR_val (v := (Value.bool c58)) (w' := w25) rfl rfl rfl (x_move (v := (Value.bool c58)) rfl e113) ?_
  obtain ⟨J59, h, hk⟩ := h
  refine wpR_joinJ 4 (fun x ρ => ρ 118 = Value.bool x ∧ ρ 1 = (Sl.v (⟨some ⟨b9, 0, none⟩, 2, 2⟩ : Sl)) ∧ True) (J59) ?_ ?_
  · clear hk
    rcases Bool.eq_false_or_eq_true (c58) with hc60 | hc60
    · replace h := h.1 hc60
      refine wpR_val (v := (Sl.v (⟨some ⟨b9, 0, none⟩, 2, 2⟩ : Sl))) (w' := w25) (wantG rfl rfl rfl hc60) rfl rfl (x_move (v := (Sl.v (⟨some ⟨b9, 0, none⟩, 2, 2⟩ : Sl))) rfl e1) ?_
      obtain ⟨r61, w26, q61, h⟩ := h
      refine wpR_val (v := (Sl.v r61)) (w' := w26) (wantG rfl rfl rfl hc60) rfl rfl (x_sliceAt rfl rfl rfl (congrArg some rfl) rfl q61) ?_
      refine wpR_enter (wantG rfl rfl rfl hc60) rfl rfl (x_call (vs := [(Sl.v r61), (Value.int .i64 2), (Value.int .i64 6)]) rfl rfl (mapl_cons rfl (mapl_cons rfl (mapl_cons rfl mapl_nil))) Try.func13 NN_13 NB_13) (Calls.mono h ?_)
      rintro _ w27 ⟨r62, rfl, h⟩
      refine ⟨_, rfl, ?_⟩
      refine wpR_val (v := (Value.bool r62)) (w' := w27) rfl rfl rfl (x_pickT (v := (Value.bool r62)) rfl rfl hc60 rfl) ?_
      refine wpR_nil ?_
      exact ⟨r62, ⟨rfl, e1, trivial⟩, h⟩
    · replace h := h.2 hc60
      refine wpR_pass (wantN rfl rfl rfl hc60) rfl rfl ?_
      refine wpR_pass (wantN rfl rfl rfl hc60) rfl rfl ?_
      refine wpR_pass (wantN rfl rfl rfl hc60) rfl rfl ?_
      refine wpR_val (v := (Value.bool false)) (w' := w25) rfl rfl rfl (x_pickF (v := (Value.bool false)) rfl rfl hc60 rfl) ?_
      refine wpR_nil ?_
      exact ⟨false, ⟨rfl, e1, trivial⟩, h⟩
  clear h
  rintro c63 ρ w28 ⟨e118, e1, -⟩ h
  replace h := hk c63 w28 h
  clear hk
  refine wpR_val (v := (Value.bool c63)) (w' := w28) rfl rfl rfl (x_move (v := (Value.bool c63)) rfl e118) ?_
  obtain ⟨J64, h, hk⟩ := h
  refine wpR_joinJ 3 (fun x ρ => ρ 122 = Value.bool x ∧ ρ 1 = (Sl.v (⟨some ⟨b9, 0, none⟩, 2, 2⟩ : Sl)) ∧ True) (J64) ?_ ?_
  · clear hk
    rcases Bool.eq_false_or_eq_true (c63) with hc65 | hc65
    · replace h := h.1 hc65
      refine wpR_val (v := (Sl.v (⟨some ⟨b9, 0, none⟩, 2, 2⟩ : Sl))) (w' := w28) (wantG rfl rfl rfl hc65) rfl rfl (x_move (v := (Sl.v (⟨some ⟨b9, 0, none⟩, 2, 2⟩ : Sl))) rfl e1) ?_
      refine wpR_enter (wantG rfl rfl rfl hc65) rfl rfl (x_call (vs := [(Sl.v (⟨some ⟨b9, 0, none⟩, 2, 2⟩ : Sl)), (Value.int .i64 2), (Value.int .i64 5)]) rfl rfl (mapl_cons rfl (mapl_cons rfl (mapl_cons rfl mapl_nil))) Try.func13 NN_13 NB_13) (Calls.mono h ?_)
      rintro _ w29 ⟨r66, rfl, h⟩
      refine ⟨_, rfl, ?_⟩
      refine wpR_val (v := (Value.bool r66)) (w' := w29) rfl rfl rfl (x_pickT (v := (Value.bool r66)) rfl rfl hc65 rfl) ?_
      refine wpR_nil ?_
      exact ⟨r66, ⟨rfl, e1, trivial⟩, h⟩
    · replace h := h.2 hc65
      refine wpR_pass (wantN rfl rfl rfl hc65) rfl rfl ?_
      refine wpR_pass (wantN rfl rfl rfl hc65) rfl rfl ?_
      refine wpR_val (v := (Value.bool false)) (w' := w28) rfl rfl rfl (x_pickF (v := (Value.bool false)) rfl rfl hc65 rfl) ?_
      refine wpR_nil ?_
      exact ⟨false, ⟨rfl, e1, trivial⟩, h⟩
  clear h
  rintro c67 ρ w30 ⟨e122, e1, -⟩ h
  replace h := hk c67 w30 h
  clear hk
  refine wpR_val (v := (Value.bool c67)) (w' := w30) rfl rfl rfl (x_move (v := (Value.bool c67)) rfl e122) ?_
  obtain ⟨J68, h, hk⟩ := h
  refine wpR_joinJ 4 (fun x ρ => ρ 127 = Value.bool x ∧ True) (J68) ?_ ?_
  · clear hk
    rcases Bool.eq_false_or_eq_true (c67) with hc69 | hc69
    · replace h := h.1 hc69
      refine wpR_val (v := (Sl.v (⟨some ⟨b9, 0, none⟩, 2, 2⟩ : Sl))) (w' := w30) (wantG rfl rfl rfl hc69) rfl rfl (x_move (v := (Sl.v (⟨some ⟨b9, 0, none⟩, 2, 2⟩ : Sl))) rfl e1) ?_
      refine wpR_enter (wantG rfl rfl rfl hc69) rfl rfl (x_call (vs := [(Sl.v (⟨some ⟨b9, 0, none⟩, 2, 2⟩ : Sl)), (Value.int .i64 2), (Value.int .i64 6)]) rfl rfl (mapl_cons rfl (mapl_cons rfl (mapl_cons rfl mapl_nil))) Try.func13 NN_13 NB_13) (Calls.mono h ?_)
      rintro _ w31 ⟨r70, rfl, h⟩
      refine ⟨_, rfl, ?_⟩
      refine wpR_val (v := (Value.bool (!r70))) (w' := w31) (wantG rfl rfl rfl hc69) rfl rfl (x_not rfl rfl) ?_
      refine wpR_val (v := (Value.bool (!r70))) (w' := w31) rfl rfl rfl (x_pickT (v := (Value.bool (!r70))) rfl rfl hc69 rfl) ?_
      refine wpR_nil ?_
      exact ⟨!r70, ⟨rfl, trivial⟩, h⟩
    · replace h := h.2 hc69
      refine wpR_pass (wantN rfl rfl rfl hc69) rfl rfl ?_
      refine wpR_pass (wantN rfl rfl rfl hc69) rfl rfl ?_
      refine wpR_pass (wantN rfl rfl rfl hc69) rfl rfl ?_
      refine wpR_val (v := (Value.bool false)) (w' := w30) rfl rfl rfl (x_pickF (v := (Value.bool false)) rfl rfl hc69 rfl) ?_
      refine wpR_nil ?_
      exact ⟨false, ⟨rfl, trivial⟩, h⟩
  clear h
  rintro c71 ρ w32 ⟨e127, -⟩ h
  replace h := hk c71 w32 h
  clear hk
  refine wpR_val (v := (Value.bool c71)) (w' := w32) rfl rfl rfl (x_assign (v := (Value.bool c71)) rfl e127) ?_
  refine wpR_nil ?_
  refine wpC_ret ?_
  exact ⟨.inl rfl, fun a ha => ⟨_, results_rep1 rfl ha rfl, c71, rfl, h⟩⟩

/-- share.Split -/
def F8 (p0 : Int) (p1 : Int) (p2 : Int) (p3 : Int) (w0 : World) (K : (Sl × Int) → World → Prop) : Prop :=
  callC Try.prog 18 #[(Value.int .i64 p0)] (fun (r : Bool) => (Value.bool r)) w0 fun r9 w1 =>
  cnd (((((!r9) || (decide (p2 < 1))) || (decide (20 < p2))) || (decide (p1 < 1))) || (decide (p2 < p1)))
    (
    K (Sl.nil, 1) w1
    )
    (
    nw 3 #[(Value.int .i64 p0)] w1 fun b19 w2 =>
    lp (fun (next20 : (Int × Sl × Int) → World → Prop) l20 w3 =>
      cnd (decide (l20.2.2 < (IntKind.i64.wrap (p1 - 1))))
        (
        nw 3 #[(Value.int .i64 (((IntKind.i64.wrap ((IntKind.i64.wrap (1103515245 * l20.1)) + 12345)).tmod 2147483648).tmod 2147483647))] w3 fun b22 w4 =>
        rn Try.prog (Builtin.append_ #[43, 43] 43 #[Sl.v l20.2.1, Sl.v (⟨some ⟨b22, 0, none⟩, 1, 1⟩ : Sl)]) Sl.v w4 fun r23 w5 =>
        next20 ((IntKind.i64.wrap ((IntKind.i64.wrap (1103515245 * l20.1)) + 12345)).tmod 2147483648, r23, IntKind.i64.wrap (l20.2.2 + 1)) w5
        )
        (
        lp (fun (next24 : (Sl × Int) → World → Prop) l24 w6 =>
          cnd (decide (l24.2 ≤ p2))
            (
            lp (fun (next26 : (Int × Int) → World → Prop) l26 w7 =>
              cnd (decide (0 ≤ l26.2))
                (
                ix l20.2.1 l26.2 1 fun p28 =>
                ld (Value.int .i64) p28 w7 fun x29 =>
                next26 ((IntKind.i64.wrap ((IntKind.i64.wrap (l26.1 * l24.2)) + x29)).tmod 2147483647, IntKind.i64.wrap (l26.2 - 1)) w7
                )
                (
                nw 39 #[(Value.int .i64 l24.2), (Value.int .i64 l26.1)] w7 fun b30 w8 =>
                rn Try.prog (Builtin.append_ #[22, 22] 22 #[Sl.v l24.1, Sl.v (⟨some ⟨b30, 0, none⟩, 1, 1⟩ : Sl)]) Sl.v w8 fun r31 w9 =>
                next24 (r31, IntKind.i64.wrap (l24.2 + 1)) w9
                )
            ) (0, IntKind.i64.wrap ((l20.2.1.len : Int) - 1)) w6
            )
            (
            K (l24.1, 0) w6
            )
        ) (Sl.nil, 1) w3
        )
    ) ((IntKind.i64.wrap ((p3.tmod 2147483648) + 2147483648)).tmod 2147483648, (⟨some ⟨b19, 0, none⟩, 1, 1⟩ : Sl), 0) w2
    )
set_option maxRecDepth 100000 in
theorem D8 (p0 : Int) (p1 : Int) (p2 : Int) (p3 : Int) (w0 : World) (K : (Sl × Int) → World → Prop) (h : F8 p0 p1 p2 p3 w0 K) : callC Try.prog 8 #[(Value.int .i64 p0), (Value.int .i64 p1), (Value.int .i64 p2), (Value.int .i64 p3)] (fun (r : Sl × Int) => (Value.tuple #[(Sl.v r.1), (Value.int .i64 r.2)])) w0 K := by
  unfold F8 at h
  refine calls_of_wpC Try.func8 rfl 84 rfl (by simp) ?_
  intro ρ hρ
  have e0 : ρ 0 = (Value.int .i64 p0) := hρ 0
  have e1 : ρ 1 = (Value.int .i64 p1) := hρ 1
  have e2 : ρ 2 = (Value.int .i64 p2) := hρ 2
  have e3 : ρ 3 = (Value.int .i64 p3) := hρ 3
  clear hρ
  refine wpC_seq ?_
  refine wpC_region ?_
  refine wpR_val (v := (Sl.v Sl.nil)) (w' := w0) rfl rfl rfl (x_assign (v := (Sl.v Sl.nil)) rfl rfl) ?_
  refine wpR_val (v := (Value.int .i64 0)) (w' := w0) rfl rfl rfl (x_assign (v := (Value.int .i64 0)) rfl rfl) ?_
  refine wpR_nil ?_
  refine wpC_seq ?_
  refine wpC_seq ?_
  refine wpC_cut (fun ρ => ρ 0 = (Value.int .i64 p0) ∧ ρ 1 = (Value.int .i64 p1) ∧ ρ 2 = (Value.int .i64 p2) ∧ ρ 3 = (Value.int .i64 p3) ∧ True) ⟨e0, e1, e2, e3, trivial⟩ ?_
  rintro ρ ⟨e0, e1, e2, e3, -⟩
  refine wpC_region ?_
  refine wpR_val (v := (Value.int .i64 p0)) (w' := w0) rfl rfl rfl (x_move (v := (Value.int .i64 p0)) rfl e0) ?_
  refine wpR_enter rfl rfl rfl (x_call (vs := [(Value.int .i64 p0)]) rfl rfl (mapl_cons rfl mapl_nil) Try.func18 NN_18 NB_18) (Calls.mono h ?_)
  rintro _ w1 ⟨r9, rfl, h⟩
  refine ⟨_, rfl, ?_⟩
  refine wpR_val (v := (Value.bool (!r9))) (w' := w1) rfl rfl rfl (x_not rfl rfl) ?_
  refine wpR_val (v := (Value.bool (!r9))) (w' := w1) rfl rfl rfl (x_move (v := (Value.bool (!r9))) rfl rfl) ?_
  refine wpR_joinJ 3 (fun (_ : Unit) ρ => ρ 22 = Value.bool ((!r9) || (decide (p2 < 1))) ∧ ρ 0 = (Value.int .i64 p0) ∧ ρ 1 = (Value.int .i64 p1) ∧ ρ 2 = (Value.int .i64 p2) ∧ ρ 3 = (Value.int .i64 p3) ∧ True) (fun _ w => w1 = w) ?_ ?_
  · clear h
    rcases Bool.eq_false_or_eq_true (!r9) with hc11 | hc11
    · skip
      refine wpR_pass (wantN rfl rfl rfl hc11) rfl rfl ?_
      refine wpR_pass (wantN rfl rfl rfl hc11) rfl rfl ?_
      refine wpR_val (v := (Value.bool true)) (w' := w1) rfl rfl rfl (x_pickT (v := (Value.bool true)) rfl rfl hc11 rfl) ?_
      refine wpR_nil ?_
      exact ⟨(), ⟨(by rw [hc11]; rfl), e0, e1, e2, e3, trivial⟩, rfl⟩
    · skip
      refine wpR_val (v := (Value.int .i64 p2)) (w' := w1) (wantG rfl rfl rfl hc11) rfl rfl (x_move (v := (Value.int .i64 p2)) rfl e2) ?_
      refine wpR_val (v := (Value.bool (decide (p2 < 1)))) (w' := w1) (wantG rfl rfl rfl hc11) rfl rfl (x_lss rfl rfl rfl) ?_
      refine wpR_val (v := (Value.bool (decide (p2 < 1)))) (w' := w1) rfl rfl rfl (x_pickF (v := (Value.bool (decide (p2 < 1)))) rfl rfl hc11 rfl) ?_
      refine wpR_nil ?_
      exact ⟨(), ⟨(by rw [hc11]; rfl), e0, e1, e2, e3, trivial⟩, rfl⟩
  rintro _ ρ wj ⟨e22, e0, e1, e2, e3, -⟩ rfl
  refine wpR_val (v := (Value.bool ((!r9) || (decide (p2 < 1))))) (w' := w1) rfl rfl rfl (x_move (v := (Value.bool ((!r9) || (decide (p2 < 1))))) rfl e22) ?_
  refine wpR_joinJ 3 (fun (_ : Unit) ρ => ρ 26 = Value.bool (((!r9) || (decide (p2 < 1))) || (decide (20 < p2))) ∧ ρ 0 = (Value.int .i64 p0) ∧ ρ 1 = (Value.int .i64 p1) ∧ ρ 2 = (Value.int .i64 p2) ∧ ρ 3 = (Value.int .i64 p3) ∧ True) (fun _ w => w1 = w) ?_ ?_
  · clear h
    rcases Bool.eq_false_or_eq_true ((!r9) || (decide (p2 < 1))) with hc13 | hc13
    · skip
      refine wpR_pass (wantN rfl rfl rfl hc13) rfl rfl ?_
      refine wpR_pass (wantN rfl rfl rfl hc13) rfl rfl ?_
      refine wpR_val (v := (Value.bool true)) (w' := w1) rfl rfl rfl (x_pickT (v := (Value.bool true)) rfl rfl hc13 rfl) ?_
      refine wpR_nil ?_
      exact ⟨(), ⟨(by rw [hc13]; rfl), e0, e1, e2, e3, trivial⟩, rfl⟩
    · skip
      refine wpR_val (v := (Value.int .i64 p2)) (w' := w1) (wantG rfl rfl rfl hc13) rfl rfl (x_move (v := (Value.int .i64 p2)) rfl e2) ?_
      refine wpR_val (v := (Value.bool (decide (20 < p2)))) (w' := w1) (wantG rfl rfl rfl hc13) rfl rfl (x_gtr rfl rfl rfl) ?_
      refine wpR_val (v := (Value.bool (decide (20 < p2)))) (w' := w1) rfl rfl rfl (x_pickF (v := (Value.bool (decide (20 < p2)))) rfl rfl hc13 rfl) ?_
      refine wpR_nil ?_
      exact ⟨(), ⟨(by rw [hc13]; rfl), e0, e1, e2, e3, trivial⟩, rfl⟩
  rintro _ ρ wj ⟨e26, e0, e1, e2, e3, -⟩ rfl
  refine wpR_val (v := (Value.bool (((!r9) || (decide (p2 < 1))) || (decide (20 < p2))))) (w' := w1) rfl rfl rfl (x_move (v := (Value.bool (((!r9) || (decide (p2 < 1))) || (decide (20 < p2))))) rfl e26) ?_
  refine wpR_joinJ 3 (fun (_ : Unit) ρ => ρ 30 = Value.bool ((((!r9) || (decide (p2 < 1))) || (decide (20 < p2))) || (decide (p1 < 1))) ∧ ρ 0 = (Value.int .i64 p0) ∧ ρ 1 = (Value.int .i64 p1) ∧ ρ 2 = (Value.int .i64 p2) ∧ ρ 3 = (Value.int .i64 p3) ∧ True) (fun _ w => w1 = w) ?_ ?_
  · clear h
    rcases Bool.eq_false_or_eq_true (((!r9) || (decide (p2 < 1))) || (decide (20 < p2))) with hc15 | hc15
    · skip
      refine wpR_pass (wantN rfl rfl rfl hc15) rfl rfl ?_
      refine wpR_pass (wantN rfl rfl rfl hc15) rfl rfl ?_
      refine wpR_val (v := (Value.bool true)) (w' := w1) rfl rfl rfl (x_pickT (v := (Value.bool true)) rfl rfl hc15 rfl) ?_
      refine wpR_nil ?_
      exact ⟨(), ⟨(by rw [hc15]; rfl), e0, e1, e2, e3, trivial⟩, rfl⟩
    · skip
      refine wpR_val (v := (Value.int .i64 p1)) (w' := w1) (wantG rfl rfl rfl hc15) rfl rfl (x_move (v := (Value.int .i64 p1)) rfl e1) ?_
      refine wpR_val (v := (Value.bool (decide (p1 < 1)))) (w' := w1) (wantG rfl rfl rfl hc15) rfl rfl (x_lss rfl rfl rfl) ?_
      refine wpR_val (v := (Value.bool (decide (p1 < 1)))) (w' := w1) rfl rfl rfl (x_pickF (v := (Value.bool (decide (p1 < 1)))) rfl rfl hc15 rfl) ?_
      refine wpR_nil ?_
      exact ⟨(), ⟨(by rw [hc15]; rfl), e0, e1, e2, e3, trivial⟩, rfl⟩
  rintro _ ρ wj ⟨e30, e0, e1, e2, e3, -⟩ rfl
  refine wpR_val (v := (Value.bool ((((!r9) || (decide (p2 < 1))) || (decide (20 < p2))) || (decide (p1 < 1))))) (w' := w1) rfl rfl rfl (x_move (v := (Value.bool ((((!r9) || (decide (p2 < 1))) || (decide (20 < p2))) || (decide (p1 < 1))))) rfl e30) ?_
  refine wpR_joinJ 4 (fun (_ : Unit) ρ => ρ 35 = Value.bool (((((!r9) || (decide (p2 < 1))) || (decide (20 < p2))) || (decide (p1 < 1))) || (decide (p2 < p1))) ∧ ρ 0 = (Value.int .i64 p0) ∧ ρ 1 = (Value.int .i64 p1) ∧ ρ 2 = (Value.int .i64 p2) ∧ ρ 3 = (Value.int .i64 p3) ∧ True) (fun _ w => w1 = w) ?_ ?_
  · clear h
    rcases Bool.eq_false_or_eq_true ((((!r9) || (decide (p2 < 1))) || (decide (20 < p2))) || (decide (p1 < 1))) with hc17 | hc17
    · skip
      refine wpR_pass (wantN rfl rfl rfl hc17) rfl rfl ?_
      refine wpR_pass (wantN rfl rfl rfl hc17) rfl rfl ?_
      refine wpR_pass (wantN rfl rfl rfl hc17) rfl rfl ?_
      refine wpR_val (v := (Value.bool true)) (w' := w1) rfl rfl rfl (x_pickT (v := (Value.bool true)) rfl rfl hc17 rfl) ?_
      refine wpR_nil ?_
      exact ⟨(), ⟨(by rw [hc17]; rfl), e0, e1, e2, e3, trivial⟩, rfl⟩
    · skip
      refine wpR_val (v := (Value.int .i64 p1)) (w' := w1) (wantG rfl rfl rfl hc17) rfl rfl (x_move (v := (Value.int .i64 p1)) rfl e1) ?_
      refine wpR_val (v := (Value.int .i64 p2)) (w' := w1) (wantG rfl rfl rfl hc17) rfl rfl (x_move (v := (Value.int .i64 p2)) rfl e2) ?_
      refine wpR_val (v := (Value.bool (decide (p2 < p1)))) (w' := w1) (wantG rfl rfl rfl hc17) rfl rfl (x_gtr rfl rfl rfl) ?_
      refine wpR_val (v := (Value.bool (decide (p2 < p1)))) (w' := w1) rfl rfl rfl (x_pickF (v := (Value.bool (decide (p2 < p1)))) rfl rfl hc17 rfl) ?_
      refine wpR_nil ?_
      exact ⟨(), ⟨(by rw [hc17]; rfl), e0, e1, e2, e3, trivial⟩, rfl⟩
  rintro _ ρ wj ⟨e35, e0, e1, e2, e3, -⟩ rfl
  refine wpR_nil ?_
  refine wpC_cond (b := ((((!r9) || (decide (p2 < 1))) || (decide (20 < p2))) || (decide (p1 < 1))) || (decide (p2 < p1))) e35 (fun hc18 => ?_) (fun hc18 => ?_)
  · replace h := h.1 hc18
    refine wpC_seq ?_
    refine wpC_region ?_
    refine wpR_val (v := (Sl.v Sl.nil)) (w' := w1) rfl rfl rfl (x_assign (v := (Sl.v Sl.nil)) rfl rfl) ?_
    refine wpR_val (v := (Value.int .i64 1)) (w' := w1) rfl rfl rfl (x_assign (v := (Value.int .i64 1)) rfl rfl) ?_
    refine wpR_nil ?_
    refine wpC_ret ?_
    exact ⟨.inl rfl, fun a ha => ⟨_, results_rep2 rfl ha rfl rfl, (Sl.nil, 1), rfl, h⟩⟩
  · replace h := h.2 hc18
    refine wpC_skip ?_
    refine wpC_seq ?_
    refine wpC_region ?_
    refine wpR_val (v := (Value.int .i64 p3)) (w' := w1) rfl rfl rfl (x_move (v := (Value.int .i64 p3)) rfl e3) ?_
    refine wpR_val (v := (Value.int .i64 (p3.tmod 2147483648))) (w' := w1) rfl rfl rfl (x_rem rfl rfl rfl (by decide)) ?_
    refine wpR_val (v := (Value.int .i64 (IntKind.i64.wrap ((p3.tmod 2147483648) + 2147483648)))) (w' := w1) rfl rfl rfl (x_add rfl rfl rfl) ?_
    refine wpR_val (v := (Value.int .i64 ((IntKind.i64.wrap ((p3.tmod 2147483648) + 2147483648)).tmod 2147483648))) (w' := w1) rfl rfl rfl (x_rem rfl rfl rfl (by decide)) ?_
    refine wpR_val (v := (Value.int .i64 ((IntKind.i64.wrap ((p3.tmod 2147483648) + 2147483648)).tmod 2147483648))) (w' := w1) rfl rfl rfl (x_assign (v := (Value.int .i64 ((IntKind.i64.wrap ((p3.tmod 2147483648) + 2147483648)).tmod 2147483648))) rfl rfl) ?_
    refine wpR_nil ?_
    refine wpC_seq ?_
    refine wpC_cut (fun ρ => ρ 0 = (Value.int .i64 p0) ∧ ρ 1 = (Value.int .i64 p1) ∧ ρ 2 = (Value.int .i64 p2) ∧ ρ 10 = (Value.int .i64 ((IntKind.i64.wrap ((p3.tmod 2147483648) + 2147483648)).tmod 2147483648)) ∧ True) ⟨e0, e1, e2, rfl, trivial⟩ ?_
    rintro ρ ⟨e0, e1, e2, e10, -⟩
    refine wpC_region ?_
    refine wpR_val (v := (Value.int .i64 p0)) (w' := w1) rfl rfl rfl (x_move (v := (Value.int .i64 p0)) rfl e0) ?_
    obtain ⟨b19, hb19⟩ : ∃ u, u = w1.heap.size := ⟨_, rfl⟩
    obtain ⟨w2, hw19⟩ : ∃ u, u = w1.alloc (.cells #[(Value.int .i64 p0)] 3) := ⟨_, rfl⟩
    replace h := h b19 w2 hb19 hw19
    refine wpR_val (v := (Sl.v (⟨some ⟨b19, 0, none⟩, 1, 1⟩ : Sl))) (w' := w2) rfl rfl rfl ((x_buildSlice (qs := [(0, (Value.int .i64 p0))]) rfl (by rfl) (BS_43_1_0 p0)).trans (by rw [← hb19, ← hw19])) ?_
    refine wpR_val (v := (Sl.v (⟨some ⟨b19, 0, none⟩, 1, 1⟩ : Sl))) (w' := w2) rfl rfl rfl (x_assign (v := (Sl.v (⟨some ⟨b19, 0, none⟩, 1, 1⟩ : Sl))) rfl rfl) ?_
    refine wpR_nil ?_
    refine wpC_seq ?_
    refine wpC_seq ?_
    refine wpC_cut (fun ρ => ρ 1 = (Value.int .i64 p1) ∧ ρ 2 = (Value.int .i64 p2) ∧ ρ 10 = (Value.int .i64 ((IntKind.i64.wrap ((p3.tmod 2147483648) + 2147483648)).tmod 2147483648)) ∧ ρ 11 = (Sl.v (⟨some ⟨b19, 0, none⟩, 1, 1⟩ : Sl)) ∧ True) ⟨e1, e2, e10, rfl, trivial⟩ ?_
    rintro ρ ⟨e1, e2, e10, e11, -⟩
    refine wpC_region ?_
    refine wpR_val (v := (Value.int .i64 p1)) (w' := w2) rfl rfl rfl (x_move (v := (Value.int .i64 p1)) rfl e1) ?_
    refine wpR_val (v := (Value.int .i64 (IntKind.i64.wrap (p1 - 1)))) (w' := w2) rfl rfl rfl (x_sub rfl rfl rfl) ?_
    refine wpR_val (v := (Value.int .i64 0)) (w' := w2) rfl rfl rfl (x_move (v := (Value.int .i64 0)) rfl rfl) ?_
    refine wpR_nil ?_
    refine wpC_block ?_
    obtain ⟨I20, μ20, hI20, hr20⟩ := h
    refine wpC_loop (fun (x : Int × Sl × Int) ρ => ρ 10 = (Value.int .i64 x.1) ∧ ρ 11 = (Sl.v x.2.1) ∧ ρ 44 = (Value.int .i64 x.2.2) ∧ ρ 2 = (Value.int .i64 p2) ∧ ρ 43 = (Value.int .i64 (IntKind.i64.wrap (p1 - 1))) ∧ True) I20 μ20 ((IntKind.i64.wrap ((p3.tmod 2147483648) + 2147483648)).tmod 2147483648, (⟨some ⟨b19, 0, none⟩, 1, 1⟩ : Sl), 0) ⟨e10, e11, rfl, e2, rfl, trivial⟩ hI20 ?_
    rintro l20 ρ w3 ⟨e10, e11, e44, e2, e43, -⟩ h
    replace h := hr20 l20 w3 h
    clear hr20 hI20
    refine wpC_seq ?_
    refine wpC_region ?_
    refine wpR_val (v := (Value.bool (decide (l20.2.2 < (IntKind.i64.wrap (p1 - 1)))))) (w' := w3) rfl rfl rfl (x_lss rfl e44 e43) ?_
    refine wpR_nil ?_
    refine wpC_seq ?_
    refine wpC_cond (b := decide (l20.2.2 < (IntKind.i64.wrap (p1 - 1)))) rfl (fun hc21 => ?_) (fun hc21 => ?_)
    · replace h := h.1 hc21
      refine wpC_skip ?_
      refine wpC_seq ?_
      refine wpC_block ?_
      refine wpC_seq ?_
      refine wpC_cut (fun ρ => ρ 2 = (Value.int .i64 p2) ∧ ρ 10 = (Value.int .i64 l20.1) ∧ ρ 11 = (Sl.v l20.2.1) ∧ ρ 43 = (Value.int .i64 (IntKind.i64.wrap (p1 - 1))) ∧ ρ 44 = (Value.int .i64 l20.2.2) ∧ True) ⟨e2, e10, e11, e43, e44, trivial⟩ ?_
      rintro ρ ⟨e2, e10, e11, e43, e44, -⟩
      refine wpC_region ?_
      refine wpR_val (v := (Value.int .i64 l20.1)) (w' := w3) rfl rfl rfl (x_move (v := (Value.int .i64 l20.1)) rfl e10) ?_
      refine wpR_val (v := (Value.int .i64 (IntKind.i64.wrap (1103515245 * l20.1)))) (w' := w3) rfl rfl rfl (x_mul rfl rfl rfl) ?_
      refine wpR_val (v := (Value.int .i64 (IntKind.i64.wrap ((IntKind.i64.wrap (1103515245 * l20.1)) + 12345)))) (w' := w3) rfl rfl rfl (x_add rfl rfl rfl) ?_
      refine wpR_val (v := (Value.int .i64 ((IntKind.i64.wrap ((IntKind.i64.wrap (1103515245 * l20.1)) + 12345)).tmod 2147483648))) (w' := w3) rfl rfl rfl (x_rem rfl rfl rfl (by decide)) ?_
      refine wpR_val (v := (Value.int .i64 ((IntKind.i64.wrap ((IntKind.i64.wrap (1103515245 * l20.1)) + 12345)).tmod 2147483648))) (w' := w3) rfl rfl rfl (x_assign (v := (Value.int .i64 ((IntKind.i64.wrap ((IntKind.i64.wrap (1103515245 * l20.1)) + 12345)).tmod 2147483648))) rfl rfl) ?_
      refine wpR_nil ?_
      refine wpC_cut (fun ρ => ρ 2 = (Value.int .i64 p2) ∧ ρ 10 = (Value.int .i64 ((IntKind.i64.wrap ((IntKind.i64.wrap (1103515245 * l20.1)) + 12345)).tmod 2147483648)) ∧ ρ 11 = (Sl.v l20.2.1) ∧ ρ 43 = (Value.int .i64 (IntKind.i64.wrap (p1 - 1))) ∧ ρ 44 = (Value.int .i64 l20.2.2) ∧ True) ⟨e2, rfl, e11, e43, e44, trivial⟩ ?_
      rintro ρ ⟨e2, e10, e11, e43, e44, -⟩
      refine wpC_region ?_
      refine wpR_val (v := (Sl.v l20.2.1)) (w' := w3) rfl rfl rfl (x_move (v := (Sl.v l20.2.1)) rfl e11) ?_
      refine wpR_val (v := (Value.int .i64 ((IntKind.i64.wrap ((IntKind.i64.wrap (1103515245 * l20.1)) + 12345)).tmod 2147483648))) (w' := w3) rfl rfl rfl (x_move (v := (Value.int .i64 ((IntKind.i64.wrap ((IntKind.i64.wrap (1103515245 * l20.1)) + 12345)).tmod 2147483648))) rfl e10) ?_
      refine wpR_val (v := (Value.int .i64 (((IntKind.i64.wrap ((IntKind.i64.wrap (1103515245 * l20.1)) + 12345)).tmod 2147483648).tmod 2147483647))) (w' := w3) rfl rfl rfl (x_rem rfl rfl rfl (by decide)) ?_
      obtain ⟨b22, hb22⟩ : ∃ u, u = w3.heap.size := ⟨_, rfl⟩
      obtain ⟨w4, hw22⟩ : ∃ u, u = w3.alloc (.cells #[(Value.int .i64 (((IntKind.i64.wrap ((IntKind.i64.wrap (1103515245 * l20.1)) + 12345)).tmod 2147483648).tmod 2147483647))] 3) := ⟨_, rfl⟩
      replace h := h b22 w4 hb22 hw22
      refine wpR_val (v := (Sl.v (⟨some ⟨b22, 0, none⟩, 1, 1⟩ : Sl))) (w' := w4) rfl rfl rfl ((x_buildSlice (qs := [(0, (Value.int .i64 (((IntKind.i64.wrap ((IntKind.i64.wrap (1103515245 * l20.1)) + 12345)).tmod 2147483648).tmod 2147483647)))]) rfl (by rfl) (BS_43_1_0 (((IntKind.i64.wrap ((IntKind.i64.wrap (1103515245 * l20.1)) + 12345)).tmod 2147483648).tmod 2147483647))).trans (by rw [← hb22, ← hw22])) ?_
      obtain ⟨r23, w5, q23, h⟩ := h
      refine wpR_val (v := (Sl.v r23)) (w' := w5) rfl rfl rfl (x_append (s := l20.2.1) (u := (⟨some ⟨b22, 0, none⟩, 1, 1⟩ : Sl)) rfl rfl rfl rfl q23) ?_
      refine wpR_val (v := (Sl.v r23)) (w' := w5) rfl rfl rfl (x_assign (v := (Sl.v r23)) rfl rfl) ?_
      refine wpR_nil ?_
      refine wpC_cut (fun ρ => ρ 2 = (Value.int .i64 p2) ∧ ρ 10 = (Value.int .i64 ((IntKind.i64.wrap ((IntKind.i64.wrap (1103515245 * l20.1)) + 12345)).tmod 2147483648)) ∧ ρ 11 = (Sl.v r23) ∧ ρ 43 = (Value.int .i64 (IntKind.i64.wrap (p1 - 1))) ∧ ρ 44 = (Value.int .i64 l20.2.2) ∧ True) ⟨e2, e10, rfl, e43, e44, trivial⟩ ?_
      rintro ρ ⟨e2, e10, e11, e43, e44, -⟩
      refine wpC_region ?_
      refine wpR_val (v := (Value.int .i64 (IntKind.i64.wrap (l20.2.2 + 1)))) (w' := w5) rfl rfl rfl (x_add rfl e44 rfl) ?_
      refine wpR_val (v := (Value.int .i64 (IntKind.i64.wrap (l20.2.2 + 1)))) (w' := w5) rfl rfl rfl (x_move (v := (Value.int .i64 (IntKind.i64.wrap (l20.2.2 + 1)))) rfl rfl) ?_
      refine wpR_nil ?_
      exact ⟨((IntKind.i64.wrap ((IntKind.i64.wrap (1103515245 * l20.1)) + 12345)).tmod 2147483648, r23, IntKind.i64.wrap (l20.2.2 + 1)), ⟨e10, e11, rfl, e2, e43, trivial⟩, h⟩
    · replace h := h.2 hc21
      refine wpC_exit ?_
      refine wpC_seq ?_
      refine wpC_cut (fun ρ => ρ 2 = (Value.int .i64 p2) ∧ ρ 11 = (Sl.v l20.2.1) ∧ True) ⟨e2, e11, trivial⟩ ?_
      rintro ρ ⟨e2, e11, -⟩
      refine wpC_region ?_
      refine wpR_val (v := (Sl.v Sl.nil)) (w' := w3) rfl rfl rfl (x_assign (v := (Sl.v Sl.nil)) rfl rfl) ?_
      refine wpR_nil ?_
      refine wpC_seq ?_
      refine wpC_seq ?_
      refine wpC_cut (fun ρ => ρ 2 = (Value.int .i64 p2) ∧ ρ 11 = (Sl.v l20.2.1) ∧ ρ 12 = (Sl.v Sl.nil) ∧ True) ⟨e2, e11, rfl, trivial⟩ ?_
      rintro ρ ⟨e2, e11, e12, -⟩
      refine wpC_region ?_
      refine wpR_val (v := (Value.int .i64 1)) (w' := w3) rfl rfl rfl (x_assign (v := (Value.int .i64 1)) rfl rfl) ?_
      refine wpR_nil ?_
      refine wpC_block ?_
      obtain ⟨I24, μ24, hI24, hr24⟩ := h
      refine wpC_loop (fun (x : Sl × Int) ρ => ρ 12 = (Sl.v x.1) ∧ ρ 13 = (Value.int .i64 x.2) ∧ ρ 2 = (Value.int .i64 p2) ∧ ρ 11 = (Sl.v l20.2.1) ∧ True) I24 μ24 (Sl.nil, 1) ⟨e12, rfl, e2, e11, trivial⟩ hI24 ?_
      rintro l24 ρ w6 ⟨e12, e13, e2, e11, -⟩ h
      replace h := hr24 l24 w6 h
      clear hr24 hI24
      refine wpC_seq ?_
      refine wpC_seq ?_
      refine wpC_region ?_
      refine wpR_val (v := (Value.int .i64 l24.2)) (w' := w6) rfl rfl rfl (x_move (v := (Value.int .i64 l24.2)) rfl e13) ?_
      refine wpR_val (v := (Value.int .i64 p2)) (w' := w6) rfl rfl rfl (x_move (v := (Value.int .i64 p2)) rfl e2) ?_
      refine wpR_val (v := (Value.bool (decide (l24.2 ≤ p2)))) (w' := w6) rfl rfl rfl (x_leq rfl rfl rfl) ?_
      refine wpR_nil ?_
      refine wpC_cond (b := decide (l24.2 ≤ p2)) rfl (fun hc25 => ?_) (fun hc25 => ?_)
      · replace h := h.1 hc25
        refine wpC_skip ?_
        refine wpC_seq ?_
        refine wpC_block ?_
        refine wpC_seq ?_
        refine wpC_cut (fun ρ => ρ 2 = (Value.int .i64 p2) ∧ ρ 11 = (Sl.v l20.2.1) ∧ ρ 12 = (Sl.v l24.1) ∧ ρ 13 = (Value.int .i64 l24.2) ∧ True) ⟨e2, e11, e12, e13, trivial⟩ ?_
        rintro ρ ⟨e2, e11, e12, e13, -⟩
        refine wpC_region ?_
        refine wpR_val (v := (Value.int .i64 0)) (w' := w6) rfl rfl rfl (x_assign (v := (Value.int .i64 0)) rfl rfl) ?_
        refine wpR_nil ?_
        refine wpC_seq ?_
        refine wpC_seq ?_
        refine wpC_cut (fun ρ => ρ 2 = (Value.int .i64 p2) ∧ ρ 11 = (Sl.v l20.2.1) ∧ ρ 12 = (Sl.v l24.1) ∧ ρ 13 = (Value.int .i64 l24.2) ∧ ρ 14 = (Value.int .i64 0) ∧ True) ⟨e2, e11, e12, e13, rfl, trivial⟩ ?_
        rintro ρ ⟨e2, e11, e12, e13, e14, -⟩
        refine wpC_region ?_
        refine wpR_val (v := (Sl.v l20.2.1)) (w' := w6) rfl rfl rfl (x_move (v := (Sl.v l20.2.1)) rfl e11) ?_
        refine wpR_val (v := (Value.int .i64 (l20.2.1.len : Int))) (w' := w6) rfl rfl rfl (x_lenS (s := l20.2.1) rfl rfl isSliceT_43) ?_
        refine wpR_val (v := (Value.int .i64 (IntKind.i64.wrap ((l20.2.1.len : Int) - 1)))) (w' := w6) rfl rfl rfl (x_sub rfl rfl rfl) ?_
        refine wpR_val (v := (Value.int .i64 (IntKind.i64.wrap ((l20.2.1.len : Int) - 1)))) (w' := w6) rfl rfl rfl (x_assign (v := (Value.int .i64 (IntKind.i64.wrap ((l20.2.1.len : Int) - 1)))) rfl rfl) ?_
        refine wpR_nil ?_
        refine wpC_block ?_
        obtain ⟨I26, μ26, hI26, hr26⟩ := h
        refine wpC_loop (fun (x : Int × Int) ρ => ρ 14 = (Value.int .i64 x.1) ∧ ρ 15 = (Value.int .i64 x.2) ∧ ρ 2 = (Value.int .i64 p2) ∧ ρ 11 = (Sl.v l20.2.1) ∧ ρ 12 = (Sl.v l24.1) ∧ ρ 13 = (Value.int .i64 l24.2) ∧ True) I26 μ26 (0, IntKind.i64.wrap ((l20.2.1.len : Int) - 1)) ⟨e14, rfl, e2, e11, e12, e13, trivial⟩ hI26 ?_
        rintro l26 ρ w7 ⟨e14, e15, e2, e11, e12, e13, -⟩ h
        replace h := hr26 l26 w7 h
        clear hr26 hI26
        refine wpC_seq ?_
        refine wpC_seq ?_
        refine wpC_region ?_
        refine wpR_val (v := (Value.int .i64 l26.2)) (w' := w7) rfl rfl rfl (x_move (v := (Value.int .i64 l26.2)) rfl e15) ?_
        refine wpR_val (v := (Value.bool (decide (0 ≤ l26.2)))) (w' := w7) rfl rfl rfl (x_geq rfl rfl rfl) ?_
        refine wpR_nil ?_
        refine wpC_cond (b := decide (0 ≤ l26.2)) rfl (fun hc27 => ?_) (fun hc27 => ?_)
        · replace h := h.1 hc27
          refine wpC_skip ?_
          refine wpC_seq ?_
          refine wpC_block ?_
          refine wpC_cut (fun ρ => ρ 2 = (Value.int .i64 p2) ∧ ρ 11 = (Sl.v l20.2.1) ∧ ρ 12 = (Sl.v l24.1) ∧ ρ 13 = (Value.int .i64 l24.2) ∧ ρ 14 = (Value.int .i64 l26.1) ∧ ρ 15 = (Value.int .i64 l26.2) ∧ True) ⟨e2, e11, e12, e13, e14, e15, trivial⟩ ?_
          rintro ρ ⟨e2, e11, e12, e13, e14, e15, -⟩
          refine wpC_region ?_
          refine wpR_val (v := (Value.int .i64 l26.1)) (w' := w7) rfl rfl rfl (x_move (v := (Value.int .i64 l26.1)) rfl e14) ?_
          refine wpR_val (v := (Value.int .i64 l24.2)) (w' := w7) rfl rfl rfl (x_move (v := (Value.int .i64 l24.2)) rfl e13) ?_
          refine wpR_val (v := (Value.int .i64 (IntKind.i64.wrap (l26.1 * l24.2)))) (w' := w7) rfl rfl rfl (x_mul rfl rfl rfl) ?_
          refine wpR_val (v := (Sl.v l20.2.1)) (w' := w7) rfl rfl rfl (x_move (v := (Sl.v l20.2.1)) rfl e11) ?_
          refine wpR_val (v := (Value.int .i64 l26.2)) (w' := w7) rfl rfl rfl (x_move (v := (Value.int .i64 l26.2)) rfl e15) ?_
          obtain ⟨q28, z28, r28, h⟩ := h
          generalize hp28 : z28.add ((l26.2 : Int).toNat * 1) = p28 at h
          refine wpR_val (v := (Value.pointer (some p28))) (w' := w7) rfl rfl rfl ((x_indexAddr (s := l20.2.1) rfl rfl rfl ES_43 q28 r28).trans (by rw [hp28])) ?_
          obtain ⟨x29, q29, h⟩ := h
          refine wpR_val (v := (Value.int .i64 x29)) (w' := w7) rfl rfl rfl (x_load1 rfl rfl SH_3 q29) ?_
          refine wpR_val (v := (Value.int .i64 (IntKind.i64.wrap ((IntKind.i64.wrap (l26.1 * l24.2)) + x29)))) (w' := w7) rfl rfl rfl (x_add rfl rfl rfl) ?_
          refine wpR_val (v := (Value.int .i64 ((IntKind.i64.wrap ((IntKind.i64.wrap (l26.1 * l24.2)) + x29)).tmod 2147483647))) (w' := w7) rfl rfl rfl (x_rem rfl rfl rfl (by decide)) ?_
          refine wpR_val (v := (Value.int .i64 ((IntKind.i64.wrap ((IntKind.i64.wrap (l26.1 * l24.2)) + x29)).tmod 2147483647))) (w' := w7) rfl rfl rfl (x_assign (v := (Value.int .i64 ((IntKind.i64.wrap ((IntKind.i64.wrap (l26.1 * l24.2)) + x29)).tmod 2147483647))) rfl rfl) ?_
          refine wpR_nil ?_
          refine wpC_cut (fun ρ => ρ 2 = (Value.int .i64 p2) ∧ ρ 11 = (Sl.v l20.2.1) ∧ ρ 12 = (Sl.v l24.1) ∧ ρ 13 = (Value.int .i64 l24.2) ∧ ρ 14 = (Value.int .i64 ((IntKind.i64.wrap ((IntKind.i64.wrap (l26.1 * l24.2)) + x29)).tmod 2147483647)) ∧ ρ 15 = (Value.int .i64 l26.2) ∧ True) ⟨e2, e11, e12, e13, rfl, e15, trivial⟩ ?_
          rintro ρ ⟨e2, e11, e12, e13, e14, e15, -⟩
          refine wpC_region ?_
          refine wpR_val (v := (Value.int .i64 l26.2)) (w' := w7) rfl rfl rfl (x_move (v := (Value.int .i64 l26.2)) rfl e15) ?_
          refine wpR_val (v := (Value.int .i64 (IntKind.i64.wrap (l26.2 - 1)))) (w' := w7) rfl rfl rfl (x_sub rfl rfl rfl) ?_
          refine wpR_val (v := (Value.int .i64 (IntKind.i64.wrap (l26.2 - 1)))) (w' := w7) rfl rfl rfl (x_assign (v := (Value.int .i64 (IntKind.i64.wrap (l26.2 - 1)))) rfl rfl) ?_
          refine wpR_nil ?_
          exact ⟨((IntKind.i64.wrap ((IntKind.i64.wrap (l26.1 * l24.2)) + x29)).tmod 2147483647, IntKind.i64.wrap (l26.2 - 1)), ⟨e14, rfl, e2, e11, e12, e13, trivial⟩, h⟩
        · replace h := h.2 hc27
          refine wpC_exit ?_
          refine wpC_cut (fun ρ => ρ 2 = (Value.int .i64 p2) ∧ ρ 11 = (Sl.v l20.2.1) ∧ ρ 12 = (Sl.v l24.1) ∧ ρ 13 = (Value.int .i64 l24.2) ∧ ρ 14 = (Value.int .i64 l26.1) ∧ True) ⟨e2, e11, e12, e13, e14, trivial⟩ ?_
          rintro ρ ⟨e2, e11, e12, e13, e14, -⟩
          refine wpC_region ?_
          refine wpR_val (v := (Sl.v l24.1)) (w' := w7) rfl rfl rfl (x_move (v := (Sl.v l24.1)) rfl e12) ?_
          refine wpR_val (v := (Value.int .i64 l24.2)) (w' := w7) rfl rfl rfl (x_move (v := (Value.int .i64 l24.2)) rfl e13) ?_
          refine wpR_val (v := (Value.int .i64 l26.1)) (w' := w7) rfl rfl rfl (x_move (v := (Value.int .i64 l26.1)) rfl e14) ?_
          refine wpR_val (v := (Value.agg #[(Value.int .i64 l24.2), (Value.int .i64 l26.1)])) (w' := w7) rfl rfl rfl (x_build (qs := [(0, (Value.int .i64 l24.2)), (1, (Value.int .i64 l26.1))]) rfl (by rfl) (BD_39_0_1 l24.2 l26.1 _)) ?_
          obtain ⟨b30, hb30⟩ : ∃ u, u = w7.heap.size := ⟨_, rfl⟩
          obtain ⟨w8, hw30⟩ : ∃ u, u = w7.alloc (.cells #[(Value.int .i64 l24.2), (Value.int .i64 l26.1)] 39) := ⟨_, rfl⟩
          replace h := h b30 w8 hb30 hw30
          refine wpR_val (v := (Sl.v (⟨some ⟨b30, 0, none⟩, 1, 1⟩ : Sl))) (w' := w8) rfl rfl rfl ((x_buildSlice (qs := [(0, (Value.agg #[(Value.int .i64 l24.2), (Value.int .i64 l26.1)]))]) rfl (by rfl) (BS_22_1_0 l24.2 l26.1)).trans (by rw [← hb30, ← hw30])) ?_
          obtain ⟨r31, w9, q31, h⟩ := h
          refine wpR_val (v := (Sl.v r31)) (w' := w9) rfl rfl rfl (x_append (s := l24.1) (u := (⟨some ⟨b30, 0, none⟩, 1, 1⟩ : Sl)) rfl rfl rfl rfl q31) ?_
          refine wpR_val (v := (Sl.v r31)) (w' := w9) rfl rfl rfl (x_assign (v := (Sl.v r31)) rfl rfl) ?_
          refine wpR_nil ?_
          refine wpC_cut (fun ρ => ρ 2 = (Value.int .i64 p2) ∧ ρ 11 = (Sl.v l20.2.1) ∧ ρ 12 = (Sl.v r31) ∧ ρ 13 = (Value.int .i64 l24.2) ∧ True) ⟨e2, e11, rfl, e13, trivial⟩ ?_
          rintro ρ ⟨e2, e11, e12, e13, -⟩
          refine wpC_region ?_
          refine wpR_val (v := (Value.int .i64 l24.2)) (w' := w9) rfl rfl rfl (x_move (v := (Value.int .i64 l24.2)) rfl e13) ?_
          refine wpR_val (v := (Value.int .i64 (IntKind.i64.wrap (l24.2 + 1)))) (w' := w9) rfl rfl rfl (x_add rfl rfl rfl) ?_
          refine wpR_val (v := (Value.int .i64 (IntKind.i64.wrap (l24.2 + 1)))) (w' := w9) rfl rfl rfl (x_assign (v := (Value.int .i64 (IntKind.i64.wrap (l24.2 + 1)))) rfl rfl) ?_
          refine wpR_nil ?_
          exact ⟨(r31, IntKind.i64.wrap (l24.2 + 1)), ⟨e12, rfl, e2, e11, trivial⟩, h⟩
      · replace h := h.2 hc25
        refine wpC_exit ?_
        refine wpC_seq ?_
        refine wpC_cut (fun ρ => ρ 12 = (Sl.v l24.1) ∧ True) ⟨e12, trivial⟩ ?_
        rintro ρ ⟨e12, -⟩
        refine wpC_region ?_
        refine wpR_val (v := (Sl.v l24.1)) (w' := w6) rfl rfl rfl (x_move (v := (Sl.v l24.1)) rfl e12) ?_
        refine wpR_val (v := (Sl.v l24.1)) (w' := w6) rfl rfl rfl (x_assign (v := (Sl.v l24.1)) rfl rfl) ?_
        refine wpR_val (v := (Value.int .i64 0)) (w' := w6) rfl rfl rfl (x_assign (v := (Value.int .i64 0)) rfl rfl) ?_
        refine wpR_nil ?_
        refine wpC_ret ?_
        exact ⟨.inl rfl, fun a ha => ⟨_, results_rep2 rfl ha rfl rfl, (l24.1, 0), rfl, h⟩⟩

/-- linguaref06.Split -/
def F9 (p0 : Int) (p1 : Int) (p2 : Int) (p3 : Int) (w0 : World) (K : (Sl × Int) → World → Prop) : Prop :=
  cnd ((((((decide (p0 < 0)) || (decide (2147483647 ≤ p0))) || (decide (p2 < 1))) || (decide (20 < p2))) || (decide (p1 < 1))) || (decide (p2 < p1)))
    (
    K (Sl.nil, 1) w0
    )
    (
    rn Try.prog (Instr.makeSlice 22 (Value.int .i64 p2) (Value.int .i64 p2)) (fun (r : Sl) => (Sl.v r)) w0 fun r20 w1 =>
    lp (fun (next21 : Int → World → Prop) l21 w2 =>
      cnd (decide (l21 < p2))
        (
        ix r20 l21 2 fun p23 =>
        st p23 [(Value.int .i64 (IntKind.i64.wrap (l21 + 1))), (Value.int .i64 p0)] w2 fun w3 =>
        next21 (IntKind.i64.wrap (l21 + 1)) w3
        )
        (
        rn Try.prog (Instr.makeSlice 43 (Value.int .i64 p2) (Value.int .i64 p2)) (fun (r : Sl) => (Sl.v r)) w2 fun r25 w4 =>
        lp (fun (next26 : Int → World → Prop) l26 w5 =>
          cnd (decide (l26 < p2))
            (
            ix r25 l26 1 fun p28 =>
            st p28 [(Value.int .i64 1)] w5 fun w6 =>
            next26 (IntKind.i64.wrap (l26 + 1)) w6
            )
            (
            lp (fun (next30 : (Int × Int) → World → Prop) l30 w7 =>
              cnd (decide (l30.2 < p1))
                (
                lp (fun (next32 : Int → World → Prop) l32 w8 =>
                  cnd (decide (l32 < p2))
                    (
                    ix r25 l32 1 fun p34 =>
                    ld (Value.int .i64) p34 w8 fun x35 =>
                    ix r25 l32 1 fun p36 =>
                    st p36 [(Value.int .i64 ((IntKind.i64.wrap (x35 * (IntKind.i64.wrap (l32 + 1)))).tmod 2147483647))] w8 fun w9 =>
                    jn (fun (J39 : Unit → World → Prop) => tk w9 fun w10 =>
                      ix r20 l32 2 fun p40 =>
                      ld (Value.int .i64) (p40.add 1) w10 fun x41 =>
                      ix r25 l32 1 fun p42 =>
                      ld (Value.int .i64) p42 w10 fun x43 =>
                      ix r20 l32 2 fun p44 =>
                      st (p44.add 1) [(Value.int .i64 ((IntKind.i64.wrap (x41 + (IntKind.i64.wrap ((((IntKind.i64.wrap ((IntKind.i64.wrap (1103515245 * l30.1)) + 12345)).tmod 2147483648).tmod 2147483647) * x43)))).tmod 2147483647))] w10 fun w11 =>
                      J39 () w11
                    )
                    fun _l46 w12 =>
                    next32 (IntKind.i64.wrap (l32 + 1)) w12
                    )
                    (
                    next30 ((IntKind.i64.wrap ((IntKind.i64.wrap (1103515245 * l30.1)) + 12345)).tmod 2147483648, IntKind.i64.wrap (l30.2 + 1)) w8
                    )
                ) 0 w7
                )
                (
                K (r20, 0) w7
                )
            ) ((IntKind.i64.wrap ((p3.tmod 2147483648) + 2147483648)).tmod 2147483648, 1) w5
            )
        ) 0 w4
        )
    ) 0 w1
    )
set_option maxRecDepth 100000 in
theorem D9 (p0 : Int) (p1 : Int) (p2 : Int) (p3 : Int) (w0 : World) (K : (Sl × Int) → World → Prop) (h : F9 p0 p1 p2 p3 w0 K) : callC Try.prog 9 #[(Value.int .i64 p0), (Value.int .i64 p1), (Value.int .i64 p2), (Value.int .i64 p3)] (fun (r : Sl × Int) => (Value.tuple #[(Sl.v r.1), (Value.int .i64 r.2)])) w0 K := by
  unfold F9 at h
  refine calls_of_wpC Try.func9 rfl 112 rfl (by simp) ?_
  intro ρ hρ
  have e0 : ρ 0 = (Value.int .i64 p0) := hρ 0
  have e1 : ρ 1 = (Value.int .i64 p1) := hρ 1
  have e2 : ρ 2 = (Value.int .i64 p2) := hρ 2
  have e3 : ρ 3 = (Value.int .i64 p3) := hρ 3
  clear hρ
  refine wpC_seq ?_
  refine wpC_region ?_
  refine wpR_val (v := (Sl.v Sl.nil)) (w' := w0) rfl rfl rfl (x_assign (v := (Sl.v Sl.nil)) rfl rfl) ?_
  refine wpR_val (v := (Value.int .i64 0)) (w' := w0) rfl rfl rfl (x_assign (v := (Value.int .i64 0)) rfl rfl) ?_
  refine wpR_nil ?_
  refine wpC_seq ?_
  refine wpC_seq ?_
  refine wpC_cut (fun ρ => ρ 0 = (Value.int .i64 p0) ∧ ρ 1 = (Value.int .i64 p1) ∧ ρ 2 = (Value.int .i64 p2) ∧ ρ 3 = (Value.int .i64 p3) ∧ True) ⟨e0, e1, e2, e3, trivial⟩ ?_
  rintro ρ ⟨e0, e1, e2, e3, -⟩
  refine wpC_region ?_
  refine wpR_val (v := (Value.int .i64 p0)) (w' := w0) rfl rfl rfl (x_move (v := (Value.int .i64 p0)) rfl e0) ?_
  refine wpR_val (v := (Value.bool (decide (p0 < 0)))) (w' := w0) rfl rfl rfl (x_lss rfl rfl rfl) ?_
  refine wpR_val (v := (Value.bool (decide (p0 < 0)))) (w' := w0) rfl rfl rfl (x_move (v := (Value.bool (decide (p0 < 0)))) rfl rfl) ?_
  refine wpR_joinJ 3 (fun (_ : Unit) ρ => ρ 22 = Value.bool ((decide (p0 < 0)) || (decide (2147483647 ≤ p0))) ∧ ρ 0 = (Value.int .i64 p0) ∧ ρ 1 = (Value.int .i64 p1) ∧ ρ 2 = (Value.int .i64 p2) ∧ ρ 3 = (Value.int .i64 p3) ∧ True) (fun _ w => w0 = w) ?_ ?_
  · clear h
    rcases Bool.eq_false_or_eq_true (decide (p0 < 0)) with hc10 | hc10
    · skip
      refine wpR_pass (wantN rfl rfl rfl hc10) rfl rfl ?_
      refine wpR_pass (wantN rfl rfl rfl hc10) rfl rfl ?_
      refine wpR_val (v := (Value.bool true)) (w' := w0) rfl rfl rfl (x_pickT (v := (Value.bool true)) rfl rfl hc10 rfl) ?_
      refine wpR_nil ?_
      exact ⟨(), ⟨(by rw [hc10]; rfl), e0, e1, e2, e3, trivial⟩, rfl⟩
    · skip
      refine wpR_val (v := (Value.int .i64 p0)) (w' := w0) (wantG rfl rfl rfl hc10) rfl rfl (x_move (v := (Value.int .i64 p0)) rfl e0) ?_
      refine wpR_val (v := (Value.bool (decide (2147483647 ≤ p0)))) (w' := w0) (wantG rfl rfl rfl hc10) rfl rfl (x_geq rfl rfl rfl) ?_
      refine wpR_val (v := (Value.bool (decide (2147483647 ≤ p0)))) (w' := w0) rfl rfl rfl (x_pickF (v := (Value.bool (decide (2147483647 ≤ p0)))) rfl rfl hc10 rfl) ?_
      refine wpR_nil ?_
      exact ⟨(), ⟨(by rw [hc10]; rfl), e0, e1, e2, e3, trivial⟩, rfl⟩
  rintro _ ρ wj ⟨e22, e0, e1, e2, e3, -⟩ rfl
  refine wpR_val (v := (Value.bool ((decide (p0 < 0)) || (decide (2147483647 ≤ p0))))) (w' := w0) rfl rfl rfl (x_move (v := (Value.bool ((decide (p0 < 0)) || (decide (2147483647 ≤ p0))))) rfl e22) ?_
  refine wpR_joinJ 3 (fun (_ : Unit) ρ => ρ 26 = Value.bool (((decide (p0 < 0)) || (decide (2147483647 ≤ p0))) || (decide (p2 < 1))) ∧ ρ 0 = (Value.int .i64 p0) ∧ ρ 1 = (Value.int .i64 p1) ∧ ρ 2 = (Value.int .i64 p2) ∧ ρ 3 = (Value.int .i64 p3) ∧ True) (fun _ w => w0 = w) ?_ ?_
  · clear h
    rcases Bool.eq_false_or_eq_true ((decide (p0 < 0)) || (decide (2147483647 ≤ p0))) with hc12 | hc12
    · skip
      refine wpR_pass (wantN rfl rfl rfl hc12) rfl rfl ?_
      refine wpR_pass (wantN rfl rfl rfl hc12) rfl rfl ?_
      refine wpR_val (v := (Value.bool true)) (w' := w0) rfl rfl rfl (x_pickT (v := (Value.bool true)) rfl rfl hc12 rfl) ?_
      refine wpR_nil ?_
      exact ⟨(), ⟨(by rw [hc12]; rfl), e0, e1, e2, e3, trivial⟩, rfl⟩
    · skip
      refine wpR_val (v := (Value.int .i64 p2)) (w' := w0) (wantG rfl rfl rfl hc12) rfl rfl (x_move (v := (Value.int .i64 p2)) rfl e2) ?_
      refine wpR_val (v := (Value.bool (decide (p2 < 1)))) (w' := w0) (wantG rfl rfl rfl hc12) rfl rfl (x_lss rfl rfl rfl) ?_
      refine wpR_val (v := (Value.bool (decide (p2 < 1)))) (w' := w0) rfl rfl rfl (x_pickF (v := (Value.bool (decide (p2 < 1)))) rfl rfl hc12 rfl) ?_
      refine wpR_nil ?_
      exact ⟨(), ⟨(by rw [hc12]; rfl), e0, e1, e2, e3, trivial⟩, rfl⟩
  rintro _ ρ wj ⟨e26, e0, e1, e2, e3, -⟩ rfl
  refine wpR_val (v := (Value.bool (((decide (p0 < 0)) || (decide (2147483647 ≤ p0))) || (decide (p2 < 1))))) (w' := w0) rfl rfl rfl (x_move (v := (Value.bool (((decide (p0 < 0)) || (decide (2147483647 ≤ p0))) || (decide (p2 < 1))))) rfl e26) ?_
  refine wpR_joinJ 3 (fun (_ : Unit) ρ => ρ 30 = Value.bool ((((decide (p0 < 0)) || (decide (2147483647 ≤ p0))) || (decide (p2 < 1))) || (decide (20 < p2))) ∧ ρ 0 = (Value.int .i64 p0) ∧ ρ 1 = (Value.int .i64 p1) ∧ ρ 2 = (Value.int .i64 p2) ∧ ρ 3 = (Value.int .i64 p3) ∧ True) (fun _ w => w0 = w) ?_ ?_
  · clear h
    rcases Bool.eq_false_or_eq_true (((decide (p0 < 0)) || (decide (2147483647 ≤ p0))) || (decide (p2 < 1))) with hc14 | hc14
    · skip
      refine wpR_pass (wantN rfl rfl rfl hc14) rfl rfl ?_
      refine wpR_pass (wantN rfl rfl rfl hc14) rfl rfl ?_
      refine wpR_val (v := (Value.bool true)) (w' := w0) rfl rfl rfl (x_pickT (v := (Value.bool true)) rfl rfl hc14 rfl) ?_
      refine wpR_nil ?_
      exact ⟨(), ⟨(by rw [hc14]; rfl), e0, e1, e2, e3, trivial⟩, rfl⟩
    · skip
      refine wpR_val (v := (Value.int .i64 p2)) (w' := w0) (wantG rfl rfl rfl hc14) rfl rfl (x_move (v := (Value.int .i64 p2)) rfl e2) ?_
      refine wpR_val (v := (Value.bool (decide (20 < p2)))) (w' := w0) (wantG rfl rfl rfl hc14) rfl rfl (x_gtr rfl rfl rfl) ?_
      refine wpR_val (v := (Value.bool (decide (20 < p2)))) (w' := w0) rfl rfl rfl (x_pickF (v := (Value.bool (decide (20 < p2)))) rfl rfl hc14 rfl) ?_
      refine wpR_nil ?_
      exact ⟨(), ⟨(by rw [hc14]; rfl), e0, e1, e2, e3, trivial⟩, rfl⟩
  rintro _ ρ wj ⟨e30, e0, e1, e2, e3, -⟩ rfl
  refine wpR_val (v := (Value.bool ((((decide (p0 < 0)) || (decide (2147483647 ≤ p0))) || (decide (p2 < 1))) || (decide (20 < p2))))) (w' := w0) rfl rfl rfl (x_move (v := (Value.bool ((((decide (p0 < 0)) || (decide (2147483647 ≤ p0))) || (decide (p2 < 1))) || (decide (20 < p2))))) rfl e30) ?_
  refine wpR_joinJ 3 (fun (_ : Unit) ρ => ρ 34 = Value.bool (((((decide (p0 < 0)) || (decide (2147483647 ≤ p0))) || (decide (p2 < 1))) || (decide (20 < p2))) || (decide (p1 < 1))) ∧ ρ 0 = (Value.int .i64 p0) ∧ ρ 1 = (Value.int .i64 p1) ∧ ρ 2 = (Value.int .i64 p2) ∧ ρ 3 = (Value.int .i64 p3) ∧ True) (fun _ w => w0 = w) ?_ ?_
  · clear h
    rcases Bool.eq_false_or_eq_true ((((decide (p0 < 0)) || (decide (2147483647 ≤ p0))) || (decide (p2 < 1))) || (decide (20 < p2))) with hc16 | hc16
    · skip
      refine wpR_pass (wantN rfl rfl rfl hc16) rfl rfl ?_
      refine wpR_pass (wantN rfl rfl rfl hc16) rfl rfl ?_
      refine wpR_val (v := (Value.bool true)) (w' := w0) rfl rfl rfl (x_pickT (v := (Value.bool true)) rfl rfl hc16 rfl) ?_
      refine wpR_nil ?_
      exact ⟨(), ⟨(by rw [hc16]; rfl), e0, e1, e2, e3, trivial⟩, rfl⟩
    · skip
      refine wpR_val (v := (Value.int .i64 p1)) (w' := w0) (wantG rfl rfl rfl hc16) rfl rfl (x_move (v := (Value.int .i64 p1)) rfl e1) ?_
      refine wpR_val (v := (Value.bool (decide (p1 < 1)))) (w' := w0) (wantG rfl rfl rfl hc16) rfl rfl (x_lss rfl rfl rfl) ?_
      refine wpR_val (v := (Value.bool (decide (p1 < 1)))) (w' := w0) rfl rfl rfl (x_pickF (v := (Value.bool (decide (p1 < 1)))) rfl rfl hc16 rfl) ?_
      refine wpR_nil ?_
      exact ⟨(), ⟨(by rw [hc16]; rfl), e0, e1, e2, e3, trivial⟩, rfl⟩
  rintro _ ρ wj ⟨e34, e0, e1, e2, e3, -⟩ rfl
  refine wpR_val (v := (Value.bool (((((decide (p0 < 0)) || (decide (2147483647 ≤ p0))) || (decide (p2 < 1))) || (decide (20 < p2))) || (decide (p1 < 1))))) (w' := w0) rfl rfl rfl (x_move (v := (Value.bool (((((decide (p0 < 0)) || (decide (2147483647 ≤ p0))) || (decide (p2 < 1))) || (decide (20 < p2))) || (decide (p1 < 1))))) rfl e34) ?_
  refine wpR_joinJ 4 (fun (_ : Unit) ρ => ρ 39 = Value.bool ((((((decide (p0 < 0)) || (decide (2147483647 ≤ p0))) || (decide (p2 < 1))) || (decide (20 < p2))) || (decide (p1 < 1))) || (decide (p2 < p1))) ∧ ρ 0 = (Value.int .i64 p0) ∧ ρ 1 = (Value.int .i64 p1) ∧ ρ 2 = (Value.int .i64 p2) ∧ ρ 3 = (Value.int .i64 p3) ∧ True) (fun _ w => w0 = w) ?_ ?_
  · clear h
    rcases Bool.eq_false_or_eq_true (((((decide (p0 < 0)) || (decide (2147483647 ≤ p0))) || (decide (p2 < 1))) || (decide (20 < p2))) || (decide (p1 < 1))) with hc18 | hc18
    · skip
      refine wpR_pass (wantN rfl rfl rfl hc18) rfl rfl ?_
      refine wpR_pass (wantN rfl rfl rfl hc18) rfl rfl ?_
      refine wpR_pass (wantN rfl rfl rfl hc18) rfl rfl ?_
      refine wpR_val (v := (Value.bool true)) (w' := w0) rfl rfl rfl (x_pickT (v := (Value.bool true)) rfl rfl hc18 rfl) ?_
      refine wpR_nil ?_
      exact ⟨(), ⟨(by rw [hc18]; rfl), e0, e1, e2, e3, trivial⟩, rfl⟩
    · skip
      refine wpR_val (v := (Value.int .i64 p1)) (w' := w0) (wantG rfl rfl rfl hc18) rfl rfl (x_move (v := (Value.int .i64 p1)) rfl e1) ?_
      refine wpR_val (v := (Value.int .i64 p2)) (w' := w0) (wantG rfl rfl rfl hc18) rfl rfl (x_move (v := (Value.int .i64 p2)) rfl e2) ?_
      refine wpR_val (v := (Value.bool (decide (p2 < p1)))) (w' := w0) (wantG rfl rfl rfl hc18) rfl rfl (x_gtr rfl rfl rfl) ?_
      refine wpR_val (v := (Value.bool (decide (p2 < p1)))) (w' := w0) rfl rfl rfl (x_pickF (v := (Value.bool (decide (p2 < p1)))) rfl rfl hc18 rfl) ?_
      refine wpR_nil ?_
      exact ⟨(), ⟨(by rw [hc18]; rfl), e0, e1, e2, e3, trivial⟩, rfl⟩
  rintro _ ρ wj ⟨e39, e0, e1, e2, e3, -⟩ rfl
  refine wpR_nil ?_
  refine wpC_cond (b := (((((decide (p0 < 0)) || (decide (2147483647 ≤ p0))) || (decide (p2 < 1))) || (decide (20 < p2))) || (decide (p1 < 1))) || (decide (p2 < p1))) e39 (fun hc19 => ?_) (fun hc19 => ?_)
  · replace h := h.1 hc19
    refine wpC_seq ?_
    refine wpC_region ?_
    refine wpR_val (v := (Sl.v Sl.nil)) (w' := w0) rfl rfl rfl (x_assign (v := (Sl.v Sl.nil)) rfl rfl) ?_
    refine wpR_val (v := (Value.int .i64 1)) (w' := w0) rfl rfl rfl (x_assign (v := (Value.int .i64 1)) rfl rfl) ?_
    refine wpR_nil ?_
    refine wpC_ret ?_
    exact ⟨.inl rfl, fun a ha => ⟨_, results_rep2 rfl ha rfl rfl, (Sl.nil, 1), rfl, h⟩⟩
  · replace h := h.2 hc19
    refine wpC_skip ?_
    refine wpC_seq ?_
    refine wpC_region ?_
    refine wpR_val (v := (Value.int .i64 p3)) (w' := w0) rfl rfl rfl (x_move (v := (Value.int .i64 p3)) rfl e3) ?_
    refine wpR_val (v := (Value.int .i64 (p3.tmod 2147483648))) (w' := w0) rfl rfl rfl (x_rem rfl rfl rfl (by decide)) ?_
    refine wpR_val (v := (Value.int .i64 (IntKind.i64.wrap ((p3.tmod 2147483648) + 2147483648)))) (w' := w0) rfl rfl rfl (x_add rfl rfl rfl) ?_
    refine wpR_val (v := (Value.int .i64 ((IntKind.i64.wrap ((p3.tmod 2147483648) + 2147483648)).tmod 2147483648))) (w' := w0) rfl rfl rfl (x_rem rfl rfl rfl (by decide)) ?_
    refine wpR_val (v := (Value.int .i64 ((IntKind.i64.wrap ((p3.tmod 2147483648) + 2147483648)).tmod 2147483648))) (w' := w0) rfl rfl rfl (x_assign (v := (Value.int .i64 ((IntKind.i64.wrap ((p3.tmod 2147483648) + 2147483648)).tmod 2147483648))) rfl rfl) ?_
    refine wpR_nil ?_
    refine wpC_seq ?_
    refine wpC_cut (fun ρ => ρ 0 = (Value.int .i64 p0) ∧ ρ 1 = (Value.int .i64 p1) ∧ ρ 2 = (Value.int .i64 p2) ∧ ρ 10 = (Value.int .i64 ((IntKind.i64.wrap ((p3.tmod 2147483648) + 2147483648)).tmod 2147483648)) ∧ True) ⟨e0, e1, e2, rfl, trivial⟩ ?_
    rintro ρ ⟨e0, e1, e2, e10, -⟩
    refine wpC_region ?_
    refine wpR_val (v := (Value.int .i64 p2)) (w' := w0) rfl rfl rfl (x_move (v := (Value.int .i64 p2)) rfl e2) ?_
    obtain ⟨r20, w1, q20, h⟩ := h
    refine wpR_val (v := (Sl.v r20)) (w' := w1) rfl rfl rfl (x_makeSlice rfl rfl rfl q20) ?_
    refine wpR_val (v := (Sl.v r20)) (w' := w1) rfl rfl rfl (x_assign (v := (Sl.v r20)) rfl rfl) ?_
    refine wpR_nil ?_
    refine wpC_seq ?_
    refine wpC_seq ?_
    refine wpC_cut (fun ρ => ρ 0 = (Value.int .i64 p0) ∧ ρ 1 = (Value.int .i64 p1) ∧ ρ 2 = (Value.int .i64 p2) ∧ ρ 10 = (Value.int .i64 ((IntKind.i64.wrap ((p3.tmod 2147483648) + 2147483648)).tmod 2147483648)) ∧ ρ 11 = (Sl.v r20) ∧ True) ⟨e0, e1, e2, e10, rfl, trivial⟩ ?_
    rintro ρ ⟨e0, e1, e2, e10, e11, -⟩
    refine wpC_region ?_
    refine wpR_val (v := (Value.int .i64 0)) (w' := w1) rfl rfl rfl (x_assign (v := (Value.int .i64 0)) rfl rfl) ?_
    refine wpR_nil ?_
    refine wpC_block ?_
    obtain ⟨I21, μ21, hI21, hr21⟩ := h
    refine wpC_loop (fun (x : Int) ρ => ρ 12 = (Value.int .i64 x) ∧ ρ 0 = (Value.int .i64 p0) ∧ ρ 1 = (Value.int .i64 p1) ∧ ρ 2 = (Value.int .i64 p2) ∧ ρ 10 = (Value.int .i64 ((IntKind.i64.wrap ((p3.tmod 2147483648) + 2147483648)).tmod 2147483648)) ∧ ρ 11 = (Sl.v r20) ∧ True) I21 μ21 0 ⟨rfl, e0, e1, e2, e10, e11, trivial⟩ hI21 ?_
    rintro l21 ρ w2 ⟨e12, e0, e1, e2, e10, e11, -⟩ h
    replace h := hr21 l21 w2 h
    clear hr21 hI21
    refine wpC_seq ?_
    refine wpC_seq ?_
    refine wpC_region ?_
    refine wpR_val (v := (Value.int .i64 l21)) (w' := w2) rfl rfl rfl (x_move (v := (Value.int .i64 l21)) rfl e12) ?_
    refine wpR_val (v := (Value.int .i64 p2)) (w' := w2) rfl rfl rfl (x_move (v := (Value.int .i64 p2)) rfl e2) ?_
    refine wpR_val (v := (Value.bool (decide (l21 < p2)))) (w' := w2) rfl rfl rfl (x_lss rfl rfl rfl) ?_
    refine wpR_nil ?_
    refine wpC_cond (b := decide (l21 < p2)) rfl (fun hc22 => ?_) (fun hc22 => ?_)
    · replace h := h.1 hc22
      refine wpC_skip ?_
      refine wpC_seq ?_
      refine wpC_block ?_
      refine wpC_cut (fun ρ => ρ 0 = (Value.int .i64 p0) ∧ ρ 1 = (Value.int .i64 p1) ∧ ρ 2 = (Value.int .i64 p2) ∧ ρ 10 = (Value.int .i64 ((IntKind.i64.wrap ((p3.tmod 2147483648) + 2147483648)).tmod 2147483648)) ∧ ρ 11 = (Sl.v r20) ∧ ρ 12 = (Value.int .i64 l21) ∧ True) ⟨e0, e1, e2, e10, e11, e12, trivial⟩ ?_
      rintro ρ ⟨e0, e1, e2, e10, e11, e12, -⟩
      refine wpC_region ?_
      refine wpR_val (v := (Sl.v r20)) (w' := w2) rfl rfl rfl (x_move (v := (Sl.v r20)) rfl e11) ?_
      refine wpR_val (v := (Value.int .i64 l21)) (w' := w2) rfl rfl rfl (x_move (v := (Value.int .i64 l21)) rfl e12) ?_
      refine wpR_val (v := (Value.int .i64 l21)) (w' := w2) rfl rfl rfl (x_move (v := (Value.int .i64 l21)) rfl e12) ?_
      refine wpR_val (v := (Value.int .i64 (IntKind.i64.wrap (l21 + 1)))) (w' := w2) rfl rfl rfl (x_add rfl rfl rfl) ?_
      refine wpR_val (v := (Value.int .i64 p0)) (w' := w2) rfl rfl rfl (x_move (v := (Value.int .i64 p0)) rfl e0) ?_
      refine wpR_val (v := (Value.agg #[(Value.int .i64 (IntKind.i64.wrap (l21 + 1))), (Value.int .i64 p0)])) (w' := w2) rfl rfl rfl (x_build (qs := [(0, (Value.int .i64 (IntKind.i64.wrap (l21 + 1)))), (1, (Value.int .i64 p0))]) rfl (by rfl) (BD_39_0_1 (IntKind.i64.wrap (l21 + 1)) p0 _)) ?_
      obtain ⟨q23, z23, r23, h⟩ := h
      generalize hp23 : z23.add ((l21 : Int).toNat * 2) = p23 at h
      refine wpR_val (v := (Value.pointer (some p23))) (w' := w2) rfl rfl rfl ((x_indexAddr (s := r20) rfl rfl rfl ES_22 q23 r23).trans (by rw [hp23])) ?_
      obtain ⟨q24, h⟩ := h
      obtain ⟨w3, hw24⟩ : ∃ u, u = setAll w2 p23 [(Value.int .i64 (IntKind.i64.wrap (l21 + 1))), (Value.int .i64 p0)] 0 := ⟨_, rfl⟩
      replace h := h w3 hw24
      refine wpR_skp (w' := w3) rfl rfl ((x_store (v := (Value.agg #[(Value.int .i64 (IntKind.i64.wrap (l21 + 1))), (Value.int .i64 p0)])) rfl rfl rfl SZ_39 (ones (by rfl)) q24).trans (by rw [hw24]; rfl)) ?_
      refine wpR_nil ?_
      refine wpC_cut (fun ρ => ρ 0 = (Value.int .i64 p0) ∧ ρ 1 = (Value.int .i64 p1) ∧ ρ 2 = (Value.int .i64 p2) ∧ ρ 10 = (Value.int .i64 ((IntKind.i64.wrap ((p3.tmod 2147483648) + 2147483648)).tmod 2147483648)) ∧ ρ 11 = (Sl.v r20) ∧ ρ 12 = (Value.int .i64 l21) ∧ True) ⟨e0, e1, e2, e10, e11, e12, trivial⟩ ?_
      rintro ρ ⟨e0, e1, e2, e10, e11, e12, -⟩
      refine wpC_region ?_
      refine wpR_val (v := (Value.int .i64 l21)) (w' := w3) rfl rfl rfl (x_move (v := (Value.int .i64 l21)) rfl e12) ?_
      refine wpR_val (v := (Value.int .i64 (IntKind.i64.wrap (l21 + 1)))) (w' := w3) rfl rfl rfl (x_add rfl rfl rfl) ?_
      refine wpR_val (v := (Value.int .i64 (IntKind.i64.wrap (l21 + 1)))) (w' := w3) rfl rfl rfl (x_assign (v := (Value.int .i64 (IntKind.i64.wrap (l21 + 1)))) rfl rfl) ?_
      refine wpR_nil ?_
      exact ⟨IntKind.i64.wrap (l21 + 1), ⟨rfl, e0, e1, e2, e10, e11, trivial⟩, h⟩
    · replace h := h.2 hc22
      refine wpC_exit ?_
      refine wpC_seq ?_
      refine wpC_cut (fun ρ => ρ 1 = (Value.int .i64 p1) ∧ ρ 2 = (Value.int .i64 p2) ∧ ρ 10 = (Value.int .i64 ((IntKind.i64.wrap ((p3.tmod 2147483648) + 2147483648)).tmod 2147483648)) ∧ ρ 11 = (Sl.v r20) ∧ True) ⟨e1, e2, e10, e11, trivial⟩ ?_
      rintro ρ ⟨e1, e2, e10, e11, -⟩
      refine wpC_region ?_
      refine wpR_val (v := (Value.int .i64 p2)) (w' := w2) rfl rfl rfl (x_move (v := (Value.int .i64 p2)) rfl e2) ?_
      obtain ⟨r25, w4, q25, h⟩ := h
      refine wpR_val (v := (Sl.v r25)) (w' := w4) rfl rfl rfl (x_makeSlice rfl rfl rfl q25) ?_
      refine wpR_val (v := (Sl.v r25)) (w' := w4) rfl rfl rfl (x_assign (v := (Sl.v r25)) rfl rfl) ?_
      refine wpR_nil ?_
      refine wpC_seq ?_
      refine wpC_seq ?_
      refine wpC_cut (fun ρ => ρ 1 = (Value.int .i64 p1) ∧ ρ 2 = (Value.int .i64 p2) ∧ ρ 10 = (Value.int .i64 ((IntKind.i64.wrap ((p3.tmod 2147483648) + 2147483648)).tmod 2147483648)) ∧ ρ 11 = (Sl.v r20) ∧ ρ 13 = (Sl.v r25) ∧ True) ⟨e1, e2, e10, e11, rfl, trivial⟩ ?_
      rintro ρ ⟨e1, e2, e10, e11, e13, -⟩
      refine wpC_region ?_
      refine wpR_val (v := (Value.int .i64 0)) (w' := w4) rfl rfl rfl (x_assign (v := (Value.int .i64 0)) rfl rfl) ?_
      refine wpR_nil ?_
      refine wpC_block ?_
      obtain ⟨I26, μ26, hI26, hr26⟩ := h
      refine wpC_loop (fun (x : Int) ρ => ρ 14 = (Value.int .i64 x) ∧ ρ 1 = (Value.int .i64 p1) ∧ ρ 2 = (Value.int .i64 p2) ∧ ρ 10 = (Value.int .i64 ((IntKind.i64.wrap ((p3.tmod 2147483648) + 2147483648)).tmod 2147483648)) ∧ ρ 11 = (Sl.v r20) ∧ ρ 13 = (Sl.v r25) ∧ True) I26 μ26 0 ⟨rfl, e1, e2, e10, e11, e13, trivial⟩ hI26 ?_
      rintro l26 ρ w5 ⟨e14, e1, e2, e10, e11, e13, -⟩ h
      replace h := hr26 l26 w5 h
      clear hr26 hI26
      refine wpC_seq ?_
      refine wpC_seq ?_
      refine wpC_region ?_
      refine wpR_val (v := (Value.int .i64 l26)) (w' := w5) rfl rfl rfl (x_move (v := (Value.int .i64 l26)) rfl e14) ?_
      refine wpR_val (v := (Value.int .i64 p2)) (w' := w5) rfl rfl rfl (x_move (v := (Value.int .i64 p2)) rfl e2) ?_
      refine wpR_val (v := (Value.bool (decide (l26 < p2)))) (w' := w5) rfl rfl rfl (x_lss rfl rfl rfl) ?_
      refine wpR_nil ?_
      refine wpC_cond (b := decide (l26 < p2)) rfl (fun hc27 => ?_) (fun hc27 => ?_)
      · replace h := h.1 hc27
        refine wpC_skip ?_
        refine wpC_seq ?_
        refine wpC_block ?_
        refine wpC_cut (fun ρ => ρ 1 = (Value.int .i64 p1) ∧ ρ 2 = (Value.int .i64 p2) ∧ ρ 10 = (Value.int .i64 ((IntKind.i64.wrap ((p3.tmod 2147483648) + 2147483648)).tmod 2147483648)) ∧ ρ 11 = (Sl.v r20) ∧ ρ 13 = (Sl.v r25) ∧ ρ 14 = (Value.int .i64 l26) ∧ True) ⟨e1, e2, e10, e11, e13, e14, trivial⟩ ?_
        rintro ρ ⟨e1, e2, e10, e11, e13, e14, -⟩
        refine wpC_region ?_
        refine wpR_val (v := (Sl.v r25)) (w' := w5) rfl rfl rfl (x_move (v := (Sl.v r25)) rfl e13) ?_
        refine wpR_val (v := (Value.int .i64 l26)) (w' := w5) rfl rfl rfl (x_move (v := (Value.int .i64 l26)) rfl e14) ?_
        obtain ⟨q28, z28, r28, h⟩ := h
        generalize hp28 : z28.add ((l26 : Int).toNat * 1) = p28 at h
        refine wpR_val (v := (Value.pointer (some p28))) (w' := w5) rfl rfl rfl ((x_indexAddr (s := r25) rfl rfl rfl ES_43 q28 r28).trans (by rw [hp28])) ?_
        obtain ⟨q29, h⟩ := h
        obtain ⟨w6, hw29⟩ : ∃ u, u = setAll w5 p28 [(Value.int .i64 1)] 0 := ⟨_, rfl⟩
        replace h := h w6 hw29
        refine wpR_skp (w' := w6) rfl rfl ((x_store (v := (Value.int .i64 1)) rfl rfl rfl SZ_3 (ones (by rfl)) q29).trans (by rw [hw29]; rfl)) ?_
        refine wpR_nil ?_
        refine wpC_cut (fun ρ => ρ 1 = (Value.int .i64 p1) ∧ ρ 2 = (Value.int .i64 p2) ∧ ρ 10 = (Value.int .i64 ((IntKind.i64.wrap ((p3.tmod 2147483648) + 2147483648)).tmod 2147483648)) ∧ ρ 11 = (Sl.v r20) ∧ ρ 13 = (Sl.v r25) ∧ ρ 14 = (Value.int .i64 l26) ∧ True) ⟨e1, e2, e10, e11, e13, e14, trivial⟩ ?_
        rintro ρ ⟨e1, e2, e10, e11, e13, e14, -⟩
        refine wpC_region ?_
        refine wpR_val (v := (Value.int .i64 l26)) (w' := w6) rfl rfl rfl (x_move (v := (Value.int .i64 l26)) rfl e14) ?_
        refine wpR_val (v := (Value.int .i64 (IntKind.i64.wrap (l26 + 1)))) (w' := w6) rfl rfl rfl (x_add rfl rfl rfl) ?_
        refine wpR_val (v := (Value.int .i64 (IntKind.i64.wrap (l26 + 1)))) (w' := w6) rfl rfl rfl (x_assign (v := (Value.int .i64 (IntKind.i64.wrap (l26 + 1)))) rfl rfl) ?_
        refine wpR_nil ?_
        exact ⟨IntKind.i64.wrap (l26 + 1), ⟨rfl, e1, e2, e10, e11, e13, trivial⟩, h⟩
      · replace h := h.2 hc27
        refine wpC_exit ?_
        refine wpC_seq ?_
        refine wpC_seq ?_
        refine wpC_cut (fun ρ => ρ 1 = (Value.int .i64 p1) ∧ ρ 2 = (Value.int .i64 p2) ∧ ρ 10 = (Value.int .i64 ((IntKind.i64.wrap ((p3.tmod 2147483648) + 2147483648)).tmod 2147483648)) ∧ ρ 11 = (Sl.v r20) ∧ ρ 13 = (Sl.v r25) ∧ True) ⟨e1, e2, e10, e11, e13, trivial⟩ ?_
        rintro ρ ⟨e1, e2, e10, e11, e13, -⟩
        refine wpC_region ?_
        refine wpR_val (v := (Value.int .i64 1)) (w' := w5) rfl rfl rfl (x_assign (v := (Value.int .i64 1)) rfl rfl) ?_
        refine wpR_nil ?_
        refine wpC_block ?_
        obtain ⟨I30, μ30, hI30, hr30⟩ := h
        refine wpC_loop (fun (x : Int × Int) ρ => ρ 10 = (Value.int .i64 x.1) ∧ ρ 15 = (Value.int .i64 x.2) ∧ ρ 1 = (Value.int .i64 p1) ∧ ρ 2 = (Value.int .i64 p2) ∧ ρ 11 = (Sl.v r20) ∧ ρ 13 = (Sl.v r25) ∧ True) I30 μ30 ((IntKind.i64.wrap ((p3.tmod 2147483648) + 2147483648)).tmod 2147483648, 1) ⟨e10, rfl, e1, e2, e11, e13, trivial⟩ hI30 ?_
        rintro l30 ρ w7 ⟨e10, e15, e1, e2, e11, e13, -⟩ h
        replace h := hr30 l30 w7 h
        clear hr30 hI30
        refine wpC_seq ?_
        refine wpC_seq ?_
        refine wpC_region ?_
        refine wpR_val (v := (Value.int .i64 l30.2)) (w' := w7) rfl rfl rfl (x_move (v := (Value.int .i64 l30.2)) rfl e15) ?_
        refine wpR_val (v := (Value.int .i64 p1)) (w' := w7) rfl rfl rfl (x_move (v := (Value.int .i64 p1)) rfl e1) ?_
        refine wpR_val (v := (Value.bool (decide (l30.2 < p1)))) (w' := w7) rfl rfl rfl (x_lss rfl rfl rfl) ?_
        refine wpR_nil ?_
        refine wpC_cond (b := decide (l30.2 < p1)) rfl (fun hc31 => ?_) (fun hc31 => ?_)
        · replace h := h.1 hc31
          refine wpC_skip ?_
          refine wpC_seq ?_
          refine wpC_block ?_
          refine wpC_seq ?_
          refine wpC_cut (fun ρ => ρ 1 = (Value.int .i64 p1) ∧ ρ 2 = (Value.int .i64 p2) ∧ ρ 10 = (Value.int .i64 l30.1) ∧ ρ 11 = (Sl.v r20) ∧ ρ 13 = (Sl.v r25) ∧ ρ 15 = (Value.int .i64 l30.2) ∧ True) ⟨e1, e2, e10, e11, e13, e15, trivial⟩ ?_
          rintro ρ ⟨e1, e2, e10, e11, e13, e15, -⟩
          refine wpC_region ?_
          refine wpR_val (v := (Value.int .i64 l30.1)) (w' := w7) rfl rfl rfl (x_move (v := (Value.int .i64 l30.1)) rfl e10) ?_
          refine wpR_val (v := (Value.int .i64 (IntKind.i64.wrap (1103515245 * l30.1)))) (w' := w7) rfl rfl rfl (x_mul rfl rfl rfl) ?_
          refine wpR_val (v := (Value.int .i64 (IntKind.i64.wrap ((IntKind.i64.wrap (1103515245 * l30.1)) + 12345)))) (w' := w7) rfl rfl rfl (x_add rfl rfl rfl) ?_
          refine wpR_val (v := (Value.int .i64 ((IntKind.i64.wrap ((IntKind.i64.wrap (1103515245 * l30.1)) + 12345)).tmod 2147483648))) (w' := w7) rfl rfl rfl (x_rem rfl rfl rfl (by decide)) ?_
          refine wpR_val (v := (Value.int .i64 ((IntKind.i64.wrap ((IntKind.i64.wrap (1103515245 * l30.1)) + 12345)).tmod 2147483648))) (w' := w7) rfl rfl rfl (x_assign (v := (Value.int .i64 ((IntKind.i64.wrap ((IntKind.i64.wrap (1103515245 * l30.1)) + 12345)).tmod 2147483648))) rfl rfl) ?_
          refine wpR_nil ?_
          refine wpC_seq ?_
          refine wpC_cut (fun ρ => ρ 1 = (Value.int .i64 p1) ∧ ρ 2 = (Value.int .i64 p2) ∧ ρ 10 = (Value.int .i64 ((IntKind.i64.wrap ((IntKind.i64.wrap (1103515245 * l30.1)) + 12345)).tmod 2147483648)) ∧ ρ 11 = (Sl.v r20) ∧ ρ 13 = (Sl.v r25) ∧ ρ 15 = (Value.int .i64 l30.2) ∧ True) ⟨e1, e2, rfl, e11, e13, e15, trivial⟩ ?_
          rintro ρ ⟨e1, e2, e10, e11, e13, e15, -⟩
          refine wpC_region ?_
          refine wpR_val (v := (Value.int .i64 0)) (w' := w7) rfl rfl rfl (x_assign (v := (Value.int .i64 0)) rfl rfl) ?_
          refine wpR_nil ?_
          refine wpC_block ?_
          obtain ⟨I32, μ32, hI32, hr32⟩ := h
          refine wpC_loop (fun (x : Int) ρ => ρ 16 = (Value.int .i64 x) ∧ ρ 1 = (Value.int .i64 p1) ∧ ρ 2 = (Value.int .i64 p2) ∧ ρ 10 = (Value.int .i64 ((IntKind.i64.wrap ((IntKind.i64.wrap (1103515245 * l30.1)) + 12345)).tmod 2147483648)) ∧ ρ 11 = (Sl.v r20) ∧ ρ 13 = (Sl.v r25) ∧ ρ 15 = (Value.int .i64 l30.2) ∧ True) I32 μ32 0 ⟨rfl, e1, e2, e10, e11, e13, e15, trivial⟩ hI32 ?_
          rintro l32 ρ w8 ⟨e16, e1, e2, e10, e11, e13, e15, -⟩ h
          replace h := hr32 l32 w8 h
          clear hr32 hI32
          refine wpC_seq ?_
          refine wpC_seq ?_
          refine wpC_region ?_
          refine wpR_val (v := (Value.int .i64 l32)) (w' := w8) rfl rfl rfl (x_move (v := (Value.int .i64 l32)) rfl e16) ?_
          refine wpR_val (v := (Value.int .i64 p2)) (w' := w8) rfl rfl rfl (x_move (v := (Value.int .i64 p2)) rfl e2) ?_
          refine wpR_val (v := (Value.bool (decide (l32 < p2)))) (w' := w8) rfl rfl rfl (x_lss rfl rfl rfl) ?_
          refine wpR_nil ?_
          refine wpC_cond (b := decide (l32 < p2)) rfl (fun hc33 => ?_) (fun hc33 => ?_)
          · replace h := h.1 hc33
            refine wpC_skip ?_
            refine wpC_seq ?_
            refine wpC_block ?_
            refine wpC_seq ?_
            refine wpC_cut (fun ρ => ρ 1 = (Value.int .i64 p1) ∧ ρ 2 = (Value.int .i64 p2) ∧ ρ 10 = (Value.int .i64 ((IntKind.i64.wrap ((IntKind.i64.wrap (1103515245 * l30.1)) + 12345)).tmod 2147483648)) ∧ ρ 11 = (Sl.v r20) ∧ ρ 13 = (Sl.v r25) ∧ ρ 15 = (Value.int .i64 l30.2) ∧ ρ 16 = (Value.int .i64 l32) ∧ True) ⟨e1, e2, e10, e11, e13, e15, e16, trivial⟩ ?_
            rintro ρ ⟨e1, e2, e10, e11, e13, e15, e16, -⟩
            refine wpC_region ?_
            refine wpR_val (v := (Sl.v r25)) (w' := w8) rfl rfl rfl (x_move (v := (Sl.v r25)) rfl e13) ?_
            refine wpR_val (v := (Value.int .i64 l32)) (w' := w8) rfl rfl rfl (x_move (v := (Value.int .i64 l32)) rfl e16) ?_
            refine wpR_val (v := (Sl.v r25)) (w' := w8) rfl rfl rfl (x_move (v := (Sl.v r25)) rfl e13) ?_
            refine wpR_val (v := (Value.int .i64 l32)) (w' := w8) rfl rfl rfl (x_move (v := (Value.int .i64 l32)) rfl e16) ?_
            obtain ⟨q34, z34, r34, h⟩ := h
            generalize hp34 : z34.add ((l32 : Int).toNat * 1) = p34 at h
            refine wpR_val (v := (Value.pointer (some p34))) (w' := w8) rfl rfl rfl ((x_indexAddr (s := r25) rfl rfl rfl ES_43 q34 r34).trans (by rw [hp34])) ?_
            obtain ⟨x35, q35, h⟩ := h
            refine wpR_val (v := (Value.int .i64 x35)) (w' := w8) rfl rfl rfl (x_load1 rfl rfl SH_3 q35) ?_
            refine wpR_val (v := (Value.int .i64 l32)) (w' := w8) rfl rfl rfl (x_move (v := (Value.int .i64 l32)) rfl e16) ?_
            refine wpR_val (v := (Value.int .i64 (IntKind.i64.wrap (l32 + 1)))) (w' := w8) rfl rfl rfl (x_add rfl rfl rfl) ?_
            refine wpR_val (v := (Value.int .i64 (IntKind.i64.wrap (x35 * (IntKind.i64.wrap (l32 + 1)))))) (w' := w8) rfl rfl rfl (x_mul rfl rfl rfl) ?_
            refine wpR_val (v := (Value.int .i64 ((IntKind.i64.wrap (x35 * (IntKind.i64.wrap (l32 + 1)))).tmod 2147483647))) (w' := w8) rfl rfl rfl (x_rem rfl rfl rfl (by decide)) ?_
            obtain ⟨q36, z36, r36, h⟩ := h
            generalize hp36 : z36.add ((l32 : Int).toNat * 1) = p36 at h
            refine wpR_val (v := (Value.pointer (some p36))) (w' := w8) rfl rfl rfl ((x_indexAddr (s := r25) rfl rfl rfl ES_43 q36 r36).trans (by rw [hp36])) ?_
            obtain ⟨q37, h⟩ := h
            obtain ⟨w9, hw37⟩ : ∃ u, u = setAll w8 p36 [(Value.int .i64 ((IntKind.i64.wrap (x35 * (IntKind.i64.wrap (l32 + 1)))).tmod 2147483647))] 0 := ⟨_, rfl⟩
            replace h := h w9 hw37
            refine wpR_skp (w' := w9) rfl rfl ((x_store (v := (Value.int .i64 ((IntKind.i64.wrap (x35 * (IntKind.i64.wrap (l32 + 1)))).tmod 2147483647))) rfl rfl rfl SZ_3 (ones (by rfl)) q37).trans (by rw [hw37]; rfl)) ?_
            refine wpR_nil ?_
            refine wpC_cut (fun ρ => ρ 1 = (Value.int .i64 p1) ∧ ρ 2 = (Value.int .i64 p2) ∧ ρ 10 = (Value.int .i64 ((IntKind.i64.wrap ((IntKind.i64.wrap (1103515245 * l30.1)) + 12345)).tmod 2147483648)) ∧ ρ 11 = (Sl.v r20) ∧ ρ 13 = (Sl.v r25) ∧ ρ 15 = (Value.int .i64 l30.2) ∧ ρ 16 = (Value.int .i64 l32) ∧ True) ⟨e1, e2, e10, e11, e13, e15, e16, trivial⟩ ?_
            rintro ρ ⟨e1, e2, e10, e11, e13, e15, e16, -⟩
            obtain ⟨J39, h, hk⟩ := h
            refine wpC_drawJ (by kernel_rfl) (fun (x : Unit) ρ => ρ 1 = (Value.int .i64 p1) ∧ ρ 2 = (Value.int .i64 p2) ∧ ρ 10 = (Value.int .i64 ((IntKind.i64.wrap ((IntKind.i64.wrap (1103515245 * l30.1)) + 12345)).tmod 2147483648)) ∧ ρ 11 = (Sl.v r20) ∧ ρ 13 = (Sl.v r25) ∧ ρ 15 = (Value.int .i64 l30.2) ∧ ρ 16 = (Value.int .i64 l32) ∧ True) J39 ?_ ?_
            · clear hk
              unfold tk at h
              generalize w9.drew = w10 at h ⊢
              refine wpD_take (v := (Sl.v r20)) 0 (fun _ => True) rfl (by kernel_rfl) (by kernel_rfl) (by kernel_rfl) rfl rfl rfl trivial (fun w _ => (x_move (v := (Sl.v r20)) rfl e11)) ?_
              refine wpD_take (v := (Value.int .i64 l32)) 1 (fun _ => True) rfl (by kernel_rfl) (by kernel_rfl) (by kernel_rfl) rfl rfl rfl trivial (fun w _ => (x_move (v := (Value.int .i64 l32)) rfl e16)) ?_
              refine wpD_take (v := (Sl.v r20)) 2 (fun _ => True) rfl (by kernel_rfl) (by kernel_rfl) (by kernel_rfl) rfl rfl rfl trivial (fun w _ => (x_move (v := (Sl.v r20)) rfl e11)) ?_
              refine wpD_take (v := (Value.int .i64 l32)) 3 (fun _ => True) rfl (by kernel_rfl) (by kernel_rfl) (by kernel_rfl) rfl rfl rfl trivial (fun w _ => (x_move (v := (Value.int .i64 l32)) rfl e16)) ?_
              obtain ⟨q40, z40, r40, h⟩ := h
              generalize hp40 : z40.add ((l32 : Int).toNat * 2) = p40 at h
              refine wpD_take (v := (Value.pointer (some p40))) 4 (fun _ => True) rfl (by kernel_rfl) (by kernel_rfl) (by kernel_rfl) rfl rfl rfl trivial (fun w _ => ((x_indexAddr (s := r20) rfl rfl rfl ES_22 q40 r40).trans (by rw [hp40]))) ?_
              refine wpD_take (v := (Value.pointer (some (p40.add 1)))) 5 (fun _ => True) rfl (by kernel_rfl) (by kernel_rfl) (by kernel_rfl) rfl rfl rfl trivial (fun w _ => (x_fieldAddr rfl rfl FA_39_1)) ?_
              obtain ⟨x41, q41, h⟩ := h
              refine wpD_take (v := (Value.int .i64 x41)) 6 (fun w => w.cell? (p40.add 1) = some (Value.int .i64 x41)) rfl (by kernel_rfl) (by kernel_rfl) (by kernel_rfl) rfl rfl rfl q41 (fun w q41 => (x_load1 rfl rfl SH_3 q41)) ?_
              refine wpD_take (v := (Value.int .i64 ((IntKind.i64.wrap ((IntKind.i64.wrap (1103515245 * l30.1)) + 12345)).tmod 2147483648))) 7 (fun _ => True) rfl (by kernel_rfl) (by kernel_rfl) (by kernel_rfl) rfl rfl rfl trivial (fun w _ => (x_move (v := (Value.int .i64 ((IntKind.i64.wrap ((IntKind.i64.wrap (1103515245 * l30.1)) + 12345)).tmod 2147483648))) rfl e10)) ?_
              refine wpD_take (v := (Value.int .i64 (((IntKind.i64.wrap ((IntKind.i64.wrap (1103515245 * l30.1)) + 12345)).tmod 2147483648).tmod 2147483647))) 8 (fun _ => True) rfl (by kernel_rfl) (by kernel_rfl) (by kernel_rfl) rfl rfl rfl trivial (fun w _ => (x_rem rfl rfl rfl (by decide))) ?_
              refine wpD_take (v := (Sl.v r25)) 9 (fun _ => True) rfl (by kernel_rfl) (by kernel_rfl) (by kernel_rfl) rfl rfl rfl trivial (fun w _ => (x_move (v := (Sl.v r25)) rfl e13)) ?_
              refine wpD_take (v := (Value.int .i64 l32)) 10 (fun _ => True) rfl (by kernel_rfl) (by kernel_rfl) (by kernel_rfl) rfl rfl rfl trivial (fun w _ => (x_move (v := (Value.int .i64 l32)) rfl e16)) ?_
              obtain ⟨q42, z42, r42, h⟩ := h
              generalize hp42 : z42.add ((l32 : Int).toNat * 1) = p42 at h
              refine wpD_take (v := (Value.pointer (some p42))) 11 (fun _ => True) rfl (by kernel_rfl) (by kernel_rfl) (by kernel_rfl) rfl rfl rfl trivial (fun w _ => ((x_indexAddr (s := r25) rfl rfl rfl ES_43 q42 r42).trans (by rw [hp42]))) ?_
              obtain ⟨x43, q43, h⟩ := h
              refine wpD_take (v := (Value.int .i64 x43)) 12 (fun w => w.cell? p42 = some (Value.int .i64 x43)) rfl (by kernel_rfl) (by kernel_rfl) (by kernel_rfl) rfl rfl rfl q43 (fun w q43 => (x_load1 rfl rfl SH_3 q43)) ?_
              refine wpD_take (v := (Value.int .i64 (IntKind.i64.wrap ((((IntKind.i64.wrap ((IntKind.i64.wrap (1103515245 * l30.1)) + 12345)).tmod 2147483648).tmod 2147483647) * x43)))) 13 (fun _ => True) rfl (by kernel_rfl) (by kernel_rfl) (by kernel_rfl) rfl rfl rfl trivial (fun w _ => (x_mul rfl rfl rfl)) ?_
              refine wpD_take (v := (Value.int .i64 (IntKind.i64.wrap (x41 + (IntKind.i64.wrap ((((IntKind.i64.wrap ((IntKind.i64.wrap (1103515245 * l30.1)) + 12345)).tmod 2147483648).tmod 2147483647) * x43)))))) 14 (fun _ => True) rfl (by kernel_rfl) (by kernel_rfl) (by kernel_rfl) rfl rfl rfl trivial (fun w _ => (x_add rfl rfl rfl)) ?_
              refine wpD_take (v := (Value.int .i64 ((IntKind.i64.wrap (x41 + (IntKind.i64.wrap ((((IntKind.i64.wrap ((IntKind.i64.wrap (1103515245 * l30.1)) + 12345)).tmod 2147483648).tmod 2147483647) * x43)))).tmod 2147483647))) 15 (fun _ => True) rfl (by kernel_rfl) (by kernel_rfl) (by kernel_rfl) rfl rfl rfl trivial (fun w _ => (x_rem rfl rfl rfl (by decide))) ?_
              obtain ⟨q44, z44, r44, h⟩ := h
              generalize hp44 : z44.add ((l32 : Int).toNat * 2) = p44 at h
              refine wpD_take (v := (Value.pointer (some p44))) 16 (fun _ => True) rfl (by kernel_rfl) (by kernel_rfl) (by kernel_rfl) rfl rfl rfl trivial (fun w _ => ((x_indexAddr (s := r20) rfl rfl rfl ES_22 q44 r44).trans (by rw [hp44]))) ?_
              refine wpD_take (v := (Value.pointer (some (p44.add 1)))) 17 (fun _ => True) rfl (by kernel_rfl) (by kernel_rfl) (by kernel_rfl) rfl rfl rfl trivial (fun w _ => (x_fieldAddr rfl rfl FA_39_1)) ?_
              refine wpD_all (rs := [18]) (by kernel_rfl) (by simp) (allD_cons ?_ allD_nil)
              obtain ⟨q45, h⟩ := h
              obtain ⟨w11, hw45⟩ : ∃ u, u = setAll w10 (p44.add 1) [(Value.int .i64 ((IntKind.i64.wrap (x41 + (IntKind.i64.wrap ((((IntKind.i64.wrap ((IntKind.i64.wrap (1103515245 * l30.1)) + 12345)).tmod 2147483648).tmod 2147483647) * x43)))).tmod 2147483647))] 0 := ⟨_, rfl⟩
              replace h := h w11 hw45
              refine stepD_skpL (L' := [(16, fun _ => True)]) (w' := w11) rfl rfl rfl ((x_store (v := (Value.int .i64 ((IntKind.i64.wrap (x41 + (IntKind.i64.wrap ((((IntKind.i64.wrap ((IntKind.i64.wrap (1103515245 * l30.1)) + 12345)).tmod 2147483648).tmod 2147483647) * x43)))).tmod 2147483647))) rfl rfl rfl SZ_3 (ones (by rfl)) q45).trans (by rw [hw45]; rfl)) (by kernel_rfl) (held_cons trivial held_nil) ?_
              exact wpD_done (by kernel_rfl) ⟨(), ⟨e1, e2, e10, e11, e13, e15, e16, trivial⟩, h⟩
            clear h
            rintro l46 ρ w12 ⟨e1, e2, e10, e11, e13, e15, e16, -⟩ h
            replace h := hk l46 w12 h
            clear hk
            refine wpC_region ?_
            refine wpR_val (v := (Value.int .i64 l32)) (w' := w12) rfl rfl rfl (x_move (v := (Value.int .i64 l32)) rfl e16) ?_
            refine wpR_val (v := (Value.int .i64 (IntKind.i64.wrap (l32 + 1)))) (w' := w12) rfl rfl rfl (x_add rfl rfl rfl) ?_
            refine wpR_val (v := (Value.int .i64 (IntKind.i64.wrap (l32 + 1)))) (w' := w12) rfl rfl rfl (x_assign (v := (Value.int .i64 (IntKind.i64.wrap (l32 + 1)))) rfl rfl) ?_
            refine wpR_nil ?_
            exact ⟨IntKind.i64.wrap (l32 + 1), ⟨rfl, e1, e2, e10, e11, e13, e15, trivial⟩, h⟩
          · replace h := h.2 hc33
            refine wpC_exit ?_
            refine wpC_cut (fun ρ => ρ 1 = (Value.int .i64 p1) ∧ ρ 2 = (Value.int .i64 p2) ∧ ρ 10 = (Value.int .i64 ((IntKind.i64.wrap ((IntKind.i64.wrap (1103515245 * l30.1)) + 12345)).tmod 2147483648)) ∧ ρ 11 = (Sl.v r20) ∧ ρ 13 = (Sl.v r25) ∧ ρ 15 = (Value.int .i64 l30.2) ∧ True) ⟨e1, e2, e10, e11, e13, e15, trivial⟩ ?_
            rintro ρ ⟨e1, e2, e10, e11, e13, e15, -⟩
            refine wpC_region ?_
            refine wpR_val (v := (Value.int .i64 l30.2)) (w' := w8) rfl rfl rfl (x_move (v := (Value.int .i64 l30.2)) rfl e15) ?_
            refine wpR_val (v := (Value.int .i64 (IntKind.i64.wrap (l30.2 + 1)))) (w' := w8) rfl rfl rfl (x_add rfl rfl rfl) ?_
            refine wpR_val (v := (Value.int .i64 (IntKind.i64.wrap (l30.2 + 1)))) (w' := w8) rfl rfl rfl (x_assign (v := (Value.int .i64 (IntKind.i64.wrap (l30.2 + 1)))) rfl rfl) ?_
            refine wpR_nil ?_
            exact ⟨((IntKind.i64.wrap ((IntKind.i64.wrap (1103515245 * l30.1)) + 12345)).tmod 2147483648, IntKind.i64.wrap (l30.2 + 1)), ⟨e10, rfl, e1, e2, e11, e13, trivial⟩, h⟩
        · replace h := h.2 hc31
          refine wpC_exit ?_
          refine wpC_seq ?_
          refine wpC_cut (fun ρ => ρ 11 = (Sl.v r20) ∧ True) ⟨e11, trivial⟩ ?_
          rintro ρ ⟨e11, -⟩
          refine wpC_region ?_
          refine wpR_val (v := (Sl.v r20)) (w' := w7) rfl rfl rfl (x_move (v := (Sl.v r20)) rfl e11) ?_
          refine wpR_val (v := (Sl.v r20)) (w' := w7) rfl rfl rfl (x_assign (v := (Sl.v r20)) rfl rfl) ?_
          refine wpR_val (v := (Value.int .i64 0)) (w' := w7) rfl rfl rfl (x_assign (v := (Value.int .i64 0)) rfl rfl) ?_
          refine wpR_nil ?_
          refine wpC_ret ?_
          exact ⟨.inl rfl, fun a ha => ⟨_, results_rep2 rfl ha rfl rfl, (r20, 0), rfl, h⟩⟩

/-- share.Join -/
def F10 (p0 : Sl) (p1 : Int) (w0 : World) (K : (Int × Int) → World → Prop) : Prop :=
  callC Try.prog 19 #[(Sl.v p0), (Value.int .i64 p1)] (fun (r : Int) => (Value.int .i64 r)) w0 fun r9 w1 =>
  cnd (!decide (r9 = 0))
    (
    K (0, r9) w1
    )
    (
    cnd (decide ((p0.len : Int) < p1))
      (
      K (0, 20) w1
      )
      (
      callC Try.prog 20 #[(Sl.v p0), (Value.int .i64 p1)] (fun (r : Bool) => (Value.bool r)) w1 fun r12 w2 =>
      cnd (!r12)
        (
        K (0, 18) w2
        )
        (
        rn Try.prog (Instr.sliceAt 22 (Sl.v p0) none (some (Value.int .i64 p1)) none) (fun (r : Sl) => (Sl.v r)) w2 fun r14 w3 =>
        callC Try.prog 21 #[(Sl.v r14), (Value.int .i64 0)] (fun (r : Int) => (Value.int .i64 r)) w3 fun r15 w4 =>
        K (r15, 0) w4
        )
      )
    )
set_option maxRecDepth 100000 in
theorem D10 (p0 : Sl) (p1 : Int) (w0 : World) (K : (Int × Int) → World → Prop) (h : F10 p0 p1 w0 K) : callC Try.prog 10 #[(Sl.v p0), (Value.int .i64 p1)] (fun (r : Int × Int) => (Value.tuple #[(Value.int .i64 r.1), (Value.int .i64 r.2)])) w0 K := by
  unfold F10 at h
  refine calls_of_wpC Try.func10 rfl 25 rfl (by simp) ?_
  intro ρ hρ
  have e0 : ρ 0 = (Sl.v p0) := hρ 0
  have e1 : ρ 1 = (Value.int .i64 p1) := hρ 1
  clear hρ
  refine wpC_seq ?_
  refine wpC_region ?_
  refine wpR_val (v := (Value.int .i64 0)) (w' := w0) rfl rfl rfl (x_assign (v := (Value.int .i64 0)) rfl rfl) ?_
  refine wpR_val (v := (Value.int .i64 0)) (w' := w0) rfl rfl rfl (x_assign (v := (Value.int .i64 0)) rfl rfl) ?_
  refine wpR_nil ?_
  refine wpC_seq ?_
  refine wpC_seq ?_
  refine wpC_cut (fun ρ => ρ 0 = (Sl.v p0) ∧ ρ 1 = (Value.int .i64 p1) ∧ True) ⟨e0, e1, trivial⟩ ?_
  rintro ρ ⟨e0, e1, -⟩
  refine wpC_region ?_
  refine wpR_val (v := (Sl.v p0)) (w' := w0) rfl rfl rfl (x_move (v := (Sl.v p0)) rfl e0) ?_
  refine wpR_val (v := (Value.int .i64 p1)) (w' := w0) rfl rfl rfl (x_move (v := (Value.int .i64 p1)) rfl e1) ?_
  refine wpR_enter rfl rfl rfl (x_call (vs := [(Sl.v p0), (Value.int .i64 p1)]) rfl rfl (mapl_cons rfl (mapl_cons rfl mapl_nil)) Try.func19 NN_19 NB_19) (Calls.mono h ?_)
  rintro _ w1 ⟨r9, rfl, h⟩
  refine ⟨_, rfl, ?_⟩
  refine wpR_val (v := (Value.int .i64 r9)) (w' := w1) rfl rfl rfl (x_assign (v := (Value.int .i64 r9)) rfl rfl) ?_
  refine wpR_nil ?_
  refine wpC_seq ?_
  refine wpC_cut (fun ρ => ρ 0 = (Sl.v p0) ∧ ρ 1 = (Value.int .i64 p1) ∧ ρ 6 = (Value.int .i64 r9) ∧ True) ⟨e0, e1, rfl, trivial⟩ ?_
  rintro ρ ⟨e0, e1, e6, -⟩
  refine wpC_region ?_
  refine wpR_val (v := (Value.int .i64 r9)) (w' := w1) rfl rfl rfl (x_move (v := (Value.int .i64 r9)) rfl e6) ?_
  refine wpR_val (v := (Value.bool (!decide (r9 = 0)))) (w' := w1) rfl rfl rfl (x_neq rfl rfl rfl) ?_
  refine wpR_nil ?_
  refine wpC_cond (b := !decide (r9 = 0)) rfl (fun hc10 => ?_) (fun hc10 => ?_)
  · replace h := h.1 hc10
    refine wpC_seq ?_
    refine wpC_cut (fun ρ => ρ 6 = (Value.int .i64 r9) ∧ True) ⟨e6, trivial⟩ ?_
    rintro ρ ⟨e6, -⟩
    refine wpC_region ?_
    refine wpR_val (v := (Value.int .i64 r9)) (w' := w1) rfl rfl rfl (x_move (v := (Value.int .i64 r9)) rfl e6) ?_
    refine wpR_val (v := (Value.int .i64 0)) (w' := w1) rfl rfl rfl (x_assign (v := (Value.int .i64 0)) rfl rfl) ?_
    refine wpR_val (v := (Value.int .i64 r9)) (w' := w1) rfl rfl rfl (x_assign (v := (Value.int .i64 r9)) rfl rfl) ?_
    refine wpR_nil ?_
    refine wpC_ret ?_
    exact ⟨.inl rfl, fun a ha => ⟨_, results_rep2 rfl ha rfl rfl, (0, r9), rfl, h⟩⟩
  · replace h := h.2 hc10
    refine wpC_skip ?_
    refine wpC_seq ?_
    refine wpC_seq ?_
    refine wpC_cut (fun ρ => ρ 0 = (Sl.v p0) ∧ ρ 1 = (Value.int .i64 p1) ∧ True) ⟨e0, e1, trivial⟩ ?_
    rintro ρ ⟨e0, e1, -⟩
    refine wpC_region ?_
    refine wpR_val (v := (Sl.v p0)) (w' := w1) rfl rfl rfl (x_move (v := (Sl.v p0)) rfl e0) ?_
    refine wpR_val (v := (Value.int .i64 (p0.len : Int))) (w' := w1) rfl rfl rfl (x_lenS (s := p0) rfl rfl isSliceT_22) ?_
    refine wpR_val (v := (Value.int .i64 p1)) (w' := w1) rfl rfl rfl (x_move (v := (Value.int .i64 p1)) rfl e1) ?_
    refine wpR_val (v := (Value.bool (decide ((p0.len : Int) < p1)))) (w' := w1) rfl rfl rfl (x_lss rfl rfl rfl) ?_
    refine wpR_nil ?_
    refine wpC_cond (b := decide ((p0.len : Int) < p1)) rfl (fun hc11 => ?_) (fun hc11 => ?_)
    · replace h := h.1 hc11
      refine wpC_seq ?_
      refine wpC_cut (fun ρ => True) trivial ?_
      rintro ρ -
      refine wpC_region ?_
      refine wpR_val (v := (Value.int .i64 0)) (w' := w1) rfl rfl rfl (x_assign (v := (Value.int .i64 0)) rfl rfl) ?_
      refine wpR_val (v := (Value.int .i64 20)) (w' := w1) rfl rfl rfl (x_assign (v := (Value.int .i64 20)) rfl rfl) ?_
      refine wpR_nil ?_
      refine wpC_ret ?_
      exact ⟨.inl rfl, fun a ha => ⟨_, results_rep2 rfl ha rfl rfl, (0, 20), rfl, h⟩⟩
    · replace h := h.2 hc11
      refine wpC_skip ?_
      refine wpC_seq ?_
      refine wpC_seq ?_
      refine wpC_cut (fun ρ => ρ 0 = (Sl.v p0) ∧ ρ 1 = (Value.int .i64 p1) ∧ True) ⟨e0, e1, trivial⟩ ?_
      rintro ρ ⟨e0, e1, -⟩
      refine wpC_region ?_
      refine wpR_val (v := (Sl.v p0)) (w' := w1) rfl rfl rfl (x_move (v := (Sl.v p0)) rfl e0) ?_
      refine wpR_val (v := (Value.int .i64 p1)) (w' := w1) rfl rfl rfl (x_move (v := (Value.int .i64 p1)) rfl e1) ?_
      refine wpR_enter rfl rfl rfl (x_call (vs := [(Sl.v p0), (Value.int .i64 p1)]) rfl rfl (mapl_cons rfl (mapl_cons rfl mapl_nil)) Try.func20 NN_20 NB_20) (Calls.mono h ?_)
      rintro _ w2 ⟨r12, rfl, h⟩
      refine ⟨_, rfl, ?_⟩
      refine wpR_val (v := (Value.bool (!r12))) (w' := w2) rfl rfl rfl (x_not rfl rfl) ?_
      refine wpR_nil ?_
      refine wpC_cond (b := !r12) rfl (fun hc13 => ?_) (fun hc13 => ?_)
      · replace h := h.1 hc13
        refine wpC_seq ?_
        refine wpC_cut (fun ρ => True) trivial ?_
        rintro ρ -
        refine wpC_region ?_
        refine wpR_val (v := (Value.int .i64 0)) (w' := w2) rfl rfl rfl (x_assign (v := (Value.int .i64 0)) rfl rfl) ?_
        refine wpR_val (v := (Value.int .i64 18)) (w' := w2) rfl rfl rfl (x_assign (v := (Value.int .i64 18)) rfl rfl) ?_
        refine wpR_nil ?_
        refine wpC_ret ?_
        exact ⟨.inl rfl, fun a ha => ⟨_, results_rep2 rfl ha rfl rfl, (0, 18), rfl, h⟩⟩
      · replace h := h.2 hc13
        refine wpC_skip ?_
        refine wpC_seq ?_
        refine wpC_cut (fun ρ => ρ 0 = (Sl.v p0) ∧ ρ 1 = (Value.int .i64 p1) ∧ True) ⟨e0, e1, trivial⟩ ?_
        rintro ρ ⟨e0, e1, -⟩
        refine wpC_region ?_
        refine wpR_val (v := (Sl.v p0)) (w' := w2) rfl rfl rfl (x_move (v := (Sl.v p0)) rfl e0) ?_
        refine wpR_val (v := (Value.int .i64 p1)) (w' := w2) rfl rfl rfl (x_move (v := (Value.int .i64 p1)) rfl e1) ?_
        obtain ⟨r14, w3, q14, h⟩ := h
        refine wpR_val (v := (Sl.v r14)) (w' := w3) rfl rfl rfl (x_sliceAt rfl rfl rfl (congrArg some rfl) rfl q14) ?_
        refine wpR_enter rfl rfl rfl (x_call (vs := [(Sl.v r14), (Value.int .i64 0)]) rfl rfl (mapl_cons rfl (mapl_cons rfl mapl_nil)) Try.func21 NN_21 NB_21) (Calls.mono h ?_)
        rintro _ w4 ⟨r15, rfl, h⟩
        refine ⟨_, rfl, ?_⟩
        refine wpR_val (v := (Value.int .i64 r15)) (w' := w4) rfl rfl rfl (x_assign (v := (Value.int .i64 r15)) rfl rfl) ?_
        refine wpR_val (v := (Value.int .i64 0)) (w' := w4) rfl rfl rfl (x_assign (v := (Value.int .i64 0)) rfl rfl) ?_
        refine wpR_nil ?_
        refine wpC_ret ?_
        exact ⟨.inl rfl, fun a ha => ⟨_, results_rep2 rfl ha rfl rfl, (r15, 0), rfl, h⟩⟩

/-- linguaref06.Join -/
def F11 (p0 : Sl) (p1 : Int) (w0 : World) (K : (Int × Int) → World → Prop) : Prop :=
  callC Try.prog 22 #[(Sl.v p0), (Value.int .i64 p1)] (fun (r : Int) => (Value.int .i64 r)) w0 fun r9 w1 =>
  cnd (!decide (r9 = 0))
    (
    K (0, r9) w1
    )
    (
    cnd (decide ((p0.len : Int) < p1))
      (
      K (0, 20) w1
      )
      (
      callC Try.prog 23 #[(Sl.v p0), (Value.int .i64 p1)] (fun (r : Int × Bool) => (Value.tuple #[(Value.int .i64 r.1), (Value.bool r.2)])) w1 fun r12 w2 =>
      cnd (!r12.2)
        (
        K (0, 18) w2
        )
        (
        K (r12.1, 0) w2
        )
      )
    )
set_option maxRecDepth 100000 in
theorem D11 (p0 : Sl) (p1 : Int) (w0 : World) (K : (Int × Int) → World → Prop) (h : F11 p0 p1 w0 K) : callC Try.prog 11 #[(Sl.v p0), (Value.int .i64 p1)] (fun (r : Int × Int) => (Value.tuple #[(Value.int .i64 r.1), (Value.int .i64 r.2)])) w0 K := by
  unfold F11 at h
  refine calls_of_wpC Try.func11 rfl 28 rfl (by simp) ?_
  intro ρ hρ
  have e0 : ρ 0 = (Sl.v p0) := hρ 0
  have e1 : ρ 1 = (Value.int .i64 p1) := hρ 1
  clear hρ
  refine wpC_seq ?_
  refine wpC_region ?_
  refine wpR_val (v := (Value.int .i64 0)) (w' := w0) rfl rfl rfl (x_assign (v := (Value.int .i64 0)) rfl rfl) ?_
  refine wpR_val (v := (Value.int .i64 0)) (w' := w0) rfl rfl rfl (x_assign (v := (Value.int .i64 0)) rfl rfl) ?_
  refine wpR_nil ?_
  refine wpC_seq ?_
  refine wpC_cut (fun ρ => ρ 0 = (Sl.v p0) ∧ ρ 1 = (Value.int .i64 p1) ∧ True) ⟨e0, e1, trivial⟩ ?_
  rintro ρ ⟨e0, e1, -⟩
  refine wpC_region ?_
  refine wpR_val (v := (Sl.v p0)) (w' := w0) rfl rfl rfl (x_move (v := (Sl.v p0)) rfl e0) ?_
  refine wpR_val (v := (Value.int .i64 p1)) (w' := w0) rfl rfl rfl (x_move (v := (Value.int .i64 p1)) rfl e1) ?_
  refine wpR_enter rfl rfl rfl (x_call (vs := [(Sl.v p0), (Value.int .i64 p1)]) rfl rfl (mapl_cons rfl (mapl_cons rfl mapl_nil)) Try.func22 NN_22 NB_22) (Calls.mono h ?_)
  rintro _ w1 ⟨r9, rfl, h⟩
  refine ⟨_, rfl, ?_⟩
  refine wpR_val (v := (Value.int .i64 r9)) (w' := w1) rfl rfl rfl (x_assign (v := (Value.int .i64 r9)) rfl rfl) ?_
  refine wpR_nil ?_
  refine wpC_seq ?_
  refine wpC_seq ?_
  refine wpC_cut (fun ρ => ρ 0 = (Sl.v p0) ∧ ρ 1 = (Value.int .i64 p1) ∧ ρ 6 = (Value.int .i64 r9) ∧ True) ⟨e0, e1, rfl, trivial⟩ ?_
  rintro ρ ⟨e0, e1, e6, -⟩
  refine wpC_region ?_
  refine wpR_val (v := (Value.int .i64 r9)) (w' := w1) rfl rfl rfl (x_move (v := (Value.int .i64 r9)) rfl e6) ?_
  refine wpR_val (v := (Value.bool (!decide (r9 = 0)))) (w' := w1) rfl rfl rfl (x_neq rfl rfl rfl) ?_
  refine wpR_nil ?_
  refine wpC_cond (b := !decide (r9 = 0)) rfl (fun hc10 => ?_) (fun hc10 => ?_)
  · replace h := h.1 hc10
    refine wpC_seq ?_
    refine wpC_cut (fun ρ => ρ 6 = (Value.int .i64 r9) ∧ True) ⟨e6, trivial⟩ ?_
    rintro ρ ⟨e6, -⟩
    refine wpC_region ?_
    refine wpR_val (v := (Value.int .i64 r9)) (w' := w1) rfl rfl rfl (x_move (v := (Value.int .i64 r9)) rfl e6) ?_
    refine wpR_val (v := (Value.int .i64 0)) (w' := w1) rfl rfl rfl (x_assign (v := (Value.int .i64 0)) rfl rfl) ?_
    refine wpR_val (v := (Value.int .i64 r9)) (w' := w1) rfl rfl rfl (x_assign (v := (Value.int .i64 r9)) rfl rfl) ?_
    refine wpR_nil ?_
    refine wpC_ret ?_
    exact ⟨.inl rfl, fun a ha => ⟨_, results_rep2 rfl ha rfl rfl, (0, r9), rfl, h⟩⟩
  · replace h := h.2 hc10
    refine wpC_skip ?_
    refine wpC_seq ?_
    refine wpC_seq ?_
    refine wpC_cut (fun ρ => ρ 0 = (Sl.v p0) ∧ ρ 1 = (Value.int .i64 p1) ∧ True) ⟨e0, e1, trivial⟩ ?_
    rintro ρ ⟨e0, e1, -⟩
    refine wpC_region ?_
    refine wpR_val (v := (Sl.v p0)) (w' := w1) rfl rfl rfl (x_move (v := (Sl.v p0)) rfl e0) ?_
    refine wpR_val (v := (Value.int .i64 (p0.len : Int))) (w' := w1) rfl rfl rfl (x_lenS (s := p0) rfl rfl isSliceT_22) ?_
    refine wpR_val (v := (Value.int .i64 p1)) (w' := w1) rfl rfl rfl (x_move (v := (Value.int .i64 p1)) rfl e1) ?_
    refine wpR_val (v := (Value.bool (decide ((p0.len : Int) < p1)))) (w' := w1) rfl rfl rfl (x_lss rfl rfl rfl) ?_
    refine wpR_nil ?_
    refine wpC_cond (b := decide ((p0.len : Int) < p1)) rfl (fun hc11 => ?_) (fun hc11 => ?_)
    · replace h := h.1 hc11
      refine wpC_seq ?_
      refine wpC_cut (fun ρ => True) trivial ?_
      rintro ρ -
      refine wpC_region ?_
      refine wpR_val (v := (Value.int .i64 0)) (w' := w1) rfl rfl rfl (x_assign (v := (Value.int .i64 0)) rfl rfl) ?_
      refine wpR_val (v := (Value.int .i64 20)) (w' := w1) rfl rfl rfl (x_assign (v := (Value.int .i64 20)) rfl rfl) ?_
      refine wpR_nil ?_
      refine wpC_ret ?_
      exact ⟨.inl rfl, fun a ha => ⟨_, results_rep2 rfl ha rfl rfl, (0, 20), rfl, h⟩⟩
    · replace h := h.2 hc11
      refine wpC_skip ?_
      refine wpC_seq ?_
      refine wpC_cut (fun ρ => ρ 0 = (Sl.v p0) ∧ ρ 1 = (Value.int .i64 p1) ∧ True) ⟨e0, e1, trivial⟩ ?_
      rintro ρ ⟨e0, e1, -⟩
      refine wpC_region ?_
      refine wpR_val (v := (Sl.v p0)) (w' := w1) rfl rfl rfl (x_move (v := (Sl.v p0)) rfl e0) ?_
      refine wpR_val (v := (Value.int .i64 p1)) (w' := w1) rfl rfl rfl (x_move (v := (Value.int .i64 p1)) rfl e1) ?_
      refine wpR_enter rfl rfl rfl (x_call (vs := [(Sl.v p0), (Value.int .i64 p1)]) rfl rfl (mapl_cons rfl (mapl_cons rfl mapl_nil)) Try.func23 NN_23 NB_23) (Calls.mono h ?_)
      rintro _ w2 ⟨r12, rfl, h⟩
      refine ⟨_, rfl, ?_⟩
      refine wpR_val (v := (Value.tuple #[(Value.int .i64 r12.1), (Value.bool r12.2)])) (w' := w2) rfl rfl rfl (x_move (v := (Value.tuple #[(Value.int .i64 r12.1), (Value.bool r12.2)])) rfl rfl) ?_
      refine wpR_val (v := (Value.int .i64 r12.1)) (w' := w2) rfl rfl rfl (x_extract rfl rfl rfl) ?_
      refine wpR_val (v := (Value.bool r12.2)) (w' := w2) rfl rfl rfl (x_extract rfl rfl rfl) ?_
      refine wpR_val (v := (Value.int .i64 r12.1)) (w' := w2) rfl rfl rfl (x_assign (v := (Value.int .i64 r12.1)) rfl rfl) ?_
      refine wpR_val (v := (Value.bool r12.2)) (w' := w2) rfl rfl rfl (x_assign (v := (Value.bool r12.2)) rfl rfl) ?_
      refine wpR_nil ?_
      refine wpC_seq ?_
      refine wpC_seq ?_
      refine wpC_cut (fun ρ => ρ 7 = (Value.int .i64 r12.1) ∧ ρ 8 = (Value.bool r12.2) ∧ True) ⟨rfl, rfl, trivial⟩ ?_
      rintro ρ ⟨e7, e8, -⟩
      refine wpC_region ?_
      refine wpR_val (v := (Value.bool r12.2)) (w' := w2) rfl rfl rfl (x_move (v := (Value.bool r12.2)) rfl e8) ?_
      refine wpR_val (v := (Value.bool (!r12.2))) (w' := w2) rfl rfl rfl (x_not rfl rfl) ?_
      refine wpR_nil ?_
      refine wpC_cond (b := !r12.2) rfl (fun hc13 => ?_) (fun hc13 => ?_)
      · replace h := h.1 hc13
        refine wpC_seq ?_
        refine wpC_cut (fun ρ => True) trivial ?_
        rintro ρ -
        refine wpC_region ?_
        refine wpR_val (v := (Value.int .i64 0)) (w' := w2) rfl rfl rfl (x_assign (v := (Value.int .i64 0)) rfl rfl) ?_
        refine wpR_val (v := (Value.int .i64 18)) (w' := w2) rfl rfl rfl (x_assign (v := (Value.int .i64 18)) rfl rfl) ?_
        refine wpR_nil ?_
        refine wpC_ret ?_
        exact ⟨.inl rfl, fun a ha => ⟨_, results_rep2 rfl ha rfl rfl, (0, 18), rfl, h⟩⟩
      · replace h := h.2 hc13
        refine wpC_skip ?_
        refine wpC_seq ?_
        refine wpC_cut (fun ρ => ρ 7 = (Value.int .i64 r12.1) ∧ True) ⟨e7, trivial⟩ ?_
        rintro ρ ⟨e7, -⟩
        refine wpC_region ?_
        refine wpR_val (v := (Value.int .i64 r12.1)) (w' := w2) rfl rfl rfl (x_move (v := (Value.int .i64 r12.1)) rfl e7) ?_
        refine wpR_val (v := (Value.int .i64 r12.1)) (w' := w2) rfl rfl rfl (x_assign (v := (Value.int .i64 r12.1)) rfl rfl) ?_
        refine wpR_val (v := (Value.int .i64 0)) (w' := w2) rfl rfl rfl (x_assign (v := (Value.int .i64 0)) rfl rfl) ?_
        refine wpR_nil ?_
        refine wpC_ret ?_
        exact ⟨.inl rfl, fun a ha => ⟨_, results_rep2 rfl ha rfl rfl, (r12.1, 0), rfl, h⟩⟩

/-- linguaref06.Same -/
def F12 (p0 : Sl) (p1 : Sl) (w0 : World) (K : Bool → World → Prop) : Prop :=
  cnd (!decide ((p0.len : Int) = (p1.len : Int)))
    (
    K false w0
    )
    (
    lp (fun (next10 : Int → World → Prop) l10 w1 =>
      cnd (decide (l10 < (p0.len : Int)))
        (
        jn (fun (J13 : Bool → World → Prop) => tk w1 fun w2 =>
          ix p0 l10 2 fun p14 =>
          ld (Value.int .i64) (p14.add 0) w2 fun x15 =>
          ld (Value.int .i64) (p14.add 1) w2 fun x16 =>
          ix p1 l10 2 fun p17 =>
          ld (Value.int .i64) (p17.add 0) w2 fun x18 =>
          ld (Value.int .i64) (p17.add 1) w2 fun x19 =>
          J13 (!(decide (x15 = x18) && (decide (x16 = x19) && true))) w2
        )
        fun l20 w3 =>
        cnd (l20)
          (
          K false w3
          )
          (
          next10 (IntKind.i64.wrap (l10 + 1)) w3
          )
        )
        (
        K true w1
        )
    ) 0 w0
    )
set_option maxRecDepth 100000 in
theorem D12 (p0 : Sl) (p1 : Sl) (w0 : World) (K : Bool → World → Prop) (h : F12 p0 p1 w0 K) : callC Try.prog 12 #[(Sl.v p0), (Sl.v p1)] (fun (r : Bool) => (Value.bool r)) w0 K := by
  unfold F12 at h
  refine calls_of_wpC Try.func12 rfl 26 rfl (by simp) ?_
  intro ρ hρ
  have e0 : ρ 0 = (Sl.v p0) := hρ 0
  have e1 : ρ 1 = (Sl.v p1) := hρ 1
  clear hρ
  refine wpC_seq ?_
  refine wpC_region ?_
  refine wpR_val (v := (Value.bool false)) (w' := w0) rfl rfl rfl (x_assign (v := (Value.bool false)) rfl rfl) ?_
  refine wpR_nil ?_
  refine wpC_seq ?_
  refine wpC_seq ?_
  refine wpC_cut (fun ρ => ρ 0 = (Sl.v p0) ∧ ρ 1 = (Sl.v p1) ∧ True) ⟨e0, e1, trivial⟩ ?_
  rintro ρ ⟨e0, e1, -⟩
  refine wpC_region ?_
  refine wpR_val (v := (Sl.v p0)) (w' := w0) rfl rfl rfl (x_move (v := (Sl.v p0)) rfl e0) ?_
  refine wpR_val (v := (Value.int .i64 (p0.len : Int))) (w' := w0) rfl rfl rfl (x_lenS (s := p0) rfl rfl isSliceT_22) ?_
  refine wpR_val (v := (Sl.v p1)) (w' := w0) rfl rfl rfl (x_move (v := (Sl.v p1)) rfl e1) ?_
  refine wpR_val (v := (Value.int .i64 (p1.len : Int))) (w' := w0) rfl rfl rfl (x_lenS (s := p1) rfl rfl isSliceT_22) ?_
  refine wpR_val (v := (Value.bool (!decide ((p0.len : Int) = (p1.len : Int))))) (w' := w0) rfl rfl rfl (x_neq rfl rfl rfl) ?_
  refine wpR_nil ?_
  refine wpC_cond (b := !decide ((p0.len : Int) = (p1.len : Int))) rfl (fun hc9 => ?_) (fun hc9 => ?_)
  · replace h := h.1 hc9
    refine wpC_seq ?_
    refine wpC_cut (fun ρ => True) trivial ?_
    rintro ρ -
    refine wpC_region ?_
    refine wpR_val (v := (Value.bool false)) (w' := w0) rfl rfl rfl (x_assign (v := (Value.bool false)) rfl rfl) ?_
    refine wpR_nil ?_
    refine wpC_ret ?_
    exact ⟨.inl rfl, fun a ha => ⟨_, results_rep1 rfl ha rfl, false, rfl, h⟩⟩
  · replace h := h.2 hc9
    refine wpC_skip ?_
    refine wpC_seq ?_
    refine wpC_seq ?_
    refine wpC_cut (fun ρ => ρ 0 = (Sl.v p0) ∧ ρ 1 = (Sl.v p1) ∧ True) ⟨e0, e1, trivial⟩ ?_
    rintro ρ ⟨e0, e1, -⟩
    refine wpC_region ?_
    refine wpR_val (v := (Value.int .i64 0)) (w' := w0) rfl rfl rfl (x_assign (v := (Value.int .i64 0)) rfl rfl) ?_
    refine wpR_nil ?_
    refine wpC_block ?_
    obtain ⟨I10, μ10, hI10, hr10⟩ := h
    refine wpC_loop (fun (x : Int) ρ => ρ 5 = (Value.int .i64 x) ∧ ρ 0 = (Sl.v p0) ∧ ρ 1 = (Sl.v p1) ∧ True) I10 μ10 0 ⟨rfl, e0, e1, trivial⟩ hI10 ?_
    rintro l10 ρ w1 ⟨e5, e0, e1, -⟩ h
    replace h := hr10 l10 w1 h
    clear hr10 hI10
    refine wpC_seq ?_
    refine wpC_seq ?_
    refine wpC_region ?_
    refine wpR_val (v := (Value.int .i64 l10)) (w' := w1) rfl rfl rfl (x_move (v := (Value.int .i64 l10)) rfl e5) ?_
    refine wpR_val (v := (Sl.v p0)) (w' := w1) rfl rfl rfl (x_move (v := (Sl.v p0)) rfl e0) ?_
    refine wpR_val (v := (Value.int .i64 (p0.len : Int))) (w' := w1) rfl rfl rfl (x_lenS (s := p0) rfl rfl isSliceT_22) ?_
    refine wpR_val (v := (Value.bool (decide (l10 < (p0.len : Int))))) (w' := w1) rfl rfl rfl (x_lss rfl rfl rfl) ?_
    refine wpR_nil ?_
    refine wpC_cond (b := decide (l10 < (p0.len : Int))) rfl (fun hc11 => ?_) (fun hc11 => ?_)
    · replace h := h.1 hc11
      refine wpC_skip ?_
      refine wpC_seq ?_
      refine wpC_block ?_
      refine wpC_seq ?_
      refine wpC_cut (fun ρ => ρ 0 = (Sl.v p0) ∧ ρ 1 = (Sl.v p1) ∧ ρ 5 = (Value.int .i64 l10) ∧ True) ⟨e0, e1, e5, trivial⟩ ?_
      rintro ρ ⟨e0, e1, e5, -⟩
      obtain ⟨J13, h, hk⟩ := h
      refine wpC_drawJ (by kernel_rfl) (fun (x : Bool) ρ => ρ 25 = (Value.bool x) ∧ ρ 0 = (Sl.v p0) ∧ ρ 1 = (Sl.v p1) ∧ ρ 5 = (Value.int .i64 l10) ∧ True) J13 ?_ ?_
      · clear hk
        unfold tk at h
        generalize w1.drew = w2 at h ⊢
        refine wpD_take (v := (Sl.v p0)) 0 (fun _ => True) rfl (by kernel_rfl) (by kernel_rfl) (by kernel_rfl) rfl rfl rfl trivial (fun w _ => (x_move (v := (Sl.v p0)) rfl e0)) ?_
        refine wpD_take (v := (Value.int .i64 l10)) 1 (fun _ => True) rfl (by kernel_rfl) (by kernel_rfl) (by kernel_rfl) rfl rfl rfl trivial (fun w _ => (x_move (v := (Value.int .i64 l10)) rfl e5)) ?_
        obtain ⟨q14, z14, r14, h⟩ := h
        generalize hp14 : z14.add ((l10 : Int).toNat * 2) = p14 at h
        refine wpD_take (v := (Value.pointer (some p14))) 2 (fun _ => True) rfl (by kernel_rfl) (by kernel_rfl) (by kernel_rfl) rfl rfl rfl trivial (fun w _ => ((x_indexAddr (s := p0) rfl rfl rfl ES_22 q14 r14).trans (by rw [hp14]))) ?_
        obtain ⟨x15, q15, x16, q16, h⟩ := h
        refine wpD_take (v := (Value.agg #[(Value.int .i64 x15), (Value.int .i64 x16)])) 3 (fun w => w.cell? (p14.add 0) = some (Value.int .i64 x15) ∧ w.cell? (p14.add 1) = some (Value.int .i64 x16)) rfl (by kernel_rfl) (by kernel_rfl) (by kernel_rfl) rfl rfl rfl ⟨q15, q16⟩ (fun w ⟨q15, q16⟩ => (x_loadN [(Value.int .i64 x15), (Value.int .i64 x16)] rfl rfl SH_39 (CellsAt.out (CellsAt.cons q15 (CellsAt.cons q16 CellsAt.nil))))) ?_
        refine wpD_take (v := (Sl.v p1)) 4 (fun _ => True) rfl (by kernel_rfl) (by kernel_rfl) (by kernel_rfl) rfl rfl rfl trivial (fun w _ => (x_move (v := (Sl.v p1)) rfl e1)) ?_
        refine wpD_take (v := (Value.int .i64 l10)) 5 (fun _ => True) rfl (by kernel_rfl) (by kernel_rfl) (by kernel_rfl) rfl rfl rfl trivial (fun w _ => (x_move (v := (Value.int .i64 l10)) rfl e5)) ?_
        obtain ⟨q17, z17, r17, h⟩ := h
        generalize hp17 : z17.add ((l10 : Int).toNat * 2) = p17 at h
        refine wpD_take (v := (Value.pointer (some p17))) 6 (fun _ => True) rfl (by kernel_rfl) (by kernel_rfl) (by kernel_rfl) rfl rfl rfl trivial (fun w _ => ((x_indexAddr (s := p1) rfl rfl rfl ES_22 q17 r17).trans (by rw [hp17]))) ?_
        obtain ⟨x18, q18, x19, q19, h⟩ := h
        refine wpD_take (v := (Value.agg #[(Value.int .i64 x18), (Value.int .i64 x19)])) 7 (fun w => w.cell? (p17.add 0) = some (Value.int .i64 x18) ∧ w.cell? (p17.add 1) = some (Value.int .i64 x19)) rfl (by kernel_rfl) (by kernel_rfl) (by kernel_rfl) rfl rfl rfl ⟨q18, q19⟩ (fun w ⟨q18, q19⟩ => (x_loadN [(Value.int .i64 x18), (Value.int .i64 x19)] rfl rfl SH_39 (CellsAt.out (CellsAt.cons q18 (CellsAt.cons q19 CellsAt.nil))))) ?_
        refine wpD_take (v := (Value.bool (!(decide (x15 = x18) && (decide (x16 = x19) && true))))) 8 (fun _ => True) rfl (by kernel_rfl) (by kernel_rfl) (by kernel_rfl) rfl rfl rfl trivial (fun w _ => (x_neqA rfl rfl rfl EQ1_39 EQ2_39 EQ3_39 (EQ_39 x15 x16 x18 x19))) ?_
        exact wpD_done (by kernel_rfl) ⟨!(decide (x15 = x18) && (decide (x16 = x19) && true)), ⟨rfl, e0, e1, e5, trivial⟩, h⟩
      clear h
      rintro l20 ρ w3 ⟨e25, e0, e1, e5, -⟩ h
      replace h := hk l20 w3 h
      clear hk
      refine wpC_cond (b := l20) e25 (fun hc21 => ?_) (fun hc21 => ?_)
      · replace h := h.1 hc21
        refine wpC_seq ?_
        refine wpC_region ?_
        refine wpR_val (v := (Value.bool false)) (w' := w3) rfl rfl rfl (x_assign (v := (Value.bool false)) rfl rfl) ?_
        refine wpR_nil ?_
        refine wpC_ret ?_
        exact ⟨.inl rfl, fun a ha => ⟨_, results_rep1 rfl ha rfl, false, rfl, h⟩⟩
      · replace h := h.2 hc21
        refine wpC_skip ?_
        refine wpC_region ?_
        refine wpR_val (v := (Value.int .i64 l10)) (w' := w3) rfl rfl rfl (x_move (v := (Value.int .i64 l10)) rfl e5) ?_
        refine wpR_val (v := (Value.int .i64 (IntKind.i64.wrap (l10 + 1)))) (w' := w3) rfl rfl rfl (x_add rfl rfl rfl) ?_
        refine wpR_val (v := (Value.int .i64 (IntKind.i64.wrap (l10 + 1)))) (w' := w3) rfl rfl rfl (x_assign (v := (Value.int .i64 (IntKind.i64.wrap (l10 + 1)))) rfl rfl) ?_
        refine wpR_nil ?_
        exact ⟨IntKind.i64.wrap (l10 + 1), ⟨rfl, e0, e1, trivial⟩, h⟩
    · replace h := h.2 hc11
      refine wpC_exit ?_
      refine wpC_seq ?_
      refine wpC_cut (fun ρ => True) trivial ?_
      rintro ρ -
      refine wpC_region ?_
      refine wpR_val (v := (Value.bool true)) (w' := w1) rfl rfl rfl (x_assign (v := (Value.bool true)) rfl rfl) ?_
      refine wpR_nil ?_
      refine wpC_ret ?_
      exact ⟨.inl rfl, fun a ha => ⟨_, results_rep1 rfl ha rfl, true, rfl, h⟩⟩

/-- share.Fits -/
def F13 (p0 : Sl) (p1 : Int) (p2 : Int) (w0 : World) (K : Bool → World → Prop) : Prop :=
  callC Try.prog 19 #[(Sl.v p0), (Value.int .i64 p1)] (fun (r : Int) => (Value.int .i64 r)) w0 fun r9 w1 =>
  jn (fun J10 => cnd (!decide (r9 = 0))
    (
    J10 true w1
    )
    (
    callC Try.prog 18 #[(Value.int .i64 p2)] (fun (r : Bool) => (Value.bool r)) w1 fun r12 w2 =>
    J10 (!r12) w2
    ))
  fun c13 w3 =>
  cnd (c13)
    (
    K false w3
    )
    (
    nw 39 #[(Value.int .i64 0), (Value.int .i64 p2)] w3 fun b15 w4 =>
    rn Try.prog (Builtin.append_ #[22, 22] 22 #[Sl.v (⟨some ⟨b15, 0, none⟩, 1, 1⟩ : Sl), Sl.v p0]) Sl.v w4 fun r16 w5 =>
    callC Try.prog 20 #[(Sl.v r16), (Value.int .i64 p1)] (fun (r : Bool) => (Value.bool r)) w5 fun r17 w6 =>
    K r17 w6
    )
set_option maxRecDepth 100000 in
theorem D13 (p0 : Sl) (p1 : Int) (p2 : Int) (w0 : World) (K : Bool → World → Prop) (h : F13 p0 p1 p2 w0 K) : callC Try.prog 13 #[(Sl.v p0), (Value.int .i64 p1), (Value.int .i64 p2)] (fun (r : Bool) => (Value.bool r)) w0 K := by
  unfold F13 at h
  refine calls_of_wpC Try.func13 rfl 23 rfl (by simp) ?_
  intro ρ hρ
  have e0 : ρ 0 = (Sl.v p0) := hρ 0
  have e1 : ρ 1 = (Value.int .i64 p1) := hρ 1
  have e2 : ρ 2 = (Value.int .i64 p2) := hρ 2
  clear hρ
  refine wpC_seq ?_
  refine wpC_region ?_
  refine wpR_val (v := (Value.bool false)) (w' := w0) rfl rfl rfl (x_assign (v := (Value.bool false)) rfl rfl) ?_
  refine wpR_nil ?_
  refine wpC_seq ?_
  refine wpC_seq ?_
  refine wpC_cut (fun ρ => ρ 0 = (Sl.v p0) ∧ ρ 1 = (Value.int .i64 p1) ∧ ρ 2 = (Value.int .i64 p2) ∧ True) ⟨e0, e1, e2, trivial⟩ ?_
  rintro ρ ⟨e0, e1, e2, -⟩
  refine wpC_region ?_
  refine wpR_val (v := (Sl.v p0)) (w' := w0) rfl rfl rfl (x_move (v := (Sl.v p0)) rfl e0) ?_
  refine wpR_val (v := (Value.int .i64 p1)) (w' := w0) rfl rfl rfl (x_move (v := (Value.int .i64 p1)) rfl e1) ?_
  refine wpR_enter rfl rfl rfl (x_call (vs := [(Sl.v p0), (Value.int .i64 p1)]) rfl rfl (mapl_cons rfl (mapl_cons rfl mapl_nil)) Try.func19 NN_19 NB_19) (Calls.mono h ?_)
  rintro _ w1 ⟨r9, rfl, h⟩
  refine ⟨_, rfl, ?_⟩
  refine wpR_val (v := (Value.bool (!decide (r9 = 0)))) (w' := w1) rfl rfl rfl (x_neq rfl rfl rfl) ?_
  refine wpR_val (v := (Value.bool (!decide (r9 = 0)))) (w' := w1) rfl rfl rfl (x_move (v := (Value.bool (!decide (r9 = 0)))) rfl rfl) ?_
  obtain ⟨J10, h, hk⟩ := h
  refine wpR_joinJ 4 (fun x ρ => ρ 15 = Value.bool x ∧ ρ 0 = (Sl.v p0) ∧ ρ 1 = (Value.int .i64 p1) ∧ ρ 2 = (Value.int .i64 p2) ∧ True) (J10) ?_ ?_
  · clear hk
    rcases Bool.eq_false_or_eq_true (!decide (r9 = 0)) with hc11 | hc11
    · replace h := h.1 hc11
      refine wpR_pass (wantN rfl rfl rfl hc11) rfl rfl ?_
      refine wpR_pass (wantN rfl rfl rfl hc11) rfl rfl ?_
      refine wpR_pass (wantN rfl rfl rfl hc11) rfl rfl ?_
      refine wpR_val (v := (Value.bool true)) (w' := w1) rfl rfl rfl (x_pickT (v := (Value.bool true)) rfl rfl hc11 rfl) ?_
      refine wpR_nil ?_
      exact ⟨true, ⟨rfl, e0, e1, e2, trivial⟩, h⟩
    · replace h := h.2 hc11
      refine wpR_val (v := (Value.int .i64 p2)) (w' := w1) (wantG rfl rfl rfl hc11) rfl rfl (x_move (v := (Value.int .i64 p2)) rfl e2) ?_
      refine wpR_enter (wantG rfl rfl rfl hc11) rfl rfl (x_call (vs := [(Value.int .i64 p2)]) rfl rfl (mapl_cons rfl mapl_nil) Try.func18 NN_18 NB_18) (Calls.mono h ?_)
      rintro _ w2 ⟨r12, rfl, h⟩
      refine ⟨_, rfl, ?_⟩
      refine wpR_val (v := (Value.bool (!r12))) (w' := w2) (wantG rfl rfl rfl hc11) rfl rfl (x_not rfl rfl) ?_
      refine wpR_val (v := (Value.bool (!r12))) (w' := w2) rfl rfl rfl (x_pickF (v := (Value.bool (!r12))) rfl rfl hc11 rfl) ?_
      refine wpR_nil ?_
      exact ⟨!r12, ⟨rfl, e0, e1, e2, trivial⟩, h⟩
  clear h
  rintro c13 ρ w3 ⟨e15, e0, e1, e2, -⟩ h
  replace h := hk c13 w3 h
  clear hk
  refine wpR_nil ?_
  refine wpC_cond (b := c13) e15 (fun hc14 => ?_) (fun hc14 => ?_)
  · replace h := h.1 hc14
    refine wpC_seq ?_
    refine wpC_region ?_
    refine wpR_val (v := (Value.bool false)) (w' := w3) rfl rfl rfl (x_assign (v := (Value.bool false)) rfl rfl) ?_
    refine wpR_nil ?_
    refine wpC_ret ?_
    exact ⟨.inl rfl, fun a ha => ⟨_, results_rep1 rfl ha rfl, false, rfl, h⟩⟩
  · replace h := h.2 hc14
    refine wpC_skip ?_
    refine wpC_seq ?_
    refine wpC_region ?_
    refine wpR_val (v := (Value.int .i64 p2)) (w' := w3) rfl rfl rfl (x_move (v := (Value.int .i64 p2)) rfl e2) ?_
    refine wpR_val (v := (Value.agg #[(Value.int .i64 0), (Value.int .i64 p2)])) (w' := w3) rfl rfl rfl (x_build (qs := [(0, (Value.int .i64 0)), (1, (Value.int .i64 p2))]) rfl (by rfl) (BD_39_0_1 0 p2 _)) ?_
    obtain ⟨b15, hb15⟩ : ∃ u, u = w3.heap.size := ⟨_, rfl⟩
    obtain ⟨w4, hw15⟩ : ∃ u, u = w3.alloc (.cells #[(Value.int .i64 0), (Value.int .i64 p2)] 39) := ⟨_, rfl⟩
    replace h := h b15 w4 hb15 hw15
    refine wpR_val (v := (Sl.v (⟨some ⟨b15, 0, none⟩, 1, 1⟩ : Sl))) (w' := w4) rfl rfl rfl ((x_buildSlice (qs := [(0, (Value.agg #[(Value.int .i64 0), (Value.int .i64 p2)]))]) rfl (by rfl) (BS_22_1_0 0 p2)).trans (by rw [← hb15, ← hw15])) ?_
    refine wpR_val (v := (Sl.v p0)) (w' := w4) rfl rfl rfl (x_move (v := (Sl.v p0)) rfl e0) ?_
    obtain ⟨r16, w5, q16, h⟩ := h
    refine wpR_val (v := (Sl.v r16)) (w' := w5) rfl rfl rfl (x_append (s := (⟨some ⟨b15, 0, none⟩, 1, 1⟩ : Sl)) (u := p0) rfl rfl rfl rfl q16) ?_
    refine wpR_val (v := (Value.int .i64 p1)) (w' := w5) rfl rfl rfl (x_move (v := (Value.int .i64 p1)) rfl e1) ?_
    refine wpR_enter rfl rfl rfl (x_call (vs := [(Sl.v r16), (Value.int .i64 p1)]) rfl rfl (mapl_cons rfl (mapl_cons rfl mapl_nil)) Try.func20 NN_20 NB_20) (Calls.mono h ?_)
    rintro _ w6 ⟨r17, rfl, h⟩
    refine ⟨_, rfl, ?_⟩
    refine wpR_val (v := (Value.bool r17)) (w' := w6) rfl rfl rfl (x_assign (v := (Value.bool r17)) rfl rfl) ?_
    refine wpR_nil ?_
    refine wpC_ret ?_
    exact ⟨.inl rfl, fun a ha => ⟨_, results_rep1 rfl ha rfl, r17, rfl, h⟩⟩

/-- linguaref06.Fits -/
def F14 (p0 : Sl) (p1 : Int) (p2 : Int) (w0 : World) (K : Bool → World → Prop) : Prop :=
  callC Try.prog 22 #[(Sl.v p0), (Value.int .i64 p1)] (fun (r : Int) => (Value.int .i64 r)) w0 fun r9 w1 =>
  cnd (((!decide (r9 = 0)) || (decide (p2 < 0))) || (decide (2147483647 ≤ p2)))
    (
    K false w1
    )
    (
    nw 39 #[(Value.int .i64 0), (Value.int .i64 p2)] w1 fun b15 w2 =>
    rn Try.prog (Builtin.append_ #[22, 22] 22 #[Sl.v (⟨some ⟨b15, 0, none⟩, 1, 1⟩ : Sl), Sl.v p0]) Sl.v w2 fun r16 w3 =>
    callC Try.prog 23 #[(Sl.v r16), (Value.int .i64 p1)] (fun (r : Int × Bool) => (Value.tuple #[(Value.int .i64 r.1), (Value.bool r.2)])) w3 fun r17 w4 =>
    K r17.2 w4
    )
set_option maxRecDepth 100000 in
theorem D14 (p0 : Sl) (p1 : Int) (p2 : Int) (w0 : World) (K : Bool → World → Prop) (h : F14 p0 p1 p2 w0 K) : callC Try.prog 14 #[(Sl.v p0), (Value.int .i64 p1), (Value.int .i64 p2)] (fun (r : Bool) => (Value.bool r)) w0 K := by
  unfold F14 at h
  refine calls_of_wpC Try.func14 rfl 32 rfl (by simp) ?_
  intro ρ hρ
  have e0 : ρ 0 = (Sl.v p0) := hρ 0
  have e1 : ρ 1 = (Value.int .i64 p1) := hρ 1
  have e2 : ρ 2 = (Value.int .i64 p2) := hρ 2
  clear hρ
  refine wpC_seq ?_
  refine wpC_region ?_
  refine wpR_val (v := (Value.bool false)) (w' := w0) rfl rfl rfl (x_assign (v := (Value.bool false)) rfl rfl) ?_
  refine wpR_nil ?_
  refine wpC_seq ?_
  refine wpC_seq ?_
  refine wpC_cut (fun ρ => ρ 0 = (Sl.v p0) ∧ ρ 1 = (Value.int .i64 p1) ∧ ρ 2 = (Value.int .i64 p2) ∧ True) ⟨e0, e1, e2, trivial⟩ ?_
  rintro ρ ⟨e0, e1, e2, -⟩
  refine wpC_region ?_
  refine wpR_val (v := (Sl.v p0)) (w' := w0) rfl rfl rfl (x_move (v := (Sl.v p0)) rfl e0) ?_
  refine wpR_val (v := (Value.int .i64 p1)) (w' := w0) rfl rfl rfl (x_move (v := (Value.int .i64 p1)) rfl e1) ?_
  refine wpR_enter rfl rfl rfl (x_call (vs := [(Sl.v p0), (Value.int .i64 p1)]) rfl rfl (mapl_cons rfl (mapl_cons rfl mapl_nil)) Try.func22 NN_22 NB_22) (Calls.mono h ?_)
  rintro _ w1 ⟨r9, rfl, h⟩
  refine ⟨_, rfl, ?_⟩
  refine wpR_val (v := (Value.bool (!decide (r9 = 0)))) (w' := w1) rfl rfl rfl (x_neq rfl rfl rfl) ?_
  refine wpR_val (v := (Value.bool (!decide (r9 = 0)))) (w' := w1) rfl rfl rfl (x_move (v := (Value.bool (!decide (r9 = 0)))) rfl rfl) ?_
  refine wpR_joinJ 3 (fun (_ : Unit) ρ => ρ 16 = Value.bool ((!decide (r9 = 0)) || (decide (p2 < 0))) ∧ ρ 0 = (Sl.v p0) ∧ ρ 1 = (Value.int .i64 p1) ∧ ρ 2 = (Value.int .i64 p2) ∧ True) (fun _ w => w1 = w) ?_ ?_
  · clear h
    rcases Bool.eq_false_or_eq_true (!decide (r9 = 0)) with hc11 | hc11
    · skip
      refine wpR_pass (wantN rfl rfl rfl hc11) rfl rfl ?_
      refine wpR_pass (wantN rfl rfl rfl hc11) rfl rfl ?_
      refine wpR_val (v := (Value.bool true)) (w' := w1) rfl rfl rfl (x_pickT (v := (Value.bool true)) rfl rfl hc11 rfl) ?_
      refine wpR_nil ?_
      exact ⟨(), ⟨(by rw [hc11]; rfl), e0, e1, e2, trivial⟩, rfl⟩
    · skip
      refine wpR_val (v := (Value.int .i64 p2)) (w' := w1) (wantG rfl rfl rfl hc11) rfl rfl (x_move (v := (Value.int .i64 p2)) rfl e2) ?_
      refine wpR_val (v := (Value.bool (decide (p2 < 0)))) (w' := w1) (wantG rfl rfl rfl hc11) rfl rfl (x_lss rfl rfl rfl) ?_
      refine wpR_val (v := (Value.bool (decide (p2 < 0)))) (w' := w1) rfl rfl rfl (x_pickF (v := (Value.bool (decide (p2 < 0)))) rfl rfl hc11 rfl) ?_
      refine wpR_nil ?_
      exact ⟨(), ⟨(by rw [hc11]; rfl), e0, e1, e2, trivial⟩, rfl⟩
  rintro _ ρ wj ⟨e16, e0, e1, e2, -⟩ rfl
  refine wpR_val (v := (Value.bool ((!decide (r9 = 0)) || (decide (p2 < 0))))) (w' := w1) rfl rfl rfl (x_move (v := (Value.bool ((!decide (r9 = 0)) || (decide (p2 < 0))))) rfl e16) ?_
  refine wpR_joinJ 3 (fun (_ : Unit) ρ => ρ 20 = Value.bool (((!decide (r9 = 0)) || (decide (p2 < 0))) || (decide (2147483647 ≤ p2))) ∧ ρ 0 = (Sl.v p0) ∧ ρ 1 = (Value.int .i64 p1) ∧ ρ 2 = (Value.int .i64 p2) ∧ True) (fun _ w => w1 = w) ?_ ?_
  · clear h
    rcases Bool.eq_false_or_eq_true ((!decide (r9 = 0)) || (decide (p2 < 0))) with hc13 | hc13
    · skip
      refine wpR_pass (wantN rfl rfl rfl hc13) rfl rfl ?_
      refine wpR_pass (wantN rfl rfl rfl hc13) rfl rfl ?_
      refine wpR_val (v := (Value.bool true)) (w' := w1) rfl rfl rfl (x_pickT (v := (Value.bool true)) rfl rfl hc13 rfl) ?_
      refine wpR_nil ?_
      exact ⟨(), ⟨(by rw [hc13]; rfl), e0, e1, e2, trivial⟩, rfl⟩
    · skip
      refine wpR_val (v := (Value.int .i64 p2)) (w' := w1) (wantG rfl rfl rfl hc13) rfl rfl (x_move (v := (Value.int .i64 p2)) rfl e2) ?_
      refine wpR_val (v := (Value.bool (decide (2147483647 ≤ p2)))) (w' := w1) (wantG rfl rfl rfl hc13) rfl rfl (x_geq rfl rfl rfl) ?_
      refine wpR_val (v := (Value.bool (decide (2147483647 ≤ p2)))) (w' := w1) rfl rfl rfl (x_pickF (v := (Value.bool (decide (2147483647 ≤ p2)))) rfl rfl hc13 rfl) ?_
      refine wpR_nil ?_
      exact ⟨(), ⟨(by rw [hc13]; rfl), e0, e1, e2, trivial⟩, rfl⟩
  rintro _ ρ wj ⟨e20, e0, e1, e2, -⟩ rfl
  refine wpR_nil ?_
  refine wpC_cond (b := ((!decide (r9 = 0)) || (decide (p2 < 0))) || (decide (2147483647 ≤ p2))) e20 (fun hc14 => ?_) (fun hc14 => ?_)
  · replace h := h.1 hc14
    refine wpC_seq ?_
    refine wpC_region ?_
    refine wpR_val (v := (Value.bool false)) (w' := w1) rfl rfl rfl (x_assign (v := (Value.bool false)) rfl rfl) ?_
    refine wpR_nil ?_
    refine wpC_ret ?_
    exact ⟨.inl rfl, fun a ha => ⟨_, results_rep1 rfl ha rfl, false, rfl, h⟩⟩
  · replace h := h.2 hc14
    refine wpC_skip ?_
    refine wpC_seq ?_
    refine wpC_region ?_
    refine wpR_val (v := (Value.int .i64 p2)) (w' := w1) rfl rfl rfl (x_move (v := (Value.int .i64 p2)) rfl e2) ?_
    refine wpR_val (v := (Value.agg #[(Value.int .i64 0), (Value.int .i64 p2)])) (w' := w1) rfl rfl rfl (x_build (qs := [(1, (Value.int .i64 p2))]) rfl (by rfl) (BD_39_1 p2 _)) ?_
    obtain ⟨b15, hb15⟩ : ∃ u, u = w1.heap.size := ⟨_, rfl⟩
    obtain ⟨w2, hw15⟩ : ∃ u, u = w1.alloc (.cells #[(Value.int .i64 0), (Value.int .i64 p2)] 39) := ⟨_, rfl⟩
    replace h := h b15 w2 hb15 hw15
    refine wpR_val (v := (Sl.v (⟨some ⟨b15, 0, none⟩, 1, 1⟩ : Sl))) (w' := w2) rfl rfl rfl ((x_buildSlice (qs := [(0, (Value.agg #[(Value.int .i64 0), (Value.int .i64 p2)]))]) rfl (by rfl) (BS_22_1_0 0 p2)).trans (by rw [← hb15, ← hw15])) ?_
    refine wpR_val (v := (Sl.v p0)) (w' := w2) rfl rfl rfl (x_move (v := (Sl.v p0)) rfl e0) ?_
    obtain ⟨r16, w3, q16, h⟩ := h
    refine wpR_val (v := (Sl.v r16)) (w' := w3) rfl rfl rfl (x_append (s := (⟨some ⟨b15, 0, none⟩, 1, 1⟩ : Sl)) (u := p0) rfl rfl rfl rfl q16) ?_
    refine wpR_val (v := (Value.int .i64 p1)) (w' := w3) rfl rfl rfl (x_move (v := (Value.int .i64 p1)) rfl e1) ?_
    refine wpR_enter rfl rfl rfl (x_call (vs := [(Sl.v r16), (Value.int .i64 p1)]) rfl rfl (mapl_cons rfl (mapl_cons rfl mapl_nil)) Try.func23 NN_23 NB_23) (Calls.mono h ?_)
    rintro _ w4 ⟨r17, rfl, h⟩
    refine ⟨_, rfl, ?_⟩
    refine wpR_val (v := (Value.tuple #[(Value.int .i64 r17.1), (Value.bool r17.2)])) (w' := w4) rfl rfl rfl (x_move (v := (Value.tuple #[(Value.int .i64 r17.1), (Value.bool r17.2)])) rfl rfl) ?_
    refine wpR_val (v := (Value.int .i64 r17.1)) (w' := w4) rfl rfl rfl (x_extract rfl rfl rfl) ?_
    refine wpR_val (v := (Value.bool r17.2)) (w' := w4) rfl rfl rfl (x_extract rfl rfl rfl) ?_
    refine wpR_val (v := (Value.int .i64 r17.1)) (w' := w4) rfl rfl rfl (x_assign (v := (Value.int .i64 r17.1)) rfl rfl) ?_
    refine wpR_val (v := (Value.bool r17.2)) (w' := w4) rfl rfl rfl (x_assign (v := (Value.bool r17.2)) rfl rfl) ?_
    refine wpR_nil ?_
    refine wpC_seq ?_
    refine wpC_cut (fun ρ => ρ 8 = (Value.bool r17.2) ∧ True) ⟨rfl, trivial⟩ ?_
    rintro ρ ⟨e8, -⟩
    refine wpC_region ?_
    refine wpR_val (v := (Value.bool r17.2)) (w' := w4) rfl rfl rfl (x_move (v := (Value.bool r17.2)) rfl e8) ?_
    refine wpR_val (v := (Value.bool r17.2)) (w' := w4) rfl rfl rfl (x_assign (v := (Value.bool r17.2)) rfl rfl) ?_
    refine wpR_nil ?_
    refine wpC_ret ?_
    exact ⟨.inl rfl, fun a ha => ⟨_, results_rep1 rfl ha rfl, r17.2, rfl, h⟩⟩

/-- lingualaw06.numbers -/
def F15 (p0 : Int) (p1 : Int) (p2 : Int) (w0 : World) (K : (Int × Int × Int) → World → Prop) : Prop :=
  jn (fun (J10 : (Int × Int × Int) → World → Prop) => tk w0 fun w1 =>
    (IntKind.i64.wrap (1 + (IntKind.i64.wrap (p2.tmod 20)))) ≠ 0 ∧
    callC Try.prog 16 #[(Value.int .i64 p0)] (fun (r : Int) => (Value.int .i64 r)) w1 fun r12 w2 =>
    J10 (r12, IntKind.i64.wrap (1 + ((IntKind.i64.wrap p1).tmod (IntKind.i64.wrap (1 + (IntKind.i64.wrap (p2.tmod 20)))))), IntKind.i64.wrap (1 + (IntKind.i64.wrap (p2.tmod 20)))) w2
  )
  fun l13 w3 =>
  K (l13.1, l13.2.1, l13.2.2) w3
set_option maxRecDepth 100000 in
theorem D15 (p0 : Int) (p1 : Int) (p2 : Int) (w0 : World) (K : (Int × Int × Int) → World → Prop) (h : F15 p0 p1 p2 w0 K) : callC Try.prog 15 #[(Value.int .i64 p0), (Value.int .u8 p1), (Value.int .u8 p2)] (fun (r : Int × Int × Int) => (Value.tuple #[(Value.int .i64 r.1), (Value.int .i64 r.2.1), (Value.int .i64 r.2.2)])) w0 K := by
  unfold F15 at h
  refine calls_of_wpC Try.func15 rfl 22 rfl (by simp) ?_
  intro ρ hρ
  have e0 : ρ 0 = (Value.int .i64 p0) := hρ 0
  have e1 : ρ 1 = (Value.int .u8 p1) := hρ 1
  have e2 : ρ 2 = (Value.int .u8 p2) := hρ 2
  clear hρ
  refine wpC_seq ?_
  refine wpC_region ?_
  refine wpR_val (v := (Value.int .i64 0)) (w' := w0) rfl rfl rfl (x_assign (v := (Value.int .i64 0)) rfl rfl) ?_
  refine wpR_val (v := (Value.int .i64 0)) (w' := w0) rfl rfl rfl (x_assign (v := (Value.int .i64 0)) rfl rfl) ?_
  refine wpR_val (v := (Value.int .i64 0)) (w' := w0) rfl rfl rfl (x_assign (v := (Value.int .i64 0)) rfl rfl) ?_
  refine wpR_nil ?_
  refine wpC_seq ?_
  refine wpC_cut (fun ρ => ρ 0 = (Value.int .i64 p0) ∧ ρ 1 = (Value.int .u8 p1) ∧ ρ 2 = (Value.int .u8 p2) ∧ True) ⟨e0, e1, e2, trivial⟩ ?_
  rintro ρ ⟨e0, e1, e2, -⟩
  refine wpC_region ?_
  refine wpR_val (v := (Value.int .u8 p2)) (w' := w0) rfl rfl rfl (x_move (v := (Value.int .u8 p2)) rfl e2) ?_
  refine wpR_val (v := (Value.int .u8 (p2.tmod 20))) (w' := w0) rfl rfl rfl (x_rem rfl rfl rfl (by decide)) ?_
  refine wpR_val (v := (Value.int .i64 (IntKind.i64.wrap (p2.tmod 20)))) (w' := w0) rfl rfl rfl (x_convI rfl rfl IK_3 IK_5) ?_
  refine wpR_val (v := (Value.int .i64 (IntKind.i64.wrap (1 + (IntKind.i64.wrap (p2.tmod 20)))))) (w' := w0) rfl rfl rfl (x_add rfl rfl rfl) ?_
  refine wpR_val (v := (Value.int .i64 (IntKind.i64.wrap (1 + (IntKind.i64.wrap (p2.tmod 20)))))) (w' := w0) rfl rfl rfl (x_assign (v := (Value.int .i64 (IntKind.i64.wrap (1 + (IntKind.i64.wrap (p2.tmod 20)))))) rfl rfl) ?_
  refine wpR_nil ?_
  refine wpC_seq ?_
  refine wpC_cut (fun ρ => ρ 0 = (Value.int .i64 p0) ∧ ρ 1 = (Value.int .u8 p1) ∧ ρ 9 = (Value.int .i64 (IntKind.i64.wrap (1 + (IntKind.i64.wrap (p2.tmod 20))))) ∧ True) ⟨e0, e1, rfl, trivial⟩ ?_
  rintro ρ ⟨e0, e1, e9, -⟩
  obtain ⟨J10, h, hk⟩ := h
  refine wpC_drawJ (by kernel_rfl) (fun (x : Int × Int × Int) ρ => ρ 6 = (Value.int .i64 x.1) ∧ ρ 7 = (Value.int .i64 x.2.1) ∧ ρ 8 = (Value.int .i64 x.2.2) ∧ True) J10 ?_ ?_
  · clear hk
    unfold tk at h
    generalize w0.drew = w1 at h ⊢
    refine wpD_take (v := (Value.int .i64 p0)) 0 (fun _ => True) rfl (by kernel_rfl) (by kernel_rfl) (by kernel_rfl) rfl rfl rfl trivial (fun w _ => (x_move (v := (Value.int .i64 p0)) rfl e0)) ?_
    refine wpD_take (v := (Value.int .u8 p1)) 2 (fun _ => True) rfl (by kernel_rfl) (by kernel_rfl) (by kernel_rfl) rfl rfl rfl trivial (fun w _ => (x_move (v := (Value.int .u8 p1)) rfl e1)) ?_
    refine wpD_take (v := (Value.int .i64 (IntKind.i64.wrap p1))) 3 (fun _ => True) rfl (by kernel_rfl) (by kernel_rfl) (by kernel_rfl) rfl rfl rfl trivial (fun w _ => (x_convI rfl rfl IK_3 IK_5)) ?_
    refine wpD_take (v := (Value.int .i64 (IntKind.i64.wrap (1 + (IntKind.i64.wrap (p2.tmod 20)))))) 4 (fun _ => True) rfl (by kernel_rfl) (by kernel_rfl) (by kernel_rfl) rfl rfl rfl trivial (fun w _ => (x_move (v := (Value.int .i64 (IntKind.i64.wrap (1 + (IntKind.i64.wrap (p2.tmod 20)))))) rfl e9)) ?_
    obtain ⟨q11, h⟩ := h
    refine wpD_take (v := (Value.int .i64 ((IntKind.i64.wrap p1).tmod (IntKind.i64.wrap (1 + (IntKind.i64.wrap (p2.tmod 20))))))) 5 (fun _ => True) rfl (by kernel_rfl) (by kernel_rfl) (by kernel_rfl) rfl rfl rfl trivial (fun w _ => (x_rem rfl rfl rfl q11)) ?_
    refine wpD_take (v := (Value.int .i64 (IntKind.i64.wrap (1 + ((IntKind.i64.wrap p1).tmod (IntKind.i64.wrap (1 + (IntKind.i64.wrap (p2.tmod 20))))))))) 6 (fun _ => True) rfl (by kernel_rfl) (by kernel_rfl) (by kernel_rfl) rfl rfl rfl trivial (fun w _ => (x_add rfl rfl rfl)) ?_
    refine wpD_take (v := (Value.int .i64 (IntKind.i64.wrap (1 + (IntKind.i64.wrap (p2.tmod 20)))))) 7 (fun _ => True) rfl (by kernel_rfl) (by kernel_rfl) (by kernel_rfl) rfl rfl rfl trivial (fun w _ => (x_move (v := (Value.int .i64 (IntKind.i64.wrap (1 + (IntKind.i64.wrap (p2.tmod 20)))))) rfl e9)) ?_
    refine wpD_all (rs := [1]) (by kernel_rfl) (by simp) (allD_cons ?_ allD_nil)
    refine stepD_enterL (L' := [(7, fun _ => True), (6, fun _ => True), (5, fun _ => True), (4, fun _ => True), (3, fun _ => True), (2, fun _ => True)]) rfl rfl rfl rfl (x_call (vs := [(Value.int .i64 p0)]) rfl rfl (mapl_cons rfl mapl_nil) Try.func16 NN_16 NB_16) (by kernel_rfl) (Calls.mono h ?_)
    rintro _ w2 ⟨r12, rfl, h⟩
    refine ⟨_, rfl, (held_cons trivial (held_cons trivial (held_cons trivial (held_cons trivial (held_cons trivial (held_cons trivial held_nil)))))), ?_⟩
    refine wpD_take (v := (Value.int .i64 r12)) 8 (fun _ => True) rfl (by kernel_rfl) (by kernel_rfl) (by kernel_rfl) rfl rfl rfl trivial (fun w _ => (x_assign (v := (Value.int .i64 r12)) rfl rfl)) ?_
    refine wpD_take (v := (Value.int .i64 (IntKind.i64.wrap (1 + ((IntKind.i64.wrap p1).tmod (IntKind.i64.wrap (1 + (IntKind.i64.wrap (p2.tmod 20))))))))) 9 (fun _ => True) rfl (by kernel_rfl) (by kernel_rfl) (by kernel_rfl) rfl rfl rfl trivial (fun w _ => (x_assign (v := (Value.int .i64 (IntKind.i64.wrap (1 + ((IntKind.i64.wrap p1).tmod (IntKind.i64.wrap (1 + (IntKind.i64.wrap (p2.tmod 20))))))))) rfl rfl)) ?_
    refine wpD_take (v := (Value.int .i64 (IntKind.i64.wrap (1 + (IntKind.i64.wrap (p2.tmod 20)))))) 10 (fun _ => True) rfl (by kernel_rfl) (by kernel_rfl) (by kernel_rfl) rfl rfl rfl trivial (fun w _ => (x_assign (v := (Value.int .i64 (IntKind.i64.wrap (1 + (IntKind.i64.wrap (p2.tmod 20)))))) rfl rfl)) ?_
    exact wpD_done (by kernel_rfl) ⟨(r12, IntKind.i64.wrap (1 + ((IntKind.i64.wrap p1).tmod (IntKind.i64.wrap (1 + (IntKind.i64.wrap (p2.tmod 20)))))), IntKind.i64.wrap (1 + (IntKind.i64.wrap (p2.tmod 20)))), ⟨rfl, rfl, rfl, trivial⟩, h⟩
  clear h
  rintro l13 ρ w3 ⟨e6, e7, e8, -⟩ h
  replace h := hk l13 w3 h
  clear hk
  refine wpC_ret ?_
  exact ⟨.inl rfl, fun a ha => ⟨_, results_rep3 rfl ha e6 e7 e8, (l13.1, l13.2.1, l13.2.2), rfl, h⟩⟩

/-- linguaref06.Mod -/
def F16 (p0 : Int) (w0 : World) (K : Int → World → Prop) : Prop :=
  K ((IntKind.i64.wrap ((p0.tmod 2147483647) + 2147483647)).tmod 2147483647) w0
set_option maxRecDepth 100000 in
theorem D16 (p0 : Int) (w0 : World) (K : Int → World → Prop) (h : F16 p0 w0 K) : callC Try.prog 16 #[(Value.int .i64 p0)] (fun (r : Int) => (Value.int .i64 r)) w0 K := by
  unfold F16 at h
  refine calls_of_wpC Try.func16 rfl 7 rfl (by simp) ?_
  intro ρ hρ
  have e0 : ρ 0 = (Value.int .i64 p0) := hρ 0
  clear hρ
  refine wpC_seq ?_
  refine wpC_region ?_
  refine wpR_val (v := (Value.int .i64 0)) (w' := w0) rfl rfl rfl (x_assign (v := (Value.int .i64 0)) rfl rfl) ?_
  refine wpR_nil ?_
  refine wpC_seq ?_
  refine wpC_cut (fun ρ => ρ 0 = (Value.int .i64 p0) ∧ True) ⟨e0, trivial⟩ ?_
  rintro ρ ⟨e0, -⟩
  refine wpC_region ?_
  refine wpR_val (v := (Value.int .i64 p0)) (w' := w0) rfl rfl rfl (x_move (v := (Value.int .i64 p0)) rfl e0) ?_
  refine wpR_val (v := (Value.int .i64 (p0.tmod 2147483647))) (w' := w0) rfl rfl rfl (x_rem rfl rfl rfl (by decide)) ?_
  refine wpR_val (v := (Value.int .i64 (IntKind.i64.wrap ((p0.tmod 2147483647) + 2147483647)))) (w' := w0) rfl rfl rfl (x_add rfl rfl rfl) ?_
  refine wpR_val (v := (Value.int .i64 ((IntKind.i64.wrap ((p0.tmod 2147483647) + 2147483647)).tmod 2147483647))) (w' := w0) rfl rfl rfl (x_rem rfl rfl rfl (by decide)) ?_
  refine wpR_val (v := (Value.int .i64 ((IntKind.i64.wrap ((p0.tmod 2147483647) + 2147483647)).tmod 2147483647))) (w' := w0) rfl rfl rfl (x_assign (v := (Value.int .i64 ((IntKind.i64.wrap ((p0.tmod 2147483647) + 2147483647)).tmod 2147483647))) rfl rfl) ?_
  refine wpR_nil ?_
  refine wpC_ret ?_
  exact ⟨.inl rfl, fun a ha => ⟨_, results_rep1 rfl ha rfl, (IntKind.i64.wrap ((p0.tmod 2147483647) + 2147483647)).tmod 2147483647, rfl, h⟩⟩

/-- lingualaw06.chosen -/
def F17 (p0 : Sl) (p1 : Sl) (w0 : World) (K : Sl → World → Prop) : Prop :=
  lp (fun (next9 : (Sl × Int) → World → Prop) l9 w1 =>
    cnd ((decide (l9.2 < (p1.len : Int))) && (decide (0 < (p0.len : Int))))
      (
      jn (fun (J13 : Sl → World → Prop) =>
        ix p1 l9.2 1 fun p15 =>
        ld (Value.int .u8) p15 w1 fun x16 =>
        (p0.len : Int) ≠ 0 ∧
        ix p0 ((IntKind.i64.wrap x16).tmod (p0.len : Int)) 2 fun p18 =>
        ld (Value.int .i64) (p18.add 0) w1 fun x19 =>
        ld (Value.int .i64) (p18.add 1) w1 fun x20 =>
        nw 39 #[(Value.int .i64 0), (Value.int .i64 0)] w1 fun b21 w3 =>
        st (Addr.mk b21 0 none) [(Value.int .i64 x19), (Value.int .i64 x20)] w3 fun w4 =>
        lp (fun (next23 : (Bool × Int) → World → Prop) l23 w5 =>
          cnd (decide (l23.2 < (l9.1.len : Int)))
            (
            jn (fun (J26 : Bool → World → Prop) => tk w5 fun w6 =>
              cnd (l23.1)
                (
                J26 true w6
                )
                (
                ix l9.1 l23.2 2 fun p28 =>
                ld (Value.int .i64) (p28.add 0) w6 fun x29 =>
                ld (Value.int .i64) (p28.add 1) w6 fun x30 =>
                ld (Value.int .i64) ((Addr.mk b21 0 none).add 0) w6 fun x31 =>
                ld (Value.int .i64) ((Addr.mk b21 0 none).add 1) w6 fun x32 =>
                J26 (decide (x29 = x31) && (decide (x30 = x32) && true)) w6
                )
            )
            fun l33 w7 =>
            next23 (l33, IntKind.i64.wrap (l23.2 + 1)) w7
            )
            (
            cnd (!l23.1)
              (
              ld (Value.int .i64) ((Addr.mk b21 0 none).add 0) w5 fun x35 =>
              ld (Value.int .i64) ((Addr.mk b21 0 none).add 1) w5 fun x36 =>
              nw 39 #[(Value.int .i64 x35), (Value.int .i64 x36)] w5 fun b37 w8 =>
              rn Try.prog (Builtin.append_ #[22, 22] 22 #[Sl.v l9.1, Sl.v (⟨some ⟨b37, 0, none⟩, 1, 1⟩ : Sl)]) Sl.v w8 fun r38 w9 =>
              J13 r38 w9
              )
              (
              J13 l9.1 w5
              )
            )
        ) (false, 0) w4
      )
      fun l14 w2 =>
      next9 (l14, IntKind.i64.wrap (l9.2 + 1)) w2
      )
      (
      K l9.1 w1
      )
  ) (Sl.nil, 0) w0
set_option maxRecDepth 100000 in
theorem D17 (p0 : Sl) (p1 : Sl) (w0 : World) (K : Sl → World → Prop) (h : F17 p0 p1 w0 K) : callC Try.prog 17 #[(Sl.v p0), (Sl.v p1)] (fun (r : Sl) => (Sl.v r)) w0 K := by
  unfold F17 at h
  refine calls_of_wpC Try.func17 rfl 54 rfl (by simp) ?_
  intro ρ hρ
  have e0 : ρ 0 = (Sl.v p0) := hρ 0
  have e1 : ρ 1 = (Sl.v p1) := hρ 1
  clear hρ
  refine wpC_seq ?_
  refine wpC_region ?_
  refine wpR_val (v := (Sl.v Sl.nil)) (w' := w0) rfl rfl rfl (x_assign (v := (Sl.v Sl.nil)) rfl rfl) ?_
  refine wpR_nil ?_
  refine wpC_seq ?_
  refine wpC_cut (fun ρ => ρ 0 = (Sl.v p0) ∧ ρ 1 = (Sl.v p1) ∧ True) ⟨e0, e1, trivial⟩ ?_
  rintro ρ ⟨e0, e1, -⟩
  refine wpC_region ?_
  refine wpR_val (v := (Sl.v Sl.nil)) (w' := w0) rfl rfl rfl (x_assign (v := (Sl.v Sl.nil)) rfl rfl) ?_
  refine wpR_nil ?_
  refine wpC_seq ?_
  refine wpC_seq ?_
  refine wpC_cut (fun ρ => ρ 0 = (Sl.v p0) ∧ ρ 1 = (Sl.v p1) ∧ ρ 5 = (Sl.v Sl.nil) ∧ True) ⟨e0, e1, rfl, trivial⟩ ?_
  rintro ρ ⟨e0, e1, e5, -⟩
  refine wpC_region ?_
  refine wpR_val (v := (Value.int .i64 0)) (w' := w0) rfl rfl rfl (x_assign (v := (Value.int .i64 0)) rfl rfl) ?_
  refine wpR_nil ?_
  refine wpC_block ?_
  obtain ⟨I9, μ9, hI9, hr9⟩ := h
  refine wpC_loop (fun (x : Sl × Int) ρ => ρ 5 = (Sl.v x.1) ∧ ρ 6 = (Value.int .i64 x.2) ∧ ρ 0 = (Sl.v p0) ∧ ρ 1 = (Sl.v p1) ∧ True) I9 μ9 (Sl.nil, 0) ⟨e5, rfl, e0, e1, trivial⟩ hI9 ?_
  rintro l9 ρ w1 ⟨e5, e6, e0, e1, -⟩ h
  replace h := hr9 l9 w1 h
  clear hr9 hI9
  refine wpC_seq ?_
  refine wpC_seq ?_
  refine wpC_region ?_
  refine wpR_val (v := (Value.int .i64 l9.2)) (w' := w1) rfl rfl rfl (x_move (v := (Value.int .i64 l9.2)) rfl e6) ?_
  refine wpR_val (v := (Sl.v p1)) (w' := w1) rfl rfl rfl (x_move (v := (Sl.v p1)) rfl e1) ?_
  refine wpR_val (v := (Value.int .i64 (p1.len : Int))) (w' := w1) rfl rfl rfl (x_lenS (s := p1) rfl rfl isSliceT_32) ?_
  refine wpR_val (v := (Value.bool (decide (l9.2 < (p1.len : Int))))) (w' := w1) rfl rfl rfl (x_lss rfl rfl rfl) ?_
  refine wpR_val (v := (Value.bool (decide (l9.2 < (p1.len : Int))))) (w' := w1) rfl rfl rfl (x_move (v := (Value.bool (decide (l9.2 < (p1.len : Int))))) rfl rfl) ?_
  refine wpR_joinJ 4 (fun (_ : Unit) ρ => ρ 18 = Value.bool ((decide (l9.2 < (p1.len : Int))) && (decide (0 < (p0.len : Int)))) ∧ ρ 0 = (Sl.v p0) ∧ ρ 1 = (Sl.v p1) ∧ ρ 5 = (Sl.v l9.1) ∧ ρ 6 = (Value.int .i64 l9.2) ∧ True) (fun _ w => w1 = w) ?_ ?_
  · clear h
    rcases Bool.eq_false_or_eq_true (decide (l9.2 < (p1.len : Int))) with hc11 | hc11
    · skip
      refine wpR_val (v := (Sl.v p0)) (w' := w1) (wantG rfl rfl rfl hc11) rfl rfl (x_move (v := (Sl.v p0)) rfl e0) ?_
      refine wpR_val (v := (Value.int .i64 (p0.len : Int))) (w' := w1) (wantG rfl rfl rfl hc11) rfl rfl (x_lenS (s := p0) rfl rfl isSliceT_22) ?_
      refine wpR_val (v := (Value.bool (decide (0 < (p0.len : Int))))) (w' := w1) (wantG rfl rfl rfl hc11) rfl rfl (x_gtr rfl rfl rfl) ?_
      refine wpR_val (v := (Value.bool (decide (0 < (p0.len : Int))))) (w' := w1) rfl rfl rfl (x_pickT (v := (Value.bool (decide (0 < (p0.len : Int))))) rfl rfl hc11 rfl) ?_
      refine wpR_nil ?_
      exact ⟨(), ⟨(by rw [hc11]; rfl), e0, e1, e5, e6, trivial⟩, rfl⟩
    · skip
      refine wpR_pass (wantN rfl rfl rfl hc11) rfl rfl ?_
      refine wpR_pass (wantN rfl rfl rfl hc11) rfl rfl ?_
      refine wpR_pass (wantN rfl rfl rfl hc11) rfl rfl ?_
      refine wpR_val (v := (Value.bool false)) (w' := w1) rfl rfl rfl (x_pickF (v := (Value.bool false)) rfl rfl hc11 rfl) ?_
      refine wpR_nil ?_
      exact ⟨(), ⟨(by rw [hc11]; rfl), e0, e1, e5, e6, trivial⟩, rfl⟩
  rintro _ ρ wj ⟨e18, e0, e1, e5, e6, -⟩ rfl
  refine wpR_nil ?_
  refine wpC_cond (b := (decide (l9.2 < (p1.len : Int))) && (decide (0 < (p0.len : Int)))) e18 (fun hc12 => ?_) (fun hc12 => ?_)
  · replace h := h.1 hc12
    refine wpC_skip ?_
    obtain ⟨J13, h, hk⟩ := h
    refine wpC_seqJ (fun (x : Sl) ρ => ρ 5 = (Sl.v x) ∧ ρ 0 = (Sl.v p0) ∧ ρ 1 = (Sl.v p1) ∧ ρ 6 = (Value.int .i64 l9.2) ∧ True) J13 ?_ ?_
    · clear hk
      refine wpC_block ?_
      refine wpC_seq ?_
      refine wpC_region ?_
      refine wpR_val (v := (Sl.v p0)) (w' := w1) rfl rfl rfl (x_move (v := (Sl.v p0)) rfl e0) ?_
      refine wpR_val (v := (Sl.v p1)) (w' := w1) rfl rfl rfl (x_move (v := (Sl.v p1)) rfl e1) ?_
      refine wpR_val (v := (Value.int .i64 l9.2)) (w' := w1) rfl rfl rfl (x_move (v := (Value.int .i64 l9.2)) rfl e6) ?_
      obtain ⟨q15, z15, r15, h⟩ := h
      generalize hp15 : z15.add ((l9.2 : Int).toNat * 1) = p15 at h
      refine wpR_val (v := (Value.pointer (some p15))) (w' := w1) rfl rfl rfl ((x_indexAddr (s := p1) rfl rfl rfl ES_32 q15 r15).trans (by rw [hp15])) ?_
      obtain ⟨x16, q16, h⟩ := h
      refine wpR_val (v := (Value.int .u8 x16)) (w' := w1) rfl rfl rfl (x_load1 rfl rfl SH_5 q16) ?_
      refine wpR_val (v := (Value.int .i64 (IntKind.i64.wrap x16))) (w' := w1) rfl rfl rfl (x_convI rfl rfl IK_3 IK_5) ?_
      refine wpR_val (v := (Sl.v p0)) (w' := w1) rfl rfl rfl (x_move (v := (Sl.v p0)) rfl e0) ?_
      refine wpR_val (v := (Value.int .i64 (p0.len : Int))) (w' := w1) rfl rfl rfl (x_lenS (s := p0) rfl rfl isSliceT_22) ?_
      obtain ⟨q17, h⟩ := h
      refine wpR_val (v := (Value.int .i64 ((IntKind.i64.wrap x16).tmod (p0.len : Int)))) (w' := w1) rfl rfl rfl (x_rem rfl rfl rfl q17) ?_
      obtain ⟨q18, z18, r18, h⟩ := h
      generalize hp18 : z18.add (((IntKind.i64.wrap x16).tmod (p0.len : Int) : Int).toNat * 2) = p18 at h
      refine wpR_val (v := (Value.pointer (some p18))) (w' := w1) rfl rfl rfl ((x_indexAddr (s := p0) rfl rfl rfl ES_22 q18 r18).trans (by rw [hp18])) ?_
      obtain ⟨x19, q19, x20, q20, h⟩ := h
      refine wpR_val (v := (Value.agg #[(Value.int .i64 x19), (Value.int .i64 x20)])) (w' := w1) rfl rfl rfl (x_loadN [(Value.int .i64 x19), (Value.int .i64 x20)] rfl rfl SH_39 (CellsAt.out (CellsAt.cons q19 (CellsAt.cons q20 CellsAt.nil)))) ?_
      obtain ⟨b21, hb21⟩ : ∃ u, u = w1.heap.size := ⟨_, rfl⟩
      obtain ⟨w3, hw21⟩ : ∃ u, u = w1.alloc (.cells #[(Value.int .i64 0), (Value.int .i64 0)] 39) := ⟨_, rfl⟩
      replace h := h b21 w3 hb21 hw21
      refine wpR_val (v := (Value.pointer (some (Addr.mk b21 0 none)))) (w' := w3) rfl rfl rfl ((x_alloc rfl ZV_39).trans (by rw [hb21, hw21]; rfl)) ?_
      obtain ⟨q22, h⟩ := h
      obtain ⟨w4, hw22⟩ : ∃ u, u = setAll w3 (Addr.mk b21 0 none) [(Value.int .i64 x19), (Value.int .i64 x20)] 0 := ⟨_, rfl⟩
      replace h := h w4 hw22
      refine wpR_skp (w' := w4) rfl rfl ((x_store (v := (Value.agg #[(Value.int .i64 x19), (Value.int .i64 x20)])) rfl rfl rfl SZ_39 (ones (by rfl)) q22).trans (by rw [hw22]; rfl)) ?_
      refine wpR_nil ?_
      refine wpC_seq ?_
      refine wpC_cut (fun ρ => ρ 0 = (Sl.v p0) ∧ ρ 1 = (Sl.v p1) ∧ ρ 5 = (Sl.v l9.1) ∧ ρ 6 = (Value.int .i64 l9.2) ∧ ρ 7 = (Value.pointer (some (Addr.mk b21 0 none))) ∧ True) ⟨e0, e1, e5, e6, rfl, trivial⟩ ?_
      rintro ρ ⟨e0, e1, e5, e6, e7, -⟩
      refine wpC_region ?_
      refine wpR_val (v := (Value.bool false)) (w' := w4) rfl rfl rfl (x_assign (v := (Value.bool false)) rfl rfl) ?_
      refine wpR_nil ?_
      refine wpC_seq ?_
      refine wpC_seq ?_
      refine wpC_cut (fun ρ => ρ 0 = (Sl.v p0) ∧ ρ 1 = (Sl.v p1) ∧ ρ 5 = (Sl.v l9.1) ∧ ρ 6 = (Value.int .i64 l9.2) ∧ ρ 7 = (Value.pointer (some (Addr.mk b21 0 none))) ∧ ρ 8 = (Value.bool false) ∧ True) ⟨e0, e1, e5, e6, e7, rfl, trivial⟩ ?_
      rintro ρ ⟨e0, e1, e5, e6, e7, e8, -⟩
      refine wpC_region ?_
      refine wpR_val (v := (Value.int .i64 0)) (w' := w4) rfl rfl rfl (x_assign (v := (Value.int .i64 0)) rfl rfl) ?_
      refine wpR_nil ?_
      refine wpC_block ?_
      obtain ⟨I23, μ23, hI23, hr23⟩ := h
      refine wpC_loop (fun (x : Bool × Int) ρ => ρ 8 = (Value.bool x.1) ∧ ρ 9 = (Value.int .i64 x.2) ∧ ρ 0 = (Sl.v p0) ∧ ρ 1 = (Sl.v p1) ∧ ρ 5 = (Sl.v l9.1) ∧ ρ 6 = (Value.int .i64 l9.2) ∧ ρ 7 = (Value.pointer (some (Addr.mk b21 0 none))) ∧ True) I23 μ23 (false, 0) ⟨e8, rfl, e0, e1, e5, e6, e7, trivial⟩ hI23 ?_
      rintro l23 ρ w5 ⟨e8, e9, e0, e1, e5, e6, e7, -⟩ h
      replace h := hr23 l23 w5 h
      clear hr23 hI23
      refine wpC_seq ?_
      refine wpC_seq ?_
      refine wpC_region ?_
      refine wpR_val (v := (Value.int .i64 l23.2)) (w' := w5) rfl rfl rfl (x_move (v := (Value.int .i64 l23.2)) rfl e9) ?_
      refine wpR_val (v := (Sl.v l9.1)) (w' := w5) rfl rfl rfl (x_move (v := (Sl.v l9.1)) rfl e5) ?_
      refine wpR_val (v := (Value.int .i64 (l9.1.len : Int))) (w' := w5) rfl rfl rfl (x_lenS (s := l9.1) rfl rfl isSliceT_22) ?_
      refine wpR_val (v := (Value.bool (decide (l23.2 < (l9.1.len : Int))))) (w' := w5) rfl rfl rfl (x_lss rfl rfl rfl) ?_
      refine wpR_nil ?_
      refine wpC_cond (b := decide (l23.2 < (l9.1.len : Int))) rfl (fun hc24 => ?_) (fun hc24 => ?_)
      · replace h := h.1 hc24
        refine wpC_skip ?_
        refine wpC_seq ?_
        refine wpC_block ?_
        refine wpC_cut (fun ρ => ρ 0 = (Sl.v p0) ∧ ρ 1 = (Sl.v p1) ∧ ρ 5 = (Sl.v l9.1) ∧ ρ 6 = (Value.int .i64 l9.2) ∧ ρ 7 = (Value.pointer (some (Addr.mk b21 0 none))) ∧ ρ 8 = (Value.bool l23.1) ∧ ρ 9 = (Value.int .i64 l23.2) ∧ True) ⟨e0, e1, e5, e6, e7, e8, e9, trivial⟩ ?_
        rintro ρ ⟨e0, e1, e5, e6, e7, e8, e9, -⟩
        obtain ⟨J26, h, hk⟩ := h
        refine wpC_drawJ (by kernel_rfl) (fun (x : Bool) ρ => ρ 8 = (Value.bool x) ∧ ρ 0 = (Sl.v p0) ∧ ρ 1 = (Sl.v p1) ∧ ρ 5 = (Sl.v l9.1) ∧ ρ 6 = (Value.int .i64 l9.2) ∧ ρ 7 = (Value.pointer (some (Addr.mk b21 0 none))) ∧ ρ 9 = (Value.int .i64 l23.2) ∧ True) J26 ?_ ?_
        · clear hk
          unfold tk at h
          generalize w5.drew = w6 at h ⊢
          refine wpD_take (v := (Value.bool l23.1)) 0 (fun _ => True) rfl (by kernel_rfl) (by kernel_rfl) (by kernel_rfl) rfl rfl rfl trivial (fun w _ => (x_move (v := (Value.bool l23.1)) rfl e8)) ?_
          refine wpD_take (v := (Value.bool l23.1)) 1 (fun _ => True) rfl (by kernel_rfl) (by kernel_rfl) (by kernel_rfl) rfl rfl rfl trivial (fun w _ => (x_move (v := (Value.bool l23.1)) rfl rfl)) ?_
          rcases Bool.eq_false_or_eq_true (l23.1) with hc27 | hc27
          · replace h := h.1 hc27
            refine wpD_pass 2 rfl (by kernel_rfl) (by kernel_rfl) (by kernel_rfl) (wantN rfl rfl rfl hc27) rfl rfl ?_
            refine wpD_pass 3 rfl (by kernel_rfl) (by kernel_rfl) (by kernel_rfl) (wantN rfl rfl rfl hc27) rfl rfl ?_
            refine wpD_pass 4 rfl (by kernel_rfl) (by kernel_rfl) (by kernel_rfl) (wantN rfl rfl rfl hc27) rfl rfl ?_
            refine wpD_pass 5 rfl (by kernel_rfl) (by kernel_rfl) (by kernel_rfl) (wantN rfl rfl rfl hc27) rfl rfl ?_
            refine wpD_pass 6 rfl (by kernel_rfl) (by kernel_rfl) (by kernel_rfl) (wantN rfl rfl rfl hc27) rfl rfl ?_
            refine wpD_pass 7 rfl (by kernel_rfl) (by kernel_rfl) (by kernel_rfl) (wantN rfl rfl rfl hc27) rfl rfl ?_
            refine wpD_take (v := (Value.bool true)) 8 (fun _ => True) rfl (by kernel_rfl) (by kernel_rfl) (by kernel_rfl) rfl rfl rfl trivial (fun w _ => (x_pickT (v := (Value.bool true)) rfl rfl hc27 rfl)) ?_
            refine wpD_take (v := (Value.bool true)) 9 (fun _ => True) rfl (by kernel_rfl) (by kernel_rfl) (by kernel_rfl) rfl rfl rfl trivial (fun w _ => (x_assign (v := (Value.bool true)) rfl rfl)) ?_
            exact wpD_done (by kernel_rfl) ⟨true, ⟨rfl, e0, e1, e5, e6, e7, e9, trivial⟩, h⟩
          · replace h := h.2 hc27
            refine wpD_take (v := (Sl.v l9.1)) 2 (fun _ => True) rfl (by kernel_rfl) (by kernel_rfl) (by kernel_rfl) (wantG rfl rfl rfl hc27) rfl rfl trivial (fun w _ => (x_move (v := (Sl.v l9.1)) rfl e5)) ?_
            refine wpD_take (v := (Value.int .i64 l23.2)) 3 (fun _ => True) rfl (by kernel_rfl) (by kernel_rfl) (by kernel_rfl) (wantG rfl rfl rfl hc27) rfl rfl trivial (fun w _ => (x_move (v := (Value.int .i64 l23.2)) rfl e9)) ?_
            obtain ⟨q28, z28, r28, h⟩ := h
            generalize hp28 : z28.add ((l23.2 : Int).toNat * 2) = p28 at h
            refine wpD_take (v := (Value.pointer (some p28))) 4 (fun _ => True) rfl (by kernel_rfl) (by kernel_rfl) (by kernel_rfl) (wantG rfl rfl rfl hc27) rfl rfl trivial (fun w _ => ((x_indexAddr (s := l9.1) rfl rfl rfl ES_22 q28 r28).trans (by rw [hp28]))) ?_
            obtain ⟨x29, q29, x30, q30, h⟩ := h
            refine wpD_take (v := (Value.agg #[(Value.int .i64 x29), (Value.int .i64 x30)])) 5 (fun w => w.cell? (p28.add 0) = some (Value.int .i64 x29) ∧ w.cell? (p28.add 1) = some (Value.int .i64 x30)) rfl (by kernel_rfl) (by kernel_rfl) (by kernel_rfl) (wantG rfl rfl rfl hc27) rfl rfl ⟨q29, q30⟩ (fun w ⟨q29, q30⟩ => (x_loadN [(Value.int .i64 x29), (Value.int .i64 x30)] rfl rfl SH_39 (CellsAt.out (CellsAt.cons q29 (CellsAt.cons q30 CellsAt.nil))))) ?_
            obtain ⟨x31, q31, x32, q32, h⟩ := h
            refine wpD_take (v := (Value.agg #[(Value.int .i64 x31), (Value.int .i64 x32)])) 6 (fun w => w.cell? ((Addr.mk b21 0 none).add 0) = some (Value.int .i64 x31) ∧ w.cell? ((Addr.mk b21 0 none).add 1) = some (Value.int .i64 x32)) rfl (by kernel_rfl) (by kernel_rfl) (by kernel_rfl) (wantG rfl rfl rfl hc27) rfl rfl ⟨q31, q32⟩ (fun w ⟨q31, q32⟩ => (x_loadN [(Value.int .i64 x31), (Value.int .i64 x32)] rfl e7 SH_39 (CellsAt.out (CellsAt.cons q31 (CellsAt.cons q32 CellsAt.nil))))) ?_
            refine wpD_take (v := (Value.bool (decide (x29 = x31) && (decide (x30 = x32) && true)))) 7 (fun _ => True) rfl (by kernel_rfl) (by kernel_rfl) (by kernel_rfl) (wantG rfl rfl rfl hc27) rfl rfl trivial (fun w _ => (x_eqlA rfl rfl rfl EQ1_39 EQ2_39 EQ3_39 (EQ_39 x29 x30 x31 x32))) ?_
            refine wpD_take (v := (Value.bool (decide (x29 = x31) && (decide (x30 = x32) && true)))) 8 (fun _ => True) rfl (by kernel_rfl) (by kernel_rfl) (by kernel_rfl) rfl rfl rfl trivial (fun w _ => (x_pickF (v := (Value.bool (decide (x29 = x31) && (decide (x30 = x32) && true)))) rfl rfl hc27 rfl)) ?_
            refine wpD_take (v := (Value.bool (decide (x29 = x31) && (decide (x30 = x32) && true)))) 9 (fun _ => True) rfl (by kernel_rfl) (by kernel_rfl) (by kernel_rfl) rfl rfl rfl trivial (fun w _ => (x_assign (v := (Value.bool (decide (x29 = x31) && (decide (x30 = x32) && true)))) rfl rfl)) ?_
            exact wpD_done (by kernel_rfl) ⟨(decide (x29 = x31) && (decide (x30 = x32) && true)), ⟨rfl, e0, e1, e5, e6, e7, e9, trivial⟩, h⟩
        clear h
        rintro l33 ρ w7 ⟨e8, e0, e1, e5, e6, e7, e9, -⟩ h
        replace h := hk l33 w7 h
        clear hk
        refine wpC_region ?_
        refine wpR_val (v := (Value.int .i64 l23.2)) (w' := w7) rfl rfl rfl (x_move (v := (Value.int .i64 l23.2)) rfl e9) ?_
        refine wpR_val (v := (Value.int .i64 (IntKind.i64.wrap (l23.2 + 1)))) (w' := w7) rfl rfl rfl (x_add rfl rfl rfl) ?_
        refine wpR_val (v := (Value.int .i64 (IntKind.i64.wrap (l23.2 + 1)))) (w' := w7) rfl rfl rfl (x_assign (v := (Value.int .i64 (IntKind.i64.wrap (l23.2 + 1)))) rfl rfl) ?_
        refine wpR_nil ?_
        exact ⟨(l33, IntKind.i64.wrap (l23.2 + 1)), ⟨e8, rfl, e0, e1, e5, e6, e7, trivial⟩, h⟩
      · replace h := h.2 hc24
        refine wpC_exit ?_
        refine wpC_seq ?_
        refine wpC_cut (fun ρ => ρ 0 = (Sl.v p0) ∧ ρ 1 = (Sl.v p1) ∧ ρ 5 = (Sl.v l9.1) ∧ ρ 6 = (Value.int .i64 l9.2) ∧ ρ 7 = (Value.pointer (some (Addr.mk b21 0 none))) ∧ ρ 8 = (Value.bool l23.1) ∧ True) ⟨e0, e1, e5, e6, e7, e8, trivial⟩ ?_
        rintro ρ ⟨e0, e1, e5, e6, e7, e8, -⟩
        refine wpC_region ?_
        refine wpR_val (v := (Value.bool l23.1)) (w' := w5) rfl rfl rfl (x_move (v := (Value.bool l23.1)) rfl e8) ?_
        refine wpR_val (v := (Value.bool (!l23.1))) (w' := w5) rfl rfl rfl (x_not rfl rfl) ?_
        refine wpR_nil ?_
        refine wpC_cond (b := !l23.1) rfl (fun hc34 => ?_) (fun hc34 => ?_)
        · replace h := h.1 hc34
          refine wpC_cut (fun ρ => ρ 0 = (Sl.v p0) ∧ ρ 1 = (Sl.v p1) ∧ ρ 5 = (Sl.v l9.1) ∧ ρ 6 = (Value.int .i64 l9.2) ∧ ρ 7 = (Value.pointer (some (Addr.mk b21 0 none))) ∧ True) ⟨e0, e1, e5, e6, e7, trivial⟩ ?_
          rintro ρ ⟨e0, e1, e5, e6, e7, -⟩
          refine wpC_region ?_
          refine wpR_val (v := (Sl.v l9.1)) (w' := w5) rfl rfl rfl (x_move (v := (Sl.v l9.1)) rfl e5) ?_
          obtain ⟨x35, q35, x36, q36, h⟩ := h
          refine wpR_val (v := (Value.agg #[(Value.int .i64 x35), (Value.int .i64 x36)])) (w' := w5) rfl rfl rfl (x_loadN [(Value.int .i64 x35), (Value.int .i64 x36)] rfl e7 SH_39 (CellsAt.out (CellsAt.cons q35 (CellsAt.cons q36 CellsAt.nil)))) ?_
          obtain ⟨b37, hb37⟩ : ∃ u, u = w5.heap.size := ⟨_, rfl⟩
          obtain ⟨w8, hw37⟩ : ∃ u, u = w5.alloc (.cells #[(Value.int .i64 x35), (Value.int .i64 x36)] 39) := ⟨_, rfl⟩
          replace h := h b37 w8 hb37 hw37
          refine wpR_val (v := (Sl.v (⟨some ⟨b37, 0, none⟩, 1, 1⟩ : Sl))) (w' := w8) rfl rfl rfl ((x_buildSlice (qs := [(0, (Value.agg #[(Value.int .i64 x35), (Value.int .i64 x36)]))]) rfl (by rfl) (BS_22_1_0 x35 x36)).trans (by rw [← hb37, ← hw37])) ?_
          obtain ⟨r38, w9, q38, h⟩ := h
          refine wpR_val (v := (Sl.v r38)) (w' := w9) rfl rfl rfl (x_append (s := l9.1) (u := (⟨some ⟨b37, 0, none⟩, 1, 1⟩ : Sl)) rfl rfl rfl rfl q38) ?_
          refine wpR_val (v := (Sl.v r38)) (w' := w9) rfl rfl rfl (x_assign (v := (Sl.v r38)) rfl rfl) ?_
          refine wpR_nil ?_
          exact ⟨r38, ⟨rfl, e0, e1, e6, trivial⟩, h⟩
        · replace h := h.2 hc34
          refine wpC_skip ?_
          exact ⟨l9.1, ⟨e5, e0, e1, e6, trivial⟩, h⟩
    clear h
    rintro l14 ρ w2 ⟨e5, e0, e1, e6, -⟩ h
    replace h := hk l14 w2 h
    clear hk
    refine wpC_region ?_
    refine wpR_val (v := (Value.int .i64 l9.2)) (w' := w2) rfl rfl rfl (x_move (v := (Value.int .i64 l9.2)) rfl e6) ?_
    refine wpR_val (v := (Value.int .i64 (IntKind.i64.wrap (l9.2 + 1)))) (w' := w2) rfl rfl rfl (x_add rfl rfl rfl) ?_
    refine wpR_val (v := (Value.int .i64 (IntKind.i64.wrap (l9.2 + 1)))) (w' := w2) rfl rfl rfl (x_assign (v := (Value.int .i64 (IntKind.i64.wrap (l9.2 + 1)))) rfl rfl) ?_
    refine wpR_nil ?_
    exact ⟨(l14, IntKind.i64.wrap (l9.2 + 1)), ⟨e5, rfl, e0, e1, trivial⟩, h⟩
  · replace h := h.2 hc12
    refine wpC_exit ?_
    refine wpC_seq ?_
    refine wpC_region ?_
    refine wpR_val (v := (Sl.v l9.1)) (w' := w1) rfl rfl rfl (x_move (v := (Sl.v l9.1)) rfl e5) ?_
    refine wpR_val (v := (Sl.v l9.1)) (w' := w1) rfl rfl rfl (x_assign (v := (Sl.v l9.1)) rfl rfl) ?_
    refine wpR_nil ?_
    refine wpC_ret ?_
    exact ⟨.inl rfl, fun a ha => ⟨_, results_rep1 rfl ha rfl, l9.1, rfl, h⟩⟩

/-- share.right -/
def F18 (p0 : Int) (w0 : World) (K : Bool → World → Prop) : Prop :=
  K ((decide (0 ≤ p0)) && (decide (p0 < 2147483647))) w0
set_option maxRecDepth 100000 in
theorem D18 (p0 : Int) (w0 : World) (K : Bool → World → Prop) (h : F18 p0 w0 K) : callC Try.prog 18 #[(Value.int .i64 p0)] (fun (r : Bool) => (Value.bool r)) w0 K := by
  unfold F18 at h
  refine calls_of_wpC Try.func18 rfl 9 rfl (by simp) ?_
  intro ρ hρ
  have e0 : ρ 0 = (Value.int .i64 p0) := hρ 0
  clear hρ
  refine wpC_seq ?_
  refine wpC_region ?_
  refine wpR_val (v := (Value.bool false)) (w' := w0) rfl rfl rfl (x_assign (v := (Value.bool false)) rfl rfl) ?_
  refine wpR_nil ?_
  refine wpC_seq ?_
  refine wpC_cut (fun ρ => ρ 0 = (Value.int .i64 p0) ∧ True) ⟨e0, trivial⟩ ?_
  rintro ρ ⟨e0, -⟩
  refine wpC_region ?_
  refine wpR_val (v := (Value.int .i64 p0)) (w' := w0) rfl rfl rfl (x_move (v := (Value.int .i64 p0)) rfl e0) ?_
  refine wpR_val (v := (Value.bool (decide (0 ≤ p0)))) (w' := w0) rfl rfl rfl (x_geq rfl rfl rfl) ?_
  refine wpR_val (v := (Value.bool (decide (0 ≤ p0)))) (w' := w0) rfl rfl rfl (x_move (v := (Value.bool (decide (0 ≤ p0)))) rfl rfl) ?_
  refine wpR_joinJ 3 (fun (_ : Unit) ρ => ρ 8 = Value.bool ((decide (0 ≤ p0)) && (decide (p0 < 2147483647))) ∧ True) (fun _ w => w0 = w) ?_ ?_
  · clear h
    rcases Bool.eq_false_or_eq_true (decide (0 ≤ p0)) with hc10 | hc10
    · skip
      refine wpR_val (v := (Value.int .i64 p0)) (w' := w0) (wantG rfl rfl rfl hc10) rfl rfl (x_move (v := (Value.int .i64 p0)) rfl e0) ?_
      refine wpR_val (v := (Value.bool (decide (p0 < 2147483647)))) (w' := w0) (wantG rfl rfl rfl hc10) rfl rfl (x_lss rfl rfl rfl) ?_
      refine wpR_val (v := (Value.bool (decide (p0 < 2147483647)))) (w' := w0) rfl rfl rfl (x_pickT (v := (Value.bool (decide (p0 < 2147483647)))) rfl rfl hc10 rfl) ?_
      refine wpR_nil ?_
      exact ⟨(), ⟨(by rw [hc10]; rfl), trivial⟩, rfl⟩
    · skip
      refine wpR_pass (wantN rfl rfl rfl hc10) rfl rfl ?_
      refine wpR_pass (wantN rfl rfl rfl hc10) rfl rfl ?_
      refine wpR_val (v := (Value.bool false)) (w' := w0) rfl rfl rfl (x_pickF (v := (Value.bool false)) rfl rfl hc10 rfl) ?_
      refine wpR_nil ?_
      exact ⟨(), ⟨(by rw [hc10]; rfl), trivial⟩, rfl⟩
  rintro _ ρ wj ⟨e8, -⟩ rfl
  refine wpR_val (v := (Value.bool ((decide (0 ≤ p0)) && (decide (p0 < 2147483647))))) (w' := w0) rfl rfl rfl (x_assign (v := (Value.bool ((decide (0 ≤ p0)) && (decide (p0 < 2147483647))))) rfl e8) ?_
  refine wpR_nil ?_
  refine wpC_ret ?_
  exact ⟨.inl rfl, fun a ha => ⟨_, results_rep1 rfl ha rfl, (decide (0 ≤ p0)) && (decide (p0 < 2147483647)), rfl, h⟩⟩


end Go.Proofs.Ytdcbmadmcmjopaa
