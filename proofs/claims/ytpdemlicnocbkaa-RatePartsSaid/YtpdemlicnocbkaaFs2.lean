import Derived.Test.YtpdemlicnocbkaaRows
import Derived.Test.YtpdemlicnocbkaaFs1
import Derived.Test.YtpdemlicnocbkaaDecOps
namespace Go.Proofs.Ytpdemlicnocbkaa
open Go.Dec
set_option maxHeartbeats 400000

/-- lingualaw09.RateTells -/
def F3 (p0 : Int) (p1 : Int) (p2 : Int) (p3 : Int) (p4 : Int) (p5 : Int) (w0 : World) (K : Bool → World → Prop) : Prop :=
  callC Try.prog 7 #[] (fun (r : Bool) => (Value.bool r)) w0 fun r1 w1 =>
  nw 24 #[(Value.int .i64 0), (Value.int .i64 0)] w1 fun b2 w2 =>
  st (Addr.mk b2 0 none) [(Value.int .i64 p0), (Value.int .i64 p1)] w2 fun w3 =>
  ld (Value.int .i64) ((Addr.mk b2 0 none).add 0) w3 fun x4 =>
  ld (Value.int .i64) ((Addr.mk b2 0 none).add 1) w3 fun x5 =>
  callC Try.prog 8 #[(Value.agg #[(Value.int .i64 x4), (Value.int .i64 x5)]), (Value.int .i64 p2), (Value.int .i64 p3), (Value.int .i64 p4), (Value.int .i64 p5)] (fun (r : Int × Int × Int) => (Value.tuple #[(Value.agg #[(Value.int .i64 r.1), (Value.int .i64 r.2.1)]), (Value.int .i64 r.2.2)])) w3 fun r6 w4 =>
  nw 24 #[(Value.int .i64 0), (Value.int .i64 0)] w4 fun b7 w5 =>
  st (Addr.mk b7 0 none) [(Value.int .i64 r6.1), (Value.int .i64 r6.2.1)] w5 fun w6 =>
  callC Try.prog 9 #[(Value.int .i64 p0), (Value.int .i64 p1), (Value.int .i64 p2), (Value.int .i64 p3), (Value.int .i64 p4), (Value.int .i64 p5)] (fun (r : Int × Int × Int) => (Value.tuple #[(Value.int .i64 r.1), (Value.int .i64 r.2.1), (Value.int .i64 r.2.2)])) w6 fun r9 w7 =>
  ld (Value.int .i64) ((Addr.mk b2 0 none).add 0) w7 fun x10 =>
  ld (Value.int .i64) ((Addr.mk b2 0 none).add 1) w7 fun x11 =>
  callC Try.prog 10 #[(Value.agg #[(Value.int .i64 x10), (Value.int .i64 x11)]), (Value.int .i64 p2), (Value.int .i64 p3), (Value.int .i64 p4)] (fun (r : Int × Int) => (Value.tuple #[(Value.int .i64 r.1), (Value.int .i64 r.2)])) w7 fun r12 w8 =>
  callC Try.prog 11 #[(Value.int .i64 p0), (Value.int .i64 p1), (Value.int .i64 p2), (Value.int .i64 p3), (Value.int .i64 p4)] (fun (r : Int × Int) => (Value.tuple #[(Value.int .i64 r.1), (Value.int .i64 r.2)])) w8 fun r13 w9 =>
  ld (Value.int .i64) ((Addr.mk b2 0 none).add 0) w9 fun x14 =>
  ld (Value.int .i64) ((Addr.mk b2 0 none).add 1) w9 fun x15 =>
  callC Try.prog 12 #[(Value.agg #[(Value.int .i64 x14), (Value.int .i64 x15)]), (Value.int .i64 p2), (Value.int .i64 p3), (Value.int .i64 p5)] (fun (r : Int × Int) => (Value.tuple #[(Value.int .i64 r.1), (Value.int .i64 r.2)])) w9 fun r16 w10 =>
  callC Try.prog 13 #[(Value.int .i64 p0), (Value.int .i64 p1), (Value.int .i64 p2), (Value.int .i64 p3), (Value.int .i64 p5)] (fun (r : Int × Int) => (Value.tuple #[(Value.int .i64 r.1), (Value.int .i64 r.2)])) w10 fun r17 w11 =>
  jp (fun J18 => cnd (r1)
    (
    ld (Value.int .i64) ((Addr.mk b7 0 none).add 0) w11 fun x20 =>
    ld (Value.int .i64) ((Addr.mk b7 0 none).add 1) w11 fun x21 =>
    J18 (decide (x20 = r9.1) && (decide (x21 = r9.2.1) && true))
    )
    (
    J18 false
    ))
  fun c22 =>
  jn (fun J33 => cnd (((((c22 && (decide (r6.2.2 = r9.2.2))) && (decide (r12.1 = r13.1))) && (decide (r12.2 = r13.2))) && (decide (r16.1 = r17.1))) && (decide (r16.2 = r17.2)))
    (
    ld (Value.int .i64) ((Addr.mk b2 0 none).add 0) w11 fun x35 =>
    ld (Value.int .i64) ((Addr.mk b2 0 none).add 1) w11 fun x36 =>
    callC Try.prog 14 #[(Value.agg #[(Value.int .i64 x35), (Value.int .i64 x36)]), (Value.int .i64 p2), (Value.int .i64 p3)] (fun (r : Bool) => (Value.bool r)) w11 fun r37 w12 =>
    callC Try.prog 15 #[(Value.int .i64 p0), (Value.int .i64 p1), (Value.int .i64 p2), (Value.int .i64 p3)] (fun (r : Bool) => (Value.bool r)) w12 fun r38 w13 =>
    J33 (r37 == r38) w13
    )
    (
    J33 false w11
    ))
  fun c39 w14 =>
  K c39 w14
set_option maxRecDepth 100000 in
theorem D3 (p0 : Int) (p1 : Int) (p2 : Int) (p3 : Int) (p4 : Int) (p5 : Int) (w0 : World) (K : Bool → World → Prop) (h : F3 p0 p1 p2 p3 p4 p5 w0 K) : callC Try.prog 3 #[(Value.int .i64 p0), (Value.int .i64 p1), (Value.int .i64 p2), (Value.int .i64 p3), (Value.int .i64 p4), (Value.int .i64 p5)] (fun (r : Bool) => (Value.bool r)) w0 K := by
  unfold F3 at h
  refine calls_of_wpC Try.func3 rfl 131 rfl (by simp) ?_
  intro ρ hρ
  have e0 : ρ 0 = (Value.int .i64 p0) := hρ 0
  have e1 : ρ 1 = (Value.int .i64 p1) := hρ 1
  have e2 : ρ 2 = (Value.int .i64 p2) := hρ 2
  have e3 : ρ 3 = (Value.int .i64 p3) := hρ 3
  have e4 : ρ 4 = (Value.int .i64 p4) := hρ 4
  have e5 : ρ 5 = (Value.int .i64 p5) := hρ 5
  clear hρ
  refine wpC_seq ?_
  refine wpC_region ?_
  refine wpR_val (v := (Value.bool false)) (w' := w0) rfl rfl rfl (x_assign (v := (Value.bool false)) rfl rfl) ?_
  refine wpR_nil ?_
  refine wpC_seq ?_
  refine wpC_cut (fun ρ => ρ 0 = (Value.int .i64 p0) ∧ ρ 1 = (Value.int .i64 p1) ∧ ρ 2 = (Value.int .i64 p2) ∧ ρ 3 = (Value.int .i64 p3) ∧ ρ 4 = (Value.int .i64 p4) ∧ ρ 5 = (Value.int .i64 p5) ∧ True) ⟨e0, e1, e2, e3, e4, e5, trivial⟩ ?_
  rintro ρ ⟨e0, e1, e2, e3, e4, e5, -⟩
  refine wpC_region ?_
  refine wpR_enter rfl rfl rfl (x_call (vs := []) rfl rfl (by rfl) Try.func7 NN_7 NB_7) (Calls.mono h ?_)
  rintro _ w1 ⟨r1, rfl, h⟩
  refine ⟨_, rfl, ?_⟩
  refine wpR_val (v := (Value.bool r1)) (w' := w1) rfl rfl rfl (x_assign (v := (Value.bool r1)) rfl rfl) ?_
  refine wpR_nil ?_
  refine wpC_seq ?_
  refine wpC_cut (fun ρ => ρ 0 = (Value.int .i64 p0) ∧ ρ 1 = (Value.int .i64 p1) ∧ ρ 2 = (Value.int .i64 p2) ∧ ρ 3 = (Value.int .i64 p3) ∧ ρ 4 = (Value.int .i64 p4) ∧ ρ 5 = (Value.int .i64 p5) ∧ ρ 13 = (Value.bool r1) ∧ True) ⟨e0, e1, e2, e3, e4, e5, rfl, trivial⟩ ?_
  rintro ρ ⟨e0, e1, e2, e3, e4, e5, e13, -⟩
  refine wpC_region ?_
  refine wpR_val (v := (Value.int .i64 p0)) (w' := w1) rfl rfl rfl (x_move (v := (Value.int .i64 p0)) rfl e0) ?_
  refine wpR_val (v := (Value.int .i64 p1)) (w' := w1) rfl rfl rfl (x_move (v := (Value.int .i64 p1)) rfl e1) ?_
  refine wpR_val (v := (Value.agg #[(Value.int .i64 p0), (Value.int .i64 p1)])) (w' := w1) rfl rfl rfl (x_build (qs := [(0, (Value.int .i64 p0)), (1, (Value.int .i64 p1))]) rfl (by rfl) (BD_24_0_1 p0 p1 _)) ?_
  obtain ⟨b2, hb2⟩ : ∃ u, u = w1.heap.size := ⟨_, rfl⟩
  obtain ⟨w2, hw2⟩ : ∃ u, u = w1.alloc (.cells #[(Value.int .i64 0), (Value.int .i64 0)] 24) := ⟨_, rfl⟩
  replace h := h b2 w2 hb2 hw2
  refine wpR_val (v := (Value.pointer (some (Addr.mk b2 0 none)))) (w' := w2) rfl rfl rfl ((x_alloc rfl ZV_24).trans (by rw [hb2, hw2]; rfl)) ?_
  obtain ⟨q3, h⟩ := h
  obtain ⟨w3, hw3⟩ : ∃ u, u = setAll w2 (Addr.mk b2 0 none) [(Value.int .i64 p0), (Value.int .i64 p1)] 0 := ⟨_, rfl⟩
  replace h := h w3 hw3
  refine wpR_skp (w' := w3) rfl rfl ((x_store (v := (Value.agg #[(Value.int .i64 p0), (Value.int .i64 p1)])) rfl rfl rfl SZ_24 (ones (by rfl)) q3).trans (by rw [hw3]; rfl)) ?_
  refine wpR_nil ?_
  refine wpC_seq ?_
  refine wpC_cut (fun ρ => ρ 0 = (Value.int .i64 p0) ∧ ρ 1 = (Value.int .i64 p1) ∧ ρ 2 = (Value.int .i64 p2) ∧ ρ 3 = (Value.int .i64 p3) ∧ ρ 4 = (Value.int .i64 p4) ∧ ρ 5 = (Value.int .i64 p5) ∧ ρ 13 = (Value.bool r1) ∧ ρ 14 = (Value.pointer (some (Addr.mk b2 0 none))) ∧ True) ⟨e0, e1, e2, e3, e4, e5, e13, rfl, trivial⟩ ?_
  rintro ρ ⟨e0, e1, e2, e3, e4, e5, e13, e14, -⟩
  refine wpC_region ?_
  obtain ⟨x4, q4, h⟩ := h
  obtain ⟨x5, q5, h⟩ := h
  refine wpR_val (v := (Value.agg #[(Value.int .i64 x4), (Value.int .i64 x5)])) (w' := w3) rfl rfl rfl (x_loadN [(Value.int .i64 x4), (Value.int .i64 x5)] rfl e14 SH_24 (CellsAt.out (CellsAt.cons q4 (CellsAt.cons q5 CellsAt.nil)))) ?_
  refine wpR_val (v := (Value.int .i64 p2)) (w' := w3) rfl rfl rfl (x_move (v := (Value.int .i64 p2)) rfl e2) ?_
  refine wpR_val (v := (Value.int .i64 p3)) (w' := w3) rfl rfl rfl (x_move (v := (Value.int .i64 p3)) rfl e3) ?_
  refine wpR_val (v := (Value.int .i64 p4)) (w' := w3) rfl rfl rfl (x_move (v := (Value.int .i64 p4)) rfl e4) ?_
  refine wpR_val (v := (Value.int .i64 p5)) (w' := w3) rfl rfl rfl (x_move (v := (Value.int .i64 p5)) rfl e5) ?_
  refine wpR_enter rfl rfl rfl (x_call (vs := [(Value.agg #[(Value.int .i64 x4), (Value.int .i64 x5)]), (Value.int .i64 p2), (Value.int .i64 p3), (Value.int .i64 p4), (Value.int .i64 p5)]) rfl rfl (by rfl) Try.func8 NN_8 NB_8) (Calls.mono h ?_)
  rintro _ w4 ⟨r6, rfl, h⟩
  refine ⟨_, rfl, ?_⟩
  refine wpR_val (v := (Value.tuple #[(Value.agg #[(Value.int .i64 r6.1), (Value.int .i64 r6.2.1)]), (Value.int .i64 r6.2.2)])) (w' := w4) rfl rfl rfl (x_move (v := (Value.tuple #[(Value.agg #[(Value.int .i64 r6.1), (Value.int .i64 r6.2.1)]), (Value.int .i64 r6.2.2)])) rfl rfl) ?_
  refine wpR_val (v := (Value.agg #[(Value.int .i64 r6.1), (Value.int .i64 r6.2.1)])) (w' := w4) rfl rfl rfl (x_extract rfl rfl rfl) ?_
  refine wpR_val (v := (Value.int .i64 r6.2.2)) (w' := w4) rfl rfl rfl (x_extract rfl rfl rfl) ?_
  obtain ⟨b7, hb7⟩ : ∃ u, u = w4.heap.size := ⟨_, rfl⟩
  obtain ⟨w5, hw7⟩ : ∃ u, u = w4.alloc (.cells #[(Value.int .i64 0), (Value.int .i64 0)] 24) := ⟨_, rfl⟩
  replace h := h b7 w5 hb7 hw7
  refine wpR_val (v := (Value.pointer (some (Addr.mk b7 0 none)))) (w' := w5) rfl rfl rfl ((x_alloc rfl ZV_24).trans (by rw [hb7, hw7]; rfl)) ?_
  obtain ⟨q8, h⟩ := h
  obtain ⟨w6, hw8⟩ : ∃ u, u = setAll w5 (Addr.mk b7 0 none) [(Value.int .i64 r6.1), (Value.int .i64 r6.2.1)] 0 := ⟨_, rfl⟩
  replace h := h w6 hw8
  refine wpR_skp (w' := w6) rfl rfl ((x_store (v := (Value.agg #[(Value.int .i64 r6.1), (Value.int .i64 r6.2.1)])) rfl rfl rfl SZ_24 (ones (by rfl)) q8).trans (by rw [hw8]; rfl)) ?_
  refine wpR_val (v := (Value.int .i64 r6.2.2)) (w' := w6) rfl rfl rfl (x_assign (v := (Value.int .i64 r6.2.2)) rfl rfl) ?_
  refine wpR_nil ?_
  refine wpC_seq ?_
  refine wpC_cut (fun ρ => ρ 0 = (Value.int .i64 p0) ∧ ρ 1 = (Value.int .i64 p1) ∧ ρ 2 = (Value.int .i64 p2) ∧ ρ 3 = (Value.int .i64 p3) ∧ ρ 4 = (Value.int .i64 p4) ∧ ρ 5 = (Value.int .i64 p5) ∧ ρ 13 = (Value.bool r1) ∧ ρ 14 = (Value.pointer (some (Addr.mk b2 0 none))) ∧ ρ 15 = (Value.pointer (some (Addr.mk b7 0 none))) ∧ ρ 16 = (Value.int .i64 r6.2.2) ∧ True) ⟨e0, e1, e2, e3, e4, e5, e13, e14, rfl, rfl, trivial⟩ ?_
  rintro ρ ⟨e0, e1, e2, e3, e4, e5, e13, e14, e15, e16, -⟩
  refine wpC_region ?_
  refine wpR_val (v := (Value.int .i64 p0)) (w' := w6) rfl rfl rfl (x_move (v := (Value.int .i64 p0)) rfl e0) ?_
  refine wpR_val (v := (Value.int .i64 p1)) (w' := w6) rfl rfl rfl (x_move (v := (Value.int .i64 p1)) rfl e1) ?_
  refine wpR_val (v := (Value.int .i64 p2)) (w' := w6) rfl rfl rfl (x_move (v := (Value.int .i64 p2)) rfl e2) ?_
  refine wpR_val (v := (Value.int .i64 p3)) (w' := w6) rfl rfl rfl (x_move (v := (Value.int .i64 p3)) rfl e3) ?_
  refine wpR_val (v := (Value.int .i64 p4)) (w' := w6) rfl rfl rfl (x_move (v := (Value.int .i64 p4)) rfl e4) ?_
  refine wpR_val (v := (Value.int .i64 p5)) (w' := w6) rfl rfl rfl (x_move (v := (Value.int .i64 p5)) rfl e5) ?_
  refine wpR_enter rfl rfl rfl (x_call (vs := [(Value.int .i64 p0), (Value.int .i64 p1), (Value.int .i64 p2), (Value.int .i64 p3), (Value.int .i64 p4), (Value.int .i64 p5)]) rfl rfl (by rfl) Try.func9 NN_9 NB_9) (Calls.mono h ?_)
  rintro _ w7 ⟨r9, rfl, h⟩
  refine ⟨_, rfl, ?_⟩
  refine wpR_val (v := (Value.tuple #[(Value.int .i64 r9.1), (Value.int .i64 r9.2.1), (Value.int .i64 r9.2.2)])) (w' := w7) rfl rfl rfl (x_move (v := (Value.tuple #[(Value.int .i64 r9.1), (Value.int .i64 r9.2.1), (Value.int .i64 r9.2.2)])) rfl rfl) ?_
  refine wpR_val (v := (Value.int .i64 r9.1)) (w' := w7) rfl rfl rfl (x_extract rfl rfl rfl) ?_
  refine wpR_val (v := (Value.int .i64 r9.2.1)) (w' := w7) rfl rfl rfl (x_extract rfl rfl rfl) ?_
  refine wpR_val (v := (Value.int .i64 r9.2.2)) (w' := w7) rfl rfl rfl (x_extract rfl rfl rfl) ?_
  refine wpR_val (v := (Value.int .i64 r9.1)) (w' := w7) rfl rfl rfl (x_assign (v := (Value.int .i64 r9.1)) rfl rfl) ?_
  refine wpR_val (v := (Value.int .i64 r9.2.1)) (w' := w7) rfl rfl rfl (x_assign (v := (Value.int .i64 r9.2.1)) rfl rfl) ?_
  refine wpR_val (v := (Value.int .i64 r9.2.2)) (w' := w7) rfl rfl rfl (x_assign (v := (Value.int .i64 r9.2.2)) rfl rfl) ?_
  refine wpR_nil ?_
  refine wpC_seq ?_
  refine wpC_cut (fun ρ => ρ 0 = (Value.int .i64 p0) ∧ ρ 1 = (Value.int .i64 p1) ∧ ρ 2 = (Value.int .i64 p2) ∧ ρ 3 = (Value.int .i64 p3) ∧ ρ 4 = (Value.int .i64 p4) ∧ ρ 5 = (Value.int .i64 p5) ∧ ρ 13 = (Value.bool r1) ∧ ρ 14 = (Value.pointer (some (Addr.mk b2 0 none))) ∧ ρ 15 = (Value.pointer (some (Addr.mk b7 0 none))) ∧ ρ 16 = (Value.int .i64 r6.2.2) ∧ ρ 17 = (Value.int .i64 r9.1) ∧ ρ 18 = (Value.int .i64 r9.2.1) ∧ ρ 19 = (Value.int .i64 r9.2.2) ∧ True) ⟨e0, e1, e2, e3, e4, e5, e13, e14, e15, e16, rfl, rfl, rfl, trivial⟩ ?_
  rintro ρ ⟨e0, e1, e2, e3, e4, e5, e13, e14, e15, e16, e17, e18, e19, -⟩
  refine wpC_region ?_
  obtain ⟨x10, q10, h⟩ := h
  obtain ⟨x11, q11, h⟩ := h
  refine wpR_val (v := (Value.agg #[(Value.int .i64 x10), (Value.int .i64 x11)])) (w' := w7) rfl rfl rfl (x_loadN [(Value.int .i64 x10), (Value.int .i64 x11)] rfl e14 SH_24 (CellsAt.out (CellsAt.cons q10 (CellsAt.cons q11 CellsAt.nil)))) ?_
  refine wpR_val (v := (Value.int .i64 p2)) (w' := w7) rfl rfl rfl (x_move (v := (Value.int .i64 p2)) rfl e2) ?_
  refine wpR_val (v := (Value.int .i64 p3)) (w' := w7) rfl rfl rfl (x_move (v := (Value.int .i64 p3)) rfl e3) ?_
  refine wpR_val (v := (Value.int .i64 p4)) (w' := w7) rfl rfl rfl (x_move (v := (Value.int .i64 p4)) rfl e4) ?_
  refine wpR_enter rfl rfl rfl (x_call (vs := [(Value.agg #[(Value.int .i64 x10), (Value.int .i64 x11)]), (Value.int .i64 p2), (Value.int .i64 p3), (Value.int .i64 p4)]) rfl rfl (by rfl) Try.func10 NN_10 NB_10) (Calls.mono h ?_)
  rintro _ w8 ⟨r12, rfl, h⟩
  refine ⟨_, rfl, ?_⟩
  refine wpR_val (v := (Value.tuple #[(Value.int .i64 r12.1), (Value.int .i64 r12.2)])) (w' := w8) rfl rfl rfl (x_move (v := (Value.tuple #[(Value.int .i64 r12.1), (Value.int .i64 r12.2)])) rfl rfl) ?_
  refine wpR_val (v := (Value.int .i64 r12.1)) (w' := w8) rfl rfl rfl (x_extract rfl rfl rfl) ?_
  refine wpR_val (v := (Value.int .i64 r12.2)) (w' := w8) rfl rfl rfl (x_extract rfl rfl rfl) ?_
  refine wpR_val (v := (Value.int .i64 r12.1)) (w' := w8) rfl rfl rfl (x_assign (v := (Value.int .i64 r12.1)) rfl rfl) ?_
  refine wpR_val (v := (Value.int .i64 r12.2)) (w' := w8) rfl rfl rfl (x_assign (v := (Value.int .i64 r12.2)) rfl rfl) ?_
  refine wpR_nil ?_
  refine wpC_seq ?_
  refine wpC_cut (fun ρ => ρ 0 = (Value.int .i64 p0) ∧ ρ 1 = (Value.int .i64 p1) ∧ ρ 2 = (Value.int .i64 p2) ∧ ρ 3 = (Value.int .i64 p3) ∧ ρ 4 = (Value.int .i64 p4) ∧ ρ 5 = (Value.int .i64 p5) ∧ ρ 13 = (Value.bool r1) ∧ ρ 14 = (Value.pointer (some (Addr.mk b2 0 none))) ∧ ρ 15 = (Value.pointer (some (Addr.mk b7 0 none))) ∧ ρ 16 = (Value.int .i64 r6.2.2) ∧ ρ 17 = (Value.int .i64 r9.1) ∧ ρ 18 = (Value.int .i64 r9.2.1) ∧ ρ 19 = (Value.int .i64 r9.2.2) ∧ ρ 20 = (Value.int .i64 r12.1) ∧ ρ 21 = (Value.int .i64 r12.2) ∧ True) ⟨e0, e1, e2, e3, e4, e5, e13, e14, e15, e16, e17, e18, e19, rfl, rfl, trivial⟩ ?_
  rintro ρ ⟨e0, e1, e2, e3, e4, e5, e13, e14, e15, e16, e17, e18, e19, e20, e21, -⟩
  refine wpC_region ?_
  refine wpR_val (v := (Value.int .i64 p0)) (w' := w8) rfl rfl rfl (x_move (v := (Value.int .i64 p0)) rfl e0) ?_
  refine wpR_val (v := (Value.int .i64 p1)) (w' := w8) rfl rfl rfl (x_move (v := (Value.int .i64 p1)) rfl e1) ?_
  refine wpR_val (v := (Value.int .i64 p2)) (w' := w8) rfl rfl rfl (x_move (v := (Value.int .i64 p2)) rfl e2) ?_
  refine wpR_val (v := (Value.int .i64 p3)) (w' := w8) rfl rfl rfl (x_move (v := (Value.int .i64 p3)) rfl e3) ?_
  refine wpR_val (v := (Value.int .i64 p4)) (w' := w8) rfl rfl rfl (x_move (v := (Value.int .i64 p4)) rfl e4) ?_
  refine wpR_enter rfl rfl rfl (x_call (vs := [(Value.int .i64 p0), (Value.int .i64 p1), (Value.int .i64 p2), (Value.int .i64 p3), (Value.int .i64 p4)]) rfl rfl (by rfl) Try.func11 NN_11 NB_11) (Calls.mono h ?_)
  rintro _ w9 ⟨r13, rfl, h⟩
  refine ⟨_, rfl, ?_⟩
  refine wpR_val (v := (Value.tuple #[(Value.int .i64 r13.1), (Value.int .i64 r13.2)])) (w' := w9) rfl rfl rfl (x_move (v := (Value.tuple #[(Value.int .i64 r13.1), (Value.int .i64 r13.2)])) rfl rfl) ?_
  refine wpR_val (v := (Value.int .i64 r13.1)) (w' := w9) rfl rfl rfl (x_extract rfl rfl rfl) ?_
  refine wpR_val (v := (Value.int .i64 r13.2)) (w' := w9) rfl rfl rfl (x_extract rfl rfl rfl) ?_
  refine wpR_val (v := (Value.int .i64 r13.1)) (w' := w9) rfl rfl rfl (x_assign (v := (Value.int .i64 r13.1)) rfl rfl) ?_
  refine wpR_val (v := (Value.int .i64 r13.2)) (w' := w9) rfl rfl rfl (x_assign (v := (Value.int .i64 r13.2)) rfl rfl) ?_
  refine wpR_nil ?_
  refine wpC_seq ?_
  refine wpC_cut (fun ρ => ρ 0 = (Value.int .i64 p0) ∧ ρ 1 = (Value.int .i64 p1) ∧ ρ 2 = (Value.int .i64 p2) ∧ ρ 3 = (Value.int .i64 p3) ∧ ρ 5 = (Value.int .i64 p5) ∧ ρ 13 = (Value.bool r1) ∧ ρ 14 = (Value.pointer (some (Addr.mk b2 0 none))) ∧ ρ 15 = (Value.pointer (some (Addr.mk b7 0 none))) ∧ ρ 16 = (Value.int .i64 r6.2.2) ∧ ρ 17 = (Value.int .i64 r9.1) ∧ ρ 18 = (Value.int .i64 r9.2.1) ∧ ρ 19 = (Value.int .i64 r9.2.2) ∧ ρ 20 = (Value.int .i64 r12.1) ∧ ρ 21 = (Value.int .i64 r12.2) ∧ ρ 22 = (Value.int .i64 r13.1) ∧ ρ 23 = (Value.int .i64 r13.2) ∧ True) ⟨e0, e1, e2, e3, e5, e13, e14, e15, e16, e17, e18, e19, e20, e21, rfl, rfl, trivial⟩ ?_
  rintro ρ ⟨e0, e1, e2, e3, e5, e13, e14, e15, e16, e17, e18, e19, e20, e21, e22, e23, -⟩
  refine wpC_region ?_
  obtain ⟨x14, q14, h⟩ := h
  obtain ⟨x15, q15, h⟩ := h
  refine wpR_val (v := (Value.agg #[(Value.int .i64 x14), (Value.int .i64 x15)])) (w' := w9) rfl rfl rfl (x_loadN [(Value.int .i64 x14), (Value.int .i64 x15)] rfl e14 SH_24 (CellsAt.out (CellsAt.cons q14 (CellsAt.cons q15 CellsAt.nil)))) ?_
  refine wpR_val (v := (Value.int .i64 p2)) (w' := w9) rfl rfl rfl (x_move (v := (Value.int .i64 p2)) rfl e2) ?_
  refine wpR_val (v := (Value.int .i64 p3)) (w' := w9) rfl rfl rfl (x_move (v := (Value.int .i64 p3)) rfl e3) ?_
  refine wpR_val (v := (Value.int .i64 p5)) (w' := w9) rfl rfl rfl (x_move (v := (Value.int .i64 p5)) rfl e5) ?_
  refine wpR_enter rfl rfl rfl (x_call (vs := [(Value.agg #[(Value.int .i64 x14), (Value.int .i64 x15)]), (Value.int .i64 p2), (Value.int .i64 p3), (Value.int .i64 p5)]) rfl rfl (by rfl) Try.func12 NN_12 NB_12) (Calls.mono h ?_)
  rintro _ w10 ⟨r16, rfl, h⟩
  refine ⟨_, rfl, ?_⟩
  refine wpR_val (v := (Value.tuple #[(Value.int .i64 r16.1), (Value.int .i64 r16.2)])) (w' := w10) rfl rfl rfl (x_move (v := (Value.tuple #[(Value.int .i64 r16.1), (Value.int .i64 r16.2)])) rfl rfl) ?_
  refine wpR_val (v := (Value.int .i64 r16.1)) (w' := w10) rfl rfl rfl (x_extract rfl rfl rfl) ?_
  refine wpR_val (v := (Value.int .i64 r16.2)) (w' := w10) rfl rfl rfl (x_extract rfl rfl rfl) ?_
  refine wpR_val (v := (Value.int .i64 r16.1)) (w' := w10) rfl rfl rfl (x_assign (v := (Value.int .i64 r16.1)) rfl rfl) ?_
  refine wpR_val (v := (Value.int .i64 r16.2)) (w' := w10) rfl rfl rfl (x_assign (v := (Value.int .i64 r16.2)) rfl rfl) ?_
  refine wpR_nil ?_
  refine wpC_seq ?_
  refine wpC_cut (fun ρ => ρ 0 = (Value.int .i64 p0) ∧ ρ 1 = (Value.int .i64 p1) ∧ ρ 2 = (Value.int .i64 p2) ∧ ρ 3 = (Value.int .i64 p3) ∧ ρ 5 = (Value.int .i64 p5) ∧ ρ 13 = (Value.bool r1) ∧ ρ 14 = (Value.pointer (some (Addr.mk b2 0 none))) ∧ ρ 15 = (Value.pointer (some (Addr.mk b7 0 none))) ∧ ρ 16 = (Value.int .i64 r6.2.2) ∧ ρ 17 = (Value.int .i64 r9.1) ∧ ρ 18 = (Value.int .i64 r9.2.1) ∧ ρ 19 = (Value.int .i64 r9.2.2) ∧ ρ 20 = (Value.int .i64 r12.1) ∧ ρ 21 = (Value.int .i64 r12.2) ∧ ρ 22 = (Value.int .i64 r13.1) ∧ ρ 23 = (Value.int .i64 r13.2) ∧ ρ 24 = (Value.int .i64 r16.1) ∧ ρ 25 = (Value.int .i64 r16.2) ∧ True) ⟨e0, e1, e2, e3, e5, e13, e14, e15, e16, e17, e18, e19, e20, e21, e22, e23, rfl, rfl, trivial⟩ ?_
  rintro ρ ⟨e0, e1, e2, e3, e5, e13, e14, e15, e16, e17, e18, e19, e20, e21, e22, e23, e24, e25, -⟩
  refine wpC_region ?_
  refine wpR_val (v := (Value.int .i64 p0)) (w' := w10) rfl rfl rfl (x_move (v := (Value.int .i64 p0)) rfl e0) ?_
  refine wpR_val (v := (Value.int .i64 p1)) (w' := w10) rfl rfl rfl (x_move (v := (Value.int .i64 p1)) rfl e1) ?_
  refine wpR_val (v := (Value.int .i64 p2)) (w' := w10) rfl rfl rfl (x_move (v := (Value.int .i64 p2)) rfl e2) ?_
  refine wpR_val (v := (Value.int .i64 p3)) (w' := w10) rfl rfl rfl (x_move (v := (Value.int .i64 p3)) rfl e3) ?_
  refine wpR_val (v := (Value.int .i64 p5)) (w' := w10) rfl rfl rfl (x_move (v := (Value.int .i64 p5)) rfl e5) ?_
  refine wpR_enter rfl rfl rfl (x_call (vs := [(Value.int .i64 p0), (Value.int .i64 p1), (Value.int .i64 p2), (Value.int .i64 p3), (Value.int .i64 p5)]) rfl rfl (by rfl) Try.func13 NN_13 NB_13) (Calls.mono h ?_)
  rintro _ w11 ⟨r17, rfl, h⟩
  refine ⟨_, rfl, ?_⟩
  refine wpR_val (v := (Value.tuple #[(Value.int .i64 r17.1), (Value.int .i64 r17.2)])) (w' := w11) rfl rfl rfl (x_move (v := (Value.tuple #[(Value.int .i64 r17.1), (Value.int .i64 r17.2)])) rfl rfl) ?_
  refine wpR_val (v := (Value.int .i64 r17.1)) (w' := w11) rfl rfl rfl (x_extract rfl rfl rfl) ?_
  refine wpR_val (v := (Value.int .i64 r17.2)) (w' := w11) rfl rfl rfl (x_extract rfl rfl rfl) ?_
  refine wpR_val (v := (Value.int .i64 r17.1)) (w' := w11) rfl rfl rfl (x_assign (v := (Value.int .i64 r17.1)) rfl rfl) ?_
  refine wpR_val (v := (Value.int .i64 r17.2)) (w' := w11) rfl rfl rfl (x_assign (v := (Value.int .i64 r17.2)) rfl rfl) ?_
  refine wpR_nil ?_
  refine wpC_seq ?_
  refine wpC_cut (fun ρ => ρ 0 = (Value.int .i64 p0) ∧ ρ 1 = (Value.int .i64 p1) ∧ ρ 2 = (Value.int .i64 p2) ∧ ρ 3 = (Value.int .i64 p3) ∧ ρ 13 = (Value.bool r1) ∧ ρ 14 = (Value.pointer (some (Addr.mk b2 0 none))) ∧ ρ 15 = (Value.pointer (some (Addr.mk b7 0 none))) ∧ ρ 16 = (Value.int .i64 r6.2.2) ∧ ρ 17 = (Value.int .i64 r9.1) ∧ ρ 18 = (Value.int .i64 r9.2.1) ∧ ρ 19 = (Value.int .i64 r9.2.2) ∧ ρ 20 = (Value.int .i64 r12.1) ∧ ρ 21 = (Value.int .i64 r12.2) ∧ ρ 22 = (Value.int .i64 r13.1) ∧ ρ 23 = (Value.int .i64 r13.2) ∧ ρ 24 = (Value.int .i64 r16.1) ∧ ρ 25 = (Value.int .i64 r16.2) ∧ ρ 26 = (Value.int .i64 r17.1) ∧ ρ 27 = (Value.int .i64 r17.2) ∧ True) ⟨e0, e1, e2, e3, e13, e14, e15, e16, e17, e18, e19, e20, e21, e22, e23, e24, e25, rfl, rfl, trivial⟩ ?_
  rintro ρ ⟨e0, e1, e2, e3, e13, e14, e15, e16, e17, e18, e19, e20, e21, e22, e23, e24, e25, e26, e27, -⟩
  refine wpC_region ?_
  refine wpR_val (v := (Value.bool r1)) (w' := w11) rfl rfl rfl (x_move (v := (Value.bool r1)) rfl e13) ?_
  refine wpR_val (v := (Value.bool r1)) (w' := w11) rfl rfl rfl (x_move (v := (Value.bool r1)) rfl rfl) ?_
  obtain ⟨J18, h, hk⟩ := h
  refine wpR_joinJ 6 (fun x ρ => ρ 93 = Value.bool x ∧ ρ 0 = (Value.int .i64 p0) ∧ ρ 1 = (Value.int .i64 p1) ∧ ρ 2 = (Value.int .i64 p2) ∧ ρ 3 = (Value.int .i64 p3) ∧ ρ 14 = (Value.pointer (some (Addr.mk b2 0 none))) ∧ ρ 16 = (Value.int .i64 r6.2.2) ∧ ρ 19 = (Value.int .i64 r9.2.2) ∧ ρ 20 = (Value.int .i64 r12.1) ∧ ρ 21 = (Value.int .i64 r12.2) ∧ ρ 22 = (Value.int .i64 r13.1) ∧ ρ 23 = (Value.int .i64 r13.2) ∧ ρ 24 = (Value.int .i64 r16.1) ∧ ρ 25 = (Value.int .i64 r16.2) ∧ ρ 26 = (Value.int .i64 r17.1) ∧ ρ 27 = (Value.int .i64 r17.2) ∧ True) (fun x w => J18 x ∧ w11 = w) ?_ ?_
  · clear hk
    rcases Bool.eq_false_or_eq_true (r1) with hc19 | hc19
    · replace h := h.1 hc19
      obtain ⟨x20, q20, h⟩ := h
      obtain ⟨x21, q21, h⟩ := h
      refine wpR_val (v := (Value.agg #[(Value.int .i64 x20), (Value.int .i64 x21)])) (w' := w11) (wantG rfl rfl rfl hc19) rfl rfl (x_loadN [(Value.int .i64 x20), (Value.int .i64 x21)] rfl e15 SH_24 (CellsAt.out (CellsAt.cons q20 (CellsAt.cons q21 CellsAt.nil)))) ?_
      refine wpR_val (v := (Value.int .i64 r9.1)) (w' := w11) (wantG rfl rfl rfl hc19) rfl rfl (x_move (v := (Value.int .i64 r9.1)) rfl e17) ?_
      refine wpR_val (v := (Value.int .i64 r9.2.1)) (w' := w11) (wantG rfl rfl rfl hc19) rfl rfl (x_move (v := (Value.int .i64 r9.2.1)) rfl e18) ?_
      refine wpR_val (v := (Value.agg #[(Value.int .i64 r9.1), (Value.int .i64 r9.2.1)])) (w' := w11) (wantG rfl rfl rfl hc19) rfl rfl (x_build (qs := [(0, (Value.int .i64 r9.1)), (1, (Value.int .i64 r9.2.1))]) rfl (by rfl) (BD_24_0_1 r9.1 r9.2.1 _)) ?_
      refine wpR_val (v := (Value.bool (decide (x20 = r9.1) && (decide (x21 = r9.2.1) && true)))) (w' := w11) (wantG rfl rfl rfl hc19) rfl rfl (x_eqlA rfl rfl rfl EQ1_24 EQ2_24 EQ3_24 (EQ_24 x20 x21 r9.1 r9.2.1)) ?_
      refine wpR_val (v := (Value.bool (decide (x20 = r9.1) && (decide (x21 = r9.2.1) && true)))) (w' := w11) rfl rfl rfl (x_pickT (v := (Value.bool (decide (x20 = r9.1) && (decide (x21 = r9.2.1) && true)))) rfl rfl hc19 rfl) ?_
      refine wpR_nil ?_
      exact ⟨(decide (x20 = r9.1) && (decide (x21 = r9.2.1) && true)), ⟨rfl, e0, e1, e2, e3, e14, e16, e19, e20, e21, e22, e23, e24, e25, e26, e27, trivial⟩, h, rfl⟩
    · replace h := h.2 hc19
      refine wpR_pass (wantN rfl rfl rfl hc19) rfl rfl ?_
      refine wpR_pass (wantN rfl rfl rfl hc19) rfl rfl ?_
      refine wpR_pass (wantN rfl rfl rfl hc19) rfl rfl ?_
      refine wpR_pass (wantN rfl rfl rfl hc19) rfl rfl ?_
      refine wpR_pass (wantN rfl rfl rfl hc19) rfl rfl ?_
      refine wpR_val (v := (Value.bool false)) (w' := w11) rfl rfl rfl (x_pickF (v := (Value.bool false)) rfl rfl hc19 rfl) ?_
      refine wpR_nil ?_
      exact ⟨false, ⟨rfl, e0, e1, e2, e3, e14, e16, e19, e20, e21, e22, e23, e24, e25, e26, e27, trivial⟩, h, rfl⟩
  clear h
  rintro c22 ρ wj ⟨e93, e0, e1, e2, e3, e14, e16, e19, e20, e21, e22, e23, e24, e25, e26, e27, -⟩ ⟨h, rfl⟩
  replace h := hk c22 h
  clear hk
  refine wpR_val (v := (Value.bool c22)) (w' := w11) rfl rfl rfl (x_move (v := (Value.bool c22)) rfl e93) ?_
  refine wpR_joinJ 4 (fun (_ : Unit) ρ => ρ 98 = Value.bool (c22 && (decide (r6.2.2 = r9.2.2))) ∧ ρ 0 = (Value.int .i64 p0) ∧ ρ 1 = (Value.int .i64 p1) ∧ ρ 2 = (Value.int .i64 p2) ∧ ρ 3 = (Value.int .i64 p3) ∧ ρ 14 = (Value.pointer (some (Addr.mk b2 0 none))) ∧ ρ 20 = (Value.int .i64 r12.1) ∧ ρ 21 = (Value.int .i64 r12.2) ∧ ρ 22 = (Value.int .i64 r13.1) ∧ ρ 23 = (Value.int .i64 r13.2) ∧ ρ 24 = (Value.int .i64 r16.1) ∧ ρ 25 = (Value.int .i64 r16.2) ∧ ρ 26 = (Value.int .i64 r17.1) ∧ ρ 27 = (Value.int .i64 r17.2) ∧ True) (fun _ w => w11 = w) ?_ ?_
  · clear h
    rcases Bool.eq_false_or_eq_true (c22) with hc24 | hc24
    · skip
      refine wpR_val (v := (Value.int .i64 r6.2.2)) (w' := w11) (wantG rfl rfl rfl hc24) rfl rfl (x_move (v := (Value.int .i64 r6.2.2)) rfl e16) ?_
      refine wpR_val (v := (Value.int .i64 r9.2.2)) (w' := w11) (wantG rfl rfl rfl hc24) rfl rfl (x_move (v := (Value.int .i64 r9.2.2)) rfl e19) ?_
      refine wpR_val (v := (Value.bool (decide (r6.2.2 = r9.2.2)))) (w' := w11) (wantG rfl rfl rfl hc24) rfl rfl (x_eql rfl rfl rfl) ?_
      refine wpR_val (v := (Value.bool (decide (r6.2.2 = r9.2.2)))) (w' := w11) rfl rfl rfl (x_pickT (v := (Value.bool (decide (r6.2.2 = r9.2.2)))) rfl rfl hc24 rfl) ?_
      refine wpR_nil ?_
      exact ⟨(), ⟨(by rw [hc24]; rfl), e0, e1, e2, e3, e14, e20, e21, e22, e23, e24, e25, e26, e27, trivial⟩, rfl⟩
    · skip
      refine wpR_pass (wantN rfl rfl rfl hc24) rfl rfl ?_
      refine wpR_pass (wantN rfl rfl rfl hc24) rfl rfl ?_
      refine wpR_pass (wantN rfl rfl rfl hc24) rfl rfl ?_
      refine wpR_val (v := (Value.bool false)) (w' := w11) rfl rfl rfl (x_pickF (v := (Value.bool false)) rfl rfl hc24 rfl) ?_
      refine wpR_nil ?_
      exact ⟨(), ⟨(by rw [hc24]; rfl), e0, e1, e2, e3, e14, e20, e21, e22, e23, e24, e25, e26, e27, trivial⟩, rfl⟩
  rintro _ ρ wj ⟨e98, e0, e1, e2, e3, e14, e20, e21, e22, e23, e24, e25, e26, e27, -⟩ rfl
  refine wpR_val (v := (Value.bool (c22 && (decide (r6.2.2 = r9.2.2))))) (w' := w11) rfl rfl rfl (x_move (v := (Value.bool (c22 && (decide (r6.2.2 = r9.2.2))))) rfl e98) ?_
  refine wpR_joinJ 4 (fun (_ : Unit) ρ => ρ 103 = Value.bool ((c22 && (decide (r6.2.2 = r9.2.2))) && (decide (r12.1 = r13.1))) ∧ ρ 0 = (Value.int .i64 p0) ∧ ρ 1 = (Value.int .i64 p1) ∧ ρ 2 = (Value.int .i64 p2) ∧ ρ 3 = (Value.int .i64 p3) ∧ ρ 14 = (Value.pointer (some (Addr.mk b2 0 none))) ∧ ρ 21 = (Value.int .i64 r12.2) ∧ ρ 23 = (Value.int .i64 r13.2) ∧ ρ 24 = (Value.int .i64 r16.1) ∧ ρ 25 = (Value.int .i64 r16.2) ∧ ρ 26 = (Value.int .i64 r17.1) ∧ ρ 27 = (Value.int .i64 r17.2) ∧ True) (fun _ w => w11 = w) ?_ ?_
  · clear h
    rcases Bool.eq_false_or_eq_true (c22 && (decide (r6.2.2 = r9.2.2))) with hc26 | hc26
    · skip
      refine wpR_val (v := (Value.int .i64 r12.1)) (w' := w11) (wantG rfl rfl rfl hc26) rfl rfl (x_move (v := (Value.int .i64 r12.1)) rfl e20) ?_
      refine wpR_val (v := (Value.int .i64 r13.1)) (w' := w11) (wantG rfl rfl rfl hc26) rfl rfl (x_move (v := (Value.int .i64 r13.1)) rfl e22) ?_
      refine wpR_val (v := (Value.bool (decide (r12.1 = r13.1)))) (w' := w11) (wantG rfl rfl rfl hc26) rfl rfl (x_eql rfl rfl rfl) ?_
      refine wpR_val (v := (Value.bool (decide (r12.1 = r13.1)))) (w' := w11) rfl rfl rfl (x_pickT (v := (Value.bool (decide (r12.1 = r13.1)))) rfl rfl hc26 rfl) ?_
      refine wpR_nil ?_
      exact ⟨(), ⟨(by rw [hc26]; rfl), e0, e1, e2, e3, e14, e21, e23, e24, e25, e26, e27, trivial⟩, rfl⟩
    · skip
      refine wpR_pass (wantN rfl rfl rfl hc26) rfl rfl ?_
      refine wpR_pass (wantN rfl rfl rfl hc26) rfl rfl ?_
      refine wpR_pass (wantN rfl rfl rfl hc26) rfl rfl ?_
      refine wpR_val (v := (Value.bool false)) (w' := w11) rfl rfl rfl (x_pickF (v := (Value.bool false)) rfl rfl hc26 rfl) ?_
      refine wpR_nil ?_
      exact ⟨(), ⟨(by rw [hc26]; rfl), e0, e1, e2, e3, e14, e21, e23, e24, e25, e26, e27, trivial⟩, rfl⟩
  rintro _ ρ wj ⟨e103, e0, e1, e2, e3, e14, e21, e23, e24, e25, e26, e27, -⟩ rfl
  refine wpR_val (v := (Value.bool ((c22 && (decide (r6.2.2 = r9.2.2))) && (decide (r12.1 = r13.1))))) (w' := w11) rfl rfl rfl (x_move (v := (Value.bool ((c22 && (decide (r6.2.2 = r9.2.2))) && (decide (r12.1 = r13.1))))) rfl e103) ?_
  refine wpR_joinJ 4 (fun (_ : Unit) ρ => ρ 108 = Value.bool (((c22 && (decide (r6.2.2 = r9.2.2))) && (decide (r12.1 = r13.1))) && (decide (r12.2 = r13.2))) ∧ ρ 0 = (Value.int .i64 p0) ∧ ρ 1 = (Value.int .i64 p1) ∧ ρ 2 = (Value.int .i64 p2) ∧ ρ 3 = (Value.int .i64 p3) ∧ ρ 14 = (Value.pointer (some (Addr.mk b2 0 none))) ∧ ρ 24 = (Value.int .i64 r16.1) ∧ ρ 25 = (Value.int .i64 r16.2) ∧ ρ 26 = (Value.int .i64 r17.1) ∧ ρ 27 = (Value.int .i64 r17.2) ∧ True) (fun _ w => w11 = w) ?_ ?_
  · clear h
    rcases Bool.eq_false_or_eq_true ((c22 && (decide (r6.2.2 = r9.2.2))) && (decide (r12.1 = r13.1))) with hc28 | hc28
    · skip
      refine wpR_val (v := (Value.int .i64 r12.2)) (w' := w11) (wantG rfl rfl rfl hc28) rfl rfl (x_move (v := (Value.int .i64 r12.2)) rfl e21) ?_
      refine wpR_val (v := (Value.int .i64 r13.2)) (w' := w11) (wantG rfl rfl rfl hc28) rfl rfl (x_move (v := (Value.int .i64 r13.2)) rfl e23) ?_
      refine wpR_val (v := (Value.bool (decide (r12.2 = r13.2)))) (w' := w11) (wantG rfl rfl rfl hc28) rfl rfl (x_eql rfl rfl rfl) ?_
      refine wpR_val (v := (Value.bool (decide (r12.2 = r13.2)))) (w' := w11) rfl rfl rfl (x_pickT (v := (Value.bool (decide (r12.2 = r13.2)))) rfl rfl hc28 rfl) ?_
      refine wpR_nil ?_
      exact ⟨(), ⟨(by rw [hc28]; rfl), e0, e1, e2, e3, e14, e24, e25, e26, e27, trivial⟩, rfl⟩
    · skip
      refine wpR_pass (wantN rfl rfl rfl hc28) rfl rfl ?_
      refine wpR_pass (wantN rfl rfl rfl hc28) rfl rfl ?_
      refine wpR_pass (wantN rfl rfl rfl hc28) rfl rfl ?_
      refine wpR_val (v := (Value.bool false)) (w' := w11) rfl rfl rfl (x_pickF (v := (Value.bool false)) rfl rfl hc28 rfl) ?_
      refine wpR_nil ?_
      exact ⟨(), ⟨(by rw [hc28]; rfl), e0, e1, e2, e3, e14, e24, e25, e26, e27, trivial⟩, rfl⟩
  rintro _ ρ wj ⟨e108, e0, e1, e2, e3, e14, e24, e25, e26, e27, -⟩ rfl
  refine wpR_val (v := (Value.bool (((c22 && (decide (r6.2.2 = r9.2.2))) && (decide (r12.1 = r13.1))) && (decide (r12.2 = r13.2))))) (w' := w11) rfl rfl rfl (x_move (v := (Value.bool (((c22 && (decide (r6.2.2 = r9.2.2))) && (decide (r12.1 = r13.1))) && (decide (r12.2 = r13.2))))) rfl e108) ?_
  refine wpR_joinJ 4 (fun (_ : Unit) ρ => ρ 113 = Value.bool ((((c22 && (decide (r6.2.2 = r9.2.2))) && (decide (r12.1 = r13.1))) && (decide (r12.2 = r13.2))) && (decide (r16.1 = r17.1))) ∧ ρ 0 = (Value.int .i64 p0) ∧ ρ 1 = (Value.int .i64 p1) ∧ ρ 2 = (Value.int .i64 p2) ∧ ρ 3 = (Value.int .i64 p3) ∧ ρ 14 = (Value.pointer (some (Addr.mk b2 0 none))) ∧ ρ 25 = (Value.int .i64 r16.2) ∧ ρ 27 = (Value.int .i64 r17.2) ∧ True) (fun _ w => w11 = w) ?_ ?_
  · clear h
    rcases Bool.eq_false_or_eq_true (((c22 && (decide (r6.2.2 = r9.2.2))) && (decide (r12.1 = r13.1))) && (decide (r12.2 = r13.2))) with hc30 | hc30
    · skip
      refine wpR_val (v := (Value.int .i64 r16.1)) (w' := w11) (wantG rfl rfl rfl hc30) rfl rfl (x_move (v := (Value.int .i64 r16.1)) rfl e24) ?_
      refine wpR_val (v := (Value.int .i64 r17.1)) (w' := w11) (wantG rfl rfl rfl hc30) rfl rfl (x_move (v := (Value.int .i64 r17.1)) rfl e26) ?_
      refine wpR_val (v := (Value.bool (decide (r16.1 = r17.1)))) (w' := w11) (wantG rfl rfl rfl hc30) rfl rfl (x_eql rfl rfl rfl) ?_
      refine wpR_val (v := (Value.bool (decide (r16.1 = r17.1)))) (w' := w11) rfl rfl rfl (x_pickT (v := (Value.bool (decide (r16.1 = r17.1)))) rfl rfl hc30 rfl) ?_
      refine wpR_nil ?_
      exact ⟨(), ⟨(by rw [hc30]; rfl), e0, e1, e2, e3, e14, e25, e27, trivial⟩, rfl⟩
    · skip
      refine wpR_pass (wantN rfl rfl rfl hc30) rfl rfl ?_
      refine wpR_pass (wantN rfl rfl rfl hc30) rfl rfl ?_
      refine wpR_pass (wantN rfl rfl rfl hc30) rfl rfl ?_
      refine wpR_val (v := (Value.bool false)) (w' := w11) rfl rfl rfl (x_pickF (v := (Value.bool false)) rfl rfl hc30 rfl) ?_
      refine wpR_nil ?_
      exact ⟨(), ⟨(by rw [hc30]; rfl), e0, e1, e2, e3, e14, e25, e27, trivial⟩, rfl⟩
  rintro _ ρ wj ⟨e113, e0, e1, e2, e3, e14, e25, e27, -⟩ rfl
  refine wpR_val (v := (Value.bool ((((c22 && (decide (r6.2.2 = r9.2.2))) && (decide (r12.1 = r13.1))) && (decide (r12.2 = r13.2))) && (decide (r16.1 = r17.1))))) (w' := w11) rfl rfl rfl (x_move (v := (Value.bool ((((c22 && (decide (r6.2.2 = r9.2.2))) && (decide (r12.1 = r13.1))) && (decide (r12.2 = r13.2))) && (decide (r16.1 = r17.1))))) rfl e113) ?_
  refine wpR_joinJ 4 (fun (_ : Unit) ρ => ρ 118 = Value.bool (((((c22 && (decide (r6.2.2 = r9.2.2))) && (decide (r12.1 = r13.1))) && (decide (r12.2 = r13.2))) && (decide (r16.1 = r17.1))) && (decide (r16.2 = r17.2))) ∧ ρ 0 = (Value.int .i64 p0) ∧ ρ 1 = (Value.int .i64 p1) ∧ ρ 2 = (Value.int .i64 p2) ∧ ρ 3 = (Value.int .i64 p3) ∧ ρ 14 = (Value.pointer (some (Addr.mk b2 0 none))) ∧ True) (fun _ w => w11 = w) ?_ ?_
  · clear h
    rcases Bool.eq_false_or_eq_true ((((c22 && (decide (r6.2.2 = r9.2.2))) && (decide (r12.1 = r13.1))) && (decide (r12.2 = r13.2))) && (decide (r16.1 = r17.1))) with hc32 | hc32
    · skip
      refine wpR_val (v := (Value.int .i64 r16.2)) (w' := w11) (wantG rfl rfl rfl hc32) rfl rfl (x_move (v := (Value.int .i64 r16.2)) rfl e25) ?_
      refine wpR_val (v := (Value.int .i64 r17.2)) (w' := w11) (wantG rfl rfl rfl hc32) rfl rfl (x_move (v := (Value.int .i64 r17.2)) rfl e27) ?_
      refine wpR_val (v := (Value.bool (decide (r16.2 = r17.2)))) (w' := w11) (wantG rfl rfl rfl hc32) rfl rfl (x_eql rfl rfl rfl) ?_
      refine wpR_val (v := (Value.bool (decide (r16.2 = r17.2)))) (w' := w11) rfl rfl rfl (x_pickT (v := (Value.bool (decide (r16.2 = r17.2)))) rfl rfl hc32 rfl) ?_
      refine wpR_nil ?_
      exact ⟨(), ⟨(by rw [hc32]; rfl), e0, e1, e2, e3, e14, trivial⟩, rfl⟩
    · skip
      refine wpR_pass (wantN rfl rfl rfl hc32) rfl rfl ?_
      refine wpR_pass (wantN rfl rfl rfl hc32) rfl rfl ?_
      refine wpR_pass (wantN rfl rfl rfl hc32) rfl rfl ?_
      refine wpR_val (v := (Value.bool false)) (w' := w11) rfl rfl rfl (x_pickF (v := (Value.bool false)) rfl rfl hc32 rfl) ?_
      refine wpR_nil ?_
      exact ⟨(), ⟨(by rw [hc32]; rfl), e0, e1, e2, e3, e14, trivial⟩, rfl⟩
  rintro _ ρ wj ⟨e118, e0, e1, e2, e3, e14, -⟩ rfl
  refine wpR_val (v := (Value.bool (((((c22 && (decide (r6.2.2 = r9.2.2))) && (decide (r12.1 = r13.1))) && (decide (r12.2 = r13.2))) && (decide (r16.1 = r17.1))) && (decide (r16.2 = r17.2))))) (w' := w11) rfl rfl rfl (x_move (v := (Value.bool (((((c22 && (decide (r6.2.2 = r9.2.2))) && (decide (r12.1 = r13.1))) && (decide (r12.2 = r13.2))) && (decide (r16.1 = r17.1))) && (decide (r16.2 = r17.2))))) rfl e118) ?_
  obtain ⟨J33, h, hk⟩ := h
  refine wpR_joinJ 11 (fun x ρ => ρ 130 = Value.bool x ∧ True) (J33) ?_ ?_
  · clear hk
    rcases Bool.eq_false_or_eq_true (((((c22 && (decide (r6.2.2 = r9.2.2))) && (decide (r12.1 = r13.1))) && (decide (r12.2 = r13.2))) && (decide (r16.1 = r17.1))) && (decide (r16.2 = r17.2))) with hc34 | hc34
    · replace h := h.1 hc34
      obtain ⟨x35, q35, h⟩ := h
      obtain ⟨x36, q36, h⟩ := h
      refine wpR_val (v := (Value.agg #[(Value.int .i64 x35), (Value.int .i64 x36)])) (w' := w11) (wantG rfl rfl rfl hc34) rfl rfl (x_loadN [(Value.int .i64 x35), (Value.int .i64 x36)] rfl e14 SH_24 (CellsAt.out (CellsAt.cons q35 (CellsAt.cons q36 CellsAt.nil)))) ?_
      refine wpR_val (v := (Value.int .i64 p2)) (w' := w11) (wantG rfl rfl rfl hc34) rfl rfl (x_move (v := (Value.int .i64 p2)) rfl e2) ?_
      refine wpR_val (v := (Value.int .i64 p3)) (w' := w11) (wantG rfl rfl rfl hc34) rfl rfl (x_move (v := (Value.int .i64 p3)) rfl e3) ?_
      refine wpR_enter (wantG rfl rfl rfl hc34) rfl rfl (x_call (vs := [(Value.agg #[(Value.int .i64 x35), (Value.int .i64 x36)]), (Value.int .i64 p2), (Value.int .i64 p3)]) rfl rfl (by rfl) Try.func14 NN_14 NB_14) (Calls.mono h ?_)
      rintro _ w12 ⟨r37, rfl, h⟩
      refine ⟨_, rfl, ?_⟩
      refine wpR_val (v := (Value.int .i64 p0)) (w' := w12) (wantG rfl rfl rfl hc34) rfl rfl (x_move (v := (Value.int .i64 p0)) rfl e0) ?_
      refine wpR_val (v := (Value.int .i64 p1)) (w' := w12) (wantG rfl rfl rfl hc34) rfl rfl (x_move (v := (Value.int .i64 p1)) rfl e1) ?_
      refine wpR_val (v := (Value.int .i64 p2)) (w' := w12) (wantG rfl rfl rfl hc34) rfl rfl (x_move (v := (Value.int .i64 p2)) rfl e2) ?_
      refine wpR_val (v := (Value.int .i64 p3)) (w' := w12) (wantG rfl rfl rfl hc34) rfl rfl (x_move (v := (Value.int .i64 p3)) rfl e3) ?_
      refine wpR_enter (wantG rfl rfl rfl hc34) rfl rfl (x_call (vs := [(Value.int .i64 p0), (Value.int .i64 p1), (Value.int .i64 p2), (Value.int .i64 p3)]) rfl rfl (by rfl) Try.func15 NN_15 NB_15) (Calls.mono h ?_)
      rintro _ w13 ⟨r38, rfl, h⟩
      refine ⟨_, rfl, ?_⟩
      refine wpR_val (v := (Value.bool (r37 == r38))) (w' := w13) (wantG rfl rfl rfl hc34) rfl rfl (x_eqlB rfl rfl rfl isBoolT_4) ?_
      refine wpR_val (v := (Value.bool (r37 == r38))) (w' := w13) rfl rfl rfl (x_pickT (v := (Value.bool (r37 == r38))) rfl rfl hc34 rfl) ?_
      refine wpR_nil ?_
      exact ⟨r37 == r38, ⟨rfl, trivial⟩, h⟩
    · replace h := h.2 hc34
      refine wpR_pass (wantN rfl rfl rfl hc34) rfl rfl ?_
      refine wpR_pass (wantN rfl rfl rfl hc34) rfl rfl ?_
      refine wpR_pass (wantN rfl rfl rfl hc34) rfl rfl ?_
      refine wpR_pass (wantN rfl rfl rfl hc34) rfl rfl ?_
      refine wpR_pass (wantN rfl rfl rfl hc34) rfl rfl ?_
      refine wpR_pass (wantN rfl rfl rfl hc34) rfl rfl ?_
      refine wpR_pass (wantN rfl rfl rfl hc34) rfl rfl ?_
      refine wpR_pass (wantN rfl rfl rfl hc34) rfl rfl ?_
      refine wpR_pass (wantN rfl rfl rfl hc34) rfl rfl ?_
      refine wpR_pass (wantN rfl rfl rfl hc34) rfl rfl ?_
      refine wpR_val (v := (Value.bool false)) (w' := w11) rfl rfl rfl (x_pickF (v := (Value.bool false)) rfl rfl hc34 rfl) ?_
      refine wpR_nil ?_
      exact ⟨false, ⟨rfl, trivial⟩, h⟩
  clear h
  rintro c39 ρ w14 ⟨e130, -⟩ h
  replace h := hk c39 w14 h
  clear hk
  refine wpR_val (v := (Value.bool c39)) (w' := w14) rfl rfl rfl (x_assign (v := (Value.bool c39)) rfl e130) ?_
  refine wpR_nil ?_
  refine wpC_ret ?_
  exact ⟨.inl rfl, fun a ha => ⟨_, results_rep1 rfl ha rfl, c39, rfl, h⟩⟩

/-- lingualaw09.RateBounds -/
def F4 (p0 : Int) (p1 : Int) (p2 : Int) (p3 : Sl) (w0 : World) (K : Bool → World → Prop) : Prop :=
  callC Try.prog 7 #[] (fun (r : Bool) => (Value.bool r)) w0 fun r1 w1 =>
  nw 24 #[(Value.int .i64 0), (Value.int .i64 0)] w1 fun b2 w2 =>
  st (Addr.mk b2 0 none) [(Value.int .i64 p0), (Value.int .i64 0)] w2 fun w3 =>
  jn (fun J4 => cnd (decide (60 < (p3.len : Int)))
    (
    J4 true w3
    )
    (
    ld (Value.int .i64) ((Addr.mk b2 0 none).add 0) w3 fun x6 =>
    ld (Value.int .i64) ((Addr.mk b2 0 none).add 1) w3 fun x7 =>
    callC Try.prog 14 #[(Value.agg #[(Value.int .i64 x6), (Value.int .i64 x7)]), (Value.int .i64 p1), (Value.int .i64 p2)] (fun (r : Bool) => (Value.bool r)) w3 fun r8 w4 =>
    J4 (!r8) w4
    ))
  fun c9 w5 =>
  cnd (c9)
    (
    K r1 w5
    )
    (
    lp (fun (next11 : (Int × Int × Int) → World → Prop) l11 w6 =>
      cnd (decide (l11.2.2 < (p3.len : Int)))
        (
        jn (fun (J13 : (Int × Int) → World → Prop) =>
          ix p3 l11.2.2 2 fun p15 =>
          ld (Value.int .u16) (p15.add 0) w6 fun x16 =>
          ix p3 l11.2.2 2 fun p17 =>
          ld (Value.int .i64) (p17.add 1) w6 fun x18 =>
          ld (Value.int .i64) ((Addr.mk b2 0 none).add 0) w6 fun x19 =>
          ld (Value.int .i64) ((Addr.mk b2 0 none).add 1) w6 fun x20 =>
          callC Try.prog 8 #[(Value.agg #[(Value.int .i64 x19), (Value.int .i64 x20)]), (Value.int .i64 p1), (Value.int .i64 p2), (Value.int .i64 (IntKind.i64.wrap (l11.1 + (IntKind.i64.wrap x16)))), (Value.int .i64 x18)] (fun (r : Int × Int × Int) => (Value.tuple #[(Value.agg #[(Value.int .i64 r.1), (Value.int .i64 r.2.1)]), (Value.int .i64 r.2.2)])) w6 fun r21 w8 =>
          nw 24 #[(Value.int .i64 0), (Value.int .i64 0)] w8 fun b22 w9 =>
          st (Addr.mk b22 0 none) [(Value.int .i64 r21.1), (Value.int .i64 r21.2.1)] w9 fun w10 =>
          ld (Value.int .i64) ((Addr.mk b2 0 none).add 0) w10 fun x24 =>
          ld (Value.int .i64) ((Addr.mk b2 0 none).add 1) w10 fun x25 =>
          callC Try.prog 10 #[(Value.agg #[(Value.int .i64 x24), (Value.int .i64 x25)]), (Value.int .i64 p1), (Value.int .i64 p2), (Value.int .i64 (IntKind.i64.wrap (l11.1 + (IntKind.i64.wrap x16))))] (fun (r : Int × Int) => (Value.tuple #[(Value.int .i64 r.1), (Value.int .i64 r.2)])) w10 fun r26 w11 =>
          jp (fun J27 => cnd (!decide (r26.2 = 0))
            (
            J27 true
            )
            (
            ld (Value.int .i64) ((Addr.mk b2 0 none).add 0) w11 fun x29 =>
            J27 (decide (r26.1 < x29))
            ))
          fun c30 =>
          cnd (c30 || (decide (p2 < r26.1)))
            (
            K false w11
            )
            (
            cnd (decide (x18 < 0))
              (
              jp (fun J35 => cnd (!decide (r21.2.2 = 1))
                (
                J35 true
                )
                (
                ld (Value.int .i64) ((Addr.mk b22 0 none).add 0) w11 fun x37 =>
                ld (Value.int .i64) ((Addr.mk b22 0 none).add 1) w11 fun x38 =>
                ld (Value.int .i64) ((Addr.mk b2 0 none).add 0) w11 fun x39 =>
                ld (Value.int .i64) ((Addr.mk b2 0 none).add 1) w11 fun x40 =>
                J35 (!(decide (x37 = x39) && (decide (x38 = x40) && true)))
                ))
              fun c41 =>
              cnd (c41)
                (
                K false w11
                )
                (
                J13 (IntKind.i64.wrap (l11.1 + (IntKind.i64.wrap x16)), l11.2.1) w11
                )
              )
              (
              cnd (!decide (r21.2.2 = 0))
                (
                jp (fun J44 => cnd (!decide (r21.2.2 = 6))
                  (
                  J44 true
                  )
                  (
                  ld (Value.int .i64) ((Addr.mk b22 0 none).add 0) w11 fun x46 =>
                  ld (Value.int .i64) ((Addr.mk b22 0 none).add 1) w11 fun x47 =>
                  ld (Value.int .i64) ((Addr.mk b2 0 none).add 0) w11 fun x48 =>
                  ld (Value.int .i64) ((Addr.mk b2 0 none).add 1) w11 fun x49 =>
                  J44 (!(decide (x46 = x48) && (decide (x47 = x49) && true)))
                  ))
                fun c50 =>
                cnd (c50 || (decide (x18 ≤ r26.1)))
                  (
                  K false w11
                  )
                  (
                  J13 (IntKind.i64.wrap (l11.1 + (IntKind.i64.wrap x16)), l11.2.1) w11
                  )
                )
                (
                jp (fun J56 => cnd ((decide (p2 < x18)) || (decide ((IntKind.i64.wrap (p0 + (IntKind.i64.wrap ((IntKind.i64.wrap (l11.1 + (IntKind.i64.wrap x16))) * p1)))) < (IntKind.i64.wrap (l11.2.1 + x18)))))
                  (
                  J56 true
                  )
                  (
                  ld (Value.int .i64) ((Addr.mk b22 0 none).add 0) w11 fun x58 =>
                  J56 (!decide (x58 = (IntKind.i64.wrap (r26.1 - x18))))
                  ))
                fun c59 =>
                jp (fun J60 => cnd (c59)
                  (
                  J60 true
                  )
                  (
                  ld (Value.int .i64) ((Addr.mk b22 0 none).add 1) w11 fun x62 =>
                  J60 (!decide (x62 = (IntKind.i64.wrap (l11.1 + (IntKind.i64.wrap x16)))))
                  ))
                fun c63 =>
                jn (fun J64 => cnd (c63)
                  (
                  J64 true w11
                  )
                  (
                  ld (Value.int .i64) ((Addr.mk b22 0 none).add 0) w11 fun x66 =>
                  ld (Value.int .i64) ((Addr.mk b22 0 none).add 1) w11 fun x67 =>
                  callC Try.prog 14 #[(Value.agg #[(Value.int .i64 x66), (Value.int .i64 x67)]), (Value.int .i64 p1), (Value.int .i64 p2)] (fun (r : Bool) => (Value.bool r)) w11 fun r68 w12 =>
                  J64 (!r68) w12
                  ))
                fun c69 w13 =>
                cnd (c69)
                  (
                  K false w13
                  )
                  (
                  ld (Value.int .i64) ((Addr.mk b22 0 none).add 0) w13 fun x71 =>
                  ld (Value.int .i64) ((Addr.mk b22 0 none).add 1) w13 fun x72 =>
                  st (Addr.mk b2 0 none) [(Value.int .i64 x71), (Value.int .i64 x72)] w13 fun w14 =>
                  J13 (IntKind.i64.wrap (l11.1 + (IntKind.i64.wrap x16)), IntKind.i64.wrap (l11.2.1 + x18)) w14
                  )
                )
              )
            )
        )
        fun l14 w7 =>
        next11 (l14.1, l14.2, IntKind.i64.wrap (l11.2.2 + 1)) w7
        )
        (
        K r1 w6
        )
    ) (0, 0, 0) w5
    )
set_option maxRecDepth 100000 in
theorem D4 (p0 : Int) (p1 : Int) (p2 : Int) (p3 : Sl) (w0 : World) (K : Bool → World → Prop) (h : F4 p0 p1 p2 p3 w0 K) : callC Try.prog 4 #[(Value.int .i64 p0), (Value.int .i64 p1), (Value.int .i64 p2), (Sl.v p3)] (fun (r : Bool) => (Value.bool r)) w0 K := by
  unfold F4 at h
  refine calls_of_wpC Try.func4 rfl 143 rfl (by simp) ?_
  intro ρ hρ
  have e0 : ρ 0 = (Value.int .i64 p0) := hρ 0
  have e1 : ρ 1 = (Value.int .i64 p1) := hρ 1
  have e2 : ρ 2 = (Value.int .i64 p2) := hρ 2
  have e3 : ρ 3 = (Sl.v p3) := hρ 3
  clear hρ
  refine wpC_seq ?_
  refine wpC_region ?_
  refine wpR_val (v := (Value.bool false)) (w' := w0) rfl rfl rfl (x_assign (v := (Value.bool false)) rfl rfl) ?_
  refine wpR_nil ?_
  refine wpC_seq ?_
  refine wpC_cut (fun ρ => ρ 0 = (Value.int .i64 p0) ∧ ρ 1 = (Value.int .i64 p1) ∧ ρ 2 = (Value.int .i64 p2) ∧ ρ 3 = (Sl.v p3) ∧ True) ⟨e0, e1, e2, e3, trivial⟩ ?_
  rintro ρ ⟨e0, e1, e2, e3, -⟩
  refine wpC_region ?_
  refine wpR_enter rfl rfl rfl (x_call (vs := []) rfl rfl (by rfl) Try.func7 NN_7 NB_7) (Calls.mono h ?_)
  rintro _ w1 ⟨r1, rfl, h⟩
  refine ⟨_, rfl, ?_⟩
  refine wpR_val (v := (Value.bool r1)) (w' := w1) rfl rfl rfl (x_assign (v := (Value.bool r1)) rfl rfl) ?_
  refine wpR_nil ?_
  refine wpC_seq ?_
  refine wpC_cut (fun ρ => ρ 0 = (Value.int .i64 p0) ∧ ρ 1 = (Value.int .i64 p1) ∧ ρ 2 = (Value.int .i64 p2) ∧ ρ 3 = (Sl.v p3) ∧ ρ 9 = (Value.bool r1) ∧ True) ⟨e0, e1, e2, e3, rfl, trivial⟩ ?_
  rintro ρ ⟨e0, e1, e2, e3, e9, -⟩
  refine wpC_region ?_
  refine wpR_val (v := (Value.int .i64 p0)) (w' := w1) rfl rfl rfl (x_move (v := (Value.int .i64 p0)) rfl e0) ?_
  refine wpR_val (v := (Value.agg #[(Value.int .i64 p0), (Value.int .i64 0)])) (w' := w1) rfl rfl rfl (x_build (qs := [(0, (Value.int .i64 p0))]) rfl (by rfl) (BD_24_0 p0 _)) ?_
  obtain ⟨b2, hb2⟩ : ∃ u, u = w1.heap.size := ⟨_, rfl⟩
  obtain ⟨w2, hw2⟩ : ∃ u, u = w1.alloc (.cells #[(Value.int .i64 0), (Value.int .i64 0)] 24) := ⟨_, rfl⟩
  replace h := h b2 w2 hb2 hw2
  refine wpR_val (v := (Value.pointer (some (Addr.mk b2 0 none)))) (w' := w2) rfl rfl rfl ((x_alloc rfl ZV_24).trans (by rw [hb2, hw2]; rfl)) ?_
  obtain ⟨q3, h⟩ := h
  obtain ⟨w3, hw3⟩ : ∃ u, u = setAll w2 (Addr.mk b2 0 none) [(Value.int .i64 p0), (Value.int .i64 0)] 0 := ⟨_, rfl⟩
  replace h := h w3 hw3
  refine wpR_skp (w' := w3) rfl rfl ((x_store (v := (Value.agg #[(Value.int .i64 p0), (Value.int .i64 0)])) rfl rfl rfl SZ_24 (ones (by rfl)) q3).trans (by rw [hw3]; rfl)) ?_
  refine wpR_nil ?_
  refine wpC_seq ?_
  refine wpC_seq ?_
  refine wpC_cut (fun ρ => ρ 0 = (Value.int .i64 p0) ∧ ρ 1 = (Value.int .i64 p1) ∧ ρ 2 = (Value.int .i64 p2) ∧ ρ 3 = (Sl.v p3) ∧ ρ 9 = (Value.bool r1) ∧ ρ 10 = (Value.pointer (some (Addr.mk b2 0 none))) ∧ True) ⟨e0, e1, e2, e3, e9, rfl, trivial⟩ ?_
  rintro ρ ⟨e0, e1, e2, e3, e9, e10, -⟩
  refine wpC_region ?_
  refine wpR_val (v := (Sl.v p3)) (w' := w3) rfl rfl rfl (x_move (v := (Sl.v p3)) rfl e3) ?_
  refine wpR_val (v := (Value.int .i64 (p3.len : Int))) (w' := w3) rfl rfl rfl (x_lenS (s := p3) rfl rfl isSliceT_36) ?_
  refine wpR_val (v := (Value.bool (decide (60 < (p3.len : Int))))) (w' := w3) rfl rfl rfl (x_gtr rfl rfl rfl) ?_
  refine wpR_val (v := (Value.bool (decide (60 < (p3.len : Int))))) (w' := w3) rfl rfl rfl (x_move (v := (Value.bool (decide (60 < (p3.len : Int))))) rfl rfl) ?_
  obtain ⟨J4, h, hk⟩ := h
  refine wpR_joinJ 6 (fun x ρ => ρ 31 = Value.bool x ∧ ρ 0 = (Value.int .i64 p0) ∧ ρ 1 = (Value.int .i64 p1) ∧ ρ 2 = (Value.int .i64 p2) ∧ ρ 3 = (Sl.v p3) ∧ ρ 9 = (Value.bool r1) ∧ ρ 10 = (Value.pointer (some (Addr.mk b2 0 none))) ∧ True) (J4) ?_ ?_
  · clear hk
    rcases Bool.eq_false_or_eq_true (decide (60 < (p3.len : Int))) with hc5 | hc5
    · replace h := h.1 hc5
      refine wpR_pass (wantN rfl rfl rfl hc5) rfl rfl ?_
      refine wpR_pass (wantN rfl rfl rfl hc5) rfl rfl ?_
      refine wpR_pass (wantN rfl rfl rfl hc5) rfl rfl ?_
      refine wpR_pass (wantN rfl rfl rfl hc5) rfl rfl ?_
      refine wpR_pass (wantN rfl rfl rfl hc5) rfl rfl ?_
      refine wpR_val (v := (Value.bool true)) (w' := w3) rfl rfl rfl (x_pickT (v := (Value.bool true)) rfl rfl hc5 rfl) ?_
      refine wpR_nil ?_
      exact ⟨true, ⟨rfl, e0, e1, e2, e3, e9, e10, trivial⟩, h⟩
    · replace h := h.2 hc5
      obtain ⟨x6, q6, h⟩ := h
      obtain ⟨x7, q7, h⟩ := h
      refine wpR_val (v := (Value.agg #[(Value.int .i64 x6), (Value.int .i64 x7)])) (w' := w3) (wantG rfl rfl rfl hc5) rfl rfl (x_loadN [(Value.int .i64 x6), (Value.int .i64 x7)] rfl e10 SH_24 (CellsAt.out (CellsAt.cons q6 (CellsAt.cons q7 CellsAt.nil)))) ?_
      refine wpR_val (v := (Value.int .i64 p1)) (w' := w3) (wantG rfl rfl rfl hc5) rfl rfl (x_move (v := (Value.int .i64 p1)) rfl e1) ?_
      refine wpR_val (v := (Value.int .i64 p2)) (w' := w3) (wantG rfl rfl rfl hc5) rfl rfl (x_move (v := (Value.int .i64 p2)) rfl e2) ?_
      refine wpR_enter (wantG rfl rfl rfl hc5) rfl rfl (x_call (vs := [(Value.agg #[(Value.int .i64 x6), (Value.int .i64 x7)]), (Value.int .i64 p1), (Value.int .i64 p2)]) rfl rfl (by rfl) Try.func14 NN_14 NB_14) (Calls.mono h ?_)
      rintro _ w4 ⟨r8, rfl, h⟩
      refine ⟨_, rfl, ?_⟩
      refine wpR_val (v := (Value.bool (!r8))) (w' := w4) (wantG rfl rfl rfl hc5) rfl rfl (x_not rfl rfl) ?_
      refine wpR_val (v := (Value.bool (!r8))) (w' := w4) rfl rfl rfl (x_pickF (v := (Value.bool (!r8))) rfl rfl hc5 rfl) ?_
      refine wpR_nil ?_
      exact ⟨!r8, ⟨rfl, e0, e1, e2, e3, e9, e10, trivial⟩, h⟩
  clear h
  rintro c9 ρ w5 ⟨e31, e0, e1, e2, e3, e9, e10, -⟩ h
  replace h := hk c9 w5 h
  clear hk
  refine wpR_nil ?_
  refine wpC_cond (b := c9) e31 (fun hc10 => ?_) (fun hc10 => ?_)
  · replace h := h.1 hc10
    refine wpC_seq ?_
    refine wpC_region ?_
    refine wpR_val (v := (Value.bool r1)) (w' := w5) rfl rfl rfl (x_move (v := (Value.bool r1)) rfl e9) ?_
    refine wpR_val (v := (Value.bool r1)) (w' := w5) rfl rfl rfl (x_assign (v := (Value.bool r1)) rfl rfl) ?_
    refine wpR_nil ?_
    refine wpC_ret ?_
    exact ⟨.inl rfl, fun a ha => ⟨_, results_rep1 rfl ha rfl, r1, rfl, h⟩⟩
  · replace h := h.2 hc10
    refine wpC_skip ?_
    refine wpC_seq ?_
    refine wpC_region ?_
    refine wpR_val (v := (Value.int .i64 0)) (w' := w5) rfl rfl rfl (x_assign (v := (Value.int .i64 0)) rfl rfl) ?_
    refine wpR_nil ?_
    refine wpC_seq ?_
    refine wpC_cut (fun ρ => ρ 0 = (Value.int .i64 p0) ∧ ρ 1 = (Value.int .i64 p1) ∧ ρ 2 = (Value.int .i64 p2) ∧ ρ 3 = (Sl.v p3) ∧ ρ 9 = (Value.bool r1) ∧ ρ 10 = (Value.pointer (some (Addr.mk b2 0 none))) ∧ ρ 11 = (Value.int .i64 0) ∧ True) ⟨e0, e1, e2, e3, e9, e10, rfl, trivial⟩ ?_
    rintro ρ ⟨e0, e1, e2, e3, e9, e10, e11, -⟩
    refine wpC_region ?_
    refine wpR_val (v := (Value.int .i64 0)) (w' := w5) rfl rfl rfl (x_assign (v := (Value.int .i64 0)) rfl rfl) ?_
    refine wpR_nil ?_
    refine wpC_seq ?_
    refine wpC_seq ?_
    refine wpC_cut (fun ρ => ρ 0 = (Value.int .i64 p0) ∧ ρ 1 = (Value.int .i64 p1) ∧ ρ 2 = (Value.int .i64 p2) ∧ ρ 3 = (Sl.v p3) ∧ ρ 9 = (Value.bool r1) ∧ ρ 10 = (Value.pointer (some (Addr.mk b2 0 none))) ∧ ρ 11 = (Value.int .i64 0) ∧ ρ 12 = (Value.int .i64 0) ∧ True) ⟨e0, e1, e2, e3, e9, e10, e11, rfl, trivial⟩ ?_
    rintro ρ ⟨e0, e1, e2, e3, e9, e10, e11, e12, -⟩
    refine wpC_region ?_
    refine wpR_val (v := (Value.int .i64 0)) (w' := w5) rfl rfl rfl (x_assign (v := (Value.int .i64 0)) rfl rfl) ?_
    refine wpR_nil ?_
    refine wpC_block ?_
    obtain ⟨I11, μ11, hI11, hr11⟩ := h
    refine wpC_loop (fun (x : Int × Int × Int) ρ => ρ 11 = (Value.int .i64 x.1) ∧ ρ 12 = (Value.int .i64 x.2.1) ∧ ρ 13 = (Value.int .i64 x.2.2) ∧ ρ 0 = (Value.int .i64 p0) ∧ ρ 1 = (Value.int .i64 p1) ∧ ρ 2 = (Value.int .i64 p2) ∧ ρ 3 = (Sl.v p3) ∧ ρ 9 = (Value.bool r1) ∧ ρ 10 = (Value.pointer (some (Addr.mk b2 0 none))) ∧ True) I11 μ11 (0, 0, 0) ⟨e11, e12, rfl, e0, e1, e2, e3, e9, e10, trivial⟩ hI11 ?_
    rintro l11 ρ w6 ⟨e11, e12, e13, e0, e1, e2, e3, e9, e10, -⟩ h
    replace h := hr11 l11 w6 h
    clear hr11 hI11
    refine wpC_seq ?_
    refine wpC_seq ?_
    refine wpC_region ?_
    refine wpR_val (v := (Value.int .i64 l11.2.2)) (w' := w6) rfl rfl rfl (x_move (v := (Value.int .i64 l11.2.2)) rfl e13) ?_
    refine wpR_val (v := (Sl.v p3)) (w' := w6) rfl rfl rfl (x_move (v := (Sl.v p3)) rfl e3) ?_
    refine wpR_val (v := (Value.int .i64 (p3.len : Int))) (w' := w6) rfl rfl rfl (x_lenS (s := p3) rfl rfl isSliceT_36) ?_
    refine wpR_val (v := (Value.bool (decide (l11.2.2 < (p3.len : Int))))) (w' := w6) rfl rfl rfl (x_lss rfl rfl rfl) ?_
    refine wpR_nil ?_
    refine wpC_cond (b := decide (l11.2.2 < (p3.len : Int))) rfl (fun hc12 => ?_) (fun hc12 => ?_)
    · replace h := h.1 hc12
      refine wpC_skip ?_
      obtain ⟨J13, h, hk⟩ := h
      refine wpC_seqJ (fun (x : Int × Int) ρ => ρ 11 = (Value.int .i64 x.1) ∧ ρ 12 = (Value.int .i64 x.2) ∧ ρ 0 = (Value.int .i64 p0) ∧ ρ 1 = (Value.int .i64 p1) ∧ ρ 2 = (Value.int .i64 p2) ∧ ρ 3 = (Sl.v p3) ∧ ρ 9 = (Value.bool r1) ∧ ρ 10 = (Value.pointer (some (Addr.mk b2 0 none))) ∧ ρ 13 = (Value.int .i64 l11.2.2) ∧ True) J13 ?_ ?_
      · clear hk
        refine wpC_block ?_
        refine wpC_seq ?_
        refine wpC_cut (fun ρ => ρ 0 = (Value.int .i64 p0) ∧ ρ 1 = (Value.int .i64 p1) ∧ ρ 2 = (Value.int .i64 p2) ∧ ρ 3 = (Sl.v p3) ∧ ρ 9 = (Value.bool r1) ∧ ρ 10 = (Value.pointer (some (Addr.mk b2 0 none))) ∧ ρ 11 = (Value.int .i64 l11.1) ∧ ρ 12 = (Value.int .i64 l11.2.1) ∧ ρ 13 = (Value.int .i64 l11.2.2) ∧ True) ⟨e0, e1, e2, e3, e9, e10, e11, e12, e13, trivial⟩ ?_
        rintro ρ ⟨e0, e1, e2, e3, e9, e10, e11, e12, e13, -⟩
        refine wpC_region ?_
        refine wpR_val (v := (Value.int .i64 l11.1)) (w' := w6) rfl rfl rfl (x_move (v := (Value.int .i64 l11.1)) rfl e11) ?_
        refine wpR_val (v := (Sl.v p3)) (w' := w6) rfl rfl rfl (x_move (v := (Sl.v p3)) rfl e3) ?_
        refine wpR_val (v := (Value.int .i64 l11.2.2)) (w' := w6) rfl rfl rfl (x_move (v := (Value.int .i64 l11.2.2)) rfl e13) ?_
        obtain ⟨q15, z15, r15, h⟩ := h
        generalize hp15 : z15.add ((l11.2.2).toNat * 2) = p15 at h
        refine wpR_val (v := (Value.pointer (some p15))) (w' := w6) rfl rfl rfl ((x_indexAddr (s := p3) rfl rfl rfl ES_36 q15 r15).trans (by rw [hp15])) ?_
        refine wpR_val (v := (Value.pointer (some (p15.add 0)))) (w' := w6) rfl rfl rfl (x_fieldAddr rfl rfl FA_39_0) ?_
        obtain ⟨x16, q16, h⟩ := h
        refine wpR_val (v := (Value.int .u16 x16)) (w' := w6) rfl rfl rfl (x_load1 rfl rfl SH_37 q16) ?_
        refine wpR_val (v := (Value.int .i64 (IntKind.i64.wrap x16))) (w' := w6) rfl rfl rfl (x_convI rfl rfl IK_3 IK_37) ?_
        refine wpR_val (v := (Value.int .i64 (IntKind.i64.wrap (l11.1 + (IntKind.i64.wrap x16))))) (w' := w6) rfl rfl rfl (x_add rfl rfl rfl) ?_
        refine wpR_val (v := (Value.int .i64 (IntKind.i64.wrap (l11.1 + (IntKind.i64.wrap x16))))) (w' := w6) rfl rfl rfl (x_assign (v := (Value.int .i64 (IntKind.i64.wrap (l11.1 + (IntKind.i64.wrap x16))))) rfl rfl) ?_
        refine wpR_nil ?_
        refine wpC_seq ?_
        refine wpC_cut (fun ρ => ρ 0 = (Value.int .i64 p0) ∧ ρ 1 = (Value.int .i64 p1) ∧ ρ 2 = (Value.int .i64 p2) ∧ ρ 3 = (Sl.v p3) ∧ ρ 9 = (Value.bool r1) ∧ ρ 10 = (Value.pointer (some (Addr.mk b2 0 none))) ∧ ρ 11 = (Value.int .i64 (IntKind.i64.wrap (l11.1 + (IntKind.i64.wrap x16)))) ∧ ρ 12 = (Value.int .i64 l11.2.1) ∧ ρ 13 = (Value.int .i64 l11.2.2) ∧ True) ⟨e0, e1, e2, e3, e9, e10, rfl, e12, e13, trivial⟩ ?_
        rintro ρ ⟨e0, e1, e2, e3, e9, e10, e11, e12, e13, -⟩
        refine wpC_region ?_
        refine wpR_val (v := (Sl.v p3)) (w' := w6) rfl rfl rfl (x_move (v := (Sl.v p3)) rfl e3) ?_
        refine wpR_val (v := (Value.int .i64 l11.2.2)) (w' := w6) rfl rfl rfl (x_move (v := (Value.int .i64 l11.2.2)) rfl e13) ?_
        obtain ⟨q17, z17, r17, h⟩ := h
        generalize hp17 : z17.add ((l11.2.2).toNat * 2) = p17 at h
        refine wpR_val (v := (Value.pointer (some p17))) (w' := w6) rfl rfl rfl ((x_indexAddr (s := p3) rfl rfl rfl ES_36 q17 r17).trans (by rw [hp17])) ?_
        refine wpR_val (v := (Value.pointer (some (p17.add 1)))) (w' := w6) rfl rfl rfl (x_fieldAddr rfl rfl FA_39_1) ?_
        obtain ⟨x18, q18, h⟩ := h
        refine wpR_val (v := (Value.int .i64 x18)) (w' := w6) rfl rfl rfl (x_load1 rfl rfl SH_3 q18) ?_
        refine wpR_val (v := (Value.int .i64 x18)) (w' := w6) rfl rfl rfl (x_assign (v := (Value.int .i64 x18)) rfl rfl) ?_
        refine wpR_nil ?_
        refine wpC_seq ?_
        refine wpC_cut (fun ρ => ρ 0 = (Value.int .i64 p0) ∧ ρ 1 = (Value.int .i64 p1) ∧ ρ 2 = (Value.int .i64 p2) ∧ ρ 3 = (Sl.v p3) ∧ ρ 9 = (Value.bool r1) ∧ ρ 10 = (Value.pointer (some (Addr.mk b2 0 none))) ∧ ρ 11 = (Value.int .i64 (IntKind.i64.wrap (l11.1 + (IntKind.i64.wrap x16)))) ∧ ρ 12 = (Value.int .i64 l11.2.1) ∧ ρ 13 = (Value.int .i64 l11.2.2) ∧ ρ 14 = (Value.int .i64 x18) ∧ True) ⟨e0, e1, e2, e3, e9, e10, e11, e12, e13, rfl, trivial⟩ ?_
        rintro ρ ⟨e0, e1, e2, e3, e9, e10, e11, e12, e13, e14, -⟩
        refine wpC_region ?_
        obtain ⟨x19, q19, h⟩ := h
        obtain ⟨x20, q20, h⟩ := h
        refine wpR_val (v := (Value.agg #[(Value.int .i64 x19), (Value.int .i64 x20)])) (w' := w6) rfl rfl rfl (x_loadN [(Value.int .i64 x19), (Value.int .i64 x20)] rfl e10 SH_24 (CellsAt.out (CellsAt.cons q19 (CellsAt.cons q20 CellsAt.nil)))) ?_
        refine wpR_val (v := (Value.int .i64 p1)) (w' := w6) rfl rfl rfl (x_move (v := (Value.int .i64 p1)) rfl e1) ?_
        refine wpR_val (v := (Value.int .i64 p2)) (w' := w6) rfl rfl rfl (x_move (v := (Value.int .i64 p2)) rfl e2) ?_
        refine wpR_val (v := (Value.int .i64 (IntKind.i64.wrap (l11.1 + (IntKind.i64.wrap x16))))) (w' := w6) rfl rfl rfl (x_move (v := (Value.int .i64 (IntKind.i64.wrap (l11.1 + (IntKind.i64.wrap x16))))) rfl e11) ?_
        refine wpR_val (v := (Value.int .i64 x18)) (w' := w6) rfl rfl rfl (x_move (v := (Value.int .i64 x18)) rfl e14) ?_
        refine wpR_enter rfl rfl rfl (x_call (vs := [(Value.agg #[(Value.int .i64 x19), (Value.int .i64 x20)]), (Value.int .i64 p1), (Value.int .i64 p2), (Value.int .i64 (IntKind.i64.wrap (l11.1 + (IntKind.i64.wrap x16)))), (Value.int .i64 x18)]) rfl rfl (by rfl) Try.func8 NN_8 NB_8) (Calls.mono h ?_)
        rintro _ w8 ⟨r21, rfl, h⟩
        refine ⟨_, rfl, ?_⟩
        refine wpR_val (v := (Value.tuple #[(Value.agg #[(Value.int .i64 r21.1), (Value.int .i64 r21.2.1)]), (Value.int .i64 r21.2.2)])) (w' := w8) rfl rfl rfl (x_move (v := (Value.tuple #[(Value.agg #[(Value.int .i64 r21.1), (Value.int .i64 r21.2.1)]), (Value.int .i64 r21.2.2)])) rfl rfl) ?_
        refine wpR_val (v := (Value.agg #[(Value.int .i64 r21.1), (Value.int .i64 r21.2.1)])) (w' := w8) rfl rfl rfl (x_extract rfl rfl rfl) ?_
        refine wpR_val (v := (Value.int .i64 r21.2.2)) (w' := w8) rfl rfl rfl (x_extract rfl rfl rfl) ?_
        obtain ⟨b22, hb22⟩ : ∃ u, u = w8.heap.size := ⟨_, rfl⟩
        obtain ⟨w9, hw22⟩ : ∃ u, u = w8.alloc (.cells #[(Value.int .i64 0), (Value.int .i64 0)] 24) := ⟨_, rfl⟩
        replace h := h b22 w9 hb22 hw22
        refine wpR_val (v := (Value.pointer (some (Addr.mk b22 0 none)))) (w' := w9) rfl rfl rfl ((x_alloc rfl ZV_24).trans (by rw [hb22, hw22]; rfl)) ?_
        obtain ⟨q23, h⟩ := h
        obtain ⟨w10, hw23⟩ : ∃ u, u = setAll w9 (Addr.mk b22 0 none) [(Value.int .i64 r21.1), (Value.int .i64 r21.2.1)] 0 := ⟨_, rfl⟩
        replace h := h w10 hw23
        refine wpR_skp (w' := w10) rfl rfl ((x_store (v := (Value.agg #[(Value.int .i64 r21.1), (Value.int .i64 r21.2.1)])) rfl rfl rfl SZ_24 (ones (by rfl)) q23).trans (by rw [hw23]; rfl)) ?_
        refine wpR_val (v := (Value.int .i64 r21.2.2)) (w' := w10) rfl rfl rfl (x_assign (v := (Value.int .i64 r21.2.2)) rfl rfl) ?_
        refine wpR_nil ?_
        refine wpC_seq ?_
        refine wpC_cut (fun ρ => ρ 0 = (Value.int .i64 p0) ∧ ρ 1 = (Value.int .i64 p1) ∧ ρ 2 = (Value.int .i64 p2) ∧ ρ 3 = (Sl.v p3) ∧ ρ 9 = (Value.bool r1) ∧ ρ 10 = (Value.pointer (some (Addr.mk b2 0 none))) ∧ ρ 11 = (Value.int .i64 (IntKind.i64.wrap (l11.1 + (IntKind.i64.wrap x16)))) ∧ ρ 12 = (Value.int .i64 l11.2.1) ∧ ρ 13 = (Value.int .i64 l11.2.2) ∧ ρ 14 = (Value.int .i64 x18) ∧ ρ 15 = (Value.pointer (some (Addr.mk b22 0 none))) ∧ ρ 16 = (Value.int .i64 r21.2.2) ∧ True) ⟨e0, e1, e2, e3, e9, e10, e11, e12, e13, e14, rfl, rfl, trivial⟩ ?_
        rintro ρ ⟨e0, e1, e2, e3, e9, e10, e11, e12, e13, e14, e15, e16, -⟩
        refine wpC_region ?_
        obtain ⟨x24, q24, h⟩ := h
        obtain ⟨x25, q25, h⟩ := h
        refine wpR_val (v := (Value.agg #[(Value.int .i64 x24), (Value.int .i64 x25)])) (w' := w10) rfl rfl rfl (x_loadN [(Value.int .i64 x24), (Value.int .i64 x25)] rfl e10 SH_24 (CellsAt.out (CellsAt.cons q24 (CellsAt.cons q25 CellsAt.nil)))) ?_
        refine wpR_val (v := (Value.int .i64 p1)) (w' := w10) rfl rfl rfl (x_move (v := (Value.int .i64 p1)) rfl e1) ?_
        refine wpR_val (v := (Value.int .i64 p2)) (w' := w10) rfl rfl rfl (x_move (v := (Value.int .i64 p2)) rfl e2) ?_
        refine wpR_val (v := (Value.int .i64 (IntKind.i64.wrap (l11.1 + (IntKind.i64.wrap x16))))) (w' := w10) rfl rfl rfl (x_move (v := (Value.int .i64 (IntKind.i64.wrap (l11.1 + (IntKind.i64.wrap x16))))) rfl e11) ?_
        refine wpR_enter rfl rfl rfl (x_call (vs := [(Value.agg #[(Value.int .i64 x24), (Value.int .i64 x25)]), (Value.int .i64 p1), (Value.int .i64 p2), (Value.int .i64 (IntKind.i64.wrap (l11.1 + (IntKind.i64.wrap x16))))]) rfl rfl (by rfl) Try.func10 NN_10 NB_10) (Calls.mono h ?_)
        rintro _ w11 ⟨r26, rfl, h⟩
        refine ⟨_, rfl, ?_⟩
        refine wpR_val (v := (Value.tuple #[(Value.int .i64 r26.1), (Value.int .i64 r26.2)])) (w' := w11) rfl rfl rfl (x_move (v := (Value.tuple #[(Value.int .i64 r26.1), (Value.int .i64 r26.2)])) rfl rfl) ?_
        refine wpR_val (v := (Value.int .i64 r26.1)) (w' := w11) rfl rfl rfl (x_extract rfl rfl rfl) ?_
        refine wpR_val (v := (Value.int .i64 r26.2)) (w' := w11) rfl rfl rfl (x_extract rfl rfl rfl) ?_
        refine wpR_val (v := (Value.int .i64 r26.1)) (w' := w11) rfl rfl rfl (x_assign (v := (Value.int .i64 r26.1)) rfl rfl) ?_
        refine wpR_val (v := (Value.int .i64 r26.2)) (w' := w11) rfl rfl rfl (x_assign (v := (Value.int .i64 r26.2)) rfl rfl) ?_
        refine wpR_nil ?_
        refine wpC_seq ?_
        refine wpC_seq ?_
        refine wpC_cut (fun ρ => ρ 0 = (Value.int .i64 p0) ∧ ρ 1 = (Value.int .i64 p1) ∧ ρ 2 = (Value.int .i64 p2) ∧ ρ 3 = (Sl.v p3) ∧ ρ 9 = (Value.bool r1) ∧ ρ 10 = (Value.pointer (some (Addr.mk b2 0 none))) ∧ ρ 11 = (Value.int .i64 (IntKind.i64.wrap (l11.1 + (IntKind.i64.wrap x16)))) ∧ ρ 12 = (Value.int .i64 l11.2.1) ∧ ρ 13 = (Value.int .i64 l11.2.2) ∧ ρ 14 = (Value.int .i64 x18) ∧ ρ 15 = (Value.pointer (some (Addr.mk b22 0 none))) ∧ ρ 16 = (Value.int .i64 r21.2.2) ∧ ρ 17 = (Value.int .i64 r26.1) ∧ ρ 18 = (Value.int .i64 r26.2) ∧ True) ⟨e0, e1, e2, e3, e9, e10, e11, e12, e13, e14, e15, e16, rfl, rfl, trivial⟩ ?_
        rintro ρ ⟨e0, e1, e2, e3, e9, e10, e11, e12, e13, e14, e15, e16, e17, e18, -⟩
        refine wpC_region ?_
        refine wpR_val (v := (Value.int .i64 r26.2)) (w' := w11) rfl rfl rfl (x_move (v := (Value.int .i64 r26.2)) rfl e18) ?_
        refine wpR_val (v := (Value.bool (!decide (r26.2 = 0)))) (w' := w11) rfl rfl rfl (x_neq rfl rfl rfl) ?_
        refine wpR_val (v := (Value.bool (!decide (r26.2 = 0)))) (w' := w11) rfl rfl rfl (x_move (v := (Value.bool (!decide (r26.2 = 0)))) rfl rfl) ?_
        obtain ⟨J27, h, hk⟩ := h
        refine wpR_joinJ 5 (fun x ρ => ρ 76 = Value.bool x ∧ ρ 0 = (Value.int .i64 p0) ∧ ρ 1 = (Value.int .i64 p1) ∧ ρ 2 = (Value.int .i64 p2) ∧ ρ 3 = (Sl.v p3) ∧ ρ 9 = (Value.bool r1) ∧ ρ 10 = (Value.pointer (some (Addr.mk b2 0 none))) ∧ ρ 11 = (Value.int .i64 (IntKind.i64.wrap (l11.1 + (IntKind.i64.wrap x16)))) ∧ ρ 12 = (Value.int .i64 l11.2.1) ∧ ρ 13 = (Value.int .i64 l11.2.2) ∧ ρ 14 = (Value.int .i64 x18) ∧ ρ 15 = (Value.pointer (some (Addr.mk b22 0 none))) ∧ ρ 16 = (Value.int .i64 r21.2.2) ∧ ρ 17 = (Value.int .i64 r26.1) ∧ True) (fun x w => J27 x ∧ w11 = w) ?_ ?_
        · clear hk
          rcases Bool.eq_false_or_eq_true (!decide (r26.2 = 0)) with hc28 | hc28
          · replace h := h.1 hc28
            refine wpR_pass (wantN rfl rfl rfl hc28) rfl rfl ?_
            refine wpR_pass (wantN rfl rfl rfl hc28) rfl rfl ?_
            refine wpR_pass (wantN rfl rfl rfl hc28) rfl rfl ?_
            refine wpR_pass (wantN rfl rfl rfl hc28) rfl rfl ?_
            refine wpR_val (v := (Value.bool true)) (w' := w11) rfl rfl rfl (x_pickT (v := (Value.bool true)) rfl rfl hc28 rfl) ?_
            refine wpR_nil ?_
            exact ⟨true, ⟨rfl, e0, e1, e2, e3, e9, e10, e11, e12, e13, e14, e15, e16, e17, trivial⟩, h, rfl⟩
          · replace h := h.2 hc28
            refine wpR_val (v := (Value.int .i64 r26.1)) (w' := w11) (wantG rfl rfl rfl hc28) rfl rfl (x_move (v := (Value.int .i64 r26.1)) rfl e17) ?_
            refine wpR_val (v := (Value.pointer (some ((Addr.mk b2 0 none).add 0)))) (w' := w11) (wantG rfl rfl rfl hc28) rfl rfl (x_fieldAddr rfl e10 FA_24_0) ?_
            obtain ⟨x29, q29, h⟩ := h
            refine wpR_val (v := (Value.int .i64 x29)) (w' := w11) (wantG rfl rfl rfl hc28) rfl rfl (x_load1 rfl rfl SH_3 q29) ?_
            refine wpR_val (v := (Value.bool (decide (r26.1 < x29)))) (w' := w11) (wantG rfl rfl rfl hc28) rfl rfl (x_lss rfl rfl rfl) ?_
            refine wpR_val (v := (Value.bool (decide (r26.1 < x29)))) (w' := w11) rfl rfl rfl (x_pickF (v := (Value.bool (decide (r26.1 < x29)))) rfl rfl hc28 rfl) ?_
            refine wpR_nil ?_
            exact ⟨decide (r26.1 < x29), ⟨rfl, e0, e1, e2, e3, e9, e10, e11, e12, e13, e14, e15, e16, e17, trivial⟩, h, rfl⟩
        clear h
        rintro c30 ρ wj ⟨e76, e0, e1, e2, e3, e9, e10, e11, e12, e13, e14, e15, e16, e17, -⟩ ⟨h, rfl⟩
        replace h := hk c30 h
        clear hk
        refine wpR_val (v := (Value.bool c30)) (w' := w11) rfl rfl rfl (x_move (v := (Value.bool c30)) rfl e76) ?_
        refine wpR_joinJ 4 (fun (_ : Unit) ρ => ρ 81 = Value.bool (c30 || (decide (p2 < r26.1))) ∧ ρ 0 = (Value.int .i64 p0) ∧ ρ 1 = (Value.int .i64 p1) ∧ ρ 2 = (Value.int .i64 p2) ∧ ρ 3 = (Sl.v p3) ∧ ρ 9 = (Value.bool r1) ∧ ρ 10 = (Value.pointer (some (Addr.mk b2 0 none))) ∧ ρ 11 = (Value.int .i64 (IntKind.i64.wrap (l11.1 + (IntKind.i64.wrap x16)))) ∧ ρ 12 = (Value.int .i64 l11.2.1) ∧ ρ 13 = (Value.int .i64 l11.2.2) ∧ ρ 14 = (Value.int .i64 x18) ∧ ρ 15 = (Value.pointer (some (Addr.mk b22 0 none))) ∧ ρ 16 = (Value.int .i64 r21.2.2) ∧ ρ 17 = (Value.int .i64 r26.1) ∧ True) (fun _ w => w11 = w) ?_ ?_
        · clear h
          rcases Bool.eq_false_or_eq_true (c30) with hc32 | hc32
          · skip
            refine wpR_pass (wantN rfl rfl rfl hc32) rfl rfl ?_
            refine wpR_pass (wantN rfl rfl rfl hc32) rfl rfl ?_
            refine wpR_pass (wantN rfl rfl rfl hc32) rfl rfl ?_
            refine wpR_val (v := (Value.bool true)) (w' := w11) rfl rfl rfl (x_pickT (v := (Value.bool true)) rfl rfl hc32 rfl) ?_
            refine wpR_nil ?_
            exact ⟨(), ⟨(by rw [hc32]; rfl), e0, e1, e2, e3, e9, e10, e11, e12, e13, e14, e15, e16, e17, trivial⟩, rfl⟩
          · skip
            refine wpR_val (v := (Value.int .i64 r26.1)) (w' := w11) (wantG rfl rfl rfl hc32) rfl rfl (x_move (v := (Value.int .i64 r26.1)) rfl e17) ?_
            refine wpR_val (v := (Value.int .i64 p2)) (w' := w11) (wantG rfl rfl rfl hc32) rfl rfl (x_move (v := (Value.int .i64 p2)) rfl e2) ?_
            refine wpR_val (v := (Value.bool (decide (p2 < r26.1)))) (w' := w11) (wantG rfl rfl rfl hc32) rfl rfl (x_gtr rfl rfl rfl) ?_
            refine wpR_val (v := (Value.bool (decide (p2 < r26.1)))) (w' := w11) rfl rfl rfl (x_pickF (v := (Value.bool (decide (p2 < r26.1)))) rfl rfl hc32 rfl) ?_
            refine wpR_nil ?_
            exact ⟨(), ⟨(by rw [hc32]; rfl), e0, e1, e2, e3, e9, e10, e11, e12, e13, e14, e15, e16, e17, trivial⟩, rfl⟩
        rintro _ ρ wj ⟨e81, e0, e1, e2, e3, e9, e10, e11, e12, e13, e14, e15, e16, e17, -⟩ rfl
        refine wpR_nil ?_
        refine wpC_cond (b := c30 || (decide (p2 < r26.1))) e81 (fun hc33 => ?_) (fun hc33 => ?_)
        · replace h := h.1 hc33
          refine wpC_seq ?_
          refine wpC_region ?_
          refine wpR_val (v := (Value.bool false)) (w' := w11) rfl rfl rfl (x_assign (v := (Value.bool false)) rfl rfl) ?_
          refine wpR_nil ?_
          refine wpC_ret ?_
          exact ⟨.inl rfl, fun a ha => ⟨_, results_rep1 rfl ha rfl, false, rfl, h⟩⟩
        · replace h := h.2 hc33
          refine wpC_skip ?_
          refine wpC_seq ?_
          refine wpC_seq ?_
          refine wpC_region ?_
          refine wpR_val (v := (Value.int .i64 x18)) (w' := w11) rfl rfl rfl (x_move (v := (Value.int .i64 x18)) rfl e14) ?_
          refine wpR_val (v := (Value.bool (decide (x18 < 0)))) (w' := w11) rfl rfl rfl (x_lss rfl rfl rfl) ?_
          refine wpR_nil ?_
          refine wpC_cond (b := decide (x18 < 0)) rfl (fun hc34 => ?_) (fun hc34 => ?_)
          · replace h := h.1 hc34
            refine wpC_seq ?_
            refine wpC_seq ?_
            refine wpC_cut (fun ρ => ρ 0 = (Value.int .i64 p0) ∧ ρ 1 = (Value.int .i64 p1) ∧ ρ 2 = (Value.int .i64 p2) ∧ ρ 3 = (Sl.v p3) ∧ ρ 9 = (Value.bool r1) ∧ ρ 10 = (Value.pointer (some (Addr.mk b2 0 none))) ∧ ρ 11 = (Value.int .i64 (IntKind.i64.wrap (l11.1 + (IntKind.i64.wrap x16)))) ∧ ρ 12 = (Value.int .i64 l11.2.1) ∧ ρ 13 = (Value.int .i64 l11.2.2) ∧ ρ 15 = (Value.pointer (some (Addr.mk b22 0 none))) ∧ ρ 16 = (Value.int .i64 r21.2.2) ∧ True) ⟨e0, e1, e2, e3, e9, e10, e11, e12, e13, e15, e16, trivial⟩ ?_
            rintro ρ ⟨e0, e1, e2, e3, e9, e10, e11, e12, e13, e15, e16, -⟩
            refine wpC_region ?_
            refine wpR_val (v := (Value.int .i64 r21.2.2)) (w' := w11) rfl rfl rfl (x_move (v := (Value.int .i64 r21.2.2)) rfl e16) ?_
            refine wpR_val (v := (Value.bool (!decide (r21.2.2 = 1)))) (w' := w11) rfl rfl rfl (x_neq rfl rfl rfl) ?_
            refine wpR_val (v := (Value.bool (!decide (r21.2.2 = 1)))) (w' := w11) rfl rfl rfl (x_move (v := (Value.bool (!decide (r21.2.2 = 1)))) rfl rfl) ?_
            obtain ⟨J35, h, hk⟩ := h
            refine wpR_joinJ 4 (fun x ρ => ρ 90 = Value.bool x ∧ ρ 0 = (Value.int .i64 p0) ∧ ρ 1 = (Value.int .i64 p1) ∧ ρ 2 = (Value.int .i64 p2) ∧ ρ 3 = (Sl.v p3) ∧ ρ 9 = (Value.bool r1) ∧ ρ 10 = (Value.pointer (some (Addr.mk b2 0 none))) ∧ ρ 11 = (Value.int .i64 (IntKind.i64.wrap (l11.1 + (IntKind.i64.wrap x16)))) ∧ ρ 12 = (Value.int .i64 l11.2.1) ∧ ρ 13 = (Value.int .i64 l11.2.2) ∧ True) (fun x w => J35 x ∧ w11 = w) ?_ ?_
            · clear hk
              rcases Bool.eq_false_or_eq_true (!decide (r21.2.2 = 1)) with hc36 | hc36
              · replace h := h.1 hc36
                refine wpR_pass (wantN rfl rfl rfl hc36) rfl rfl ?_
                refine wpR_pass (wantN rfl rfl rfl hc36) rfl rfl ?_
                refine wpR_pass (wantN rfl rfl rfl hc36) rfl rfl ?_
                refine wpR_val (v := (Value.bool true)) (w' := w11) rfl rfl rfl (x_pickT (v := (Value.bool true)) rfl rfl hc36 rfl) ?_
                refine wpR_nil ?_
                exact ⟨true, ⟨rfl, e0, e1, e2, e3, e9, e10, e11, e12, e13, trivial⟩, h, rfl⟩
              · replace h := h.2 hc36
                obtain ⟨x37, q37, h⟩ := h
                obtain ⟨x38, q38, h⟩ := h
                refine wpR_val (v := (Value.agg #[(Value.int .i64 x37), (Value.int .i64 x38)])) (w' := w11) (wantG rfl rfl rfl hc36) rfl rfl (x_loadN [(Value.int .i64 x37), (Value.int .i64 x38)] rfl e15 SH_24 (CellsAt.out (CellsAt.cons q37 (CellsAt.cons q38 CellsAt.nil)))) ?_
                obtain ⟨x39, q39, h⟩ := h
                obtain ⟨x40, q40, h⟩ := h
                refine wpR_val (v := (Value.agg #[(Value.int .i64 x39), (Value.int .i64 x40)])) (w' := w11) (wantG rfl rfl rfl hc36) rfl rfl (x_loadN [(Value.int .i64 x39), (Value.int .i64 x40)] rfl e10 SH_24 (CellsAt.out (CellsAt.cons q39 (CellsAt.cons q40 CellsAt.nil)))) ?_
                refine wpR_val (v := (Value.bool (!(decide (x37 = x39) && (decide (x38 = x40) && true))))) (w' := w11) (wantG rfl rfl rfl hc36) rfl rfl (x_neqA rfl rfl rfl EQ1_24 EQ2_24 EQ3_24 (EQ_24 x37 x38 x39 x40)) ?_
                refine wpR_val (v := (Value.bool (!(decide (x37 = x39) && (decide (x38 = x40) && true))))) (w' := w11) rfl rfl rfl (x_pickF (v := (Value.bool (!(decide (x37 = x39) && (decide (x38 = x40) && true))))) rfl rfl hc36 rfl) ?_
                refine wpR_nil ?_
                exact ⟨!(decide (x37 = x39) && (decide (x38 = x40) && true)), ⟨rfl, e0, e1, e2, e3, e9, e10, e11, e12, e13, trivial⟩, h, rfl⟩
            clear h
            rintro c41 ρ wj ⟨e90, e0, e1, e2, e3, e9, e10, e11, e12, e13, -⟩ ⟨h, rfl⟩
            replace h := hk c41 h
            clear hk
            refine wpR_nil ?_
            refine wpC_cond (b := c41) e90 (fun hc42 => ?_) (fun hc42 => ?_)
            · replace h := h.1 hc42
              refine wpC_seq ?_
              refine wpC_region ?_
              refine wpR_val (v := (Value.bool false)) (w' := w11) rfl rfl rfl (x_assign (v := (Value.bool false)) rfl rfl) ?_
              refine wpR_nil ?_
              refine wpC_ret ?_
              exact ⟨.inl rfl, fun a ha => ⟨_, results_rep1 rfl ha rfl, false, rfl, h⟩⟩
            · replace h := h.2 hc42
              refine wpC_skip ?_
              refine wpC_exit ?_
              exact ⟨(IntKind.i64.wrap (l11.1 + (IntKind.i64.wrap x16)), l11.2.1), ⟨e11, e12, e0, e1, e2, e3, e9, e10, e13, trivial⟩, h⟩
          · replace h := h.2 hc34
            refine wpC_skip ?_
            refine wpC_seq ?_
            refine wpC_seq ?_
            refine wpC_cut (fun ρ => ρ 0 = (Value.int .i64 p0) ∧ ρ 1 = (Value.int .i64 p1) ∧ ρ 2 = (Value.int .i64 p2) ∧ ρ 3 = (Sl.v p3) ∧ ρ 9 = (Value.bool r1) ∧ ρ 10 = (Value.pointer (some (Addr.mk b2 0 none))) ∧ ρ 11 = (Value.int .i64 (IntKind.i64.wrap (l11.1 + (IntKind.i64.wrap x16)))) ∧ ρ 12 = (Value.int .i64 l11.2.1) ∧ ρ 13 = (Value.int .i64 l11.2.2) ∧ ρ 14 = (Value.int .i64 x18) ∧ ρ 15 = (Value.pointer (some (Addr.mk b22 0 none))) ∧ ρ 16 = (Value.int .i64 r21.2.2) ∧ ρ 17 = (Value.int .i64 r26.1) ∧ True) ⟨e0, e1, e2, e3, e9, e10, e11, e12, e13, e14, e15, e16, e17, trivial⟩ ?_
            rintro ρ ⟨e0, e1, e2, e3, e9, e10, e11, e12, e13, e14, e15, e16, e17, -⟩
            refine wpC_region ?_
            refine wpR_val (v := (Value.int .i64 r21.2.2)) (w' := w11) rfl rfl rfl (x_move (v := (Value.int .i64 r21.2.2)) rfl e16) ?_
            refine wpR_val (v := (Value.bool (!decide (r21.2.2 = 0)))) (w' := w11) rfl rfl rfl (x_neq rfl rfl rfl) ?_
            refine wpR_nil ?_
            refine wpC_cond (b := !decide (r21.2.2 = 0)) rfl (fun hc43 => ?_) (fun hc43 => ?_)
            · replace h := h.1 hc43
              refine wpC_seq ?_
              refine wpC_seq ?_
              refine wpC_cut (fun ρ => ρ 0 = (Value.int .i64 p0) ∧ ρ 1 = (Value.int .i64 p1) ∧ ρ 2 = (Value.int .i64 p2) ∧ ρ 3 = (Sl.v p3) ∧ ρ 9 = (Value.bool r1) ∧ ρ 10 = (Value.pointer (some (Addr.mk b2 0 none))) ∧ ρ 11 = (Value.int .i64 (IntKind.i64.wrap (l11.1 + (IntKind.i64.wrap x16)))) ∧ ρ 12 = (Value.int .i64 l11.2.1) ∧ ρ 13 = (Value.int .i64 l11.2.2) ∧ ρ 14 = (Value.int .i64 x18) ∧ ρ 15 = (Value.pointer (some (Addr.mk b22 0 none))) ∧ ρ 16 = (Value.int .i64 r21.2.2) ∧ ρ 17 = (Value.int .i64 r26.1) ∧ True) ⟨e0, e1, e2, e3, e9, e10, e11, e12, e13, e14, e15, e16, e17, trivial⟩ ?_
              rintro ρ ⟨e0, e1, e2, e3, e9, e10, e11, e12, e13, e14, e15, e16, e17, -⟩
              refine wpC_region ?_
              refine wpR_val (v := (Value.int .i64 r21.2.2)) (w' := w11) rfl rfl rfl (x_move (v := (Value.int .i64 r21.2.2)) rfl e16) ?_
              refine wpR_val (v := (Value.bool (!decide (r21.2.2 = 6)))) (w' := w11) rfl rfl rfl (x_neq rfl rfl rfl) ?_
              refine wpR_val (v := (Value.bool (!decide (r21.2.2 = 6)))) (w' := w11) rfl rfl rfl (x_move (v := (Value.bool (!decide (r21.2.2 = 6)))) rfl rfl) ?_
              obtain ⟨J44, h, hk⟩ := h
              refine wpR_joinJ 4 (fun x ρ => ρ 99 = Value.bool x ∧ ρ 0 = (Value.int .i64 p0) ∧ ρ 1 = (Value.int .i64 p1) ∧ ρ 2 = (Value.int .i64 p2) ∧ ρ 3 = (Sl.v p3) ∧ ρ 9 = (Value.bool r1) ∧ ρ 10 = (Value.pointer (some (Addr.mk b2 0 none))) ∧ ρ 11 = (Value.int .i64 (IntKind.i64.wrap (l11.1 + (IntKind.i64.wrap x16)))) ∧ ρ 12 = (Value.int .i64 l11.2.1) ∧ ρ 13 = (Value.int .i64 l11.2.2) ∧ ρ 14 = (Value.int .i64 x18) ∧ ρ 17 = (Value.int .i64 r26.1) ∧ True) (fun x w => J44 x ∧ w11 = w) ?_ ?_
              · clear hk
                rcases Bool.eq_false_or_eq_true (!decide (r21.2.2 = 6)) with hc45 | hc45
                · replace h := h.1 hc45
                  refine wpR_pass (wantN rfl rfl rfl hc45) rfl rfl ?_
                  refine wpR_pass (wantN rfl rfl rfl hc45) rfl rfl ?_
                  refine wpR_pass (wantN rfl rfl rfl hc45) rfl rfl ?_
                  refine wpR_val (v := (Value.bool true)) (w' := w11) rfl rfl rfl (x_pickT (v := (Value.bool true)) rfl rfl hc45 rfl) ?_
                  refine wpR_nil ?_
                  exact ⟨true, ⟨rfl, e0, e1, e2, e3, e9, e10, e11, e12, e13, e14, e17, trivial⟩, h, rfl⟩
                · replace h := h.2 hc45
                  obtain ⟨x46, q46, h⟩ := h
                  obtain ⟨x47, q47, h⟩ := h
                  refine wpR_val (v := (Value.agg #[(Value.int .i64 x46), (Value.int .i64 x47)])) (w' := w11) (wantG rfl rfl rfl hc45) rfl rfl (x_loadN [(Value.int .i64 x46), (Value.int .i64 x47)] rfl e15 SH_24 (CellsAt.out (CellsAt.cons q46 (CellsAt.cons q47 CellsAt.nil)))) ?_
                  obtain ⟨x48, q48, h⟩ := h
                  obtain ⟨x49, q49, h⟩ := h
                  refine wpR_val (v := (Value.agg #[(Value.int .i64 x48), (Value.int .i64 x49)])) (w' := w11) (wantG rfl rfl rfl hc45) rfl rfl (x_loadN [(Value.int .i64 x48), (Value.int .i64 x49)] rfl e10 SH_24 (CellsAt.out (CellsAt.cons q48 (CellsAt.cons q49 CellsAt.nil)))) ?_
                  refine wpR_val (v := (Value.bool (!(decide (x46 = x48) && (decide (x47 = x49) && true))))) (w' := w11) (wantG rfl rfl rfl hc45) rfl rfl (x_neqA rfl rfl rfl EQ1_24 EQ2_24 EQ3_24 (EQ_24 x46 x47 x48 x49)) ?_
                  refine wpR_val (v := (Value.bool (!(decide (x46 = x48) && (decide (x47 = x49) && true))))) (w' := w11) rfl rfl rfl (x_pickF (v := (Value.bool (!(decide (x46 = x48) && (decide (x47 = x49) && true))))) rfl rfl hc45 rfl) ?_
                  refine wpR_nil ?_
                  exact ⟨!(decide (x46 = x48) && (decide (x47 = x49) && true)), ⟨rfl, e0, e1, e2, e3, e9, e10, e11, e12, e13, e14, e17, trivial⟩, h, rfl⟩
              clear h
              rintro c50 ρ wj ⟨e99, e0, e1, e2, e3, e9, e10, e11, e12, e13, e14, e17, -⟩ ⟨h, rfl⟩
              replace h := hk c50 h
              clear hk
              refine wpR_val (v := (Value.bool c50)) (w' := w11) rfl rfl rfl (x_move (v := (Value.bool c50)) rfl e99) ?_
              refine wpR_joinJ 4 (fun (_ : Unit) ρ => ρ 104 = Value.bool (c50 || (decide (x18 ≤ r26.1))) ∧ ρ 0 = (Value.int .i64 p0) ∧ ρ 1 = (Value.int .i64 p1) ∧ ρ 2 = (Value.int .i64 p2) ∧ ρ 3 = (Sl.v p3) ∧ ρ 9 = (Value.bool r1) ∧ ρ 10 = (Value.pointer (some (Addr.mk b2 0 none))) ∧ ρ 11 = (Value.int .i64 (IntKind.i64.wrap (l11.1 + (IntKind.i64.wrap x16)))) ∧ ρ 12 = (Value.int .i64 l11.2.1) ∧ ρ 13 = (Value.int .i64 l11.2.2) ∧ True) (fun _ w => w11 = w) ?_ ?_
              · clear h
                rcases Bool.eq_false_or_eq_true (c50) with hc52 | hc52
                · skip
                  refine wpR_pass (wantN rfl rfl rfl hc52) rfl rfl ?_
                  refine wpR_pass (wantN rfl rfl rfl hc52) rfl rfl ?_
                  refine wpR_pass (wantN rfl rfl rfl hc52) rfl rfl ?_
                  refine wpR_val (v := (Value.bool true)) (w' := w11) rfl rfl rfl (x_pickT (v := (Value.bool true)) rfl rfl hc52 rfl) ?_
                  refine wpR_nil ?_
                  exact ⟨(), ⟨(by rw [hc52]; rfl), e0, e1, e2, e3, e9, e10, e11, e12, e13, trivial⟩, rfl⟩
                · skip
                  refine wpR_val (v := (Value.int .i64 x18)) (w' := w11) (wantG rfl rfl rfl hc52) rfl rfl (x_move (v := (Value.int .i64 x18)) rfl e14) ?_
                  refine wpR_val (v := (Value.int .i64 r26.1)) (w' := w11) (wantG rfl rfl rfl hc52) rfl rfl (x_move (v := (Value.int .i64 r26.1)) rfl e17) ?_
                  refine wpR_val (v := (Value.bool (decide (x18 ≤ r26.1)))) (w' := w11) (wantG rfl rfl rfl hc52) rfl rfl (x_leq rfl rfl rfl) ?_
                  refine wpR_val (v := (Value.bool (decide (x18 ≤ r26.1)))) (w' := w11) rfl rfl rfl (x_pickF (v := (Value.bool (decide (x18 ≤ r26.1)))) rfl rfl hc52 rfl) ?_
                  refine wpR_nil ?_
                  exact ⟨(), ⟨(by rw [hc52]; rfl), e0, e1, e2, e3, e9, e10, e11, e12, e13, trivial⟩, rfl⟩
              rintro _ ρ wj ⟨e104, e0, e1, e2, e3, e9, e10, e11, e12, e13, -⟩ rfl
              refine wpR_nil ?_
              refine wpC_cond (b := c50 || (decide (x18 ≤ r26.1))) e104 (fun hc53 => ?_) (fun hc53 => ?_)
              · replace h := h.1 hc53
                refine wpC_seq ?_
                refine wpC_region ?_
                refine wpR_val (v := (Value.bool false)) (w' := w11) rfl rfl rfl (x_assign (v := (Value.bool false)) rfl rfl) ?_
                refine wpR_nil ?_
                refine wpC_ret ?_
                exact ⟨.inl rfl, fun a ha => ⟨_, results_rep1 rfl ha rfl, false, rfl, h⟩⟩
              · replace h := h.2 hc53
                refine wpC_skip ?_
                refine wpC_exit ?_
                exact ⟨(IntKind.i64.wrap (l11.1 + (IntKind.i64.wrap x16)), l11.2.1), ⟨e11, e12, e0, e1, e2, e3, e9, e10, e13, trivial⟩, h⟩
            · replace h := h.2 hc43
              refine wpC_skip ?_
              refine wpC_seq ?_
              refine wpC_cut (fun ρ => ρ 0 = (Value.int .i64 p0) ∧ ρ 1 = (Value.int .i64 p1) ∧ ρ 2 = (Value.int .i64 p2) ∧ ρ 3 = (Sl.v p3) ∧ ρ 9 = (Value.bool r1) ∧ ρ 10 = (Value.pointer (some (Addr.mk b2 0 none))) ∧ ρ 11 = (Value.int .i64 (IntKind.i64.wrap (l11.1 + (IntKind.i64.wrap x16)))) ∧ ρ 12 = (Value.int .i64 l11.2.1) ∧ ρ 13 = (Value.int .i64 l11.2.2) ∧ ρ 14 = (Value.int .i64 x18) ∧ ρ 15 = (Value.pointer (some (Addr.mk b22 0 none))) ∧ ρ 17 = (Value.int .i64 r26.1) ∧ True) ⟨e0, e1, e2, e3, e9, e10, e11, e12, e13, e14, e15, e17, trivial⟩ ?_
              rintro ρ ⟨e0, e1, e2, e3, e9, e10, e11, e12, e13, e14, e15, e17, -⟩
              refine wpC_region ?_
              refine wpR_val (v := (Value.int .i64 l11.2.1)) (w' := w11) rfl rfl rfl (x_move (v := (Value.int .i64 l11.2.1)) rfl e12) ?_
              refine wpR_val (v := (Value.int .i64 x18)) (w' := w11) rfl rfl rfl (x_move (v := (Value.int .i64 x18)) rfl e14) ?_
              refine wpR_val (v := (Value.int .i64 (IntKind.i64.wrap (l11.2.1 + x18)))) (w' := w11) rfl rfl rfl (x_add rfl rfl rfl) ?_
              refine wpR_val (v := (Value.int .i64 (IntKind.i64.wrap (l11.2.1 + x18)))) (w' := w11) rfl rfl rfl (x_assign (v := (Value.int .i64 (IntKind.i64.wrap (l11.2.1 + x18)))) rfl rfl) ?_
              refine wpR_nil ?_
              refine wpC_seq ?_
              refine wpC_seq ?_
              refine wpC_cut (fun ρ => ρ 0 = (Value.int .i64 p0) ∧ ρ 1 = (Value.int .i64 p1) ∧ ρ 2 = (Value.int .i64 p2) ∧ ρ 3 = (Sl.v p3) ∧ ρ 9 = (Value.bool r1) ∧ ρ 10 = (Value.pointer (some (Addr.mk b2 0 none))) ∧ ρ 11 = (Value.int .i64 (IntKind.i64.wrap (l11.1 + (IntKind.i64.wrap x16)))) ∧ ρ 12 = (Value.int .i64 (IntKind.i64.wrap (l11.2.1 + x18))) ∧ ρ 13 = (Value.int .i64 l11.2.2) ∧ ρ 14 = (Value.int .i64 x18) ∧ ρ 15 = (Value.pointer (some (Addr.mk b22 0 none))) ∧ ρ 17 = (Value.int .i64 r26.1) ∧ True) ⟨e0, e1, e2, e3, e9, e10, e11, rfl, e13, e14, e15, e17, trivial⟩ ?_
              rintro ρ ⟨e0, e1, e2, e3, e9, e10, e11, e12, e13, e14, e15, e17, -⟩
              refine wpC_region ?_
              refine wpR_val (v := (Value.int .i64 x18)) (w' := w11) rfl rfl rfl (x_move (v := (Value.int .i64 x18)) rfl e14) ?_
              refine wpR_val (v := (Value.int .i64 p2)) (w' := w11) rfl rfl rfl (x_move (v := (Value.int .i64 p2)) rfl e2) ?_
              refine wpR_val (v := (Value.bool (decide (p2 < x18)))) (w' := w11) rfl rfl rfl (x_gtr rfl rfl rfl) ?_
              refine wpR_val (v := (Value.bool (decide (p2 < x18)))) (w' := w11) rfl rfl rfl (x_move (v := (Value.bool (decide (p2 < x18)))) rfl rfl) ?_
              refine wpR_joinJ 8 (fun (_ : Unit) ρ => ρ 119 = Value.bool ((decide (p2 < x18)) || (decide ((IntKind.i64.wrap (p0 + (IntKind.i64.wrap ((IntKind.i64.wrap (l11.1 + (IntKind.i64.wrap x16))) * p1)))) < (IntKind.i64.wrap (l11.2.1 + x18))))) ∧ ρ 0 = (Value.int .i64 p0) ∧ ρ 1 = (Value.int .i64 p1) ∧ ρ 2 = (Value.int .i64 p2) ∧ ρ 3 = (Sl.v p3) ∧ ρ 9 = (Value.bool r1) ∧ ρ 10 = (Value.pointer (some (Addr.mk b2 0 none))) ∧ ρ 11 = (Value.int .i64 (IntKind.i64.wrap (l11.1 + (IntKind.i64.wrap x16)))) ∧ ρ 12 = (Value.int .i64 (IntKind.i64.wrap (l11.2.1 + x18))) ∧ ρ 13 = (Value.int .i64 l11.2.2) ∧ ρ 14 = (Value.int .i64 x18) ∧ ρ 15 = (Value.pointer (some (Addr.mk b22 0 none))) ∧ ρ 17 = (Value.int .i64 r26.1) ∧ True) (fun _ w => w11 = w) ?_ ?_
              · clear h
                rcases Bool.eq_false_or_eq_true (decide (p2 < x18)) with hc55 | hc55
                · skip
                  refine wpR_pass (wantN rfl rfl rfl hc55) rfl rfl ?_
                  refine wpR_pass (wantN rfl rfl rfl hc55) rfl rfl ?_
                  refine wpR_pass (wantN rfl rfl rfl hc55) rfl rfl ?_
                  refine wpR_pass (wantN rfl rfl rfl hc55) rfl rfl ?_
                  refine wpR_pass (wantN rfl rfl rfl hc55) rfl rfl ?_
                  refine wpR_pass (wantN rfl rfl rfl hc55) rfl rfl ?_
                  refine wpR_pass (wantN rfl rfl rfl hc55) rfl rfl ?_
                  refine wpR_val (v := (Value.bool true)) (w' := w11) rfl rfl rfl (x_pickT (v := (Value.bool true)) rfl rfl hc55 rfl) ?_
                  refine wpR_nil ?_
                  exact ⟨(), ⟨(by rw [hc55]; rfl), e0, e1, e2, e3, e9, e10, e11, e12, e13, e14, e15, e17, trivial⟩, rfl⟩
                · skip
                  refine wpR_val (v := (Value.int .i64 (IntKind.i64.wrap (l11.2.1 + x18)))) (w' := w11) (wantG rfl rfl rfl hc55) rfl rfl (x_move (v := (Value.int .i64 (IntKind.i64.wrap (l11.2.1 + x18)))) rfl e12) ?_
                  refine wpR_val (v := (Value.int .i64 p0)) (w' := w11) (wantG rfl rfl rfl hc55) rfl rfl (x_move (v := (Value.int .i64 p0)) rfl e0) ?_
                  refine wpR_val (v := (Value.int .i64 (IntKind.i64.wrap (l11.1 + (IntKind.i64.wrap x16))))) (w' := w11) (wantG rfl rfl rfl hc55) rfl rfl (x_move (v := (Value.int .i64 (IntKind.i64.wrap (l11.1 + (IntKind.i64.wrap x16))))) rfl e11) ?_
                  refine wpR_val (v := (Value.int .i64 p1)) (w' := w11) (wantG rfl rfl rfl hc55) rfl rfl (x_move (v := (Value.int .i64 p1)) rfl e1) ?_
                  refine wpR_val (v := (Value.int .i64 (IntKind.i64.wrap ((IntKind.i64.wrap (l11.1 + (IntKind.i64.wrap x16))) * p1)))) (w' := w11) (wantG rfl rfl rfl hc55) rfl rfl (x_mul rfl rfl rfl) ?_
                  refine wpR_val (v := (Value.int .i64 (IntKind.i64.wrap (p0 + (IntKind.i64.wrap ((IntKind.i64.wrap (l11.1 + (IntKind.i64.wrap x16))) * p1)))))) (w' := w11) (wantG rfl rfl rfl hc55) rfl rfl (x_add rfl rfl rfl) ?_
                  refine wpR_val (v := (Value.bool (decide ((IntKind.i64.wrap (p0 + (IntKind.i64.wrap ((IntKind.i64.wrap (l11.1 + (IntKind.i64.wrap x16))) * p1)))) < (IntKind.i64.wrap (l11.2.1 + x18)))))) (w' := w11) (wantG rfl rfl rfl hc55) rfl rfl (x_gtr rfl rfl rfl) ?_
                  refine wpR_val (v := (Value.bool (decide ((IntKind.i64.wrap (p0 + (IntKind.i64.wrap ((IntKind.i64.wrap (l11.1 + (IntKind.i64.wrap x16))) * p1)))) < (IntKind.i64.wrap (l11.2.1 + x18)))))) (w' := w11) rfl rfl rfl (x_pickF (v := (Value.bool (decide ((IntKind.i64.wrap (p0 + (IntKind.i64.wrap ((IntKind.i64.wrap (l11.1 + (IntKind.i64.wrap x16))) * p1)))) < (IntKind.i64.wrap (l11.2.1 + x18)))))) rfl rfl hc55 rfl) ?_
                  refine wpR_nil ?_
                  exact ⟨(), ⟨(by rw [hc55]; rfl), e0, e1, e2, e3, e9, e10, e11, e12, e13, e14, e15, e17, trivial⟩, rfl⟩
              rintro _ ρ wj ⟨e119, e0, e1, e2, e3, e9, e10, e11, e12, e13, e14, e15, e17, -⟩ rfl
              refine wpR_val (v := (Value.bool ((decide (p2 < x18)) || (decide ((IntKind.i64.wrap (p0 + (IntKind.i64.wrap ((IntKind.i64.wrap (l11.1 + (IntKind.i64.wrap x16))) * p1)))) < (IntKind.i64.wrap (l11.2.1 + x18))))))) (w' := w11) rfl rfl rfl (x_move (v := (Value.bool ((decide (p2 < x18)) || (decide ((IntKind.i64.wrap (p0 + (IntKind.i64.wrap ((IntKind.i64.wrap (l11.1 + (IntKind.i64.wrap x16))) * p1)))) < (IntKind.i64.wrap (l11.2.1 + x18))))))) rfl e119) ?_
              obtain ⟨J56, h, hk⟩ := h
              refine wpR_joinJ 7 (fun x ρ => ρ 127 = Value.bool x ∧ ρ 0 = (Value.int .i64 p0) ∧ ρ 1 = (Value.int .i64 p1) ∧ ρ 2 = (Value.int .i64 p2) ∧ ρ 3 = (Sl.v p3) ∧ ρ 9 = (Value.bool r1) ∧ ρ 10 = (Value.pointer (some (Addr.mk b2 0 none))) ∧ ρ 11 = (Value.int .i64 (IntKind.i64.wrap (l11.1 + (IntKind.i64.wrap x16)))) ∧ ρ 12 = (Value.int .i64 (IntKind.i64.wrap (l11.2.1 + x18))) ∧ ρ 13 = (Value.int .i64 l11.2.2) ∧ ρ 15 = (Value.pointer (some (Addr.mk b22 0 none))) ∧ True) (fun x w => J56 x ∧ w11 = w) ?_ ?_
              · clear hk
                rcases Bool.eq_false_or_eq_true ((decide (p2 < x18)) || (decide ((IntKind.i64.wrap (p0 + (IntKind.i64.wrap ((IntKind.i64.wrap (l11.1 + (IntKind.i64.wrap x16))) * p1)))) < (IntKind.i64.wrap (l11.2.1 + x18))))) with hc57 | hc57
                · replace h := h.1 hc57
                  refine wpR_pass (wantN rfl rfl rfl hc57) rfl rfl ?_
                  refine wpR_pass (wantN rfl rfl rfl hc57) rfl rfl ?_
                  refine wpR_pass (wantN rfl rfl rfl hc57) rfl rfl ?_
                  refine wpR_pass (wantN rfl rfl rfl hc57) rfl rfl ?_
                  refine wpR_pass (wantN rfl rfl rfl hc57) rfl rfl ?_
                  refine wpR_pass (wantN rfl rfl rfl hc57) rfl rfl ?_
                  refine wpR_val (v := (Value.bool true)) (w' := w11) rfl rfl rfl (x_pickT (v := (Value.bool true)) rfl rfl hc57 rfl) ?_
                  refine wpR_nil ?_
                  exact ⟨true, ⟨rfl, e0, e1, e2, e3, e9, e10, e11, e12, e13, e15, trivial⟩, h, rfl⟩
                · replace h := h.2 hc57
                  refine wpR_val (v := (Value.pointer (some ((Addr.mk b22 0 none).add 0)))) (w' := w11) (wantG rfl rfl rfl hc57) rfl rfl (x_fieldAddr rfl e15 FA_24_0) ?_
                  obtain ⟨x58, q58, h⟩ := h
                  refine wpR_val (v := (Value.int .i64 x58)) (w' := w11) (wantG rfl rfl rfl hc57) rfl rfl (x_load1 rfl rfl SH_3 q58) ?_
                  refine wpR_val (v := (Value.int .i64 r26.1)) (w' := w11) (wantG rfl rfl rfl hc57) rfl rfl (x_move (v := (Value.int .i64 r26.1)) rfl e17) ?_
                  refine wpR_val (v := (Value.int .i64 x18)) (w' := w11) (wantG rfl rfl rfl hc57) rfl rfl (x_move (v := (Value.int .i64 x18)) rfl e14) ?_
                  refine wpR_val (v := (Value.int .i64 (IntKind.i64.wrap (r26.1 - x18)))) (w' := w11) (wantG rfl rfl rfl hc57) rfl rfl (x_sub rfl rfl rfl) ?_
                  refine wpR_val (v := (Value.bool (!decide (x58 = (IntKind.i64.wrap (r26.1 - x18)))))) (w' := w11) (wantG rfl rfl rfl hc57) rfl rfl (x_neq rfl rfl rfl) ?_
                  refine wpR_val (v := (Value.bool (!decide (x58 = (IntKind.i64.wrap (r26.1 - x18)))))) (w' := w11) rfl rfl rfl (x_pickF (v := (Value.bool (!decide (x58 = (IntKind.i64.wrap (r26.1 - x18)))))) rfl rfl hc57 rfl) ?_
                  refine wpR_nil ?_
                  exact ⟨!decide (x58 = (IntKind.i64.wrap (r26.1 - x18))), ⟨rfl, e0, e1, e2, e3, e9, e10, e11, e12, e13, e15, trivial⟩, h, rfl⟩
              clear h
              rintro c59 ρ wj ⟨e127, e0, e1, e2, e3, e9, e10, e11, e12, e13, e15, -⟩ ⟨h, rfl⟩
              replace h := hk c59 h
              clear hk
              refine wpR_val (v := (Value.bool c59)) (w' := w11) rfl rfl rfl (x_move (v := (Value.bool c59)) rfl e127) ?_
              obtain ⟨J60, h, hk⟩ := h
              refine wpR_joinJ 5 (fun x ρ => ρ 133 = Value.bool x ∧ ρ 0 = (Value.int .i64 p0) ∧ ρ 1 = (Value.int .i64 p1) ∧ ρ 2 = (Value.int .i64 p2) ∧ ρ 3 = (Sl.v p3) ∧ ρ 9 = (Value.bool r1) ∧ ρ 10 = (Value.pointer (some (Addr.mk b2 0 none))) ∧ ρ 11 = (Value.int .i64 (IntKind.i64.wrap (l11.1 + (IntKind.i64.wrap x16)))) ∧ ρ 12 = (Value.int .i64 (IntKind.i64.wrap (l11.2.1 + x18))) ∧ ρ 13 = (Value.int .i64 l11.2.2) ∧ ρ 15 = (Value.pointer (some (Addr.mk b22 0 none))) ∧ True) (fun x w => J60 x ∧ w11 = w) ?_ ?_
              · clear hk
                rcases Bool.eq_false_or_eq_true (c59) with hc61 | hc61
                · replace h := h.1 hc61
                  refine wpR_pass (wantN rfl rfl rfl hc61) rfl rfl ?_
                  refine wpR_pass (wantN rfl rfl rfl hc61) rfl rfl ?_
                  refine wpR_pass (wantN rfl rfl rfl hc61) rfl rfl ?_
                  refine wpR_pass (wantN rfl rfl rfl hc61) rfl rfl ?_
                  refine wpR_val (v := (Value.bool true)) (w' := w11) rfl rfl rfl (x_pickT (v := (Value.bool true)) rfl rfl hc61 rfl) ?_
                  refine wpR_nil ?_
                  exact ⟨true, ⟨rfl, e0, e1, e2, e3, e9, e10, e11, e12, e13, e15, trivial⟩, h, rfl⟩
                · replace h := h.2 hc61
                  refine wpR_val (v := (Value.pointer (some ((Addr.mk b22 0 none).add 1)))) (w' := w11) (wantG rfl rfl rfl hc61) rfl rfl (x_fieldAddr rfl e15 FA_24_1) ?_
                  obtain ⟨x62, q62, h⟩ := h
                  refine wpR_val (v := (Value.int .i64 x62)) (w' := w11) (wantG rfl rfl rfl hc61) rfl rfl (x_load1 rfl rfl SH_3 q62) ?_
                  refine wpR_val (v := (Value.int .i64 (IntKind.i64.wrap (l11.1 + (IntKind.i64.wrap x16))))) (w' := w11) (wantG rfl rfl rfl hc61) rfl rfl (x_move (v := (Value.int .i64 (IntKind.i64.wrap (l11.1 + (IntKind.i64.wrap x16))))) rfl e11) ?_
                  refine wpR_val (v := (Value.bool (!decide (x62 = (IntKind.i64.wrap (l11.1 + (IntKind.i64.wrap x16))))))) (w' := w11) (wantG rfl rfl rfl hc61) rfl rfl (x_neq rfl rfl rfl) ?_
                  refine wpR_val (v := (Value.bool (!decide (x62 = (IntKind.i64.wrap (l11.1 + (IntKind.i64.wrap x16))))))) (w' := w11) rfl rfl rfl (x_pickF (v := (Value.bool (!decide (x62 = (IntKind.i64.wrap (l11.1 + (IntKind.i64.wrap x16))))))) rfl rfl hc61 rfl) ?_
                  refine wpR_nil ?_
                  exact ⟨!decide (x62 = (IntKind.i64.wrap (l11.1 + (IntKind.i64.wrap x16)))), ⟨rfl, e0, e1, e2, e3, e9, e10, e11, e12, e13, e15, trivial⟩, h, rfl⟩
              clear h
              rintro c63 ρ wj ⟨e133, e0, e1, e2, e3, e9, e10, e11, e12, e13, e15, -⟩ ⟨h, rfl⟩
              replace h := hk c63 h
              clear hk
              refine wpR_val (v := (Value.bool c63)) (w' := w11) rfl rfl rfl (x_move (v := (Value.bool c63)) rfl e133) ?_
              obtain ⟨J64, h, hk⟩ := h
              refine wpR_joinJ 6 (fun x ρ => ρ 140 = Value.bool x ∧ ρ 0 = (Value.int .i64 p0) ∧ ρ 1 = (Value.int .i64 p1) ∧ ρ 2 = (Value.int .i64 p2) ∧ ρ 3 = (Sl.v p3) ∧ ρ 9 = (Value.bool r1) ∧ ρ 10 = (Value.pointer (some (Addr.mk b2 0 none))) ∧ ρ 11 = (Value.int .i64 (IntKind.i64.wrap (l11.1 + (IntKind.i64.wrap x16)))) ∧ ρ 12 = (Value.int .i64 (IntKind.i64.wrap (l11.2.1 + x18))) ∧ ρ 13 = (Value.int .i64 l11.2.2) ∧ ρ 15 = (Value.pointer (some (Addr.mk b22 0 none))) ∧ True) (J64) ?_ ?_
              · clear hk
                rcases Bool.eq_false_or_eq_true (c63) with hc65 | hc65
                · replace h := h.1 hc65
                  refine wpR_pass (wantN rfl rfl rfl hc65) rfl rfl ?_
                  refine wpR_pass (wantN rfl rfl rfl hc65) rfl rfl ?_
                  refine wpR_pass (wantN rfl rfl rfl hc65) rfl rfl ?_
                  refine wpR_pass (wantN rfl rfl rfl hc65) rfl rfl ?_
                  refine wpR_pass (wantN rfl rfl rfl hc65) rfl rfl ?_
                  refine wpR_val (v := (Value.bool true)) (w' := w11) rfl rfl rfl (x_pickT (v := (Value.bool true)) rfl rfl hc65 rfl) ?_
                  refine wpR_nil ?_
                  exact ⟨true, ⟨rfl, e0, e1, e2, e3, e9, e10, e11, e12, e13, e15, trivial⟩, h⟩
                · replace h := h.2 hc65
                  obtain ⟨x66, q66, h⟩ := h
                  obtain ⟨x67, q67, h⟩ := h
                  refine wpR_val (v := (Value.agg #[(Value.int .i64 x66), (Value.int .i64 x67)])) (w' := w11) (wantG rfl rfl rfl hc65) rfl rfl (x_loadN [(Value.int .i64 x66), (Value.int .i64 x67)] rfl e15 SH_24 (CellsAt.out (CellsAt.cons q66 (CellsAt.cons q67 CellsAt.nil)))) ?_
                  refine wpR_val (v := (Value.int .i64 p1)) (w' := w11) (wantG rfl rfl rfl hc65) rfl rfl (x_move (v := (Value.int .i64 p1)) rfl e1) ?_
                  refine wpR_val (v := (Value.int .i64 p2)) (w' := w11) (wantG rfl rfl rfl hc65) rfl rfl (x_move (v := (Value.int .i64 p2)) rfl e2) ?_
                  refine wpR_enter (wantG rfl rfl rfl hc65) rfl rfl (x_call (vs := [(Value.agg #[(Value.int .i64 x66), (Value.int .i64 x67)]), (Value.int .i64 p1), (Value.int .i64 p2)]) rfl rfl (by rfl) Try.func14 NN_14 NB_14) (Calls.mono h ?_)
                  rintro _ w12 ⟨r68, rfl, h⟩
                  refine ⟨_, rfl, ?_⟩
                  refine wpR_val (v := (Value.bool (!r68))) (w' := w12) (wantG rfl rfl rfl hc65) rfl rfl (x_not rfl rfl) ?_
                  refine wpR_val (v := (Value.bool (!r68))) (w' := w12) rfl rfl rfl (x_pickF (v := (Value.bool (!r68))) rfl rfl hc65 rfl) ?_
                  refine wpR_nil ?_
                  exact ⟨!r68, ⟨rfl, e0, e1, e2, e3, e9, e10, e11, e12, e13, e15, trivial⟩, h⟩
              clear h
              rintro c69 ρ w13 ⟨e140, e0, e1, e2, e3, e9, e10, e11, e12, e13, e15, -⟩ h
              replace h := hk c69 w13 h
              clear hk
              refine wpR_nil ?_
              refine wpC_cond (b := c69) e140 (fun hc70 => ?_) (fun hc70 => ?_)
              · replace h := h.1 hc70
                refine wpC_seq ?_
                refine wpC_region ?_
                refine wpR_val (v := (Value.bool false)) (w' := w13) rfl rfl rfl (x_assign (v := (Value.bool false)) rfl rfl) ?_
                refine wpR_nil ?_
                refine wpC_ret ?_
                exact ⟨.inl rfl, fun a ha => ⟨_, results_rep1 rfl ha rfl, false, rfl, h⟩⟩
              · replace h := h.2 hc70
                refine wpC_skip ?_
                refine wpC_region ?_
                obtain ⟨x71, q71, h⟩ := h
                obtain ⟨x72, q72, h⟩ := h
                refine wpR_val (v := (Value.agg #[(Value.int .i64 x71), (Value.int .i64 x72)])) (w' := w13) rfl rfl rfl (x_loadN [(Value.int .i64 x71), (Value.int .i64 x72)] rfl e15 SH_24 (CellsAt.out (CellsAt.cons q71 (CellsAt.cons q72 CellsAt.nil)))) ?_
                obtain ⟨q73, h⟩ := h
                obtain ⟨w14, hw73⟩ : ∃ u, u = setAll w13 (Addr.mk b2 0 none) [(Value.int .i64 x71), (Value.int .i64 x72)] 0 := ⟨_, rfl⟩
                replace h := h w14 hw73
                refine wpR_skp (w' := w14) rfl rfl ((x_store (v := (Value.agg #[(Value.int .i64 x71), (Value.int .i64 x72)])) rfl e10 rfl SZ_24 (ones (by rfl)) q73).trans (by rw [hw73]; rfl)) ?_
                refine wpR_nil ?_
                exact ⟨(IntKind.i64.wrap (l11.1 + (IntKind.i64.wrap x16)), IntKind.i64.wrap (l11.2.1 + x18)), ⟨e11, e12, e0, e1, e2, e3, e9, e10, e13, trivial⟩, h⟩
      clear h
      rintro l14 ρ w7 ⟨e11, e12, e0, e1, e2, e3, e9, e10, e13, -⟩ h
      replace h := hk l14 w7 h
      clear hk
      refine wpC_region ?_
      refine wpR_val (v := (Value.int .i64 l11.2.2)) (w' := w7) rfl rfl rfl (x_move (v := (Value.int .i64 l11.2.2)) rfl e13) ?_
      refine wpR_val (v := (Value.int .i64 (IntKind.i64.wrap (l11.2.2 + 1)))) (w' := w7) rfl rfl rfl (x_add rfl rfl rfl) ?_
      refine wpR_val (v := (Value.int .i64 (IntKind.i64.wrap (l11.2.2 + 1)))) (w' := w7) rfl rfl rfl (x_assign (v := (Value.int .i64 (IntKind.i64.wrap (l11.2.2 + 1)))) rfl rfl) ?_
      refine wpR_nil ?_
      exact ⟨(l14.1, l14.2, IntKind.i64.wrap (l11.2.2 + 1)), ⟨e11, e12, rfl, e0, e1, e2, e3, e9, e10, trivial⟩, h⟩
    · replace h := h.2 hc12
      refine wpC_exit ?_
      refine wpC_seq ?_
      refine wpC_cut (fun ρ => ρ 9 = (Value.bool r1) ∧ True) ⟨e9, trivial⟩ ?_
      rintro ρ ⟨e9, -⟩
      refine wpC_region ?_
      refine wpR_val (v := (Value.bool r1)) (w' := w6) rfl rfl rfl (x_move (v := (Value.bool r1)) rfl e9) ?_
      refine wpR_val (v := (Value.bool r1)) (w' := w6) rfl rfl rfl (x_assign (v := (Value.bool r1)) rfl rfl) ?_
      refine wpR_nil ?_
      refine wpC_ret ?_
      exact ⟨.inl rfl, fun a ha => ⟨_, results_rep1 rfl ha rfl, r1, rfl, h⟩⟩

/-- lingualaw09.RateParts -/
def F5 (p0 : Int) (p1 : Int) (p2 : Int) (p3 : Int) (p4 : Int) (p5 : Int) (p6 : Int) (w0 : World) (K : Bool → World → Prop) : Prop :=
  callC Try.prog 7 #[] (fun (r : Bool) => (Value.bool r)) w0 fun r1 w1 =>
  nw 24 #[(Value.int .i64 0), (Value.int .i64 0)] w1 fun b2 w2 =>
  st (Addr.mk b2 0 none) [(Value.int .i64 p0), (Value.int .i64 0)] w2 fun w3 =>
  ld (Value.int .i64) ((Addr.mk b2 0 none).add 0) w3 fun x4 =>
  ld (Value.int .i64) ((Addr.mk b2 0 none).add 1) w3 fun x5 =>
  callC Try.prog 14 #[(Value.agg #[(Value.int .i64 x4), (Value.int .i64 x5)]), (Value.int .i64 p1), (Value.int .i64 p2)] (fun (r : Bool) => (Value.bool r)) w3 fun r6 w4 =>
  cnd (!r6)
    (
    K r1 w4
    )
    (
    ld (Value.int .i64) ((Addr.mk b2 0 none).add 0) w4 fun x8 =>
    ld (Value.int .i64) ((Addr.mk b2 0 none).add 1) w4 fun x9 =>
    callC Try.prog 8 #[(Value.agg #[(Value.int .i64 x8), (Value.int .i64 x9)]), (Value.int .i64 p1), (Value.int .i64 p2), (Value.int .i64 (IntKind.i64.wrap p3)), (Value.int .i64 0)] (fun (r : Int × Int × Int) => (Value.tuple #[(Value.agg #[(Value.int .i64 r.1), (Value.int .i64 r.2.1)]), (Value.int .i64 r.2.2)])) w4 fun r10 w5 =>
    nw 24 #[(Value.int .i64 0), (Value.int .i64 0)] w5 fun b11 w6 =>
    st (Addr.mk b11 0 none) [(Value.int .i64 r10.1), (Value.int .i64 r10.2.1)] w6 fun w7 =>
    ld (Value.int .i64) ((Addr.mk b2 0 none).add 0) w7 fun x13 =>
    ld (Value.int .i64) ((Addr.mk b2 0 none).add 1) w7 fun x14 =>
    callC Try.prog 8 #[(Value.agg #[(Value.int .i64 x13), (Value.int .i64 x14)]), (Value.int .i64 p1), (Value.int .i64 p2), (Value.int .i64 (IntKind.i64.wrap ((IntKind.i64.wrap p3) + (IntKind.i64.wrap p4)))), (Value.int .i64 p5)] (fun (r : Int × Int × Int) => (Value.tuple #[(Value.agg #[(Value.int .i64 r.1), (Value.int .i64 r.2.1)]), (Value.int .i64 r.2.2)])) w7 fun r15 w8 =>
    nw 24 #[(Value.int .i64 0), (Value.int .i64 0)] w8 fun b16 w9 =>
    st (Addr.mk b16 0 none) [(Value.int .i64 r15.1), (Value.int .i64 r15.2.1)] w9 fun w10 =>
    ld (Value.int .i64) ((Addr.mk b11 0 none).add 0) w10 fun x18 =>
    ld (Value.int .i64) ((Addr.mk b11 0 none).add 1) w10 fun x19 =>
    callC Try.prog 8 #[(Value.agg #[(Value.int .i64 x18), (Value.int .i64 x19)]), (Value.int .i64 p1), (Value.int .i64 p2), (Value.int .i64 (IntKind.i64.wrap ((IntKind.i64.wrap p3) + (IntKind.i64.wrap p4)))), (Value.int .i64 p5)] (fun (r : Int × Int × Int) => (Value.tuple #[(Value.agg #[(Value.int .i64 r.1), (Value.int .i64 r.2.1)]), (Value.int .i64 r.2.2)])) w10 fun r20 w11 =>
    nw 24 #[(Value.int .i64 0), (Value.int .i64 0)] w11 fun b21 w12 =>
    st (Addr.mk b21 0 none) [(Value.int .i64 r20.1), (Value.int .i64 r20.2.1)] w12 fun w13 =>
    jp (fun J25 => cnd ((!decide (r10.2.2 = 0)) || (!decide (r15.2.2 = r20.2.2)))
      (
      J25 true
      )
      (
      jp (fun J27 => cnd (decide (r15.2.2 = 0))
        (
        ld (Value.int .i64) ((Addr.mk b16 0 none).add 0) w13 fun x29 =>
        ld (Value.int .i64) ((Addr.mk b16 0 none).add 1) w13 fun x30 =>
        ld (Value.int .i64) ((Addr.mk b21 0 none).add 0) w13 fun x31 =>
        ld (Value.int .i64) ((Addr.mk b21 0 none).add 1) w13 fun x32 =>
        J27 (!(decide (x29 = x31) && (decide (x30 = x32) && true)))
        )
        (
        J27 false
        ))
      fun c33 =>
      J25 c33
      ))
    fun c34 =>
    cnd (c34)
      (
      K false w13
      )
      (
      cnd (((!decide (r15.2.2 = 0)) || (decide (p6 < 0))) || (decide (p5 < p6)))
        (
        K r1 w13
        )
        (
        ld (Value.int .i64) ((Addr.mk b2 0 none).add 0) w13 fun x41 =>
        ld (Value.int .i64) ((Addr.mk b2 0 none).add 1) w13 fun x42 =>
        callC Try.prog 8 #[(Value.agg #[(Value.int .i64 x41), (Value.int .i64 x42)]), (Value.int .i64 p1), (Value.int .i64 p2), (Value.int .i64 (IntKind.i64.wrap ((IntKind.i64.wrap p3) + (IntKind.i64.wrap p4)))), (Value.int .i64 p6)] (fun (r : Int × Int × Int) => (Value.tuple #[(Value.agg #[(Value.int .i64 r.1), (Value.int .i64 r.2.1)]), (Value.int .i64 r.2.2)])) w13 fun r43 w14 =>
        nw 24 #[(Value.int .i64 0), (Value.int .i64 0)] w14 fun b44 w15 =>
        st (Addr.mk b44 0 none) [(Value.int .i64 r43.1), (Value.int .i64 r43.2.1)] w15 fun w16 =>
        ld (Value.int .i64) ((Addr.mk b44 0 none).add 0) w16 fun x46 =>
        ld (Value.int .i64) ((Addr.mk b44 0 none).add 1) w16 fun x47 =>
        callC Try.prog 8 #[(Value.agg #[(Value.int .i64 x46), (Value.int .i64 x47)]), (Value.int .i64 p1), (Value.int .i64 p2), (Value.int .i64 (IntKind.i64.wrap ((IntKind.i64.wrap p3) + (IntKind.i64.wrap p4)))), (Value.int .i64 (IntKind.i64.wrap (p5 - p6)))] (fun (r : Int × Int × Int) => (Value.tuple #[(Value.agg #[(Value.int .i64 r.1), (Value.int .i64 r.2.1)]), (Value.int .i64 r.2.2)])) w16 fun r48 w17 =>
        nw 24 #[(Value.int .i64 0), (Value.int .i64 0)] w17 fun b49 w18 =>
        st (Addr.mk b49 0 none) [(Value.int .i64 r48.1), (Value.int .i64 r48.2.1)] w18 fun w19 =>
        ld (Value.int .i64) ((Addr.mk b2 0 none).add 0) w19 fun x51 =>
        ld (Value.int .i64) ((Addr.mk b2 0 none).add 1) w19 fun x52 =>
        callC Try.prog 8 #[(Value.agg #[(Value.int .i64 x51), (Value.int .i64 x52)]), (Value.int .i64 p1), (Value.int .i64 p2), (Value.int .i64 (IntKind.i64.wrap ((IntKind.i64.wrap ((IntKind.i64.wrap p3) + (IntKind.i64.wrap p4))) + (IntKind.i64.wrap p4)))), (Value.int .i64 p5)] (fun (r : Int × Int × Int) => (Value.tuple #[(Value.agg #[(Value.int .i64 r.1), (Value.int .i64 r.2.1)]), (Value.int .i64 r.2.2)])) w19 fun r53 w20 =>
        nw 24 #[(Value.int .i64 0), (Value.int .i64 0)] w20 fun b54 w21 =>
        st (Addr.mk b54 0 none) [(Value.int .i64 r53.1), (Value.int .i64 r53.2.1)] w21 fun w22 =>
        jp (fun J62 => cnd (((r1 && (decide (r43.2.2 = 0))) && (decide (r48.2.2 = 0))) && (decide (r53.2.2 = 0)))
          (
          ld (Value.int .i64) ((Addr.mk b49 0 none).add 0) w22 fun x64 =>
          ld (Value.int .i64) ((Addr.mk b49 0 none).add 1) w22 fun x65 =>
          ld (Value.int .i64) ((Addr.mk b16 0 none).add 0) w22 fun x66 =>
          ld (Value.int .i64) ((Addr.mk b16 0 none).add 1) w22 fun x67 =>
          J62 (decide (x64 = x66) && (decide (x65 = x67) && true))
          )
          (
          J62 false
          ))
        fun c68 =>
        K c68 w22
        )
      )
    )
set_option maxRecDepth 100000 in
theorem D5 (p0 : Int) (p1 : Int) (p2 : Int) (p3 : Int) (p4 : Int) (p5 : Int) (p6 : Int) (w0 : World) (K : Bool → World → Prop) (h : F5 p0 p1 p2 p3 p4 p5 p6 w0 K) : callC Try.prog 5 #[(Value.int .i64 p0), (Value.int .i64 p1), (Value.int .i64 p2), (Value.int .u16 p3), (Value.int .u16 p4), (Value.int .i64 p5), (Value.int .i64 p6)] (fun (r : Bool) => (Value.bool r)) w0 K := by
  unfold F5 at h
  refine calls_of_wpC Try.func5 rfl 150 rfl (by simp) ?_
  intro ρ hρ
  have e0 : ρ 0 = (Value.int .i64 p0) := hρ 0
  have e1 : ρ 1 = (Value.int .i64 p1) := hρ 1
  have e2 : ρ 2 = (Value.int .i64 p2) := hρ 2
  have e3 : ρ 3 = (Value.int .u16 p3) := hρ 3
  have e4 : ρ 4 = (Value.int .u16 p4) := hρ 4
  have e5 : ρ 5 = (Value.int .i64 p5) := hρ 5
  have e6 : ρ 6 = (Value.int .i64 p6) := hρ 6
  clear hρ
  refine wpC_seq ?_
  refine wpC_region ?_
  refine wpR_val (v := (Value.bool false)) (w' := w0) rfl rfl rfl (x_assign (v := (Value.bool false)) rfl rfl) ?_
  refine wpR_nil ?_
  refine wpC_seq ?_
  refine wpC_cut (fun ρ => ρ 0 = (Value.int .i64 p0) ∧ ρ 1 = (Value.int .i64 p1) ∧ ρ 2 = (Value.int .i64 p2) ∧ ρ 3 = (Value.int .u16 p3) ∧ ρ 4 = (Value.int .u16 p4) ∧ ρ 5 = (Value.int .i64 p5) ∧ ρ 6 = (Value.int .i64 p6) ∧ True) ⟨e0, e1, e2, e3, e4, e5, e6, trivial⟩ ?_
  rintro ρ ⟨e0, e1, e2, e3, e4, e5, e6, -⟩
  refine wpC_region ?_
  refine wpR_enter rfl rfl rfl (x_call (vs := []) rfl rfl (by rfl) Try.func7 NN_7 NB_7) (Calls.mono h ?_)
  rintro _ w1 ⟨r1, rfl, h⟩
  refine ⟨_, rfl, ?_⟩
  refine wpR_val (v := (Value.bool r1)) (w' := w1) rfl rfl rfl (x_assign (v := (Value.bool r1)) rfl rfl) ?_
  refine wpR_nil ?_
  refine wpC_seq ?_
  refine wpC_cut (fun ρ => ρ 0 = (Value.int .i64 p0) ∧ ρ 1 = (Value.int .i64 p1) ∧ ρ 2 = (Value.int .i64 p2) ∧ ρ 3 = (Value.int .u16 p3) ∧ ρ 4 = (Value.int .u16 p4) ∧ ρ 5 = (Value.int .i64 p5) ∧ ρ 6 = (Value.int .i64 p6) ∧ ρ 15 = (Value.bool r1) ∧ True) ⟨e0, e1, e2, e3, e4, e5, e6, rfl, trivial⟩ ?_
  rintro ρ ⟨e0, e1, e2, e3, e4, e5, e6, e15, -⟩
  refine wpC_region ?_
  refine wpR_val (v := (Value.int .i64 p0)) (w' := w1) rfl rfl rfl (x_move (v := (Value.int .i64 p0)) rfl e0) ?_
  refine wpR_val (v := (Value.agg #[(Value.int .i64 p0), (Value.int .i64 0)])) (w' := w1) rfl rfl rfl (x_build (qs := [(0, (Value.int .i64 p0))]) rfl (by rfl) (BD_24_0 p0 _)) ?_
  obtain ⟨b2, hb2⟩ : ∃ u, u = w1.heap.size := ⟨_, rfl⟩
  obtain ⟨w2, hw2⟩ : ∃ u, u = w1.alloc (.cells #[(Value.int .i64 0), (Value.int .i64 0)] 24) := ⟨_, rfl⟩
  replace h := h b2 w2 hb2 hw2
  refine wpR_val (v := (Value.pointer (some (Addr.mk b2 0 none)))) (w' := w2) rfl rfl rfl ((x_alloc rfl ZV_24).trans (by rw [hb2, hw2]; rfl)) ?_
  obtain ⟨q3, h⟩ := h
  obtain ⟨w3, hw3⟩ : ∃ u, u = setAll w2 (Addr.mk b2 0 none) [(Value.int .i64 p0), (Value.int .i64 0)] 0 := ⟨_, rfl⟩
  replace h := h w3 hw3
  refine wpR_skp (w' := w3) rfl rfl ((x_store (v := (Value.agg #[(Value.int .i64 p0), (Value.int .i64 0)])) rfl rfl rfl SZ_24 (ones (by rfl)) q3).trans (by rw [hw3]; rfl)) ?_
  refine wpR_nil ?_
  refine wpC_seq ?_
  refine wpC_seq ?_
  refine wpC_cut (fun ρ => ρ 1 = (Value.int .i64 p1) ∧ ρ 2 = (Value.int .i64 p2) ∧ ρ 3 = (Value.int .u16 p3) ∧ ρ 4 = (Value.int .u16 p4) ∧ ρ 5 = (Value.int .i64 p5) ∧ ρ 6 = (Value.int .i64 p6) ∧ ρ 15 = (Value.bool r1) ∧ ρ 16 = (Value.pointer (some (Addr.mk b2 0 none))) ∧ True) ⟨e1, e2, e3, e4, e5, e6, e15, rfl, trivial⟩ ?_
  rintro ρ ⟨e1, e2, e3, e4, e5, e6, e15, e16, -⟩
  refine wpC_region ?_
  obtain ⟨x4, q4, h⟩ := h
  obtain ⟨x5, q5, h⟩ := h
  refine wpR_val (v := (Value.agg #[(Value.int .i64 x4), (Value.int .i64 x5)])) (w' := w3) rfl rfl rfl (x_loadN [(Value.int .i64 x4), (Value.int .i64 x5)] rfl e16 SH_24 (CellsAt.out (CellsAt.cons q4 (CellsAt.cons q5 CellsAt.nil)))) ?_
  refine wpR_val (v := (Value.int .i64 p1)) (w' := w3) rfl rfl rfl (x_move (v := (Value.int .i64 p1)) rfl e1) ?_
  refine wpR_val (v := (Value.int .i64 p2)) (w' := w3) rfl rfl rfl (x_move (v := (Value.int .i64 p2)) rfl e2) ?_
  refine wpR_enter rfl rfl rfl (x_call (vs := [(Value.agg #[(Value.int .i64 x4), (Value.int .i64 x5)]), (Value.int .i64 p1), (Value.int .i64 p2)]) rfl rfl (by rfl) Try.func14 NN_14 NB_14) (Calls.mono h ?_)
  rintro _ w4 ⟨r6, rfl, h⟩
  refine ⟨_, rfl, ?_⟩
  refine wpR_val (v := (Value.bool (!r6))) (w' := w4) rfl rfl rfl (x_not rfl rfl) ?_
  refine wpR_nil ?_
  refine wpC_cond (b := !r6) rfl (fun hc7 => ?_) (fun hc7 => ?_)
  · replace h := h.1 hc7
    refine wpC_seq ?_
    refine wpC_cut (fun ρ => ρ 15 = (Value.bool r1) ∧ True) ⟨e15, trivial⟩ ?_
    rintro ρ ⟨e15, -⟩
    refine wpC_region ?_
    refine wpR_val (v := (Value.bool r1)) (w' := w4) rfl rfl rfl (x_move (v := (Value.bool r1)) rfl e15) ?_
    refine wpR_val (v := (Value.bool r1)) (w' := w4) rfl rfl rfl (x_assign (v := (Value.bool r1)) rfl rfl) ?_
    refine wpR_nil ?_
    refine wpC_ret ?_
    exact ⟨.inl rfl, fun a ha => ⟨_, results_rep1 rfl ha rfl, r1, rfl, h⟩⟩
  · replace h := h.2 hc7
    refine wpC_skip ?_
    refine wpC_seq ?_
    refine wpC_cut (fun ρ => ρ 1 = (Value.int .i64 p1) ∧ ρ 2 = (Value.int .i64 p2) ∧ ρ 3 = (Value.int .u16 p3) ∧ ρ 4 = (Value.int .u16 p4) ∧ ρ 5 = (Value.int .i64 p5) ∧ ρ 6 = (Value.int .i64 p6) ∧ ρ 15 = (Value.bool r1) ∧ ρ 16 = (Value.pointer (some (Addr.mk b2 0 none))) ∧ True) ⟨e1, e2, e3, e4, e5, e6, e15, e16, trivial⟩ ?_
    rintro ρ ⟨e1, e2, e3, e4, e5, e6, e15, e16, -⟩
    refine wpC_region ?_
    refine wpR_val (v := (Value.int .u16 p3)) (w' := w4) rfl rfl rfl (x_move (v := (Value.int .u16 p3)) rfl e3) ?_
    refine wpR_val (v := (Value.int .i64 (IntKind.i64.wrap p3))) (w' := w4) rfl rfl rfl (x_convI rfl rfl IK_3 IK_37) ?_
    refine wpR_val (v := (Value.int .i64 (IntKind.i64.wrap p3))) (w' := w4) rfl rfl rfl (x_assign (v := (Value.int .i64 (IntKind.i64.wrap p3))) rfl rfl) ?_
    refine wpR_nil ?_
    refine wpC_seq ?_
    refine wpC_cut (fun ρ => ρ 1 = (Value.int .i64 p1) ∧ ρ 2 = (Value.int .i64 p2) ∧ ρ 4 = (Value.int .u16 p4) ∧ ρ 5 = (Value.int .i64 p5) ∧ ρ 6 = (Value.int .i64 p6) ∧ ρ 15 = (Value.bool r1) ∧ ρ 16 = (Value.pointer (some (Addr.mk b2 0 none))) ∧ ρ 17 = (Value.int .i64 (IntKind.i64.wrap p3)) ∧ True) ⟨e1, e2, e4, e5, e6, e15, e16, rfl, trivial⟩ ?_
    rintro ρ ⟨e1, e2, e4, e5, e6, e15, e16, e17, -⟩
    refine wpC_region ?_
    refine wpR_val (v := (Value.int .i64 (IntKind.i64.wrap p3))) (w' := w4) rfl rfl rfl (x_move (v := (Value.int .i64 (IntKind.i64.wrap p3))) rfl e17) ?_
    refine wpR_val (v := (Value.int .u16 p4)) (w' := w4) rfl rfl rfl (x_move (v := (Value.int .u16 p4)) rfl e4) ?_
    refine wpR_val (v := (Value.int .i64 (IntKind.i64.wrap p4))) (w' := w4) rfl rfl rfl (x_convI rfl rfl IK_3 IK_37) ?_
    refine wpR_val (v := (Value.int .i64 (IntKind.i64.wrap ((IntKind.i64.wrap p3) + (IntKind.i64.wrap p4))))) (w' := w4) rfl rfl rfl (x_add rfl rfl rfl) ?_
    refine wpR_val (v := (Value.int .i64 (IntKind.i64.wrap ((IntKind.i64.wrap p3) + (IntKind.i64.wrap p4))))) (w' := w4) rfl rfl rfl (x_assign (v := (Value.int .i64 (IntKind.i64.wrap ((IntKind.i64.wrap p3) + (IntKind.i64.wrap p4))))) rfl rfl) ?_
    refine wpR_nil ?_
    refine wpC_seq ?_
    refine wpC_cut (fun ρ => ρ 1 = (Value.int .i64 p1) ∧ ρ 2 = (Value.int .i64 p2) ∧ ρ 4 = (Value.int .u16 p4) ∧ ρ 5 = (Value.int .i64 p5) ∧ ρ 6 = (Value.int .i64 p6) ∧ ρ 15 = (Value.bool r1) ∧ ρ 16 = (Value.pointer (some (Addr.mk b2 0 none))) ∧ ρ 17 = (Value.int .i64 (IntKind.i64.wrap p3)) ∧ ρ 18 = (Value.int .i64 (IntKind.i64.wrap ((IntKind.i64.wrap p3) + (IntKind.i64.wrap p4)))) ∧ True) ⟨e1, e2, e4, e5, e6, e15, e16, e17, rfl, trivial⟩ ?_
    rintro ρ ⟨e1, e2, e4, e5, e6, e15, e16, e17, e18, -⟩
    refine wpC_region ?_
    obtain ⟨x8, q8, h⟩ := h
    obtain ⟨x9, q9, h⟩ := h
    refine wpR_val (v := (Value.agg #[(Value.int .i64 x8), (Value.int .i64 x9)])) (w' := w4) rfl rfl rfl (x_loadN [(Value.int .i64 x8), (Value.int .i64 x9)] rfl e16 SH_24 (CellsAt.out (CellsAt.cons q8 (CellsAt.cons q9 CellsAt.nil)))) ?_
    refine wpR_val (v := (Value.int .i64 p1)) (w' := w4) rfl rfl rfl (x_move (v := (Value.int .i64 p1)) rfl e1) ?_
    refine wpR_val (v := (Value.int .i64 p2)) (w' := w4) rfl rfl rfl (x_move (v := (Value.int .i64 p2)) rfl e2) ?_
    refine wpR_val (v := (Value.int .i64 (IntKind.i64.wrap p3))) (w' := w4) rfl rfl rfl (x_move (v := (Value.int .i64 (IntKind.i64.wrap p3))) rfl e17) ?_
    refine wpR_enter rfl rfl rfl (x_call (vs := [(Value.agg #[(Value.int .i64 x8), (Value.int .i64 x9)]), (Value.int .i64 p1), (Value.int .i64 p2), (Value.int .i64 (IntKind.i64.wrap p3)), (Value.int .i64 0)]) rfl rfl (by rfl) Try.func8 NN_8 NB_8) (Calls.mono h ?_)
    rintro _ w5 ⟨r10, rfl, h⟩
    refine ⟨_, rfl, ?_⟩
    refine wpR_val (v := (Value.tuple #[(Value.agg #[(Value.int .i64 r10.1), (Value.int .i64 r10.2.1)]), (Value.int .i64 r10.2.2)])) (w' := w5) rfl rfl rfl (x_move (v := (Value.tuple #[(Value.agg #[(Value.int .i64 r10.1), (Value.int .i64 r10.2.1)]), (Value.int .i64 r10.2.2)])) rfl rfl) ?_
    refine wpR_val (v := (Value.agg #[(Value.int .i64 r10.1), (Value.int .i64 r10.2.1)])) (w' := w5) rfl rfl rfl (x_extract rfl rfl rfl) ?_
    refine wpR_val (v := (Value.int .i64 r10.2.2)) (w' := w5) rfl rfl rfl (x_extract rfl rfl rfl) ?_
    obtain ⟨b11, hb11⟩ : ∃ u, u = w5.heap.size := ⟨_, rfl⟩
    obtain ⟨w6, hw11⟩ : ∃ u, u = w5.alloc (.cells #[(Value.int .i64 0), (Value.int .i64 0)] 24) := ⟨_, rfl⟩
    replace h := h b11 w6 hb11 hw11
    refine wpR_val (v := (Value.pointer (some (Addr.mk b11 0 none)))) (w' := w6) rfl rfl rfl ((x_alloc rfl ZV_24).trans (by rw [hb11, hw11]; rfl)) ?_
    obtain ⟨q12, h⟩ := h
    obtain ⟨w7, hw12⟩ : ∃ u, u = setAll w6 (Addr.mk b11 0 none) [(Value.int .i64 r10.1), (Value.int .i64 r10.2.1)] 0 := ⟨_, rfl⟩
    replace h := h w7 hw12
    refine wpR_skp (w' := w7) rfl rfl ((x_store (v := (Value.agg #[(Value.int .i64 r10.1), (Value.int .i64 r10.2.1)])) rfl rfl rfl SZ_24 (ones (by rfl)) q12).trans (by rw [hw12]; rfl)) ?_
    refine wpR_val (v := (Value.int .i64 r10.2.2)) (w' := w7) rfl rfl rfl (x_assign (v := (Value.int .i64 r10.2.2)) rfl rfl) ?_
    refine wpR_nil ?_
    refine wpC_seq ?_
    refine wpC_cut (fun ρ => ρ 1 = (Value.int .i64 p1) ∧ ρ 2 = (Value.int .i64 p2) ∧ ρ 4 = (Value.int .u16 p4) ∧ ρ 5 = (Value.int .i64 p5) ∧ ρ 6 = (Value.int .i64 p6) ∧ ρ 15 = (Value.bool r1) ∧ ρ 16 = (Value.pointer (some (Addr.mk b2 0 none))) ∧ ρ 18 = (Value.int .i64 (IntKind.i64.wrap ((IntKind.i64.wrap p3) + (IntKind.i64.wrap p4)))) ∧ ρ 19 = (Value.pointer (some (Addr.mk b11 0 none))) ∧ ρ 20 = (Value.int .i64 r10.2.2) ∧ True) ⟨e1, e2, e4, e5, e6, e15, e16, e18, rfl, rfl, trivial⟩ ?_
    rintro ρ ⟨e1, e2, e4, e5, e6, e15, e16, e18, e19, e20, -⟩
    refine wpC_region ?_
    obtain ⟨x13, q13, h⟩ := h
    obtain ⟨x14, q14, h⟩ := h
    refine wpR_val (v := (Value.agg #[(Value.int .i64 x13), (Value.int .i64 x14)])) (w' := w7) rfl rfl rfl (x_loadN [(Value.int .i64 x13), (Value.int .i64 x14)] rfl e16 SH_24 (CellsAt.out (CellsAt.cons q13 (CellsAt.cons q14 CellsAt.nil)))) ?_
    refine wpR_val (v := (Value.int .i64 p1)) (w' := w7) rfl rfl rfl (x_move (v := (Value.int .i64 p1)) rfl e1) ?_
    refine wpR_val (v := (Value.int .i64 p2)) (w' := w7) rfl rfl rfl (x_move (v := (Value.int .i64 p2)) rfl e2) ?_
    refine wpR_val (v := (Value.int .i64 (IntKind.i64.wrap ((IntKind.i64.wrap p3) + (IntKind.i64.wrap p4))))) (w' := w7) rfl rfl rfl (x_move (v := (Value.int .i64 (IntKind.i64.wrap ((IntKind.i64.wrap p3) + (IntKind.i64.wrap p4))))) rfl e18) ?_
    refine wpR_val (v := (Value.int .i64 p5)) (w' := w7) rfl rfl rfl (x_move (v := (Value.int .i64 p5)) rfl e5) ?_
    refine wpR_enter rfl rfl rfl (x_call (vs := [(Value.agg #[(Value.int .i64 x13), (Value.int .i64 x14)]), (Value.int .i64 p1), (Value.int .i64 p2), (Value.int .i64 (IntKind.i64.wrap ((IntKind.i64.wrap p3) + (IntKind.i64.wrap p4)))), (Value.int .i64 p5)]) rfl rfl (by rfl) Try.func8 NN_8 NB_8) (Calls.mono h ?_)
    rintro _ w8 ⟨r15, rfl, h⟩
    refine ⟨_, rfl, ?_⟩
    refine wpR_val (v := (Value.tuple #[(Value.agg #[(Value.int .i64 r15.1), (Value.int .i64 r15.2.1)]), (Value.int .i64 r15.2.2)])) (w' := w8) rfl rfl rfl (x_move (v := (Value.tuple #[(Value.agg #[(Value.int .i64 r15.1), (Value.int .i64 r15.2.1)]), (Value.int .i64 r15.2.2)])) rfl rfl) ?_
    refine wpR_val (v := (Value.agg #[(Value.int .i64 r15.1), (Value.int .i64 r15.2.1)])) (w' := w8) rfl rfl rfl (x_extract rfl rfl rfl) ?_
    refine wpR_val (v := (Value.int .i64 r15.2.2)) (w' := w8) rfl rfl rfl (x_extract rfl rfl rfl) ?_
    obtain ⟨b16, hb16⟩ : ∃ u, u = w8.heap.size := ⟨_, rfl⟩
    obtain ⟨w9, hw16⟩ : ∃ u, u = w8.alloc (.cells #[(Value.int .i64 0), (Value.int .i64 0)] 24) := ⟨_, rfl⟩
    replace h := h b16 w9 hb16 hw16
    refine wpR_val (v := (Value.pointer (some (Addr.mk b16 0 none)))) (w' := w9) rfl rfl rfl ((x_alloc rfl ZV_24).trans (by rw [hb16, hw16]; rfl)) ?_
    obtain ⟨q17, h⟩ := h
    obtain ⟨w10, hw17⟩ : ∃ u, u = setAll w9 (Addr.mk b16 0 none) [(Value.int .i64 r15.1), (Value.int .i64 r15.2.1)] 0 := ⟨_, rfl⟩
    replace h := h w10 hw17
    refine wpR_skp (w' := w10) rfl rfl ((x_store (v := (Value.agg #[(Value.int .i64 r15.1), (Value.int .i64 r15.2.1)])) rfl rfl rfl SZ_24 (ones (by rfl)) q17).trans (by rw [hw17]; rfl)) ?_
    refine wpR_val (v := (Value.int .i64 r15.2.2)) (w' := w10) rfl rfl rfl (x_assign (v := (Value.int .i64 r15.2.2)) rfl rfl) ?_
    refine wpR_nil ?_
    refine wpC_seq ?_
    refine wpC_cut (fun ρ => ρ 1 = (Value.int .i64 p1) ∧ ρ 2 = (Value.int .i64 p2) ∧ ρ 4 = (Value.int .u16 p4) ∧ ρ 5 = (Value.int .i64 p5) ∧ ρ 6 = (Value.int .i64 p6) ∧ ρ 15 = (Value.bool r1) ∧ ρ 16 = (Value.pointer (some (Addr.mk b2 0 none))) ∧ ρ 18 = (Value.int .i64 (IntKind.i64.wrap ((IntKind.i64.wrap p3) + (IntKind.i64.wrap p4)))) ∧ ρ 19 = (Value.pointer (some (Addr.mk b11 0 none))) ∧ ρ 20 = (Value.int .i64 r10.2.2) ∧ ρ 21 = (Value.pointer (some (Addr.mk b16 0 none))) ∧ ρ 22 = (Value.int .i64 r15.2.2) ∧ True) ⟨e1, e2, e4, e5, e6, e15, e16, e18, e19, e20, rfl, rfl, trivial⟩ ?_
    rintro ρ ⟨e1, e2, e4, e5, e6, e15, e16, e18, e19, e20, e21, e22, -⟩
    refine wpC_region ?_
    obtain ⟨x18, q18, h⟩ := h
    obtain ⟨x19, q19, h⟩ := h
    refine wpR_val (v := (Value.agg #[(Value.int .i64 x18), (Value.int .i64 x19)])) (w' := w10) rfl rfl rfl (x_loadN [(Value.int .i64 x18), (Value.int .i64 x19)] rfl e19 SH_24 (CellsAt.out (CellsAt.cons q18 (CellsAt.cons q19 CellsAt.nil)))) ?_
    refine wpR_val (v := (Value.int .i64 p1)) (w' := w10) rfl rfl rfl (x_move (v := (Value.int .i64 p1)) rfl e1) ?_
    refine wpR_val (v := (Value.int .i64 p2)) (w' := w10) rfl rfl rfl (x_move (v := (Value.int .i64 p2)) rfl e2) ?_
    refine wpR_val (v := (Value.int .i64 (IntKind.i64.wrap ((IntKind.i64.wrap p3) + (IntKind.i64.wrap p4))))) (w' := w10) rfl rfl rfl (x_move (v := (Value.int .i64 (IntKind.i64.wrap ((IntKind.i64.wrap p3) + (IntKind.i64.wrap p4))))) rfl e18) ?_
    refine wpR_val (v := (Value.int .i64 p5)) (w' := w10) rfl rfl rfl (x_move (v := (Value.int .i64 p5)) rfl e5) ?_
    refine wpR_enter rfl rfl rfl (x_call (vs := [(Value.agg #[(Value.int .i64 x18), (Value.int .i64 x19)]), (Value.int .i64 p1), (Value.int .i64 p2), (Value.int .i64 (IntKind.i64.wrap ((IntKind.i64.wrap p3) + (IntKind.i64.wrap p4)))), (Value.int .i64 p5)]) rfl rfl (by rfl) Try.func8 NN_8 NB_8) (Calls.mono h ?_)
    rintro _ w11 ⟨r20, rfl, h⟩
    refine ⟨_, rfl, ?_⟩
    refine wpR_val (v := (Value.tuple #[(Value.agg #[(Value.int .i64 r20.1), (Value.int .i64 r20.2.1)]), (Value.int .i64 r20.2.2)])) (w' := w11) rfl rfl rfl (x_move (v := (Value.tuple #[(Value.agg #[(Value.int .i64 r20.1), (Value.int .i64 r20.2.1)]), (Value.int .i64 r20.2.2)])) rfl rfl) ?_
    refine wpR_val (v := (Value.agg #[(Value.int .i64 r20.1), (Value.int .i64 r20.2.1)])) (w' := w11) rfl rfl rfl (x_extract rfl rfl rfl) ?_
    refine wpR_val (v := (Value.int .i64 r20.2.2)) (w' := w11) rfl rfl rfl (x_extract rfl rfl rfl) ?_
    obtain ⟨b21, hb21⟩ : ∃ u, u = w11.heap.size := ⟨_, rfl⟩
    obtain ⟨w12, hw21⟩ : ∃ u, u = w11.alloc (.cells #[(Value.int .i64 0), (Value.int .i64 0)] 24) := ⟨_, rfl⟩
    replace h := h b21 w12 hb21 hw21
    refine wpR_val (v := (Value.pointer (some (Addr.mk b21 0 none)))) (w' := w12) rfl rfl rfl ((x_alloc rfl ZV_24).trans (by rw [hb21, hw21]; rfl)) ?_
    obtain ⟨q22, h⟩ := h
    obtain ⟨w13, hw22⟩ : ∃ u, u = setAll w12 (Addr.mk b21 0 none) [(Value.int .i64 r20.1), (Value.int .i64 r20.2.1)] 0 := ⟨_, rfl⟩
    replace h := h w13 hw22
    refine wpR_skp (w' := w13) rfl rfl ((x_store (v := (Value.agg #[(Value.int .i64 r20.1), (Value.int .i64 r20.2.1)])) rfl rfl rfl SZ_24 (ones (by rfl)) q22).trans (by rw [hw22]; rfl)) ?_
    refine wpR_val (v := (Value.int .i64 r20.2.2)) (w' := w13) rfl rfl rfl (x_assign (v := (Value.int .i64 r20.2.2)) rfl rfl) ?_
    refine wpR_nil ?_
    refine wpC_seq ?_
    refine wpC_seq ?_
    refine wpC_cut (fun ρ => ρ 1 = (Value.int .i64 p1) ∧ ρ 2 = (Value.int .i64 p2) ∧ ρ 4 = (Value.int .u16 p4) ∧ ρ 5 = (Value.int .i64 p5) ∧ ρ 6 = (Value.int .i64 p6) ∧ ρ 15 = (Value.bool r1) ∧ ρ 16 = (Value.pointer (some (Addr.mk b2 0 none))) ∧ ρ 18 = (Value.int .i64 (IntKind.i64.wrap ((IntKind.i64.wrap p3) + (IntKind.i64.wrap p4)))) ∧ ρ 20 = (Value.int .i64 r10.2.2) ∧ ρ 21 = (Value.pointer (some (Addr.mk b16 0 none))) ∧ ρ 22 = (Value.int .i64 r15.2.2) ∧ ρ 23 = (Value.pointer (some (Addr.mk b21 0 none))) ∧ ρ 24 = (Value.int .i64 r20.2.2) ∧ True) ⟨e1, e2, e4, e5, e6, e15, e16, e18, e20, e21, e22, rfl, rfl, trivial⟩ ?_
    rintro ρ ⟨e1, e2, e4, e5, e6, e15, e16, e18, e20, e21, e22, e23, e24, -⟩
    refine wpC_region ?_
    refine wpR_val (v := (Value.int .i64 r10.2.2)) (w' := w13) rfl rfl rfl (x_move (v := (Value.int .i64 r10.2.2)) rfl e20) ?_
    refine wpR_val (v := (Value.bool (!decide (r10.2.2 = 0)))) (w' := w13) rfl rfl rfl (x_neq rfl rfl rfl) ?_
    refine wpR_val (v := (Value.bool (!decide (r10.2.2 = 0)))) (w' := w13) rfl rfl rfl (x_move (v := (Value.bool (!decide (r10.2.2 = 0)))) rfl rfl) ?_
    refine wpR_joinJ 4 (fun (_ : Unit) ρ => ρ 78 = Value.bool ((!decide (r10.2.2 = 0)) || (!decide (r15.2.2 = r20.2.2))) ∧ ρ 1 = (Value.int .i64 p1) ∧ ρ 2 = (Value.int .i64 p2) ∧ ρ 4 = (Value.int .u16 p4) ∧ ρ 5 = (Value.int .i64 p5) ∧ ρ 6 = (Value.int .i64 p6) ∧ ρ 15 = (Value.bool r1) ∧ ρ 16 = (Value.pointer (some (Addr.mk b2 0 none))) ∧ ρ 18 = (Value.int .i64 (IntKind.i64.wrap ((IntKind.i64.wrap p3) + (IntKind.i64.wrap p4)))) ∧ ρ 21 = (Value.pointer (some (Addr.mk b16 0 none))) ∧ ρ 22 = (Value.int .i64 r15.2.2) ∧ ρ 23 = (Value.pointer (some (Addr.mk b21 0 none))) ∧ True) (fun _ w => w13 = w) ?_ ?_
    · clear h
      rcases Bool.eq_false_or_eq_true (!decide (r10.2.2 = 0)) with hc24 | hc24
      · skip
        refine wpR_pass (wantN rfl rfl rfl hc24) rfl rfl ?_
        refine wpR_pass (wantN rfl rfl rfl hc24) rfl rfl ?_
        refine wpR_pass (wantN rfl rfl rfl hc24) rfl rfl ?_
        refine wpR_val (v := (Value.bool true)) (w' := w13) rfl rfl rfl (x_pickT (v := (Value.bool true)) rfl rfl hc24 rfl) ?_
        refine wpR_nil ?_
        exact ⟨(), ⟨(by rw [hc24]; rfl), e1, e2, e4, e5, e6, e15, e16, e18, e21, e22, e23, trivial⟩, rfl⟩
      · skip
        refine wpR_val (v := (Value.int .i64 r15.2.2)) (w' := w13) (wantG rfl rfl rfl hc24) rfl rfl (x_move (v := (Value.int .i64 r15.2.2)) rfl e22) ?_
        refine wpR_val (v := (Value.int .i64 r20.2.2)) (w' := w13) (wantG rfl rfl rfl hc24) rfl rfl (x_move (v := (Value.int .i64 r20.2.2)) rfl e24) ?_
        refine wpR_val (v := (Value.bool (!decide (r15.2.2 = r20.2.2)))) (w' := w13) (wantG rfl rfl rfl hc24) rfl rfl (x_neq rfl rfl rfl) ?_
        refine wpR_val (v := (Value.bool (!decide (r15.2.2 = r20.2.2)))) (w' := w13) rfl rfl rfl (x_pickF (v := (Value.bool (!decide (r15.2.2 = r20.2.2)))) rfl rfl hc24 rfl) ?_
        refine wpR_nil ?_
        exact ⟨(), ⟨(by rw [hc24]; rfl), e1, e2, e4, e5, e6, e15, e16, e18, e21, e22, e23, trivial⟩, rfl⟩
    rintro _ ρ wj ⟨e78, e1, e2, e4, e5, e6, e15, e16, e18, e21, e22, e23, -⟩ rfl
    refine wpR_val (v := (Value.bool ((!decide (r10.2.2 = 0)) || (!decide (r15.2.2 = r20.2.2))))) (w' := w13) rfl rfl rfl (x_move (v := (Value.bool ((!decide (r10.2.2 = 0)) || (!decide (r15.2.2 = r20.2.2))))) rfl e78) ?_
    obtain ⟨J25, h, hk⟩ := h
    refine wpR_joinJ 8 (fun x ρ => ρ 87 = Value.bool x ∧ ρ 1 = (Value.int .i64 p1) ∧ ρ 2 = (Value.int .i64 p2) ∧ ρ 4 = (Value.int .u16 p4) ∧ ρ 5 = (Value.int .i64 p5) ∧ ρ 6 = (Value.int .i64 p6) ∧ ρ 15 = (Value.bool r1) ∧ ρ 16 = (Value.pointer (some (Addr.mk b2 0 none))) ∧ ρ 18 = (Value.int .i64 (IntKind.i64.wrap ((IntKind.i64.wrap p3) + (IntKind.i64.wrap p4)))) ∧ ρ 21 = (Value.pointer (some (Addr.mk b16 0 none))) ∧ ρ 22 = (Value.int .i64 r15.2.2) ∧ True) (fun x w => J25 x ∧ w13 = w) ?_ ?_
    · clear hk
      rcases Bool.eq_false_or_eq_true ((!decide (r10.2.2 = 0)) || (!decide (r15.2.2 = r20.2.2))) with hc26 | hc26
      · replace h := h.1 hc26
        refine wpR_pass (wantN rfl rfl rfl hc26) rfl rfl ?_
        refine wpR_pass (wantN rfl rfl rfl hc26) rfl rfl ?_
        refine wpR_pass (wantN rfl rfl rfl hc26) rfl rfl ?_
        refine wpR_pass (wantU rfl rfl rfl) rfl rfl ?_
        refine wpR_pass (wantU rfl rfl rfl) rfl rfl ?_
        refine wpR_pass (wantU rfl rfl rfl) rfl rfl ?_
        refine wpR_pass (wantN rfl rfl rfl hc26) rfl rfl ?_
        refine wpR_val (v := (Value.bool true)) (w' := w13) rfl rfl rfl (x_pickT (v := (Value.bool true)) rfl rfl hc26 rfl) ?_
        refine wpR_nil ?_
        exact ⟨true, ⟨rfl, e1, e2, e4, e5, e6, e15, e16, e18, e21, e22, trivial⟩, h, rfl⟩
      · replace h := h.2 hc26
        refine wpR_val (v := (Value.int .i64 r15.2.2)) (w' := w13) (wantG rfl rfl rfl hc26) rfl rfl (x_move (v := (Value.int .i64 r15.2.2)) rfl e22) ?_
        refine wpR_val (v := (Value.bool (decide (r15.2.2 = 0)))) (w' := w13) (wantG rfl rfl rfl hc26) rfl rfl (x_eql rfl rfl rfl) ?_
        refine wpR_val (v := (Value.bool (decide (r15.2.2 = 0)))) (w' := w13) (wantG rfl rfl rfl hc26) rfl rfl (x_move (v := (Value.bool (decide (r15.2.2 = 0)))) rfl rfl) ?_
        obtain ⟨J27, h, hk⟩ := h
        refine wpR_joinJ 4 (fun x ρ => ρ 86 = Value.bool x ∧ ρ 1 = (Value.int .i64 p1) ∧ ρ 2 = (Value.int .i64 p2) ∧ ρ 4 = (Value.int .u16 p4) ∧ ρ 5 = (Value.int .i64 p5) ∧ ρ 6 = (Value.int .i64 p6) ∧ ρ 15 = (Value.bool r1) ∧ ρ 16 = (Value.pointer (some (Addr.mk b2 0 none))) ∧ ρ 18 = (Value.int .i64 (IntKind.i64.wrap ((IntKind.i64.wrap p3) + (IntKind.i64.wrap p4)))) ∧ ρ 21 = (Value.pointer (some (Addr.mk b16 0 none))) ∧ ρ 22 = (Value.int .i64 r15.2.2) ∧ ρ 79 = (Value.bool ((!decide (r10.2.2 = 0)) || (!decide (r15.2.2 = r20.2.2)))) ∧ True) (fun x w => J27 x ∧ w13 = w) ?_ ?_
        · clear hk
          rcases Bool.eq_false_or_eq_true (decide (r15.2.2 = 0)) with hc28 | hc28
          · replace h := h.1 hc28
            obtain ⟨x29, q29, h⟩ := h
            obtain ⟨x30, q30, h⟩ := h
            refine wpR_val (v := (Value.agg #[(Value.int .i64 x29), (Value.int .i64 x30)])) (w' := w13) (wantG rfl rfl rfl hc28) rfl rfl (x_loadN [(Value.int .i64 x29), (Value.int .i64 x30)] rfl e21 SH_24 (CellsAt.out (CellsAt.cons q29 (CellsAt.cons q30 CellsAt.nil)))) ?_
            obtain ⟨x31, q31, h⟩ := h
            obtain ⟨x32, q32, h⟩ := h
            refine wpR_val (v := (Value.agg #[(Value.int .i64 x31), (Value.int .i64 x32)])) (w' := w13) (wantG rfl rfl rfl hc28) rfl rfl (x_loadN [(Value.int .i64 x31), (Value.int .i64 x32)] rfl e23 SH_24 (CellsAt.out (CellsAt.cons q31 (CellsAt.cons q32 CellsAt.nil)))) ?_
            refine wpR_val (v := (Value.bool (!(decide (x29 = x31) && (decide (x30 = x32) && true))))) (w' := w13) (wantG rfl rfl rfl hc28) rfl rfl (x_neqA rfl rfl rfl EQ1_24 EQ2_24 EQ3_24 (EQ_24 x29 x30 x31 x32)) ?_
            refine wpR_val (v := (Value.bool (!(decide (x29 = x31) && (decide (x30 = x32) && true))))) (w' := w13) (wantG rfl rfl rfl hc26) rfl rfl (x_pickT (v := (Value.bool (!(decide (x29 = x31) && (decide (x30 = x32) && true))))) rfl rfl hc28 rfl) ?_
            refine wpR_nil ?_
            exact ⟨!(decide (x29 = x31) && (decide (x30 = x32) && true)), ⟨rfl, e1, e2, e4, e5, e6, e15, e16, e18, e21, e22, rfl, trivial⟩, h, rfl⟩
          · replace h := h.2 hc28
            refine wpR_pass (wantN rfl rfl rfl hc28) rfl rfl ?_
            refine wpR_pass (wantN rfl rfl rfl hc28) rfl rfl ?_
            refine wpR_pass (wantN rfl rfl rfl hc28) rfl rfl ?_
            refine wpR_val (v := (Value.bool false)) (w' := w13) (wantG rfl rfl rfl hc26) rfl rfl (x_pickF (v := (Value.bool false)) rfl rfl hc28 rfl) ?_
            refine wpR_nil ?_
            exact ⟨false, ⟨rfl, e1, e2, e4, e5, e6, e15, e16, e18, e21, e22, rfl, trivial⟩, h, rfl⟩
        clear h
        rintro c33 ρ wj ⟨e86, e1, e2, e4, e5, e6, e15, e16, e18, e21, e22, e79, -⟩ ⟨h, rfl⟩
        replace h := hk c33 h
        clear hk
        refine wpR_val (v := (Value.bool c33)) (w' := w13) rfl rfl rfl (x_pickF (v := (Value.bool c33)) rfl e79 hc26 e86) ?_
        refine wpR_nil ?_
        exact ⟨c33, ⟨rfl, e1, e2, e4, e5, e6, e15, e16, e18, e21, e22, trivial⟩, h, rfl⟩
    clear h
    rintro c34 ρ wj ⟨e87, e1, e2, e4, e5, e6, e15, e16, e18, e21, e22, -⟩ ⟨h, rfl⟩
    replace h := hk c34 h
    clear hk
    refine wpR_nil ?_
    refine wpC_cond (b := c34) e87 (fun hc35 => ?_) (fun hc35 => ?_)
    · replace h := h.1 hc35
      refine wpC_seq ?_
      refine wpC_region ?_
      refine wpR_val (v := (Value.bool false)) (w' := w13) rfl rfl rfl (x_assign (v := (Value.bool false)) rfl rfl) ?_
      refine wpR_nil ?_
      refine wpC_ret ?_
      exact ⟨.inl rfl, fun a ha => ⟨_, results_rep1 rfl ha rfl, false, rfl, h⟩⟩
    · replace h := h.2 hc35
      refine wpC_skip ?_
      refine wpC_seq ?_
      refine wpC_seq ?_
      refine wpC_region ?_
      refine wpR_val (v := (Value.int .i64 r15.2.2)) (w' := w13) rfl rfl rfl (x_move (v := (Value.int .i64 r15.2.2)) rfl e22) ?_
      refine wpR_val (v := (Value.bool (!decide (r15.2.2 = 0)))) (w' := w13) rfl rfl rfl (x_neq rfl rfl rfl) ?_
      refine wpR_val (v := (Value.bool (!decide (r15.2.2 = 0)))) (w' := w13) rfl rfl rfl (x_move (v := (Value.bool (!decide (r15.2.2 = 0)))) rfl rfl) ?_
      refine wpR_joinJ 3 (fun (_ : Unit) ρ => ρ 93 = Value.bool ((!decide (r15.2.2 = 0)) || (decide (p6 < 0))) ∧ ρ 1 = (Value.int .i64 p1) ∧ ρ 2 = (Value.int .i64 p2) ∧ ρ 4 = (Value.int .u16 p4) ∧ ρ 5 = (Value.int .i64 p5) ∧ ρ 6 = (Value.int .i64 p6) ∧ ρ 15 = (Value.bool r1) ∧ ρ 16 = (Value.pointer (some (Addr.mk b2 0 none))) ∧ ρ 18 = (Value.int .i64 (IntKind.i64.wrap ((IntKind.i64.wrap p3) + (IntKind.i64.wrap p4)))) ∧ ρ 21 = (Value.pointer (some (Addr.mk b16 0 none))) ∧ True) (fun _ w => w13 = w) ?_ ?_
      · clear h
        rcases Bool.eq_false_or_eq_true (!decide (r15.2.2 = 0)) with hc37 | hc37
        · skip
          refine wpR_pass (wantN rfl rfl rfl hc37) rfl rfl ?_
          refine wpR_pass (wantN rfl rfl rfl hc37) rfl rfl ?_
          refine wpR_val (v := (Value.bool true)) (w' := w13) rfl rfl rfl (x_pickT (v := (Value.bool true)) rfl rfl hc37 rfl) ?_
          refine wpR_nil ?_
          exact ⟨(), ⟨(by rw [hc37]; rfl), e1, e2, e4, e5, e6, e15, e16, e18, e21, trivial⟩, rfl⟩
        · skip
          refine wpR_val (v := (Value.int .i64 p6)) (w' := w13) (wantG rfl rfl rfl hc37) rfl rfl (x_move (v := (Value.int .i64 p6)) rfl e6) ?_
          refine wpR_val (v := (Value.bool (decide (p6 < 0)))) (w' := w13) (wantG rfl rfl rfl hc37) rfl rfl (x_lss rfl rfl rfl) ?_
          refine wpR_val (v := (Value.bool (decide (p6 < 0)))) (w' := w13) rfl rfl rfl (x_pickF (v := (Value.bool (decide (p6 < 0)))) rfl rfl hc37 rfl) ?_
          refine wpR_nil ?_
          exact ⟨(), ⟨(by rw [hc37]; rfl), e1, e2, e4, e5, e6, e15, e16, e18, e21, trivial⟩, rfl⟩
      rintro _ ρ wj ⟨e93, e1, e2, e4, e5, e6, e15, e16, e18, e21, -⟩ rfl
      refine wpR_val (v := (Value.bool ((!decide (r15.2.2 = 0)) || (decide (p6 < 0))))) (w' := w13) rfl rfl rfl (x_move (v := (Value.bool ((!decide (r15.2.2 = 0)) || (decide (p6 < 0))))) rfl e93) ?_
      refine wpR_joinJ 4 (fun (_ : Unit) ρ => ρ 98 = Value.bool (((!decide (r15.2.2 = 0)) || (decide (p6 < 0))) || (decide (p5 < p6))) ∧ ρ 1 = (Value.int .i64 p1) ∧ ρ 2 = (Value.int .i64 p2) ∧ ρ 4 = (Value.int .u16 p4) ∧ ρ 5 = (Value.int .i64 p5) ∧ ρ 6 = (Value.int .i64 p6) ∧ ρ 15 = (Value.bool r1) ∧ ρ 16 = (Value.pointer (some (Addr.mk b2 0 none))) ∧ ρ 18 = (Value.int .i64 (IntKind.i64.wrap ((IntKind.i64.wrap p3) + (IntKind.i64.wrap p4)))) ∧ ρ 21 = (Value.pointer (some (Addr.mk b16 0 none))) ∧ True) (fun _ w => w13 = w) ?_ ?_
      · clear h
        rcases Bool.eq_false_or_eq_true ((!decide (r15.2.2 = 0)) || (decide (p6 < 0))) with hc39 | hc39
        · skip
          refine wpR_pass (wantN rfl rfl rfl hc39) rfl rfl ?_
          refine wpR_pass (wantN rfl rfl rfl hc39) rfl rfl ?_
          refine wpR_pass (wantN rfl rfl rfl hc39) rfl rfl ?_
          refine wpR_val (v := (Value.bool true)) (w' := w13) rfl rfl rfl (x_pickT (v := (Value.bool true)) rfl rfl hc39 rfl) ?_
          refine wpR_nil ?_
          exact ⟨(), ⟨(by rw [hc39]; rfl), e1, e2, e4, e5, e6, e15, e16, e18, e21, trivial⟩, rfl⟩
        · skip
          refine wpR_val (v := (Value.int .i64 p6)) (w' := w13) (wantG rfl rfl rfl hc39) rfl rfl (x_move (v := (Value.int .i64 p6)) rfl e6) ?_
          refine wpR_val (v := (Value.int .i64 p5)) (w' := w13) (wantG rfl rfl rfl hc39) rfl rfl (x_move (v := (Value.int .i64 p5)) rfl e5) ?_
          refine wpR_val (v := (Value.bool (decide (p5 < p6)))) (w' := w13) (wantG rfl rfl rfl hc39) rfl rfl (x_gtr rfl rfl rfl) ?_
          refine wpR_val (v := (Value.bool (decide (p5 < p6)))) (w' := w13) rfl rfl rfl (x_pickF (v := (Value.bool (decide (p5 < p6)))) rfl rfl hc39 rfl) ?_
          refine wpR_nil ?_
          exact ⟨(), ⟨(by rw [hc39]; rfl), e1, e2, e4, e5, e6, e15, e16, e18, e21, trivial⟩, rfl⟩
      rintro _ ρ wj ⟨e98, e1, e2, e4, e5, e6, e15, e16, e18, e21, -⟩ rfl
      refine wpR_nil ?_
      refine wpC_cond (b := ((!decide (r15.2.2 = 0)) || (decide (p6 < 0))) || (decide (p5 < p6))) e98 (fun hc40 => ?_) (fun hc40 => ?_)
      · replace h := h.1 hc40
        refine wpC_seq ?_
        refine wpC_region ?_
        refine wpR_val (v := (Value.bool r1)) (w' := w13) rfl rfl rfl (x_move (v := (Value.bool r1)) rfl e15) ?_
        refine wpR_val (v := (Value.bool r1)) (w' := w13) rfl rfl rfl (x_assign (v := (Value.bool r1)) rfl rfl) ?_
        refine wpR_nil ?_
        refine wpC_ret ?_
        exact ⟨.inl rfl, fun a ha => ⟨_, results_rep1 rfl ha rfl, r1, rfl, h⟩⟩
      · replace h := h.2 hc40
        refine wpC_skip ?_
        refine wpC_seq ?_
        refine wpC_region ?_
        obtain ⟨x41, q41, h⟩ := h
        obtain ⟨x42, q42, h⟩ := h
        refine wpR_val (v := (Value.agg #[(Value.int .i64 x41), (Value.int .i64 x42)])) (w' := w13) rfl rfl rfl (x_loadN [(Value.int .i64 x41), (Value.int .i64 x42)] rfl e16 SH_24 (CellsAt.out (CellsAt.cons q41 (CellsAt.cons q42 CellsAt.nil)))) ?_
        refine wpR_val (v := (Value.int .i64 p1)) (w' := w13) rfl rfl rfl (x_move (v := (Value.int .i64 p1)) rfl e1) ?_
        refine wpR_val (v := (Value.int .i64 p2)) (w' := w13) rfl rfl rfl (x_move (v := (Value.int .i64 p2)) rfl e2) ?_
        refine wpR_val (v := (Value.int .i64 (IntKind.i64.wrap ((IntKind.i64.wrap p3) + (IntKind.i64.wrap p4))))) (w' := w13) rfl rfl rfl (x_move (v := (Value.int .i64 (IntKind.i64.wrap ((IntKind.i64.wrap p3) + (IntKind.i64.wrap p4))))) rfl e18) ?_
        refine wpR_val (v := (Value.int .i64 p6)) (w' := w13) rfl rfl rfl (x_move (v := (Value.int .i64 p6)) rfl e6) ?_
        refine wpR_enter rfl rfl rfl (x_call (vs := [(Value.agg #[(Value.int .i64 x41), (Value.int .i64 x42)]), (Value.int .i64 p1), (Value.int .i64 p2), (Value.int .i64 (IntKind.i64.wrap ((IntKind.i64.wrap p3) + (IntKind.i64.wrap p4)))), (Value.int .i64 p6)]) rfl rfl (by rfl) Try.func8 NN_8 NB_8) (Calls.mono h ?_)
        rintro _ w14 ⟨r43, rfl, h⟩
        refine ⟨_, rfl, ?_⟩
        refine wpR_val (v := (Value.tuple #[(Value.agg #[(Value.int .i64 r43.1), (Value.int .i64 r43.2.1)]), (Value.int .i64 r43.2.2)])) (w' := w14) rfl rfl rfl (x_move (v := (Value.tuple #[(Value.agg #[(Value.int .i64 r43.1), (Value.int .i64 r43.2.1)]), (Value.int .i64 r43.2.2)])) rfl rfl) ?_
        refine wpR_val (v := (Value.agg #[(Value.int .i64 r43.1), (Value.int .i64 r43.2.1)])) (w' := w14) rfl rfl rfl (x_extract rfl rfl rfl) ?_
        refine wpR_val (v := (Value.int .i64 r43.2.2)) (w' := w14) rfl rfl rfl (x_extract rfl rfl rfl) ?_
        obtain ⟨b44, hb44⟩ : ∃ u, u = w14.heap.size := ⟨_, rfl⟩
        obtain ⟨w15, hw44⟩ : ∃ u, u = w14.alloc (.cells #[(Value.int .i64 0), (Value.int .i64 0)] 24) := ⟨_, rfl⟩
        replace h := h b44 w15 hb44 hw44
        refine wpR_val (v := (Value.pointer (some (Addr.mk b44 0 none)))) (w' := w15) rfl rfl rfl ((x_alloc rfl ZV_24).trans (by rw [hb44, hw44]; rfl)) ?_
        obtain ⟨q45, h⟩ := h
        obtain ⟨w16, hw45⟩ : ∃ u, u = setAll w15 (Addr.mk b44 0 none) [(Value.int .i64 r43.1), (Value.int .i64 r43.2.1)] 0 := ⟨_, rfl⟩
        replace h := h w16 hw45
        refine wpR_skp (w' := w16) rfl rfl ((x_store (v := (Value.agg #[(Value.int .i64 r43.1), (Value.int .i64 r43.2.1)])) rfl rfl rfl SZ_24 (ones (by rfl)) q45).trans (by rw [hw45]; rfl)) ?_
        refine wpR_val (v := (Value.int .i64 r43.2.2)) (w' := w16) rfl rfl rfl (x_assign (v := (Value.int .i64 r43.2.2)) rfl rfl) ?_
        refine wpR_nil ?_
        refine wpC_seq ?_
        refine wpC_cut (fun ρ => ρ 1 = (Value.int .i64 p1) ∧ ρ 2 = (Value.int .i64 p2) ∧ ρ 4 = (Value.int .u16 p4) ∧ ρ 5 = (Value.int .i64 p5) ∧ ρ 6 = (Value.int .i64 p6) ∧ ρ 15 = (Value.bool r1) ∧ ρ 16 = (Value.pointer (some (Addr.mk b2 0 none))) ∧ ρ 18 = (Value.int .i64 (IntKind.i64.wrap ((IntKind.i64.wrap p3) + (IntKind.i64.wrap p4)))) ∧ ρ 21 = (Value.pointer (some (Addr.mk b16 0 none))) ∧ ρ 25 = (Value.pointer (some (Addr.mk b44 0 none))) ∧ ρ 26 = (Value.int .i64 r43.2.2) ∧ True) ⟨e1, e2, e4, e5, e6, e15, e16, e18, e21, rfl, rfl, trivial⟩ ?_
        rintro ρ ⟨e1, e2, e4, e5, e6, e15, e16, e18, e21, e25, e26, -⟩
        refine wpC_region ?_
        obtain ⟨x46, q46, h⟩ := h
        obtain ⟨x47, q47, h⟩ := h
        refine wpR_val (v := (Value.agg #[(Value.int .i64 x46), (Value.int .i64 x47)])) (w' := w16) rfl rfl rfl (x_loadN [(Value.int .i64 x46), (Value.int .i64 x47)] rfl e25 SH_24 (CellsAt.out (CellsAt.cons q46 (CellsAt.cons q47 CellsAt.nil)))) ?_
        refine wpR_val (v := (Value.int .i64 p1)) (w' := w16) rfl rfl rfl (x_move (v := (Value.int .i64 p1)) rfl e1) ?_
        refine wpR_val (v := (Value.int .i64 p2)) (w' := w16) rfl rfl rfl (x_move (v := (Value.int .i64 p2)) rfl e2) ?_
        refine wpR_val (v := (Value.int .i64 (IntKind.i64.wrap ((IntKind.i64.wrap p3) + (IntKind.i64.wrap p4))))) (w' := w16) rfl rfl rfl (x_move (v := (Value.int .i64 (IntKind.i64.wrap ((IntKind.i64.wrap p3) + (IntKind.i64.wrap p4))))) rfl e18) ?_
        refine wpR_val (v := (Value.int .i64 p5)) (w' := w16) rfl rfl rfl (x_move (v := (Value.int .i64 p5)) rfl e5) ?_
        refine wpR_val (v := (Value.int .i64 p6)) (w' := w16) rfl rfl rfl (x_move (v := (Value.int .i64 p6)) rfl e6) ?_
        refine wpR_val (v := (Value.int .i64 (IntKind.i64.wrap (p5 - p6)))) (w' := w16) rfl rfl rfl (x_sub rfl rfl rfl) ?_
        refine wpR_enter rfl rfl rfl (x_call (vs := [(Value.agg #[(Value.int .i64 x46), (Value.int .i64 x47)]), (Value.int .i64 p1), (Value.int .i64 p2), (Value.int .i64 (IntKind.i64.wrap ((IntKind.i64.wrap p3) + (IntKind.i64.wrap p4)))), (Value.int .i64 (IntKind.i64.wrap (p5 - p6)))]) rfl rfl (by rfl) Try.func8 NN_8 NB_8) (Calls.mono h ?_)
        rintro _ w17 ⟨r48, rfl, h⟩
        refine ⟨_, rfl, ?_⟩
        refine wpR_val (v := (Value.tuple #[(Value.agg #[(Value.int .i64 r48.1), (Value.int .i64 r48.2.1)]), (Value.int .i64 r48.2.2)])) (w' := w17) rfl rfl rfl (x_move (v := (Value.tuple #[(Value.agg #[(Value.int .i64 r48.1), (Value.int .i64 r48.2.1)]), (Value.int .i64 r48.2.2)])) rfl rfl) ?_
        refine wpR_val (v := (Value.agg #[(Value.int .i64 r48.1), (Value.int .i64 r48.2.1)])) (w' := w17) rfl rfl rfl (x_extract rfl rfl rfl) ?_
        refine wpR_val (v := (Value.int .i64 r48.2.2)) (w' := w17) rfl rfl rfl (x_extract rfl rfl rfl) ?_
        obtain ⟨b49, hb49⟩ : ∃ u, u = w17.heap.size := ⟨_, rfl⟩
        obtain ⟨w18, hw49⟩ : ∃ u, u = w17.alloc (.cells #[(Value.int .i64 0), (Value.int .i64 0)] 24) := ⟨_, rfl⟩
        replace h := h b49 w18 hb49 hw49
        refine wpR_val (v := (Value.pointer (some (Addr.mk b49 0 none)))) (w' := w18) rfl rfl rfl ((x_alloc rfl ZV_24).trans (by rw [hb49, hw49]; rfl)) ?_
        obtain ⟨q50, h⟩ := h
        obtain ⟨w19, hw50⟩ : ∃ u, u = setAll w18 (Addr.mk b49 0 none) [(Value.int .i64 r48.1), (Value.int .i64 r48.2.1)] 0 := ⟨_, rfl⟩
        replace h := h w19 hw50
        refine wpR_skp (w' := w19) rfl rfl ((x_store (v := (Value.agg #[(Value.int .i64 r48.1), (Value.int .i64 r48.2.1)])) rfl rfl rfl SZ_24 (ones (by rfl)) q50).trans (by rw [hw50]; rfl)) ?_
        refine wpR_val (v := (Value.int .i64 r48.2.2)) (w' := w19) rfl rfl rfl (x_assign (v := (Value.int .i64 r48.2.2)) rfl rfl) ?_
        refine wpR_nil ?_
        refine wpC_seq ?_
        refine wpC_cut (fun ρ => ρ 1 = (Value.int .i64 p1) ∧ ρ 2 = (Value.int .i64 p2) ∧ ρ 4 = (Value.int .u16 p4) ∧ ρ 5 = (Value.int .i64 p5) ∧ ρ 15 = (Value.bool r1) ∧ ρ 16 = (Value.pointer (some (Addr.mk b2 0 none))) ∧ ρ 18 = (Value.int .i64 (IntKind.i64.wrap ((IntKind.i64.wrap p3) + (IntKind.i64.wrap p4)))) ∧ ρ 21 = (Value.pointer (some (Addr.mk b16 0 none))) ∧ ρ 26 = (Value.int .i64 r43.2.2) ∧ ρ 27 = (Value.pointer (some (Addr.mk b49 0 none))) ∧ ρ 28 = (Value.int .i64 r48.2.2) ∧ True) ⟨e1, e2, e4, e5, e15, e16, e18, e21, e26, rfl, rfl, trivial⟩ ?_
        rintro ρ ⟨e1, e2, e4, e5, e15, e16, e18, e21, e26, e27, e28, -⟩
        refine wpC_region ?_
        obtain ⟨x51, q51, h⟩ := h
        obtain ⟨x52, q52, h⟩ := h
        refine wpR_val (v := (Value.agg #[(Value.int .i64 x51), (Value.int .i64 x52)])) (w' := w19) rfl rfl rfl (x_loadN [(Value.int .i64 x51), (Value.int .i64 x52)] rfl e16 SH_24 (CellsAt.out (CellsAt.cons q51 (CellsAt.cons q52 CellsAt.nil)))) ?_
        refine wpR_val (v := (Value.int .i64 p1)) (w' := w19) rfl rfl rfl (x_move (v := (Value.int .i64 p1)) rfl e1) ?_
        refine wpR_val (v := (Value.int .i64 p2)) (w' := w19) rfl rfl rfl (x_move (v := (Value.int .i64 p2)) rfl e2) ?_
        refine wpR_val (v := (Value.int .i64 (IntKind.i64.wrap ((IntKind.i64.wrap p3) + (IntKind.i64.wrap p4))))) (w' := w19) rfl rfl rfl (x_move (v := (Value.int .i64 (IntKind.i64.wrap ((IntKind.i64.wrap p3) + (IntKind.i64.wrap p4))))) rfl e18) ?_
        refine wpR_val (v := (Value.int .u16 p4)) (w' := w19) rfl rfl rfl (x_move (v := (Value.int .u16 p4)) rfl e4) ?_
        refine wpR_val (v := (Value.int .i64 (IntKind.i64.wrap p4))) (w' := w19) rfl rfl rfl (x_convI rfl rfl IK_3 IK_37) ?_
        refine wpR_val (v := (Value.int .i64 (IntKind.i64.wrap ((IntKind.i64.wrap ((IntKind.i64.wrap p3) + (IntKind.i64.wrap p4))) + (IntKind.i64.wrap p4))))) (w' := w19) rfl rfl rfl (x_add rfl rfl rfl) ?_
        refine wpR_val (v := (Value.int .i64 p5)) (w' := w19) rfl rfl rfl (x_move (v := (Value.int .i64 p5)) rfl e5) ?_
        refine wpR_enter rfl rfl rfl (x_call (vs := [(Value.agg #[(Value.int .i64 x51), (Value.int .i64 x52)]), (Value.int .i64 p1), (Value.int .i64 p2), (Value.int .i64 (IntKind.i64.wrap ((IntKind.i64.wrap ((IntKind.i64.wrap p3) + (IntKind.i64.wrap p4))) + (IntKind.i64.wrap p4)))), (Value.int .i64 p5)]) rfl rfl (by rfl) Try.func8 NN_8 NB_8) (Calls.mono h ?_)
        rintro _ w20 ⟨r53, rfl, h⟩
        refine ⟨_, rfl, ?_⟩
        refine wpR_val (v := (Value.tuple #[(Value.agg #[(Value.int .i64 r53.1), (Value.int .i64 r53.2.1)]), (Value.int .i64 r53.2.2)])) (w' := w20) rfl rfl rfl (x_move (v := (Value.tuple #[(Value.agg #[(Value.int .i64 r53.1), (Value.int .i64 r53.2.1)]), (Value.int .i64 r53.2.2)])) rfl rfl) ?_
        refine wpR_val (v := (Value.agg #[(Value.int .i64 r53.1), (Value.int .i64 r53.2.1)])) (w' := w20) rfl rfl rfl (x_extract rfl rfl rfl) ?_
        refine wpR_val (v := (Value.int .i64 r53.2.2)) (w' := w20) rfl rfl rfl (x_extract rfl rfl rfl) ?_
        obtain ⟨b54, hb54⟩ : ∃ u, u = w20.heap.size := ⟨_, rfl⟩
        obtain ⟨w21, hw54⟩ : ∃ u, u = w20.alloc (.cells #[(Value.int .i64 0), (Value.int .i64 0)] 24) := ⟨_, rfl⟩
        replace h := h b54 w21 hb54 hw54
        refine wpR_val (v := (Value.pointer (some (Addr.mk b54 0 none)))) (w' := w21) rfl rfl rfl ((x_alloc rfl ZV_24).trans (by rw [hb54, hw54]; rfl)) ?_
        obtain ⟨q55, h⟩ := h
        obtain ⟨w22, hw55⟩ : ∃ u, u = setAll w21 (Addr.mk b54 0 none) [(Value.int .i64 r53.1), (Value.int .i64 r53.2.1)] 0 := ⟨_, rfl⟩
        replace h := h w22 hw55
        refine wpR_skp (w' := w22) rfl rfl ((x_store (v := (Value.agg #[(Value.int .i64 r53.1), (Value.int .i64 r53.2.1)])) rfl rfl rfl SZ_24 (ones (by rfl)) q55).trans (by rw [hw55]; rfl)) ?_
        refine wpR_val (v := (Value.int .i64 r53.2.2)) (w' := w22) rfl rfl rfl (x_assign (v := (Value.int .i64 r53.2.2)) rfl rfl) ?_
        refine wpR_nil ?_
        refine wpC_seq ?_
        refine wpC_cut (fun ρ => ρ 15 = (Value.bool r1) ∧ ρ 21 = (Value.pointer (some (Addr.mk b16 0 none))) ∧ ρ 26 = (Value.int .i64 r43.2.2) ∧ ρ 27 = (Value.pointer (some (Addr.mk b49 0 none))) ∧ ρ 28 = (Value.int .i64 r48.2.2) ∧ ρ 30 = (Value.int .i64 r53.2.2) ∧ True) ⟨e15, e21, e26, e27, e28, rfl, trivial⟩ ?_
        rintro ρ ⟨e15, e21, e26, e27, e28, e30, -⟩
        refine wpC_region ?_
        refine wpR_val (v := (Value.bool r1)) (w' := w22) rfl rfl rfl (x_move (v := (Value.bool r1)) rfl e15) ?_
        refine wpR_val (v := (Value.bool r1)) (w' := w22) rfl rfl rfl (x_move (v := (Value.bool r1)) rfl rfl) ?_
        refine wpR_joinJ 3 (fun (_ : Unit) ρ => ρ 136 = Value.bool (r1 && (decide (r43.2.2 = 0))) ∧ ρ 21 = (Value.pointer (some (Addr.mk b16 0 none))) ∧ ρ 27 = (Value.pointer (some (Addr.mk b49 0 none))) ∧ ρ 28 = (Value.int .i64 r48.2.2) ∧ ρ 30 = (Value.int .i64 r53.2.2) ∧ True) (fun _ w => w22 = w) ?_ ?_
        · clear h
          rcases Bool.eq_false_or_eq_true (r1) with hc57 | hc57
          · skip
            refine wpR_val (v := (Value.int .i64 r43.2.2)) (w' := w22) (wantG rfl rfl rfl hc57) rfl rfl (x_move (v := (Value.int .i64 r43.2.2)) rfl e26) ?_
            refine wpR_val (v := (Value.bool (decide (r43.2.2 = 0)))) (w' := w22) (wantG rfl rfl rfl hc57) rfl rfl (x_eql rfl rfl rfl) ?_
            refine wpR_val (v := (Value.bool (decide (r43.2.2 = 0)))) (w' := w22) rfl rfl rfl (x_pickT (v := (Value.bool (decide (r43.2.2 = 0)))) rfl rfl hc57 rfl) ?_
            refine wpR_nil ?_
            exact ⟨(), ⟨(by rw [hc57]; rfl), e21, e27, e28, e30, trivial⟩, rfl⟩
          · skip
            refine wpR_pass (wantN rfl rfl rfl hc57) rfl rfl ?_
            refine wpR_pass (wantN rfl rfl rfl hc57) rfl rfl ?_
            refine wpR_val (v := (Value.bool false)) (w' := w22) rfl rfl rfl (x_pickF (v := (Value.bool false)) rfl rfl hc57 rfl) ?_
            refine wpR_nil ?_
            exact ⟨(), ⟨(by rw [hc57]; rfl), e21, e27, e28, e30, trivial⟩, rfl⟩
        rintro _ ρ wj ⟨e136, e21, e27, e28, e30, -⟩ rfl
        refine wpR_val (v := (Value.bool (r1 && (decide (r43.2.2 = 0))))) (w' := w22) rfl rfl rfl (x_move (v := (Value.bool (r1 && (decide (r43.2.2 = 0))))) rfl e136) ?_
        refine wpR_joinJ 3 (fun (_ : Unit) ρ => ρ 140 = Value.bool ((r1 && (decide (r43.2.2 = 0))) && (decide (r48.2.2 = 0))) ∧ ρ 21 = (Value.pointer (some (Addr.mk b16 0 none))) ∧ ρ 27 = (Value.pointer (some (Addr.mk b49 0 none))) ∧ ρ 30 = (Value.int .i64 r53.2.2) ∧ True) (fun _ w => w22 = w) ?_ ?_
        · clear h
          rcases Bool.eq_false_or_eq_true (r1 && (decide (r43.2.2 = 0))) with hc59 | hc59
          · skip
            refine wpR_val (v := (Value.int .i64 r48.2.2)) (w' := w22) (wantG rfl rfl rfl hc59) rfl rfl (x_move (v := (Value.int .i64 r48.2.2)) rfl e28) ?_
            refine wpR_val (v := (Value.bool (decide (r48.2.2 = 0)))) (w' := w22) (wantG rfl rfl rfl hc59) rfl rfl (x_eql rfl rfl rfl) ?_
            refine wpR_val (v := (Value.bool (decide (r48.2.2 = 0)))) (w' := w22) rfl rfl rfl (x_pickT (v := (Value.bool (decide (r48.2.2 = 0)))) rfl rfl hc59 rfl) ?_
            refine wpR_nil ?_
            exact ⟨(), ⟨(by rw [hc59]; rfl), e21, e27, e30, trivial⟩, rfl⟩
          · skip
            refine wpR_pass (wantN rfl rfl rfl hc59) rfl rfl ?_
            refine wpR_pass (wantN rfl rfl rfl hc59) rfl rfl ?_
            refine wpR_val (v := (Value.bool false)) (w' := w22) rfl rfl rfl (x_pickF (v := (Value.bool false)) rfl rfl hc59 rfl) ?_
            refine wpR_nil ?_
            exact ⟨(), ⟨(by rw [hc59]; rfl), e21, e27, e30, trivial⟩, rfl⟩
        rintro _ ρ wj ⟨e140, e21, e27, e30, -⟩ rfl
        refine wpR_val (v := (Value.bool ((r1 && (decide (r43.2.2 = 0))) && (decide (r48.2.2 = 0))))) (w' := w22) rfl rfl rfl (x_move (v := (Value.bool ((r1 && (decide (r43.2.2 = 0))) && (decide (r48.2.2 = 0))))) rfl e140) ?_
        refine wpR_joinJ 3 (fun (_ : Unit) ρ => ρ 144 = Value.bool (((r1 && (decide (r43.2.2 = 0))) && (decide (r48.2.2 = 0))) && (decide (r53.2.2 = 0))) ∧ ρ 21 = (Value.pointer (some (Addr.mk b16 0 none))) ∧ ρ 27 = (Value.pointer (some (Addr.mk b49 0 none))) ∧ True) (fun _ w => w22 = w) ?_ ?_
        · clear h
          rcases Bool.eq_false_or_eq_true ((r1 && (decide (r43.2.2 = 0))) && (decide (r48.2.2 = 0))) with hc61 | hc61
          · skip
            refine wpR_val (v := (Value.int .i64 r53.2.2)) (w' := w22) (wantG rfl rfl rfl hc61) rfl rfl (x_move (v := (Value.int .i64 r53.2.2)) rfl e30) ?_
            refine wpR_val (v := (Value.bool (decide (r53.2.2 = 0)))) (w' := w22) (wantG rfl rfl rfl hc61) rfl rfl (x_eql rfl rfl rfl) ?_
            refine wpR_val (v := (Value.bool (decide (r53.2.2 = 0)))) (w' := w22) rfl rfl rfl (x_pickT (v := (Value.bool (decide (r53.2.2 = 0)))) rfl rfl hc61 rfl) ?_
            refine wpR_nil ?_
            exact ⟨(), ⟨(by rw [hc61]; rfl), e21, e27, trivial⟩, rfl⟩
          · skip
            refine wpR_pass (wantN rfl rfl rfl hc61) rfl rfl ?_
            refine wpR_pass (wantN rfl rfl rfl hc61) rfl rfl ?_
            refine wpR_val (v := (Value.bool false)) (w' := w22) rfl rfl rfl (x_pickF (v := (Value.bool false)) rfl rfl hc61 rfl) ?_
            refine wpR_nil ?_
            exact ⟨(), ⟨(by rw [hc61]; rfl), e21, e27, trivial⟩, rfl⟩
        rintro _ ρ wj ⟨e144, e21, e27, -⟩ rfl
        refine wpR_val (v := (Value.bool (((r1 && (decide (r43.2.2 = 0))) && (decide (r48.2.2 = 0))) && (decide (r53.2.2 = 0))))) (w' := w22) rfl rfl rfl (x_move (v := (Value.bool (((r1 && (decide (r43.2.2 = 0))) && (decide (r48.2.2 = 0))) && (decide (r53.2.2 = 0))))) rfl e144) ?_
        obtain ⟨J62, h, hk⟩ := h
        refine wpR_joinJ 4 (fun x ρ => ρ 149 = Value.bool x ∧ True) (fun x w => J62 x ∧ w22 = w) ?_ ?_
        · clear hk
          rcases Bool.eq_false_or_eq_true (((r1 && (decide (r43.2.2 = 0))) && (decide (r48.2.2 = 0))) && (decide (r53.2.2 = 0))) with hc63 | hc63
          · replace h := h.1 hc63
            obtain ⟨x64, q64, h⟩ := h
            obtain ⟨x65, q65, h⟩ := h
            refine wpR_val (v := (Value.agg #[(Value.int .i64 x64), (Value.int .i64 x65)])) (w' := w22) (wantG rfl rfl rfl hc63) rfl rfl (x_loadN [(Value.int .i64 x64), (Value.int .i64 x65)] rfl e27 SH_24 (CellsAt.out (CellsAt.cons q64 (CellsAt.cons q65 CellsAt.nil)))) ?_
            obtain ⟨x66, q66, h⟩ := h
            obtain ⟨x67, q67, h⟩ := h
            refine wpR_val (v := (Value.agg #[(Value.int .i64 x66), (Value.int .i64 x67)])) (w' := w22) (wantG rfl rfl rfl hc63) rfl rfl (x_loadN [(Value.int .i64 x66), (Value.int .i64 x67)] rfl e21 SH_24 (CellsAt.out (CellsAt.cons q66 (CellsAt.cons q67 CellsAt.nil)))) ?_
            refine wpR_val (v := (Value.bool (decide (x64 = x66) && (decide (x65 = x67) && true)))) (w' := w22) (wantG rfl rfl rfl hc63) rfl rfl (x_eqlA rfl rfl rfl EQ1_24 EQ2_24 EQ3_24 (EQ_24 x64 x65 x66 x67)) ?_
            refine wpR_val (v := (Value.bool (decide (x64 = x66) && (decide (x65 = x67) && true)))) (w' := w22) rfl rfl rfl (x_pickT (v := (Value.bool (decide (x64 = x66) && (decide (x65 = x67) && true)))) rfl rfl hc63 rfl) ?_
            refine wpR_nil ?_
            exact ⟨(decide (x64 = x66) && (decide (x65 = x67) && true)), ⟨rfl, trivial⟩, h, rfl⟩
          · replace h := h.2 hc63
            refine wpR_pass (wantN rfl rfl rfl hc63) rfl rfl ?_
            refine wpR_pass (wantN rfl rfl rfl hc63) rfl rfl ?_
            refine wpR_pass (wantN rfl rfl rfl hc63) rfl rfl ?_
            refine wpR_val (v := (Value.bool false)) (w' := w22) rfl rfl rfl (x_pickF (v := (Value.bool false)) rfl rfl hc63 rfl) ?_
            refine wpR_nil ?_
            exact ⟨false, ⟨rfl, trivial⟩, h, rfl⟩
        clear h
        rintro c68 ρ wj ⟨e149, -⟩ ⟨h, rfl⟩
        replace h := hk c68 h
        clear hk
        refine wpR_val (v := (Value.bool c68)) (w' := w22) rfl rfl rfl (x_assign (v := (Value.bool c68)) rfl e149) ?_
        refine wpR_nil ?_
        refine wpC_ret ?_
        exact ⟨.inl rfl, fun a ha => ⟨_, results_rep1 rfl ha rfl, c68, rfl, h⟩⟩


end Go.Proofs.Ytpdemlicnocbkaa
