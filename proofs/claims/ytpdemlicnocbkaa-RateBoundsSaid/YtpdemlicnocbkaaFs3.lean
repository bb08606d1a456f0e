import Derived.Test.YtpdemlicnocbkaaRows
import Derived.Test.YtpdemlicnocbkaaFs1
import Derived.Test.YtpdemlicnocbkaaDecOps
namespace Go.Proofs.Ytpdemlicnocbkaa
open Go.Dec
set_option maxHeartbeats 400000

/-- lingualaw09.RateNext -/
def F6 (p0 : Int) (p1 : Int) (p2 : Int) (p3 : Int) (p4 : Int) (p5 : Int) (w0 : World) (K : Bool → World → Prop) : Prop :=
  callC Try.prog 7 #[] (fun (r : Bool) => (Value.bool r)) w0 fun r1 w1 =>
  nw 24 #[(Value.int .i64 0), (Value.int .i64 0)] w1 fun b2 w2 =>
  st (Addr.mk b2 0 none) [(Value.int .i64 p0), (Value.int .i64 p1)] w2 fun w3 =>
  ld (Value.int .i64) ((Addr.mk b2 0 none).add 0) w3 fun x4 =>
  ld (Value.int .i64) ((Addr.mk b2 0 none).add 1) w3 fun x5 =>
  callC Try.prog 14 #[(Value.agg #[(Value.int .i64 x4), (Value.int .i64 x5)]), (Value.int .i64 p2), (Value.int .i64 p3)] (fun (r : Bool) => (Value.bool r)) w3 fun r6 w4 =>
  cnd ((!r6) || (decide (p4 < 0)))
    (
    K r1 w4
    )
    (
    ld (Value.int .i64) ((Addr.mk b2 0 none).add 0) w4 fun x10 =>
    ld (Value.int .i64) ((Addr.mk b2 0 none).add 1) w4 fun x11 =>
    callC Try.prog 12 #[(Value.agg #[(Value.int .i64 x10), (Value.int .i64 x11)]), (Value.int .i64 p2), (Value.int .i64 p3), (Value.int .i64 p4)] (fun (r : Int × Int) => (Value.tuple #[(Value.int .i64 r.1), (Value.int .i64 r.2)])) w4 fun r12 w5 =>
    cnd (!decide (r12.2 = 0))
      (
      ld (Value.int .i64) ((Addr.mk b2 0 none).add 0) w5 fun x14 =>
      ld (Value.int .i64) ((Addr.mk b2 0 none).add 1) w5 fun x15 =>
      callC Try.prog 8 #[(Value.agg #[(Value.int .i64 x14), (Value.int .i64 x15)]), (Value.int .i64 p2), (Value.int .i64 p3), (Value.int .i64 1073741824), (Value.int .i64 p4)] (fun (r : Int × Int × Int) => (Value.tuple #[(Value.agg #[(Value.int .i64 r.1), (Value.int .i64 r.2.1)]), (Value.int .i64 r.2.2)])) w5 fun r16 w6 =>
      nw 24 #[(Value.int .i64 0), (Value.int .i64 0)] w6 fun b17 w7 =>
      st (Addr.mk b17 0 none) [(Value.int .i64 r16.1), (Value.int .i64 r16.2.1)] w7 fun w8 =>
      K (((r1 && (decide (r12.2 = 6))) && (decide (r16.2.2 = 6))) && (decide (r12.1 = 0))) w8
      )
      (
      cnd ((decide (r12.1 < p1)) || (decide (1073741824 < r12.1)))
        (
        K false w5
        )
        (
        ld (Value.int .i64) ((Addr.mk b2 0 none).add 0) w5 fun x28 =>
        ld (Value.int .i64) ((Addr.mk b2 0 none).add 1) w5 fun x29 =>
        callC Try.prog 8 #[(Value.agg #[(Value.int .i64 x28), (Value.int .i64 x29)]), (Value.int .i64 p2), (Value.int .i64 p3), (Value.int .i64 r12.1), (Value.int .i64 p4)] (fun (r : Int × Int × Int) => (Value.tuple #[(Value.agg #[(Value.int .i64 r.1), (Value.int .i64 r.2.1)]), (Value.int .i64 r.2.2)])) w5 fun r30 w9 =>
        nw 24 #[(Value.int .i64 0), (Value.int .i64 0)] w9 fun b31 w10 =>
        st (Addr.mk b31 0 none) [(Value.int .i64 r30.1), (Value.int .i64 r30.2.1)] w10 fun w11 =>
        ld (Value.int .i64) ((Addr.mk b2 0 none).add 0) w11 fun x33 =>
        ld (Value.int .i64) ((Addr.mk b2 0 none).add 1) w11 fun x34 =>
        callC Try.prog 8 #[(Value.agg #[(Value.int .i64 x33), (Value.int .i64 x34)]), (Value.int .i64 p2), (Value.int .i64 p3), (Value.int .i64 (max (IntKind.i64.wrap (r12.1 - 1)) p1)), (Value.int .i64 p4)] (fun (r : Int × Int × Int) => (Value.tuple #[(Value.agg #[(Value.int .i64 r.1), (Value.int .i64 r.2.1)]), (Value.int .i64 r.2.2)])) w11 fun r35 w12 =>
        nw 24 #[(Value.int .i64 0), (Value.int .i64 0)] w12 fun b36 w13 =>
        st (Addr.mk b36 0 none) [(Value.int .i64 r35.1), (Value.int .i64 r35.2.1)] w13 fun w14 =>
        cnd ((!decide (r30.2.2 = 0)) || (!((decide (r35.2.2 = 0)) == (decide (r12.1 = p1)))))
          (
          K false w14
          )
          (
          cnd ((decide (p5 < p1)) || (decide (1073741824 < p5)))
            (
            K r1 w14
            )
            (
            ld (Value.int .i64) ((Addr.mk b2 0 none).add 0) w14 fun x44 =>
            ld (Value.int .i64) ((Addr.mk b2 0 none).add 1) w14 fun x45 =>
            callC Try.prog 8 #[(Value.agg #[(Value.int .i64 x44), (Value.int .i64 x45)]), (Value.int .i64 p2), (Value.int .i64 p3), (Value.int .i64 p5), (Value.int .i64 p4)] (fun (r : Int × Int × Int) => (Value.tuple #[(Value.agg #[(Value.int .i64 r.1), (Value.int .i64 r.2.1)]), (Value.int .i64 r.2.2)])) w14 fun r46 w15 =>
            nw 24 #[(Value.int .i64 0), (Value.int .i64 0)] w15 fun b47 w16 =>
            st (Addr.mk b47 0 none) [(Value.int .i64 r46.1), (Value.int .i64 r46.2.1)] w16 fun w17 =>
            K (r1 && ((decide (r46.2.2 = 0)) == (decide (r12.1 ≤ p5)))) w17
            )
          )
        )
      )
    )
set_option maxRecDepth 100000 in
theorem D6 (p0 : Int) (p1 : Int) (p2 : Int) (p3 : Int) (p4 : Int) (p5 : Int) (w0 : World) (K : Bool → World → Prop) (h : F6 p0 p1 p2 p3 p4 p5 w0 K) : callC Try.prog 6 #[(Value.int .i64 p0), (Value.int .i64 p1), (Value.int .i64 p2), (Value.int .i64 p3), (Value.int .i64 p4), (Value.int .i64 p5)] (fun (r : Bool) => (Value.bool r)) w0 K := by
  unfold F6 at h
  refine calls_of_wpC Try.func6 rfl 134 rfl (by simp) ?_
  intro ρ hρ
  have e0 : ρ 0 = (Value.int .i64 p0) := hρ 0
  have e1 : ρ 1 = (Value.int .i64 p1) := hρ 1
  have e2 : ρ 2 = (Value.int .i64 p2) := hρ 2
  have e3 : ρ 3 = (Value.int .i64 p3) := hρ 3
  have e4 : ρ 4 = (Value.int .i64 p4) := hρ 4
  have e5 : ρ 5 = (Value.int .i64 p5) := hρ 5
  clear hρ
  refine wpC_seq ?_
  refine wpC_region ?_
  refine wpR_val (v := (Value.bool false)) (w' := w0) rfl rfl rfl (x_assign (v := (Value.bool false)) rfl rfl) ?_
  refine wpR_nil ?_
  refine wpC_seq ?_
  refine wpC_cut (fun ρ => ρ 0 = (Value.int .i64 p0) ∧ ρ 1 = (Value.int .i64 p1) ∧ ρ 2 = (Value.int .i64 p2) ∧ ρ 3 = (Value.int .i64 p3) ∧ ρ 4 = (Value.int .i64 p4) ∧ ρ 5 = (Value.int .i64 p5) ∧ True) ⟨e0, e1, e2, e3, e4, e5, trivial⟩ ?_
  rintro ρ ⟨e0, e1, e2, e3, e4, e5, -⟩
  refine wpC_region ?_
  refine wpR_enter rfl rfl rfl (x_call (vs := []) rfl rfl (by rfl) Try.func7 NN_7 NB_7) (Calls.mono h ?_)
  rintro _ w1 ⟨r1, rfl, h⟩
  refine ⟨_, rfl, ?_⟩
  refine wpR_val (v := (Value.bool r1)) (w' := w1) rfl rfl rfl (x_assign (v := (Value.bool r1)) rfl rfl) ?_
  refine wpR_nil ?_
  refine wpC_seq ?_
  refine wpC_cut (fun ρ => ρ 0 = (Value.int .i64 p0) ∧ ρ 1 = (Value.int .i64 p1) ∧ ρ 2 = (Value.int .i64 p2) ∧ ρ 3 = (Value.int .i64 p3) ∧ ρ 4 = (Value.int .i64 p4) ∧ ρ 5 = (Value.int .i64 p5) ∧ ρ 13 = (Value.bool r1) ∧ True) ⟨e0, e1, e2, e3, e4, e5, rfl, trivial⟩ ?_
  rintro ρ ⟨e0, e1, e2, e3, e4, e5, e13, -⟩
  refine wpC_region ?_
  refine wpR_val (v := (Value.int .i64 p0)) (w' := w1) rfl rfl rfl (x_move (v := (Value.int .i64 p0)) rfl e0) ?_
  refine wpR_val (v := (Value.int .i64 p1)) (w' := w1) rfl rfl rfl (x_move (v := (Value.int .i64 p1)) rfl e1) ?_
  refine wpR_val (v := (Value.agg #[(Value.int .i64 p0), (Value.int .i64 p1)])) (w' := w1) rfl rfl rfl (x_build (qs := [(0, (Value.int .i64 p0)), (1, (Value.int .i64 p1))]) rfl (by rfl) (BD_24_0_1 p0 p1 _)) ?_
  obtain ⟨b2, hb2⟩ : ∃ u, u = w1.heap.size := ⟨_, rfl⟩
  obtain ⟨w2, hw2⟩ : ∃ u, u = w1.alloc (.cells #[(Value.int .i64 0), (Value.int .i64 0)] 24) := ⟨_, rfl⟩
  replace h := h b2 w2 hb2 hw2
  refine wpR_val (v := (Value.pointer (some (Addr.mk b2 0 none)))) (w' := w2) rfl rfl rfl ((x_alloc rfl ZV_24).trans (by rw [hb2, hw2]; rfl)) ?_
  obtain ⟨q3, h⟩ := h
  obtain ⟨w3, hw3⟩ : ∃ u, u = setAll w2 (Addr.mk b2 0 none) [(Value.int .i64 p0), (Value.int .i64 p1)] 0 := ⟨_, rfl⟩
  replace h := h w3 hw3
  refine wpR_skp (w' := w3) rfl rfl ((x_store (v := (Value.agg #[(Value.int .i64 p0), (Value.int .i64 p1)])) rfl rfl rfl SZ_24 (ones (by rfl)) q3).trans (by rw [hw3]; rfl)) ?_
  refine wpR_nil ?_
  refine wpC_seq ?_
  refine wpC_seq ?_
  refine wpC_cut (fun ρ => ρ 1 = (Value.int .i64 p1) ∧ ρ 2 = (Value.int .i64 p2) ∧ ρ 3 = (Value.int .i64 p3) ∧ ρ 4 = (Value.int .i64 p4) ∧ ρ 5 = (Value.int .i64 p5) ∧ ρ 13 = (Value.bool r1) ∧ ρ 14 = (Value.pointer (some (Addr.mk b2 0 none))) ∧ True) ⟨e1, e2, e3, e4, e5, e13, rfl, trivial⟩ ?_
  rintro ρ ⟨e1, e2, e3, e4, e5, e13, e14, -⟩
  refine wpC_region ?_
  obtain ⟨x4, q4, h⟩ := h
  obtain ⟨x5, q5, h⟩ := h
  refine wpR_val (v := (Value.agg #[(Value.int .i64 x4), (Value.int .i64 x5)])) (w' := w3) rfl rfl rfl (x_loadN [(Value.int .i64 x4), (Value.int .i64 x5)] rfl e14 SH_24 (CellsAt.out (CellsAt.cons q4 (CellsAt.cons q5 CellsAt.nil)))) ?_
  refine wpR_val (v := (Value.int .i64 p2)) (w' := w3) rfl rfl rfl (x_move (v := (Value.int .i64 p2)) rfl e2) ?_
  refine wpR_val (v := (Value.int .i64 p3)) (w' := w3) rfl rfl rfl (x_move (v := (Value.int .i64 p3)) rfl e3) ?_
  refine wpR_enter rfl rfl rfl (x_call (vs := [(Value.agg #[(Value.int .i64 x4), (Value.int .i64 x5)]), (Value.int .i64 p2), (Value.int .i64 p3)]) rfl rfl (by rfl) Try.func14 NN_14 NB_14) (Calls.mono h ?_)
  rintro _ w4 ⟨r6, rfl, h⟩
  refine ⟨_, rfl, ?_⟩
  refine wpR_val (v := (Value.bool (!r6))) (w' := w4) rfl rfl rfl (x_not rfl rfl) ?_
  refine wpR_val (v := (Value.bool (!r6))) (w' := w4) rfl rfl rfl (x_move (v := (Value.bool (!r6))) rfl rfl) ?_
  refine wpR_joinJ 3 (fun (_ : Unit) ρ => ρ 37 = Value.bool ((!r6) || (decide (p4 < 0))) ∧ ρ 1 = (Value.int .i64 p1) ∧ ρ 2 = (Value.int .i64 p2) ∧ ρ 3 = (Value.int .i64 p3) ∧ ρ 4 = (Value.int .i64 p4) ∧ ρ 5 = (Value.int .i64 p5) ∧ ρ 13 = (Value.bool r1) ∧ ρ 14 = (Value.pointer (some (Addr.mk b2 0 none))) ∧ True) (fun _ w => w4 = w) ?_ ?_
  · clear h
    rcases Bool.eq_false_or_eq_true (!r6) with hc8 | hc8
    · skip
      refine wpR_pass (wantN rfl rfl rfl hc8) rfl rfl ?_
      refine wpR_pass (wantN rfl rfl rfl hc8) rfl rfl ?_
      refine wpR_val (v := (Value.bool true)) (w' := w4) rfl rfl rfl (x_pickT (v := (Value.bool true)) rfl rfl hc8 rfl) ?_
      refine wpR_nil ?_
      exact ⟨(), ⟨(by rw [hc8]; rfl), e1, e2, e3, e4, e5, e13, e14, trivial⟩, rfl⟩
    · skip
      refine wpR_val (v := (Value.int .i64 p4)) (w' := w4) (wantG rfl rfl rfl hc8) rfl rfl (x_move (v := (Value.int .i64 p4)) rfl e4) ?_
      refine wpR_val (v := (Value.bool (decide (p4 < 0)))) (w' := w4) (wantG rfl rfl rfl hc8) rfl rfl (x_lss rfl rfl rfl) ?_
      refine wpR_val (v := (Value.bool (decide (p4 < 0)))) (w' := w4) rfl rfl rfl (x_pickF (v := (Value.bool (decide (p4 < 0)))) rfl rfl hc8 rfl) ?_
      refine wpR_nil ?_
      exact ⟨(), ⟨(by rw [hc8]; rfl), e1, e2, e3, e4, e5, e13, e14, trivial⟩, rfl⟩
  rintro _ ρ wj ⟨e37, e1, e2, e3, e4, e5, e13, e14, -⟩ rfl
  refine wpR_nil ?_
  refine wpC_cond (b := (!r6) || (decide (p4 < 0))) e37 (fun hc9 => ?_) (fun hc9 => ?_)
  · replace h := h.1 hc9
    refine wpC_seq ?_
    refine wpC_region ?_
    refine wpR_val (v := (Value.bool r1)) (w' := w4) rfl rfl rfl (x_move (v := (Value.bool r1)) rfl e13) ?_
    refine wpR_val (v := (Value.bool r1)) (w' := w4) rfl rfl rfl (x_assign (v := (Value.bool r1)) rfl rfl) ?_
    refine wpR_nil ?_
    refine wpC_ret ?_
    exact ⟨.inl rfl, fun a ha => ⟨_, results_rep1 rfl ha rfl, r1, rfl, h⟩⟩
  · replace h := h.2 hc9
    refine wpC_skip ?_
    refine wpC_seq ?_
    refine wpC_region ?_
    obtain ⟨x10, q10, h⟩ := h
    obtain ⟨x11, q11, h⟩ := h
    refine wpR_val (v := (Value.agg #[(Value.int .i64 x10), (Value.int .i64 x11)])) (w' := w4) rfl rfl rfl (x_loadN [(Value.int .i64 x10), (Value.int .i64 x11)] rfl e14 SH_24 (CellsAt.out (CellsAt.cons q10 (CellsAt.cons q11 CellsAt.nil)))) ?_
    refine wpR_val (v := (Value.int .i64 p2)) (w' := w4) rfl rfl rfl (x_move (v := (Value.int .i64 p2)) rfl e2) ?_
    refine wpR_val (v := (Value.int .i64 p3)) (w' := w4) rfl rfl rfl (x_move (v := (Value.int .i64 p3)) rfl e3) ?_
    refine wpR_val (v := (Value.int .i64 p4)) (w' := w4) rfl rfl rfl (x_move (v := (Value.int .i64 p4)) rfl e4) ?_
    refine wpR_enter rfl rfl rfl (x_call (vs := [(Value.agg #[(Value.int .i64 x10), (Value.int .i64 x11)]), (Value.int .i64 p2), (Value.int .i64 p3), (Value.int .i64 p4)]) rfl rfl (by rfl) Try.func12 NN_12 NB_12) (Calls.mono h ?_)
    rintro _ w5 ⟨r12, rfl, h⟩
    refine ⟨_, rfl, ?_⟩
    refine wpR_val (v := (Value.tuple #[(Value.int .i64 r12.1), (Value.int .i64 r12.2)])) (w' := w5) rfl rfl rfl (x_move (v := (Value.tuple #[(Value.int .i64 r12.1), (Value.int .i64 r12.2)])) rfl rfl) ?_
    refine wpR_val (v := (Value.int .i64 r12.1)) (w' := w5) rfl rfl rfl (x_extract rfl rfl rfl) ?_
    refine wpR_val (v := (Value.int .i64 r12.2)) (w' := w5) rfl rfl rfl (x_extract rfl rfl rfl) ?_
    refine wpR_val (v := (Value.int .i64 r12.1)) (w' := w5) rfl rfl rfl (x_assign (v := (Value.int .i64 r12.1)) rfl rfl) ?_
    refine wpR_val (v := (Value.int .i64 r12.2)) (w' := w5) rfl rfl rfl (x_assign (v := (Value.int .i64 r12.2)) rfl rfl) ?_
    refine wpR_nil ?_
    refine wpC_seq ?_
    refine wpC_seq ?_
    refine wpC_cut (fun ρ => ρ 1 = (Value.int .i64 p1) ∧ ρ 2 = (Value.int .i64 p2) ∧ ρ 3 = (Value.int .i64 p3) ∧ ρ 4 = (Value.int .i64 p4) ∧ ρ 5 = (Value.int .i64 p5) ∧ ρ 13 = (Value.bool r1) ∧ ρ 14 = (Value.pointer (some (Addr.mk b2 0 none))) ∧ ρ 15 = (Value.int .i64 r12.1) ∧ ρ 16 = (Value.int .i64 r12.2) ∧ True) ⟨e1, e2, e3, e4, e5, e13, e14, rfl, rfl, trivial⟩ ?_
    rintro ρ ⟨e1, e2, e3, e4, e5, e13, e14, e15, e16, -⟩
    refine wpC_region ?_
    refine wpR_val (v := (Value.int .i64 r12.2)) (w' := w5) rfl rfl rfl (x_move (v := (Value.int .i64 r12.2)) rfl e16) ?_
    refine wpR_val (v := (Value.bool (!decide (r12.2 = 0)))) (w' := w5) rfl rfl rfl (x_neq rfl rfl rfl) ?_
    refine wpR_nil ?_
    refine wpC_cond (b := !decide (r12.2 = 0)) rfl (fun hc13 => ?_) (fun hc13 => ?_)
    · replace h := h.1 hc13
      refine wpC_seq ?_
      refine wpC_cut (fun ρ => ρ 2 = (Value.int .i64 p2) ∧ ρ 3 = (Value.int .i64 p3) ∧ ρ 4 = (Value.int .i64 p4) ∧ ρ 13 = (Value.bool r1) ∧ ρ 14 = (Value.pointer (some (Addr.mk b2 0 none))) ∧ ρ 15 = (Value.int .i64 r12.1) ∧ ρ 16 = (Value.int .i64 r12.2) ∧ True) ⟨e2, e3, e4, e13, e14, e15, e16, trivial⟩ ?_
      rintro ρ ⟨e2, e3, e4, e13, e14, e15, e16, -⟩
      refine wpC_region ?_
      obtain ⟨x14, q14, h⟩ := h
      obtain ⟨x15, q15, h⟩ := h
      refine wpR_val (v := (Value.agg #[(Value.int .i64 x14), (Value.int .i64 x15)])) (w' := w5) rfl rfl rfl (x_loadN [(Value.int .i64 x14), (Value.int .i64 x15)] rfl e14 SH_24 (CellsAt.out (CellsAt.cons q14 (CellsAt.cons q15 CellsAt.nil)))) ?_
      refine wpR_val (v := (Value.int .i64 p2)) (w' := w5) rfl rfl rfl (x_move (v := (Value.int .i64 p2)) rfl e2) ?_
      refine wpR_val (v := (Value.int .i64 p3)) (w' := w5) rfl rfl rfl (x_move (v := (Value.int .i64 p3)) rfl e3) ?_
      refine wpR_val (v := (Value.int .i64 p4)) (w' := w5) rfl rfl rfl (x_move (v := (Value.int .i64 p4)) rfl e4) ?_
      refine wpR_enter rfl rfl rfl (x_call (vs := [(Value.agg #[(Value.int .i64 x14), (Value.int .i64 x15)]), (Value.int .i64 p2), (Value.int .i64 p3), (Value.int .i64 1073741824), (Value.int .i64 p4)]) rfl rfl (by rfl) Try.func8 NN_8 NB_8) (Calls.mono h ?_)
      rintro _ w6 ⟨r16, rfl, h⟩
      refine ⟨_, rfl, ?_⟩
      refine wpR_val (v := (Value.tuple #[(Value.agg #[(Value.int .i64 r16.1), (Value.int .i64 r16.2.1)]), (Value.int .i64 r16.2.2)])) (w' := w6) rfl rfl rfl (x_move (v := (Value.tuple #[(Value.agg #[(Value.int .i64 r16.1), (Value.int .i64 r16.2.1)]), (Value.int .i64 r16.2.2)])) rfl rfl) ?_
      refine wpR_val (v := (Value.agg #[(Value.int .i64 r16.1), (Value.int .i64 r16.2.1)])) (w' := w6) rfl rfl rfl (x_extract rfl rfl rfl) ?_
      refine wpR_val (v := (Value.int .i64 r16.2.2)) (w' := w6) rfl rfl rfl (x_extract rfl rfl rfl) ?_
      obtain ⟨b17, hb17⟩ : ∃ u, u = w6.heap.size := ⟨_, rfl⟩
      obtain ⟨w7, hw17⟩ : ∃ u, u = w6.alloc (.cells #[(Value.int .i64 0), (Value.int .i64 0)] 24) := ⟨_, rfl⟩
      replace h := h b17 w7 hb17 hw17
      refine wpR_val (v := (Value.pointer (some (Addr.mk b17 0 none)))) (w' := w7) rfl rfl rfl ((x_alloc rfl ZV_24).trans (by rw [hb17, hw17]; rfl)) ?_
      obtain ⟨q18, h⟩ := h
      obtain ⟨w8, hw18⟩ : ∃ u, u = setAll w7 (Addr.mk b17 0 none) [(Value.int .i64 r16.1), (Value.int .i64 r16.2.1)] 0 := ⟨_, rfl⟩
      replace h := h w8 hw18
      refine wpR_skp (w' := w8) rfl rfl ((x_store (v := (Value.agg #[(Value.int .i64 r16.1), (Value.int .i64 r16.2.1)])) rfl rfl rfl SZ_24 (ones (by rfl)) q18).trans (by rw [hw18]; rfl)) ?_
      refine wpR_val (v := (Value.int .i64 r16.2.2)) (w' := w8) rfl rfl rfl (x_assign (v := (Value.int .i64 r16.2.2)) rfl rfl) ?_
      refine wpR_nil ?_
      refine wpC_seq ?_
      refine wpC_cut (fun ρ => ρ 13 = (Value.bool r1) ∧ ρ 15 = (Value.int .i64 r12.1) ∧ ρ 16 = (Value.int .i64 r12.2) ∧ ρ 18 = (Value.int .i64 r16.2.2) ∧ True) ⟨e13, e15, e16, rfl, trivial⟩ ?_
      rintro ρ ⟨e13, e15, e16, e18, -⟩
      refine wpC_region ?_
      refine wpR_val (v := (Value.bool r1)) (w' := w8) rfl rfl rfl (x_move (v := (Value.bool r1)) rfl e13) ?_
      refine wpR_val (v := (Value.bool r1)) (w' := w8) rfl rfl rfl (x_move (v := (Value.bool r1)) rfl rfl) ?_
      refine wpR_joinJ 3 (fun (_ : Unit) ρ => ρ 61 = Value.bool (r1 && (decide (r12.2 = 6))) ∧ ρ 15 = (Value.int .i64 r12.1) ∧ ρ 18 = (Value.int .i64 r16.2.2) ∧ True) (fun _ w => w8 = w) ?_ ?_
      · clear h
        rcases Bool.eq_false_or_eq_true (r1) with hc20 | hc20
        · skip
          refine wpR_val (v := (Value.int .i64 r12.2)) (w' := w8) (wantG rfl rfl rfl hc20) rfl rfl (x_move (v := (Value.int .i64 r12.2)) rfl e16) ?_
          refine wpR_val (v := (Value.bool (decide (r12.2 = 6)))) (w' := w8) (wantG rfl rfl rfl hc20) rfl rfl (x_eql rfl rfl rfl) ?_
          refine wpR_val (v := (Value.bool (decide (r12.2 = 6)))) (w' := w8) rfl rfl rfl (x_pickT (v := (Value.bool (decide (r12.2 = 6)))) rfl rfl hc20 rfl) ?_
          refine wpR_nil ?_
          exact ⟨(), ⟨(by rw [hc20]; rfl), e15, e18, trivial⟩, rfl⟩
        · skip
          refine wpR_pass (wantN rfl rfl rfl hc20) rfl rfl ?_
          refine wpR_pass (wantN rfl rfl rfl hc20) rfl rfl ?_
          refine wpR_val (v := (Value.bool false)) (w' := w8) rfl rfl rfl (x_pickF (v := (Value.bool false)) rfl rfl hc20 rfl) ?_
          refine wpR_nil ?_
          exact ⟨(), ⟨(by rw [hc20]; rfl), e15, e18, trivial⟩, rfl⟩
      rintro _ ρ wj ⟨e61, e15, e18, -⟩ rfl
      refine wpR_val (v := (Value.bool (r1 && (decide (r12.2 = 6))))) (w' := w8) rfl rfl rfl (x_move (v := (Value.bool (r1 && (decide (r12.2 = 6))))) rfl e61) ?_
      refine wpR_joinJ 3 (fun (_ : Unit) ρ => ρ 65 = Value.bool ((r1 && (decide (r12.2 = 6))) && (decide (r16.2.2 = 6))) ∧ ρ 15 = (Value.int .i64 r12.1) ∧ True) (fun _ w => w8 = w) ?_ ?_
      · clear h
        rcases Bool.eq_false_or_eq_true (r1 && (decide (r12.2 = 6))) with hc22 | hc22
        · skip
          refine wpR_val (v := (Value.int .i64 r16.2.2)) (w' := w8) (wantG rfl rfl rfl hc22) rfl rfl (x_move (v := (Value.int .i64 r16.2.2)) rfl e18) ?_
          refine wpR_val (v := (Value.bool (decide (r16.2.2 = 6)))) (w' := w8) (wantG rfl rfl rfl hc22) rfl rfl (x_eql rfl rfl rfl) ?_
          refine wpR_val (v := (Value.bool (decide (r16.2.2 = 6)))) (w' := w8) rfl rfl rfl (x_pickT (v := (Value.bool (decide (r16.2.2 = 6)))) rfl rfl hc22 rfl) ?_
          refine wpR_nil ?_
          exact ⟨(), ⟨(by rw [hc22]; rfl), e15, trivial⟩, rfl⟩
        · skip
          refine wpR_pass (wantN rfl rfl rfl hc22) rfl rfl ?_
          refine wpR_pass (wantN rfl rfl rfl hc22) rfl rfl ?_
          refine wpR_val (v := (Value.bool false)) (w' := w8) rfl rfl rfl (x_pickF (v := (Value.bool false)) rfl rfl hc22 rfl) ?_
          refine wpR_nil ?_
          exact ⟨(), ⟨(by rw [hc22]; rfl), e15, trivial⟩, rfl⟩
      rintro _ ρ wj ⟨e65, e15, -⟩ rfl
      refine wpR_val (v := (Value.bool ((r1 && (decide (r12.2 = 6))) && (decide (r16.2.2 = 6))))) (w' := w8) rfl rfl rfl (x_move (v := (Value.bool ((r1 && (decide (r12.2 = 6))) && (decide (r16.2.2 = 6))))) rfl e65) ?_
      refine wpR_joinJ 3 (fun (_ : Unit) ρ => ρ 69 = Value.bool (((r1 && (decide (r12.2 = 6))) && (decide (r16.2.2 = 6))) && (decide (r12.1 = 0))) ∧ True) (fun _ w => w8 = w) ?_ ?_
      · clear h
        rcases Bool.eq_false_or_eq_true ((r1 && (decide (r12.2 = 6))) && (decide (r16.2.2 = 6))) with hc24 | hc24
        · skip
          refine wpR_val (v := (Value.int .i64 r12.1)) (w' := w8) (wantG rfl rfl rfl hc24) rfl rfl (x_move (v := (Value.int .i64 r12.1)) rfl e15) ?_
          refine wpR_val (v := (Value.bool (decide (r12.1 = 0)))) (w' := w8) (wantG rfl rfl rfl hc24) rfl rfl (x_eql rfl rfl rfl) ?_
          refine wpR_val (v := (Value.bool (decide (r12.1 = 0)))) (w' := w8) rfl rfl rfl (x_pickT (v := (Value.bool (decide (r12.1 = 0)))) rfl rfl hc24 rfl) ?_
          refine wpR_nil ?_
          exact ⟨(), ⟨(by rw [hc24]; rfl), trivial⟩, rfl⟩
        · skip
          refine wpR_pass (wantN rfl rfl rfl hc24) rfl rfl ?_
          refine wpR_pass (wantN rfl rfl rfl hc24) rfl rfl ?_
          refine wpR_val (v := (Value.bool false)) (w' := w8) rfl rfl rfl (x_pickF (v := (Value.bool false)) rfl rfl hc24 rfl) ?_
          refine wpR_nil ?_
          exact ⟨(), ⟨(by rw [hc24]; rfl), trivial⟩, rfl⟩
      rintro _ ρ wj ⟨e69, -⟩ rfl
      refine wpR_val (v := (Value.bool (((r1 && (decide (r12.2 = 6))) && (decide (r16.2.2 = 6))) && (decide (r12.1 = 0))))) (w' := w8) rfl rfl rfl (x_assign (v := (Value.bool (((r1 && (decide (r12.2 = 6))) && (decide (r16.2.2 = 6))) && (decide (r12.1 = 0))))) rfl e69) ?_
      refine wpR_nil ?_
      refine wpC_ret ?_
      exact ⟨.inl rfl, fun a ha => ⟨_, results_rep1 rfl ha rfl, ((r1 && (decide (r12.2 = 6))) && (decide (r16.2.2 = 6))) && (decide (r12.1 = 0)), rfl, h⟩⟩
    · replace h := h.2 hc13
      refine wpC_skip ?_
      refine wpC_seq ?_
      refine wpC_seq ?_
      refine wpC_cut (fun ρ => ρ 1 = (Value.int .i64 p1) ∧ ρ 2 = (Value.int .i64 p2) ∧ ρ 3 = (Value.int .i64 p3) ∧ ρ 4 = (Value.int .i64 p4) ∧ ρ 5 = (Value.int .i64 p5) ∧ ρ 13 = (Value.bool r1) ∧ ρ 14 = (Value.pointer (some (Addr.mk b2 0 none))) ∧ ρ 15 = (Value.int .i64 r12.1) ∧ True) ⟨e1, e2, e3, e4, e5, e13, e14, e15, trivial⟩ ?_
      rintro ρ ⟨e1, e2, e3, e4, e5, e13, e14, e15, -⟩
      refine wpC_region ?_
      refine wpR_val (v := (Value.int .i64 r12.1)) (w' := w5) rfl rfl rfl (x_move (v := (Value.int .i64 r12.1)) rfl e15) ?_
      refine wpR_val (v := (Value.int .i64 p1)) (w' := w5) rfl rfl rfl (x_move (v := (Value.int .i64 p1)) rfl e1) ?_
      refine wpR_val (v := (Value.bool (decide (r12.1 < p1)))) (w' := w5) rfl rfl rfl (x_lss rfl rfl rfl) ?_
      refine wpR_val (v := (Value.bool (decide (r12.1 < p1)))) (w' := w5) rfl rfl rfl (x_move (v := (Value.bool (decide (r12.1 < p1)))) rfl rfl) ?_
      refine wpR_joinJ 3 (fun (_ : Unit) ρ => ρ 76 = Value.bool ((decide (r12.1 < p1)) || (decide (1073741824 < r12.1))) ∧ ρ 1 = (Value.int .i64 p1) ∧ ρ 2 = (Value.int .i64 p2) ∧ ρ 3 = (Value.int .i64 p3) ∧ ρ 4 = (Value.int .i64 p4) ∧ ρ 5 = (Value.int .i64 p5) ∧ ρ 13 = (Value.bool r1) ∧ ρ 14 = (Value.pointer (some (Addr.mk b2 0 none))) ∧ ρ 15 = (Value.int .i64 r12.1) ∧ True) (fun _ w => w5 = w) ?_ ?_
      · clear h
        rcases Bool.eq_false_or_eq_true (decide (r12.1 < p1)) with hc26 | hc26
        · skip
          refine wpR_pass (wantN rfl rfl rfl hc26) rfl rfl ?_
          refine wpR_pass (wantN rfl rfl rfl hc26) rfl rfl ?_
          refine wpR_val (v := (Value.bool true)) (w' := w5) rfl rfl rfl (x_pickT (v := (Value.bool true)) rfl rfl hc26 rfl) ?_
          refine wpR_nil ?_
          exact ⟨(), ⟨(by rw [hc26]; rfl), e1, e2, e3, e4, e5, e13, e14, e15, trivial⟩, rfl⟩
        · skip
          refine wpR_val (v := (Value.int .i64 r12.1)) (w' := w5) (wantG rfl rfl rfl hc26) rfl rfl (x_move (v := (Value.int .i64 r12.1)) rfl e15) ?_
          refine wpR_val (v := (Value.bool (decide (1073741824 < r12.1)))) (w' := w5) (wantG rfl rfl rfl hc26) rfl rfl (x_gtr rfl rfl rfl) ?_
          refine wpR_val (v := (Value.bool (decide (1073741824 < r12.1)))) (w' := w5) rfl rfl rfl (x_pickF (v := (Value.bool (decide (1073741824 < r12.1)))) rfl rfl hc26 rfl) ?_
          refine wpR_nil ?_
          exact ⟨(), ⟨(by rw [hc26]; rfl), e1, e2, e3, e4, e5, e13, e14, e15, trivial⟩, rfl⟩
      rintro _ ρ wj ⟨e76, e1, e2, e3, e4, e5, e13, e14, e15, -⟩ rfl
      refine wpR_nil ?_
      refine wpC_cond (b := (decide (r12.1 < p1)) || (decide (1073741824 < r12.1))) e76 (fun hc27 => ?_) (fun hc27 => ?_)
      · replace h := h.1 hc27
        refine wpC_seq ?_
        refine wpC_region ?_
        refine wpR_val (v := (Value.bool false)) (w' := w5) rfl rfl rfl (x_assign (v := (Value.bool false)) rfl rfl) ?_
        refine wpR_nil ?_
        refine wpC_ret ?_
        exact ⟨.inl rfl, fun a ha => ⟨_, results_rep1 rfl ha rfl, false, rfl, h⟩⟩
      · replace h := h.2 hc27
        refine wpC_skip ?_
        refine wpC_seq ?_
        refine wpC_region ?_
        obtain ⟨x28, q28, h⟩ := h
        obtain ⟨x29, q29, h⟩ := h
        refine wpR_val (v := (Value.agg #[(Value.int .i64 x28), (Value.int .i64 x29)])) (w' := w5) rfl rfl rfl (x_loadN [(Value.int .i64 x28), (Value.int .i64 x29)] rfl e14 SH_24 (CellsAt.out (CellsAt.cons q28 (CellsAt.cons q29 CellsAt.nil)))) ?_
        refine wpR_val (v := (Value.int .i64 p2)) (w' := w5) rfl rfl rfl (x_move (v := (Value.int .i64 p2)) rfl e2) ?_
        refine wpR_val (v := (Value.int .i64 p3)) (w' := w5) rfl rfl rfl (x_move (v := (Value.int .i64 p3)) rfl e3) ?_
        refine wpR_val (v := (Value.int .i64 r12.1)) (w' := w5) rfl rfl rfl (x_move (v := (Value.int .i64 r12.1)) rfl e15) ?_
        refine wpR_val (v := (Value.int .i64 p4)) (w' := w5) rfl rfl rfl (x_move (v := (Value.int .i64 p4)) rfl e4) ?_
        refine wpR_enter rfl rfl rfl (x_call (vs := [(Value.agg #[(Value.int .i64 x28), (Value.int .i64 x29)]), (Value.int .i64 p2), (Value.int .i64 p3), (Value.int .i64 r12.1), (Value.int .i64 p4)]) rfl rfl (by rfl) Try.func8 NN_8 NB_8) (Calls.mono h ?_)
        rintro _ w9 ⟨r30, rfl, h⟩
        refine ⟨_, rfl, ?_⟩
        refine wpR_val (v := (Value.tuple #[(Value.agg #[(Value.int .i64 r30.1), (Value.int .i64 r30.2.1)]), (Value.int .i64 r30.2.2)])) (w' := w9) rfl rfl rfl (x_move (v := (Value.tuple #[(Value.agg #[(Value.int .i64 r30.1), (Value.int .i64 r30.2.1)]), (Value.int .i64 r30.2.2)])) rfl rfl) ?_
        refine wpR_val (v := (Value.agg #[(Value.int .i64 r30.1), (Value.int .i64 r30.2.1)])) (w' := w9) rfl rfl rfl (x_extract rfl rfl rfl) ?_
        refine wpR_val (v := (Value.int .i64 r30.2.2)) (w' := w9) rfl rfl rfl (x_extract rfl rfl rfl) ?_
        obtain ⟨b31, hb31⟩ : ∃ u, u = w9.heap.size := ⟨_, rfl⟩
        obtain ⟨w10, hw31⟩ : ∃ u, u = w9.alloc (.cells #[(Value.int .i64 0), (Value.int .i64 0)] 24) := ⟨_, rfl⟩
        replace h := h b31 w10 hb31 hw31
        refine wpR_val (v := (Value.pointer (some (Addr.mk b31 0 none)))) (w' := w10) rfl rfl rfl ((x_alloc rfl ZV_24).trans (by rw [hb31, hw31]; rfl)) ?_
        obtain ⟨q32, h⟩ := h
        obtain ⟨w11, hw32⟩ : ∃ u, u = setAll w10 (Addr.mk b31 0 none) [(Value.int .i64 r30.1), (Value.int .i64 r30.2.1)] 0 := ⟨_, rfl⟩
        replace h := h w11 hw32
        refine wpR_skp (w' := w11) rfl rfl ((x_store (v := (Value.agg #[(Value.int .i64 r30.1), (Value.int .i64 r30.2.1)])) rfl rfl rfl SZ_24 (ones (by rfl)) q32).trans (by rw [hw32]; rfl)) ?_
        refine wpR_val (v := (Value.int .i64 r30.2.2)) (w' := w11) rfl rfl rfl (x_assign (v := (Value.int .i64 r30.2.2)) rfl rfl) ?_
        refine wpR_nil ?_
        refine wpC_seq ?_
        refine wpC_cut (fun ρ => ρ 1 = (Value.int .i64 p1) ∧ ρ 2 = (Value.int .i64 p2) ∧ ρ 3 = (Value.int .i64 p3) ∧ ρ 4 = (Value.int .i64 p4) ∧ ρ 5 = (Value.int .i64 p5) ∧ ρ 13 = (Value.bool r1) ∧ ρ 14 = (Value.pointer (some (Addr.mk b2 0 none))) ∧ ρ 15 = (Value.int .i64 r12.1) ∧ ρ 20 = (Value.int .i64 r30.2.2) ∧ True) ⟨e1, e2, e3, e4, e5, e13, e14, e15, rfl, trivial⟩ ?_
        rintro ρ ⟨e1, e2, e3, e4, e5, e13, e14, e15, e20, -⟩
        refine wpC_region ?_
        obtain ⟨x33, q33, h⟩ := h
        obtain ⟨x34, q34, h⟩ := h
        refine wpR_val (v := (Value.agg #[(Value.int .i64 x33), (Value.int .i64 x34)])) (w' := w11) rfl rfl rfl (x_loadN [(Value.int .i64 x33), (Value.int .i64 x34)] rfl e14 SH_24 (CellsAt.out (CellsAt.cons q33 (CellsAt.cons q34 CellsAt.nil)))) ?_
        refine wpR_val (v := (Value.int .i64 p2)) (w' := w11) rfl rfl rfl (x_move (v := (Value.int .i64 p2)) rfl e2) ?_
        refine wpR_val (v := (Value.int .i64 p3)) (w' := w11) rfl rfl rfl (x_move (v := (Value.int .i64 p3)) rfl e3) ?_
        refine wpR_val (v := (Value.int .i64 r12.1)) (w' := w11) rfl rfl rfl (x_move (v := (Value.int .i64 r12.1)) rfl e15) ?_
        refine wpR_val (v := (Value.int .i64 (IntKind.i64.wrap (r12.1 - 1)))) (w' := w11) rfl rfl rfl (x_sub rfl rfl rfl) ?_
        refine wpR_val (v := (Value.int .i64 p1)) (w' := w11) rfl rfl rfl (x_move (v := (Value.int .i64 p1)) rfl e1) ?_
        refine wpR_val (v := (Value.int .i64 (max (IntKind.i64.wrap (r12.1 - 1)) p1))) (w' := w11) rfl rfl rfl (x_max rfl rfl rfl) ?_
        refine wpR_val (v := (Value.int .i64 p4)) (w' := w11) rfl rfl rfl (x_move (v := (Value.int .i64 p4)) rfl e4) ?_
        refine wpR_enter rfl rfl rfl (x_call (vs := [(Value.agg #[(Value.int .i64 x33), (Value.int .i64 x34)]), (Value.int .i64 p2), (Value.int .i64 p3), (Value.int .i64 (max (IntKind.i64.wrap (r12.1 - 1)) p1)), (Value.int .i64 p4)]) rfl rfl (by rfl) Try.func8 NN_8 NB_8) (Calls.mono h ?_)
        rintro _ w12 ⟨r35, rfl, h⟩
        refine ⟨_, rfl, ?_⟩
        refine wpR_val (v := (Value.tuple #[(Value.agg #[(Value.int .i64 r35.1), (Value.int .i64 r35.2.1)]), (Value.int .i64 r35.2.2)])) (w' := w12) rfl rfl rfl (x_move (v := (Value.tuple #[(Value.agg #[(Value.int .i64 r35.1), (Value.int .i64 r35.2.1)]), (Value.int .i64 r35.2.2)])) rfl rfl) ?_
        refine wpR_val (v := (Value.agg #[(Value.int .i64 r35.1), (Value.int .i64 r35.2.1)])) (w' := w12) rfl rfl rfl (x_extract rfl rfl rfl) ?_
        refine wpR_val (v := (Value.int .i64 r35.2.2)) (w' := w12) rfl rfl rfl (x_extract rfl rfl rfl) ?_
        obtain ⟨b36, hb36⟩ : ∃ u, u = w12.heap.size := ⟨_, rfl⟩
        obtain ⟨w13, hw36⟩ : ∃ u, u = w12.alloc (.cells #[(Value.int .i64 0), (Value.int .i64 0)] 24) := ⟨_, rfl⟩
        replace h := h b36 w13 hb36 hw36
        refine wpR_val (v := (Value.pointer (some (Addr.mk b36 0 none)))) (w' := w13) rfl rfl rfl ((x_alloc rfl ZV_24).trans (by rw [hb36, hw36]; rfl)) ?_
        obtain ⟨q37, h⟩ := h
        obtain ⟨w14, hw37⟩ : ∃ u, u = setAll w13 (Addr.mk b36 0 none) [(Value.int .i64 r35.1), (Value.int .i64 r35.2.1)] 0 := ⟨_, rfl⟩
        replace h := h w14 hw37
        refine wpR_skp (w' := w14) rfl rfl ((x_store (v := (Value.agg #[(Value.int .i64 r35.1), (Value.int .i64 r35.2.1)])) rfl rfl rfl SZ_24 (ones (by rfl)) q37).trans (by rw [hw37]; rfl)) ?_
        refine wpR_val (v := (Value.int .i64 r35.2.2)) (w' := w14) rfl rfl rfl (x_assign (v := (Value.int .i64 r35.2.2)) rfl rfl) ?_
        refine wpR_nil ?_
        refine wpC_seq ?_
        refine wpC_seq ?_
        refine wpC_cut (fun ρ => ρ 1 = (Value.int .i64 p1) ∧ ρ 2 = (Value.int .i64 p2) ∧ ρ 3 = (Value.int .i64 p3) ∧ ρ 4 = (Value.int .i64 p4) ∧ ρ 5 = (Value.int .i64 p5) ∧ ρ 13 = (Value.bool r1) ∧ ρ 14 = (Value.pointer (some (Addr.mk b2 0 none))) ∧ ρ 15 = (Value.int .i64 r12.1) ∧ ρ 20 = (Value.int .i64 r30.2.2) ∧ ρ 22 = (Value.int .i64 r35.2.2) ∧ True) ⟨e1, e2, e3, e4, e5, e13, e14, e15, e20, rfl, trivial⟩ ?_
        rintro ρ ⟨e1, e2, e3, e4, e5, e13, e14, e15, e20, e22, -⟩
        refine wpC_region ?_
        refine wpR_val (v := (Value.int .i64 r30.2.2)) (w' := w14) rfl rfl rfl (x_move (v := (Value.int .i64 r30.2.2)) rfl e20) ?_
        refine wpR_val (v := (Value.bool (!decide (r30.2.2 = 0)))) (w' := w14) rfl rfl rfl (x_neq rfl rfl rfl) ?_
        refine wpR_val (v := (Value.bool (!decide (r30.2.2 = 0)))) (w' := w14) rfl rfl rfl (x_move (v := (Value.bool (!decide (r30.2.2 = 0)))) rfl rfl) ?_
        refine wpR_joinJ 7 (fun (_ : Unit) ρ => ρ 107 = Value.bool ((!decide (r30.2.2 = 0)) || (!((decide (r35.2.2 = 0)) == (decide (r12.1 = p1))))) ∧ ρ 1 = (Value.int .i64 p1) ∧ ρ 2 = (Value.int .i64 p2) ∧ ρ 3 = (Value.int .i64 p3) ∧ ρ 4 = (Value.int .i64 p4) ∧ ρ 5 = (Value.int .i64 p5) ∧ ρ 13 = (Value.bool r1) ∧ ρ 14 = (Value.pointer (some (Addr.mk b2 0 none))) ∧ ρ 15 = (Value.int .i64 r12.1) ∧ True) (fun _ w => w14 = w) ?_ ?_
        · clear h
          rcases Bool.eq_false_or_eq_true (!decide (r30.2.2 = 0)) with hc39 | hc39
          · skip
            refine wpR_pass (wantN rfl rfl rfl hc39) rfl rfl ?_
            refine wpR_pass (wantN rfl rfl rfl hc39) rfl rfl ?_
            refine wpR_pass (wantN rfl rfl rfl hc39) rfl rfl ?_
            refine wpR_pass (wantN rfl rfl rfl hc39) rfl rfl ?_
            refine wpR_pass (wantN rfl rfl rfl hc39) rfl rfl ?_
            refine wpR_pass (wantN rfl rfl rfl hc39) rfl rfl ?_
            refine wpR_val (v := (Value.bool true)) (w' := w14) rfl rfl rfl (x_pickT (v := (Value.bool true)) rfl rfl hc39 rfl) ?_
            refine wpR_nil ?_
            exact ⟨(), ⟨(by rw [hc39]; rfl), e1, e2, e3, e4, e5, e13, e14, e15, trivial⟩, rfl⟩
          · skip
            refine wpR_val (v := (Value.int .i64 r35.2.2)) (w' := w14) (wantG rfl rfl rfl hc39) rfl rfl (x_move (v := (Value.int .i64 r35.2.2)) rfl e22) ?_
            refine wpR_val (v := (Value.bool (decide (r35.2.2 = 0)))) (w' := w14) (wantG rfl rfl rfl hc39) rfl rfl (x_eql rfl rfl rfl) ?_
            refine wpR_val (v := (Value.int .i64 r12.1)) (w' := w14) (wantG rfl rfl rfl hc39) rfl rfl (x_move (v := (Value.int .i64 r12.1)) rfl e15) ?_
            refine wpR_val (v := (Value.int .i64 p1)) (w' := w14) (wantG rfl rfl rfl hc39) rfl rfl (x_move (v := (Value.int .i64 p1)) rfl e1) ?_
            refine wpR_val (v := (Value.bool (decide (r12.1 = p1)))) (w' := w14) (wantG rfl rfl rfl hc39) rfl rfl (x_eql rfl rfl rfl) ?_
            refine wpR_val (v := (Value.bool (!((decide (r35.2.2 = 0)) == (decide (r12.1 = p1)))))) (w' := w14) (wantG rfl rfl rfl hc39) rfl rfl (x_neqB rfl rfl rfl isBoolT_4) ?_
            refine wpR_val (v := (Value.bool (!((decide (r35.2.2 = 0)) == (decide (r12.1 = p1)))))) (w' := w14) rfl rfl rfl (x_pickF (v := (Value.bool (!((decide (r35.2.2 = 0)) == (decide (r12.1 = p1)))))) rfl rfl hc39 rfl) ?_
            refine wpR_nil ?_
            exact ⟨(), ⟨(by rw [hc39]; rfl), e1, e2, e3, e4, e5, e13, e14, e15, trivial⟩, rfl⟩
        rintro _ ρ wj ⟨e107, e1, e2, e3, e4, e5, e13, e14, e15, -⟩ rfl
        refine wpR_nil ?_
        refine wpC_cond (b := (!decide (r30.2.2 = 0)) || (!((decide (r35.2.2 = 0)) == (decide (r12.1 = p1))))) e107 (fun hc40 => ?_) (fun hc40 => ?_)
        · replace h := h.1 hc40
          refine wpC_seq ?_
          refine wpC_region ?_
          refine wpR_val (v := (Value.bool false)) (w' := w14) rfl rfl rfl (x_assign (v := (Value.bool false)) rfl rfl) ?_
          refine wpR_nil ?_
          refine wpC_ret ?_
          exact ⟨.inl rfl, fun a ha => ⟨_, results_rep1 rfl ha rfl, false, rfl, h⟩⟩
        · replace h := h.2 hc40
          refine wpC_skip ?_
          refine wpC_seq ?_
          refine wpC_seq ?_
          refine wpC_region ?_
          refine wpR_val (v := (Value.int .i64 p5)) (w' := w14) rfl rfl rfl (x_move (v := (Value.int .i64 p5)) rfl e5) ?_
          refine wpR_val (v := (Value.int .i64 p1)) (w' := w14) rfl rfl rfl (x_move (v := (Value.int .i64 p1)) rfl e1) ?_
          refine wpR_val (v := (Value.bool (decide (p5 < p1)))) (w' := w14) rfl rfl rfl (x_lss rfl rfl rfl) ?_
          refine wpR_val (v := (Value.bool (decide (p5 < p1)))) (w' := w14) rfl rfl rfl (x_move (v := (Value.bool (decide (p5 < p1)))) rfl rfl) ?_
          refine wpR_joinJ 3 (fun (_ : Unit) ρ => ρ 114 = Value.bool ((decide (p5 < p1)) || (decide (1073741824 < p5))) ∧ ρ 2 = (Value.int .i64 p2) ∧ ρ 3 = (Value.int .i64 p3) ∧ ρ 4 = (Value.int .i64 p4) ∧ ρ 5 = (Value.int .i64 p5) ∧ ρ 13 = (Value.bool r1) ∧ ρ 14 = (Value.pointer (some (Addr.mk b2 0 none))) ∧ ρ 15 = (Value.int .i64 r12.1) ∧ True) (fun _ w => w14 = w) ?_ ?_
          · clear h
            rcases Bool.eq_false_or_eq_true (decide (p5 < p1)) with hc42 | hc42
            · skip
              refine wpR_pass (wantN rfl rfl rfl hc42) rfl rfl ?_
              refine wpR_pass (wantN rfl rfl rfl hc42) rfl rfl ?_
              refine wpR_val (v := (Value.bool true)) (w' := w14) rfl rfl rfl (x_pickT (v := (Value.bool true)) rfl rfl hc42 rfl) ?_
              refine wpR_nil ?_
              exact ⟨(), ⟨(by rw [hc42]; rfl), e2, e3, e4, e5, e13, e14, e15, trivial⟩, rfl⟩
            · skip
              refine wpR_val (v := (Value.int .i64 p5)) (w' := w14) (wantG rfl rfl rfl hc42) rfl rfl (x_move (v := (Value.int .i64 p5)) rfl e5) ?_
              refine wpR_val (v := (Value.bool (decide (1073741824 < p5)))) (w' := w14) (wantG rfl rfl rfl hc42) rfl rfl (x_gtr rfl rfl rfl) ?_
              refine wpR_val (v := (Value.bool (decide (1073741824 < p5)))) (w' := w14) rfl rfl rfl (x_pickF (v := (Value.bool (decide (1073741824 < p5)))) rfl rfl hc42 rfl) ?_
              refine wpR_nil ?_
              exact ⟨(), ⟨(by rw [hc42]; rfl), e2, e3, e4, e5, e13, e14, e15, trivial⟩, rfl⟩
          rintro _ ρ wj ⟨e114, e2, e3, e4, e5, e13, e14, e15, -⟩ rfl
          refine wpR_nil ?_
          refine wpC_cond (b := (decide (p5 < p1)) || (decide (1073741824 < p5))) e114 (fun hc43 => ?_) (fun hc43 => ?_)
          · replace h := h.1 hc43
            refine wpC_seq ?_
            refine wpC_region ?_
            refine wpR_val (v := (Value.bool r1)) (w' := w14) rfl rfl rfl (x_move (v := (Value.bool r1)) rfl e13) ?_
            refine wpR_val (v := (Value.bool r1)) (w' := w14) rfl rfl rfl (x_assign (v := (Value.bool r1)) rfl rfl) ?_
            refine wpR_nil ?_
            refine wpC_ret ?_
            exact ⟨.inl rfl, fun a ha => ⟨_, results_rep1 rfl ha rfl, r1, rfl, h⟩⟩
          · replace h := h.2 hc43
            refine wpC_skip ?_
            refine wpC_seq ?_
            refine wpC_region ?_
            obtain ⟨x44, q44, h⟩ := h
            obtain ⟨x45, q45, h⟩ := h
            refine wpR_val (v := (Value.agg #[(Value.int .i64 x44), (Value.int .i64 x45)])) (w' := w14) rfl rfl rfl (x_loadN [(Value.int .i64 x44), (Value.int .i64 x45)] rfl e14 SH_24 (CellsAt.out (CellsAt.cons q44 (CellsAt.cons q45 CellsAt.nil)))) ?_
            refine wpR_val (v := (Value.int .i64 p2)) (w' := w14) rfl rfl rfl (x_move (v := (Value.int .i64 p2)) rfl e2) ?_
            refine wpR_val (v := (Value.int .i64 p3)) (w' := w14) rfl rfl rfl (x_move (v := (Value.int .i64 p3)) rfl e3) ?_
            refine wpR_val (v := (Value.int .i64 p5)) (w' := w14) rfl rfl rfl (x_move (v := (Value.int .i64 p5)) rfl e5) ?_
            refine wpR_val (v := (Value.int .i64 p4)) (w' := w14) rfl rfl rfl (x_move (v := (Value.int .i64 p4)) rfl e4) ?_
            refine wpR_enter rfl rfl rfl (x_call (vs := [(Value.agg #[(Value.int .i64 x44), (Value.int .i64 x45)]), (Value.int .i64 p2), (Value.int .i64 p3), (Value.int .i64 p5), (Value.int .i64 p4)]) rfl rfl (by rfl) Try.func8 NN_8 NB_8) (Calls.mono h ?_)
            rintro _ w15 ⟨r46, rfl, h⟩
            refine ⟨_, rfl, ?_⟩
            refine wpR_val (v := (Value.tuple #[(Value.agg #[(Value.int .i64 r46.1), (Value.int .i64 r46.2.1)]), (Value.int .i64 r46.2.2)])) (w' := w15) rfl rfl rfl (x_move (v := (Value.tuple #[(Value.agg #[(Value.int .i64 r46.1), (Value.int .i64 r46.2.1)]), (Value.int .i64 r46.2.2)])) rfl rfl) ?_
            refine wpR_val (v := (Value.agg #[(Value.int .i64 r46.1), (Value.int .i64 r46.2.1)])) (w' := w15) rfl rfl rfl (x_extract rfl rfl rfl) ?_
            refine wpR_val (v := (Value.int .i64 r46.2.2)) (w' := w15) rfl rfl rfl (x_extract rfl rfl rfl) ?_
            obtain ⟨b47, hb47⟩ : ∃ u, u = w15.heap.size := ⟨_, rfl⟩
            obtain ⟨w16, hw47⟩ : ∃ u, u = w15.alloc (.cells #[(Value.int .i64 0), (Value.int .i64 0)] 24) := ⟨_, rfl⟩
            replace h := h b47 w16 hb47 hw47
            refine wpR_val (v := (Value.pointer (some (Addr.mk b47 0 none)))) (w' := w16) rfl rfl rfl ((x_alloc rfl ZV_24).trans (by rw [hb47, hw47]; rfl)) ?_
            obtain ⟨q48, h⟩ := h
            obtain ⟨w17, hw48⟩ : ∃ u, u = setAll w16 (Addr.mk b47 0 none) [(Value.int .i64 r46.1), (Value.int .i64 r46.2.1)] 0 := ⟨_, rfl⟩
            replace h := h w17 hw48
            refine wpR_skp (w' := w17) rfl rfl ((x_store (v := (Value.agg #[(Value.int .i64 r46.1), (Value.int .i64 r46.2.1)])) rfl rfl rfl SZ_24 (ones (by rfl)) q48).trans (by rw [hw48]; rfl)) ?_
            refine wpR_val (v := (Value.int .i64 r46.2.2)) (w' := w17) rfl rfl rfl (x_assign (v := (Value.int .i64 r46.2.2)) rfl rfl) ?_
            refine wpR_nil ?_
            refine wpC_seq ?_
            refine wpC_cut (fun ρ => ρ 5 = (Value.int .i64 p5) ∧ ρ 13 = (Value.bool r1) ∧ ρ 15 = (Value.int .i64 r12.1) ∧ ρ 24 = (Value.int .i64 r46.2.2) ∧ True) ⟨e5, e13, e15, rfl, trivial⟩ ?_
            rintro ρ ⟨e5, e13, e15, e24, -⟩
            refine wpC_region ?_
            refine wpR_val (v := (Value.bool r1)) (w' := w17) rfl rfl rfl (x_move (v := (Value.bool r1)) rfl e13) ?_
            refine wpR_val (v := (Value.bool r1)) (w' := w17) rfl rfl rfl (x_move (v := (Value.bool r1)) rfl rfl) ?_
            refine wpR_joinJ 7 (fun (_ : Unit) ρ => ρ 133 = Value.bool (r1 && ((decide (r46.2.2 = 0)) == (decide (r12.1 ≤ p5)))) ∧ True) (fun _ w => w17 = w) ?_ ?_
            · clear h
              rcases Bool.eq_false_or_eq_true (r1) with hc50 | hc50
              · skip
                refine wpR_val (v := (Value.int .i64 r46.2.2)) (w' := w17) (wantG rfl rfl rfl hc50) rfl rfl (x_move (v := (Value.int .i64 r46.2.2)) rfl e24) ?_
                refine wpR_val (v := (Value.bool (decide (r46.2.2 = 0)))) (w' := w17) (wantG rfl rfl rfl hc50) rfl rfl (x_eql rfl rfl rfl) ?_
                refine wpR_val (v := (Value.int .i64 p5)) (w' := w17) (wantG rfl rfl rfl hc50) rfl rfl (x_move (v := (Value.int .i64 p5)) rfl e5) ?_
                refine wpR_val (v := (Value.int .i64 r12.1)) (w' := w17) (wantG rfl rfl rfl hc50) rfl rfl (x_move (v := (Value.int .i64 r12.1)) rfl e15) ?_
                refine wpR_val (v := (Value.bool (decide (r12.1 ≤ p5)))) (w' := w17) (wantG rfl rfl rfl hc50) rfl rfl (x_geq rfl rfl rfl) ?_
                refine wpR_val (v := (Value.bool ((decide (r46.2.2 = 0)) == (decide (r12.1 ≤ p5))))) (w' := w17) (wantG rfl rfl rfl hc50) rfl rfl (x_eqlB rfl rfl rfl isBoolT_4) ?_
                refine wpR_val (v := (Value.bool ((decide (r46.2.2 = 0)) == (decide (r12.1 ≤ p5))))) (w' := w17) rfl rfl rfl (x_pickT (v := (Value.bool ((decide (r46.2.2 = 0)) == (decide (r12.1 ≤ p5))))) rfl rfl hc50 rfl) ?_
                refine wpR_nil ?_
                exact ⟨(), ⟨(by rw [hc50]; rfl), trivial⟩, rfl⟩
              · skip
                refine wpR_pass (wantN rfl rfl rfl hc50) rfl rfl ?_
                refine wpR_pass (wantN rfl rfl rfl hc50) rfl rfl ?_
                refine wpR_pass (wantN rfl rfl rfl hc50) rfl rfl ?_
                refine wpR_pass (wantN rfl rfl rfl hc50) rfl rfl ?_
                refine wpR_pass (wantN rfl rfl rfl hc50) rfl rfl ?_
                refine wpR_pass (wantN rfl rfl rfl hc50) rfl rfl ?_
                refine wpR_val (v := (Value.bool false)) (w' := w17) rfl rfl rfl (x_pickF (v := (Value.bool false)) rfl rfl hc50 rfl) ?_
                refine wpR_nil ?_
                exact ⟨(), ⟨(by rw [hc50]; rfl), trivial⟩, rfl⟩
            rintro _ ρ wj ⟨e133, -⟩ rfl
            refine wpR_val (v := (Value.bool (r1 && ((decide (r46.2.2 = 0)) == (decide (r12.1 ≤ p5)))))) (w' := w17) rfl rfl rfl (x_assign (v := (Value.bool (r1 && ((decide (r46.2.2 = 0)) == (decide (r12.1 ≤ p5)))))) rfl e133) ?_
            refine wpR_nil ?_
            refine wpC_ret ?_
            exact ⟨.inl rfl, fun a ha => ⟨_, results_rep1 rfl ha rfl, r1 && ((decide (r46.2.2 = 0)) == (decide (r12.1 ≤ p5))), rfl, h⟩⟩


end Go.Proofs.Ytpdemlicnocbkaa
