import Derived.Test.YtmnhehklhelpeaaRows
import Derived.Test.YtmnhehklhelpeaaFs1
import Derived.Test.YtmnhehklhelpeaaDecRaw
namespace Go.Proofs.Ytmnhehklhelpeaa
open Go.Dec
set_option maxHeartbeats 400000
set_option maxRecDepth 100000

/-- lingualaw45.SealedOpens -/
def F5 (p0 : Sl) (p1 : ByteArray) (p2 : Int) (p3 : Int) (p4 : Int) (p5 : Int) (p6 : Int) (w0 : World) (K : Bool → World → Prop) : Prop :=
  callC Try.prog 7 #[] (fun (r : Bool) => (Value.bool r)) w0 fun r9 w1 =>
  callC Try.prog 16 #[(Sl.v p0)] (fun (r : Bool) => (Value.bool r)) w1 fun r10 w2 =>
  cnd ((!r10) || (decide (200 < (p1.size : Int))))
    (
    K r9 w2
    )
    (
    callC Try.prog 17 #[(Sl.v p0), (Value.string p1), (Value.int .i64 p2), (Value.int .i64 p3), (Value.int .i64 p4)] (fun (r : (Option Addr) × Int × Sl × Int) => (Value.tuple #[(Value.pointer r.1), (Value.int .i64 r.2.1), (Sl.v r.2.2.1), (Value.int .i64 r.2.2.2)])) w2 fun r14 w3 =>
    cnd ((((decide (p3 < 1)) || (decide (20 < p3))) || (decide (p2 < 1))) || (decide (p3 < p2)))
      (
      K (((r9 && (decide (r14.2.2.2 = 1))) && (decide ((r14.2.2.1.len : Int) = 0))) && (!r14.1.isNone)) w3
      )
      (
      cnd ((r14.1.isNone || (!decide (r14.2.2.2 = 0))) || (!decide ((r14.2.2.1.len : Int) = p3)))
        (
        K false w3
        )
        (
        callC Try.prog 18 #[(Sl.v r14.2.2.1), (Value.int .u32 p5)] (fun (r : Sl) => (Sl.v r)) w3 fun r33 w4 =>
        callC Try.prog 10 #[(Value.pointer r14.1), (Value.int .i64 r14.2.1), (Sl.v r33)] (fun (r : ByteArray × Int) => (Value.tuple #[(Value.string r.1), (Value.int .i64 r.2)])) w4 fun r34 w5 =>
        cnd (((decide ((r33.len : Int) < p2)) && ((!decide (r34.2 = 20)) || (!beqS r34.1 (ByteArray.mk #[])))) || ((decide (p2 ≤ (r33.len : Int))) && ((!decide (r34.2 = 0)) || (!beqS r34.1 p1))))
          (
          K false w5
          )
          (
          jn (fun J74 => cnd (((decide ((r33.len : Int) < p2)) && (decide (0 ≤ p6))) && (decide (p6 < 2147483647)))
            (
            callC Try.prog 19 #[(Sl.v r33), (Value.int .i64 p2), (Value.int .i64 p6)] (fun (r : Bool) => (Value.bool r)) w5 fun r76 w6 =>
            J74 (!r76) w6
            )
            (
            J74 false w5
            ))
          fun c77 w7 =>
          cnd (c77)
            (
            K false w7
            )
            (
            callC Try.prog 10 #[(Value.pointer r14.1), (Value.int .i64 r14.2.1), (Sl.v r14.2.2.1)] (fun (r : ByteArray × Int) => (Value.tuple #[(Value.string r.1), (Value.int .i64 r.2)])) w7 fun r79 w8 =>
            callC Try.prog 14 #[(Value.pointer r14.1), (Value.int .i64 r14.2.1)] (fun (r : Int) => (Value.int .i64 r)) w8 fun r80 w9 =>
            callC Try.prog 10 #[(Value.pointer r14.1), (Value.int .i64 r14.2.1), (Sl.v r14.2.2.1)] (fun (r : ByteArray × Int) => (Value.tuple #[(Value.string r.1), (Value.int .i64 r.2)])) w9 fun r81 w10 =>
            callC Try.prog 14 #[(Value.pointer r14.1), (Value.int .i64 r14.2.1)] (fun (r : Int) => (Value.int .i64 r)) w10 fun r82 w11 =>
            jn (fun J95 => cnd ((((((r9 && (beqS r79.1 p1)) && (decide (r79.2 = 0))) && (decide (r80 = 0))) && (decide (r81.2 = 13))) && (beqS r81.1 (ByteArray.mk #[]))) && (decide (r82 = 5)))
              (
              callC Try.prog 15 #[(Value.pointer r14.1)] (fun (r : Int) => (Value.int .i64 r)) w11 fun r97 w12 =>
              J95 (decide (r97 = (IntKind.i64.wrap ((IntKind.i64.wrap (2 * (p0.len : Int))) + 1)))) w12
              )
              (
              J95 false w11
              ))
            fun c98 w13 =>
            K c98 w13
            )
          )
        )
      )
    )
set_option maxRecDepth 100000 in
theorem D5 (p0 : Sl) (p1 : ByteArray) (p2 : Int) (p3 : Int) (p4 : Int) (p5 : Int) (p6 : Int) (w0 : World) (K : Bool → World → Prop) (h : F5 p0 p1 p2 p3 p4 p5 p6 w0 K) : callC Try.prog 5 #[(Sl.v p0), (Value.string p1), (Value.int .i64 p2), (Value.int .i64 p3), (Value.int .i64 p4), (Value.int .u32 p5), (Value.int .i64 p6)] (fun (r : Bool) => (Value.bool r)) w0 K := by
  unfold F5 at h
  refine calls_of_wpC Try.func5 rfl 202 rfl (by simp) ?_
  intro ρ hρ
  have e0 : ρ 0 = (Sl.v p0) := hρ 0
  have e1 : ρ 1 = (Value.string p1) := hρ 1
  have e2 : ρ 2 = (Value.int .i64 p2) := hρ 2
  have e3 : ρ 3 = (Value.int .i64 p3) := hρ 3
  have e4 : ρ 4 = (Value.int .i64 p4) := hρ 4
  have e5 : ρ 5 = (Value.int .u32 p5) := hρ 5
  have e6 : ρ 6 = (Value.int .i64 p6) := hρ 6
  clear hρ
  refine wpC_seq ?_
  refine wpC_region ?_
  refine wpR_val (v := (Value.bool false)) (w' := w0) rfl rfl rfl (x_assign (v := (Value.bool false)) rfl rfl) ?_
  refine wpR_nil ?_
  refine wpC_seq ?_
  refine wpC_cut (fun ρ => ρ 0 = (Sl.v p0) ∧ ρ 1 = (Value.string p1) ∧ ρ 2 = (Value.int .i64 p2) ∧ ρ 3 = (Value.int .i64 p3) ∧ ρ 4 = (Value.int .i64 p4) ∧ ρ 5 = (Value.int .u32 p5) ∧ ρ 6 = (Value.int .i64 p6) ∧ True) ⟨e0, e1, e2, e3, e4, e5, e6, trivial⟩ ?_
  rintro ρ ⟨e0, e1, e2, e3, e4, e5, e6, -⟩
  refine wpC_region ?_
  refine wpR_enter rfl rfl rfl (x_call (vs := []) rfl rfl mapl_nil Try.func7 NN_7 NB_7) (Calls.mono h ?_)
  rintro _ w1 ⟨r9, rfl, h⟩
  refine ⟨_, rfl, ?_⟩
  refine wpR_val (v := (Value.bool r9)) (w' := w1) rfl rfl rfl (x_assign (v := (Value.bool r9)) rfl rfl) ?_
  refine wpR_nil ?_
  refine wpC_seq ?_
  refine wpC_seq ?_
  refine wpC_cut (fun ρ => ρ 0 = (Sl.v p0) ∧ ρ 1 = (Value.string p1) ∧ ρ 2 = (Value.int .i64 p2) ∧ ρ 3 = (Value.int .i64 p3) ∧ ρ 4 = (Value.int .i64 p4) ∧ ρ 5 = (Value.int .u32 p5) ∧ ρ 6 = (Value.int .i64 p6) ∧ ρ 15 = (Value.bool r9) ∧ True) ⟨e0, e1, e2, e3, e4, e5, e6, rfl, trivial⟩ ?_
  rintro ρ ⟨e0, e1, e2, e3, e4, e5, e6, e15, -⟩
  refine wpC_region ?_
  refine wpR_val (v := (Sl.v p0)) (w' := w1) rfl rfl rfl (x_move (v := (Sl.v p0)) rfl e0) ?_
  refine wpR_enter rfl rfl rfl (x_call (vs := [(Sl.v p0)]) rfl rfl (mapl_cons rfl mapl_nil) Try.func16 NN_16 NB_16) (Calls.mono h ?_)
  rintro _ w2 ⟨r10, rfl, h⟩
  refine ⟨_, rfl, ?_⟩
  refine wpR_val (v := (Value.bool (!r10))) (w' := w2) rfl rfl rfl (x_not rfl rfl) ?_
  refine wpR_val (v := (Value.bool (!r10))) (w' := w2) rfl rfl rfl (x_move (v := (Value.bool (!r10))) rfl rfl) ?_
  refine wpR_joinJ 4 (fun (_ : Unit) ρ => ρ 37 = Value.bool ((!r10) || (decide (200 < (p1.size : Int)))) ∧ ρ 0 = (Sl.v p0) ∧ ρ 1 = (Value.string p1) ∧ ρ 2 = (Value.int .i64 p2) ∧ ρ 3 = (Value.int .i64 p3) ∧ ρ 4 = (Value.int .i64 p4) ∧ ρ 5 = (Value.int .u32 p5) ∧ ρ 6 = (Value.int .i64 p6) ∧ ρ 15 = (Value.bool r9) ∧ True) (fun _ w => w2 = w) ?_ ?_
  · clear h
    rcases Bool.eq_false_or_eq_true (!r10) with hc12 | hc12
    · skip
      refine wpR_pass (wantN rfl rfl rfl hc12) rfl rfl ?_
      refine wpR_pass (wantN rfl rfl rfl hc12) rfl rfl ?_
      refine wpR_pass (wantN rfl rfl rfl hc12) rfl rfl ?_
      refine wpR_val (v := (Value.bool true)) (w' := w2) rfl rfl rfl (x_pickT (v := (Value.bool true)) rfl rfl hc12 rfl) ?_
      refine wpR_nil ?_
      exact ⟨(), ⟨(by rw [hc12]; rfl), e0, e1, e2, e3, e4, e5, e6, e15, trivial⟩, rfl⟩
    · skip
      refine wpR_val (v := (Value.string p1)) (w' := w2) (wantG rfl rfl rfl hc12) rfl rfl (x_move (v := (Value.string p1)) rfl e1) ?_
      refine wpR_val (v := (Value.int .i64 (p1.size : Int))) (w' := w2) (wantG rfl rfl rfl hc12) rfl rfl (x_lenStr rfl rfl isStrT_9) ?_
      refine wpR_val (v := (Value.bool (decide (200 < (p1.size : Int))))) (w' := w2) (wantG rfl rfl rfl hc12) rfl rfl (x_gtr rfl rfl rfl) ?_
      refine wpR_val (v := (Value.bool (decide (200 < (p1.size : Int))))) (w' := w2) rfl rfl rfl (x_pickF (v := (Value.bool (decide (200 < (p1.size : Int))))) rfl rfl hc12 rfl) ?_
      refine wpR_nil ?_
      exact ⟨(), ⟨(by rw [hc12]; rfl), e0, e1, e2, e3, e4, e5, e6, e15, trivial⟩, rfl⟩
  rintro _ ρ wj ⟨e37, e0, e1, e2, e3, e4, e5, e6, e15, -⟩ rfl
  refine wpR_nil ?_
  refine wpC_cond (b := (!r10) || (decide (200 < (p1.size : Int)))) e37 (fun hc13 => ?_) (fun hc13 => ?_)
  · replace h := h.1 hc13
    refine wpC_seq ?_
    refine wpC_region ?_
    refine wpR_val (v := (Value.bool r9)) (w' := w2) rfl rfl rfl (x_move (v := (Value.bool r9)) rfl e15) ?_
    refine wpR_val (v := (Value.bool r9)) (w' := w2) rfl rfl rfl (x_assign (v := (Value.bool r9)) rfl rfl) ?_
    refine wpR_nil ?_
    refine wpC_ret ?_
    exact ⟨.inl rfl, fun a ha => ⟨_, results_rep1 rfl ha rfl, r9, rfl, h⟩⟩
  · replace h := h.2 hc13
    refine wpC_skip ?_
    refine wpC_seq ?_
    refine wpC_region ?_
    refine wpR_val (v := (Sl.v p0)) (w' := w2) rfl rfl rfl (x_move (v := (Sl.v p0)) rfl e0) ?_
    refine wpR_val (v := (Value.string p1)) (w' := w2) rfl rfl rfl (x_move (v := (Value.string p1)) rfl e1) ?_
    refine wpR_val (v := (Value.int .i64 p2)) (w' := w2) rfl rfl rfl (x_move (v := (Value.int .i64 p2)) rfl e2) ?_
    refine wpR_val (v := (Value.int .i64 p3)) (w' := w2) rfl rfl rfl (x_move (v := (Value.int .i64 p3)) rfl e3) ?_
    refine wpR_val (v := (Value.int .i64 p4)) (w' := w2) rfl rfl rfl (x_move (v := (Value.int .i64 p4)) rfl e4) ?_
    refine wpR_enter rfl rfl rfl (x_call (vs := [(Sl.v p0), (Value.string p1), (Value.int .i64 p2), (Value.int .i64 p3), (Value.int .i64 p4)]) rfl rfl (mapl_cons rfl (mapl_cons rfl (mapl_cons rfl (mapl_cons rfl (mapl_cons rfl mapl_nil))))) Try.func17 NN_17 NB_17) (Calls.mono h ?_)
    rintro _ w3 ⟨r14, rfl, h⟩
    refine ⟨_, rfl, ?_⟩
    refine wpR_val (v := (Value.tuple #[(Value.pointer r14.1), (Value.int .i64 r14.2.1), (Sl.v r14.2.2.1), (Value.int .i64 r14.2.2.2)])) (w' := w3) rfl rfl rfl (x_move (v := (Value.tuple #[(Value.pointer r14.1), (Value.int .i64 r14.2.1), (Sl.v r14.2.2.1), (Value.int .i64 r14.2.2.2)])) rfl rfl) ?_
    refine wpR_val (v := (Value.pointer r14.1)) (w' := w3) rfl rfl rfl (x_extract rfl rfl rfl) ?_
    refine wpR_val (v := (Value.int .i64 r14.2.1)) (w' := w3) rfl rfl rfl (x_extract rfl rfl rfl) ?_
    refine wpR_val (v := (Sl.v r14.2.2.1)) (w' := w3) rfl rfl rfl (x_extract rfl rfl rfl) ?_
    refine wpR_val (v := (Value.int .i64 r14.2.2.2)) (w' := w3) rfl rfl rfl (x_extract rfl rfl rfl) ?_
    refine wpR_val (v := (Value.pointer r14.1)) (w' := w3) rfl rfl rfl (x_assign (v := (Value.pointer r14.1)) rfl rfl) ?_
    refine wpR_val (v := (Value.int .i64 r14.2.1)) (w' := w3) rfl rfl rfl (x_assign (v := (Value.int .i64 r14.2.1)) rfl rfl) ?_
    refine wpR_val (v := (Sl.v r14.2.2.1)) (w' := w3) rfl rfl rfl (x_assign (v := (Sl.v r14.2.2.1)) rfl rfl) ?_
    refine wpR_val (v := (Value.int .i64 r14.2.2.2)) (w' := w3) rfl rfl rfl (x_assign (v := (Value.int .i64 r14.2.2.2)) rfl rfl) ?_
    refine wpR_nil ?_
    refine wpC_seq ?_
    refine wpC_seq ?_
    refine wpC_cut (fun ρ => ρ 0 = (Sl.v p0) ∧ ρ 1 = (Value.string p1) ∧ ρ 2 = (Value.int .i64 p2) ∧ ρ 3 = (Value.int .i64 p3) ∧ ρ 5 = (Value.int .u32 p5) ∧ ρ 6 = (Value.int .i64 p6) ∧ ρ 15 = (Value.bool r9) ∧ ρ 16 = (Value.pointer r14.1) ∧ ρ 17 = (Value.int .i64 r14.2.1) ∧ ρ 18 = (Sl.v r14.2.2.1) ∧ ρ 19 = (Value.int .i64 r14.2.2.2) ∧ True) ⟨e0, e1, e2, e3, e5, e6, e15, rfl, rfl, rfl, rfl, trivial⟩ ?_
    rintro ρ ⟨e0, e1, e2, e3, e5, e6, e15, e16, e17, e18, e19, -⟩
    refine wpC_region ?_
    refine wpR_val (v := (Value.int .i64 p3)) (w' := w3) rfl rfl rfl (x_move (v := (Value.int .i64 p3)) rfl e3) ?_
    refine wpR_val (v := (Value.bool (decide (p3 < 1)))) (w' := w3) rfl rfl rfl (x_lss rfl rfl rfl) ?_
    refine wpR_val (v := (Value.bool (decide (p3 < 1)))) (w' := w3) rfl rfl rfl (x_move (v := (Value.bool (decide (p3 < 1)))) rfl rfl) ?_
    refine wpR_joinJ 3 (fun (_ : Unit) ρ => ρ 55 = Value.bool ((decide (p3 < 1)) || (decide (20 < p3))) ∧ ρ 0 = (Sl.v p0) ∧ ρ 1 = (Value.string p1) ∧ ρ 2 = (Value.int .i64 p2) ∧ ρ 3 = (Value.int .i64 p3) ∧ ρ 5 = (Value.int .u32 p5) ∧ ρ 6 = (Value.int .i64 p6) ∧ ρ 15 = (Value.bool r9) ∧ ρ 16 = (Value.pointer r14.1) ∧ ρ 17 = (Value.int .i64 r14.2.1) ∧ ρ 18 = (Sl.v r14.2.2.1) ∧ ρ 19 = (Value.int .i64 r14.2.2.2) ∧ True) (fun _ w => w3 = w) ?_ ?_
    · clear h
      rcases Bool.eq_false_or_eq_true (decide (p3 < 1)) with hc16 | hc16
      · skip
        refine wpR_pass (wantN rfl rfl rfl hc16) rfl rfl ?_
        refine wpR_pass (wantN rfl rfl rfl hc16) rfl rfl ?_
        refine wpR_val (v := (Value.bool true)) (w' := w3) rfl rfl rfl (x_pickT (v := (Value.bool true)) rfl rfl hc16 rfl) ?_
        refine wpR_nil ?_
        exact ⟨(), ⟨(by rw [hc16]; rfl), e0, e1, e2, e3, e5, e6, e15, e16, e17, e18, e19, trivial⟩, rfl⟩
      · skip
        refine wpR_val (v := (Value.int .i64 p3)) (w' := w3) (wantG rfl rfl rfl hc16) rfl rfl (x_move (v := (Value.int .i64 p3)) rfl e3) ?_
        refine wpR_val (v := (Value.bool (decide (20 < p3)))) (w' := w3) (wantG rfl rfl rfl hc16) rfl rfl (x_gtr rfl rfl rfl) ?_
        refine wpR_val (v := (Value.bool (decide (20 < p3)))) (w' := w3) rfl rfl rfl (x_pickF (v := (Value.bool (decide (20 < p3)))) rfl rfl hc16 rfl) ?_
        refine wpR_nil ?_
        exact ⟨(), ⟨(by rw [hc16]; rfl), e0, e1, e2, e3, e5, e6, e15, e16, e17, e18, e19, trivial⟩, rfl⟩
    rintro _ ρ wj ⟨e55, e0, e1, e2, e3, e5, e6, e15, e16, e17, e18, e19, -⟩ rfl
    refine wpR_val (v := (Value.bool ((decide (p3 < 1)) || (decide (20 < p3))))) (w' := w3) rfl rfl rfl (x_move (v := (Value.bool ((decide (p3 < 1)) || (decide (20 < p3))))) rfl e55) ?_
    refine wpR_joinJ 3 (fun (_ : Unit) ρ => ρ 59 = Value.bool (((decide (p3 < 1)) || (decide (20 < p3))) || (decide (p2 < 1))) ∧ ρ 0 = (Sl.v p0) ∧ ρ 1 = (Value.string p1) ∧ ρ 2 = (Value.int .i64 p2) ∧ ρ 3 = (Value.int .i64 p3) ∧ ρ 5 = (Value.int .u32 p5) ∧ ρ 6 = (Value.int .i64 p6) ∧ ρ 15 = (Value.bool r9) ∧ ρ 16 = (Value.pointer r14.1) ∧ ρ 17 = (Value.int .i64 r14.2.1) ∧ ρ 18 = (Sl.v r14.2.2.1) ∧ ρ 19 = (Value.int .i64 r14.2.2.2) ∧ True) (fun _ w => w3 = w) ?_ ?_
    · clear h
      rcases Bool.eq_false_or_eq_true ((decide (p3 < 1)) || (decide (20 < p3))) with hc18 | hc18
      · skip
        refine wpR_pass (wantN rfl rfl rfl hc18) rfl rfl ?_
        refine wpR_pass (wantN rfl rfl rfl hc18) rfl rfl ?_
        refine wpR_val (v := (Value.bool true)) (w' := w3) rfl rfl rfl (x_pickT (v := (Value.bool true)) rfl rfl hc18 rfl) ?_
        refine wpR_nil ?_
        exact ⟨(), ⟨(by rw [hc18]; rfl), e0, e1, e2, e3, e5, e6, e15, e16, e17, e18, e19, trivial⟩, rfl⟩
      · skip
        refine wpR_val (v := (Value.int .i64 p2)) (w' := w3) (wantG rfl rfl rfl hc18) rfl rfl (x_move (v := (Value.int .i64 p2)) rfl e2) ?_
        refine wpR_val (v := (Value.bool (decide (p2 < 1)))) (w' := w3) (wantG rfl rfl rfl hc18) rfl rfl (x_lss rfl rfl rfl) ?_
        refine wpR_val (v := (Value.bool (decide (p2 < 1)))) (w' := w3) rfl rfl rfl (x_pickF (v := (Value.bool (decide (p2 < 1)))) rfl rfl hc18 rfl) ?_
        refine wpR_nil ?_
        exact ⟨(), ⟨(by rw [hc18]; rfl), e0, e1, e2, e3, e5, e6, e15, e16, e17, e18, e19, trivial⟩, rfl⟩
    rintro _ ρ wj ⟨e59, e0, e1, e2, e3, e5, e6, e15, e16, e17, e18, e19, -⟩ rfl
    refine wpR_val (v := (Value.bool (((decide (p3 < 1)) || (decide (20 < p3))) || (decide (p2 < 1))))) (w' := w3) rfl rfl rfl (x_move (v := (Value.bool (((decide (p3 < 1)) || (decide (20 < p3))) || (decide (p2 < 1))))) rfl e59) ?_
    refine wpR_joinJ 4 (fun (_ : Unit) ρ => ρ 64 = Value.bool ((((decide (p3 < 1)) || (decide (20 < p3))) || (decide (p2 < 1))) || (decide (p3 < p2))) ∧ ρ 0 = (Sl.v p0) ∧ ρ 1 = (Value.string p1) ∧ ρ 2 = (Value.int .i64 p2) ∧ ρ 3 = (Value.int .i64 p3) ∧ ρ 5 = (Value.int .u32 p5) ∧ ρ 6 = (Value.int .i64 p6) ∧ ρ 15 = (Value.bool r9) ∧ ρ 16 = (Value.pointer r14.1) ∧ ρ 17 = (Value.int .i64 r14.2.1) ∧ ρ 18 = (Sl.v r14.2.2.1) ∧ ρ 19 = (Value.int .i64 r14.2.2.2) ∧ True) (fun _ w => w3 = w) ?_ ?_
    · clear h
      rcases Bool.eq_false_or_eq_true (((decide (p3 < 1)) || (decide (20 < p3))) || (decide (p2 < 1))) with hc20 | hc20
      · skip
        refine wpR_pass (wantN rfl rfl rfl hc20) rfl rfl ?_
        refine wpR_pass (wantN rfl rfl rfl hc20) rfl rfl ?_
        refine wpR_pass (wantN rfl rfl rfl hc20) rfl rfl ?_
        refine wpR_val (v := (Value.bool true)) (w' := w3) rfl rfl rfl (x_pickT (v := (Value.bool true)) rfl rfl hc20 rfl) ?_
        refine wpR_nil ?_
        exact ⟨(), ⟨(by rw [hc20]; rfl), e0, e1, e2, e3, e5, e6, e15, e16, e17, e18, e19, trivial⟩, rfl⟩
      · skip
        refine wpR_val (v := (Value.int .i64 p2)) (w' := w3) (wantG rfl rfl rfl hc20) rfl rfl (x_move (v := (Value.int .i64 p2)) rfl e2) ?_
        refine wpR_val (v := (Value.int .i64 p3)) (w' := w3) (wantG rfl rfl rfl hc20) rfl rfl (x_move (v := (Value.int .i64 p3)) rfl e3) ?_
        refine wpR_val (v := (Value.bool (decide (p3 < p2)))) (w' := w3) (wantG rfl rfl rfl hc20) rfl rfl (x_gtr rfl rfl rfl) ?_
        refine wpR_val (v := (Value.bool (decide (p3 < p2)))) (w' := w3) rfl rfl rfl (x_pickF (v := (Value.bool (decide (p3 < p2)))) rfl rfl hc20 rfl) ?_
        refine wpR_nil ?_
        exact ⟨(), ⟨(by rw [hc20]; rfl), e0, e1, e2, e3, e5, e6, e15, e16, e17, e18, e19, trivial⟩, rfl⟩
    rintro _ ρ wj ⟨e64, e0, e1, e2, e3, e5, e6, e15, e16, e17, e18, e19, -⟩ rfl
    refine wpR_nil ?_
    refine wpC_cond (b := (((decide (p3 < 1)) || (decide (20 < p3))) || (decide (p2 < 1))) || (decide (p3 < p2))) e64 (fun hc21 => ?_) (fun hc21 => ?_)
    · replace h := h.1 hc21
      refine wpC_seq ?_
      refine wpC_region ?_
      refine wpR_val (v := (Value.bool r9)) (w' := w3) rfl rfl rfl (x_move (v := (Value.bool r9)) rfl e15) ?_
      refine wpR_val (v := (Value.bool r9)) (w' := w3) rfl rfl rfl (x_move (v := (Value.bool r9)) rfl rfl) ?_
      refine wpR_joinJ 3 (fun (_ : Unit) ρ => ρ 69 = Value.bool (r9 && (decide (r14.2.2.2 = 1))) ∧ ρ 16 = (Value.pointer r14.1) ∧ ρ 18 = (Sl.v r14.2.2.1) ∧ True) (fun _ w => w3 = w) ?_ ?_
      · clear h
        rcases Bool.eq_false_or_eq_true (r9) with hc23 | hc23
        · skip
          refine wpR_val (v := (Value.int .i64 r14.2.2.2)) (w' := w3) (wantG rfl rfl rfl hc23) rfl rfl (x_move (v := (Value.int .i64 r14.2.2.2)) rfl e19) ?_
          refine wpR_val (v := (Value.bool (decide (r14.2.2.2 = 1)))) (w' := w3) (wantG rfl rfl rfl hc23) rfl rfl (x_eql rfl rfl rfl) ?_
          refine wpR_val (v := (Value.bool (decide (r14.2.2.2 = 1)))) (w' := w3) rfl rfl rfl (x_pickT (v := (Value.bool (decide (r14.2.2.2 = 1)))) rfl rfl hc23 rfl) ?_
          refine wpR_nil ?_
          exact ⟨(), ⟨(by rw [hc23]; rfl), e16, e18, trivial⟩, rfl⟩
        · skip
          refine wpR_pass (wantN rfl rfl rfl hc23) rfl rfl ?_
          refine wpR_pass (wantN rfl rfl rfl hc23) rfl rfl ?_
          refine wpR_val (v := (Value.bool false)) (w' := w3) rfl rfl rfl (x_pickF (v := (Value.bool false)) rfl rfl hc23 rfl) ?_
          refine wpR_nil ?_
          exact ⟨(), ⟨(by rw [hc23]; rfl), e16, e18, trivial⟩, rfl⟩
      rintro _ ρ wj ⟨e69, e16, e18, -⟩ rfl
      refine wpR_val (v := (Value.bool (r9 && (decide (r14.2.2.2 = 1))))) (w' := w3) rfl rfl rfl (x_move (v := (Value.bool (r9 && (decide (r14.2.2.2 = 1))))) rfl e69) ?_
      refine wpR_joinJ 4 (fun (_ : Unit) ρ => ρ 74 = Value.bool ((r9 && (decide (r14.2.2.2 = 1))) && (decide ((r14.2.2.1.len : Int) = 0))) ∧ ρ 16 = (Value.pointer r14.1) ∧ True) (fun _ w => w3 = w) ?_ ?_
      · clear h
        rcases Bool.eq_false_or_eq_true (r9 && (decide (r14.2.2.2 = 1))) with hc25 | hc25
        · skip
          refine wpR_val (v := (Sl.v r14.2.2.1)) (w' := w3) (wantG rfl rfl rfl hc25) rfl rfl (x_move (v := (Sl.v r14.2.2.1)) rfl e18) ?_
          refine wpR_val (v := (Value.int .i64 (r14.2.2.1.len : Int))) (w' := w3) (wantG rfl rfl rfl hc25) rfl rfl (x_lenS (s := r14.2.2.1) rfl rfl isSliceT_25) ?_
          refine wpR_val (v := (Value.bool (decide ((r14.2.2.1.len : Int) = 0)))) (w' := w3) (wantG rfl rfl rfl hc25) rfl rfl (x_eql rfl rfl rfl) ?_
          refine wpR_val (v := (Value.bool (decide ((r14.2.2.1.len : Int) = 0)))) (w' := w3) rfl rfl rfl (x_pickT (v := (Value.bool (decide ((r14.2.2.1.len : Int) = 0)))) rfl rfl hc25 rfl) ?_
          refine wpR_nil ?_
          exact ⟨(), ⟨(by rw [hc25]; rfl), e16, trivial⟩, rfl⟩
        · skip
          refine wpR_pass (wantN rfl rfl rfl hc25) rfl rfl ?_
          refine wpR_pass (wantN rfl rfl rfl hc25) rfl rfl ?_
          refine wpR_pass (wantN rfl rfl rfl hc25) rfl rfl ?_
          refine wpR_val (v := (Value.bool false)) (w' := w3) rfl rfl rfl (x_pickF (v := (Value.bool false)) rfl rfl hc25 rfl) ?_
          refine wpR_nil ?_
          exact ⟨(), ⟨(by rw [hc25]; rfl), e16, trivial⟩, rfl⟩
      rintro _ ρ wj ⟨e74, e16, -⟩ rfl
      refine wpR_val (v := (Value.bool ((r9 && (decide (r14.2.2.2 = 1))) && (decide ((r14.2.2.1.len : Int) = 0))))) (w' := w3) rfl rfl rfl (x_move (v := (Value.bool ((r9 && (decide (r14.2.2.2 = 1))) && (decide ((r14.2.2.1.len : Int) = 0))))) rfl e74) ?_
      refine wpR_joinJ 3 (fun (_ : Unit) ρ => ρ 78 = Value.bool (((r9 && (decide (r14.2.2.2 = 1))) && (decide ((r14.2.2.1.len : Int) = 0))) && (!r14.1.isNone)) ∧ True) (fun _ w => w3 = w) ?_ ?_
      · clear h
        rcases Bool.eq_false_or_eq_true ((r9 && (decide (r14.2.2.2 = 1))) && (decide ((r14.2.2.1.len : Int) = 0))) with hc27 | hc27
        · skip
          refine wpR_val (v := (Value.pointer r14.1)) (w' := w3) (wantG rfl rfl rfl hc27) rfl rfl (x_move (v := (Value.pointer r14.1)) rfl e16) ?_
          refine wpR_val (v := (Value.bool (!r14.1.isNone))) (w' := w3) (wantG rfl rfl rfl hc27) rfl rfl (x_neqNil rfl rfl rfl isPtrT_23) ?_
          refine wpR_val (v := (Value.bool (!r14.1.isNone))) (w' := w3) rfl rfl rfl (x_pickT (v := (Value.bool (!r14.1.isNone))) rfl rfl hc27 rfl) ?_
          refine wpR_nil ?_
          exact ⟨(), ⟨(by rw [hc27]; rfl), trivial⟩, rfl⟩
        · skip
          refine wpR_pass (wantN rfl rfl rfl hc27) rfl rfl ?_
          refine wpR_pass (wantN rfl rfl rfl hc27) rfl rfl ?_
          refine wpR_val (v := (Value.bool false)) (w' := w3) rfl rfl rfl (x_pickF (v := (Value.bool false)) rfl rfl hc27 rfl) ?_
          refine wpR_nil ?_
          exact ⟨(), ⟨(by rw [hc27]; rfl), trivial⟩, rfl⟩
      rintro _ ρ wj ⟨e78, -⟩ rfl
      refine wpR_val (v := (Value.bool (((r9 && (decide (r14.2.2.2 = 1))) && (decide ((r14.2.2.1.len : Int) = 0))) && (!r14.1.isNone)))) (w' := w3) rfl rfl rfl (x_assign (v := (Value.bool (((r9 && (decide (r14.2.2.2 = 1))) && (decide ((r14.2.2.1.len : Int) = 0))) && (!r14.1.isNone)))) rfl e78) ?_
      refine wpR_nil ?_
      refine wpC_ret ?_
      exact ⟨.inl rfl, fun a ha => ⟨_, results_rep1 rfl ha rfl, ((r9 && (decide (r14.2.2.2 = 1))) && (decide ((r14.2.2.1.len : Int) = 0))) && (!r14.1.isNone), rfl, h⟩⟩
    · replace h := h.2 hc21
      refine wpC_skip ?_
      refine wpC_seq ?_
      refine wpC_seq ?_
      refine wpC_region ?_
      refine wpR_val (v := (Value.pointer r14.1)) (w' := w3) rfl rfl rfl (x_move (v := (Value.pointer r14.1)) rfl e16) ?_
      refine wpR_val (v := (Value.bool r14.1.isNone)) (w' := w3) rfl rfl rfl (x_eqlNil rfl rfl rfl isPtrT_23) ?_
      refine wpR_val (v := (Value.bool r14.1.isNone)) (w' := w3) rfl rfl rfl (x_move (v := (Value.bool r14.1.isNone)) rfl rfl) ?_
      refine wpR_joinJ 3 (fun (_ : Unit) ρ => ρ 84 = Value.bool (r14.1.isNone || (!decide (r14.2.2.2 = 0))) ∧ ρ 0 = (Sl.v p0) ∧ ρ 1 = (Value.string p1) ∧ ρ 2 = (Value.int .i64 p2) ∧ ρ 3 = (Value.int .i64 p3) ∧ ρ 5 = (Value.int .u32 p5) ∧ ρ 6 = (Value.int .i64 p6) ∧ ρ 15 = (Value.bool r9) ∧ ρ 16 = (Value.pointer r14.1) ∧ ρ 17 = (Value.int .i64 r14.2.1) ∧ ρ 18 = (Sl.v r14.2.2.1) ∧ True) (fun _ w => w3 = w) ?_ ?_
      · clear h
        rcases Bool.eq_false_or_eq_true (r14.1.isNone) with hc29 | hc29
        · skip
          refine wpR_pass (wantN rfl rfl rfl hc29) rfl rfl ?_
          refine wpR_pass (wantN rfl rfl rfl hc29) rfl rfl ?_
          refine wpR_val (v := (Value.bool true)) (w' := w3) rfl rfl rfl (x_pickT (v := (Value.bool true)) rfl rfl hc29 rfl) ?_
          refine wpR_nil ?_
          exact ⟨(), ⟨(by rw [hc29]; rfl), e0, e1, e2, e3, e5, e6, e15, e16, e17, e18, trivial⟩, rfl⟩
        · skip
          refine wpR_val (v := (Value.int .i64 r14.2.2.2)) (w' := w3) (wantG rfl rfl rfl hc29) rfl rfl (x_move (v := (Value.int .i64 r14.2.2.2)) rfl e19) ?_
          refine wpR_val (v := (Value.bool (!decide (r14.2.2.2 = 0)))) (w' := w3) (wantG rfl rfl rfl hc29) rfl rfl (x_neq rfl rfl rfl) ?_
          refine wpR_val (v := (Value.bool (!decide (r14.2.2.2 = 0)))) (w' := w3) rfl rfl rfl (x_pickF (v := (Value.bool (!decide (r14.2.2.2 = 0)))) rfl rfl hc29 rfl) ?_
          refine wpR_nil ?_
          exact ⟨(), ⟨(by rw [hc29]; rfl), e0, e1, e2, e3, e5, e6, e15, e16, e17, e18, trivial⟩, rfl⟩
      rintro _ ρ wj ⟨e84, e0, e1, e2, e3, e5, e6, e15, e16, e17, e18, -⟩ rfl
      refine wpR_val (v := (Value.bool (r14.1.isNone || (!decide (r14.2.2.2 = 0))))) (w' := w3) rfl rfl rfl (x_move (v := (Value.bool (r14.1.isNone || (!decide (r14.2.2.2 = 0))))) rfl e84) ?_
      refine wpR_joinJ 5 (fun (_ : Unit) ρ => ρ 90 = Value.bool ((r14.1.isNone || (!decide (r14.2.2.2 = 0))) || (!decide ((r14.2.2.1.len : Int) = p3))) ∧ ρ 0 = (Sl.v p0) ∧ ρ 1 = (Value.string p1) ∧ ρ 2 = (Value.int .i64 p2) ∧ ρ 5 = (Value.int .u32 p5) ∧ ρ 6 = (Value.int .i64 p6) ∧ ρ 15 = (Value.bool r9) ∧ ρ 16 = (Value.pointer r14.1) ∧ ρ 17 = (Value.int .i64 r14.2.1) ∧ ρ 18 = (Sl.v r14.2.2.1) ∧ True) (fun _ w => w3 = w) ?_ ?_
      · clear h
        rcases Bool.eq_false_or_eq_true (r14.1.isNone || (!decide (r14.2.2.2 = 0))) with hc31 | hc31
        · skip
          refine wpR_pass (wantN rfl rfl rfl hc31) rfl rfl ?_
          refine wpR_pass (wantN rfl rfl rfl hc31) rfl rfl ?_
          refine wpR_pass (wantN rfl rfl rfl hc31) rfl rfl ?_
          refine wpR_pass (wantN rfl rfl rfl hc31) rfl rfl ?_
          refine wpR_val (v := (Value.bool true)) (w' := w3) rfl rfl rfl (x_pickT (v := (Value.bool true)) rfl rfl hc31 rfl) ?_
          refine wpR_nil ?_
          exact ⟨(), ⟨(by rw [hc31]; rfl), e0, e1, e2, e5, e6, e15, e16, e17, e18, trivial⟩, rfl⟩
        · skip
          refine wpR_val (v := (Sl.v r14.2.2.1)) (w' := w3) (wantG rfl rfl rfl hc31) rfl rfl (x_move (v := (Sl.v r14.2.2.1)) rfl e18) ?_
          refine wpR_val (v := (Value.int .i64 (r14.2.2.1.len : Int))) (w' := w3) (wantG rfl rfl rfl hc31) rfl rfl (x_lenS (s := r14.2.2.1) rfl rfl isSliceT_25) ?_
          refine wpR_val (v := (Value.int .i64 p3)) (w' := w3) (wantG rfl rfl rfl hc31) rfl rfl (x_move (v := (Value.int .i64 p3)) rfl e3) ?_
          refine wpR_val (v := (Value.bool (!decide ((r14.2.2.1.len : Int) = p3)))) (w' := w3) (wantG rfl rfl rfl hc31) rfl rfl (x_neq rfl rfl rfl) ?_
          refine wpR_val (v := (Value.bool (!decide ((r14.2.2.1.len : Int) = p3)))) (w' := w3) rfl rfl rfl (x_pickF (v := (Value.bool (!decide ((r14.2.2.1.len : Int) = p3)))) rfl rfl hc31 rfl) ?_
          refine wpR_nil ?_
          exact ⟨(), ⟨(by rw [hc31]; rfl), e0, e1, e2, e5, e6, e15, e16, e17, e18, trivial⟩, rfl⟩
      rintro _ ρ wj ⟨e90, e0, e1, e2, e5, e6, e15, e16, e17, e18, -⟩ rfl
      refine wpR_nil ?_
      refine wpC_cond (b := (r14.1.isNone || (!decide (r14.2.2.2 = 0))) || (!decide ((r14.2.2.1.len : Int) = p3))) e90 (fun hc32 => ?_) (fun hc32 => ?_)
      · replace h := h.1 hc32
        refine wpC_seq ?_
        refine wpC_region ?_
        refine wpR_val (v := (Value.bool false)) (w' := w3) rfl rfl rfl (x_assign (v := (Value.bool false)) rfl rfl) ?_
        refine wpR_nil ?_
        refine wpC_ret ?_
        exact ⟨.inl rfl, fun a ha => ⟨_, results_rep1 rfl ha rfl, false, rfl, h⟩⟩
      · replace h := h.2 hc32
        refine wpC_skip ?_
        refine wpC_seq ?_
        refine wpC_region ?_
        refine wpR_val (v := (Sl.v r14.2.2.1)) (w' := w3) rfl rfl rfl (x_move (v := (Sl.v r14.2.2.1)) rfl e18) ?_
        refine wpR_val (v := (Value.int .u32 p5)) (w' := w3) rfl rfl rfl (x_move (v := (Value.int .u32 p5)) rfl e5) ?_
        refine wpR_enter rfl rfl rfl (x_call (vs := [(Sl.v r14.2.2.1), (Value.int .u32 p5)]) rfl rfl (mapl_cons rfl (mapl_cons rfl mapl_nil)) Try.func18 NN_18 NB_18) (Calls.mono h ?_)
        rintro _ w4 ⟨r33, rfl, h⟩
        refine ⟨_, rfl, ?_⟩
        refine wpR_val (v := (Sl.v r33)) (w' := w4) rfl rfl rfl (x_assign (v := (Sl.v r33)) rfl rfl) ?_
        refine wpR_nil ?_
        refine wpC_seq ?_
        refine wpC_cut (fun ρ => ρ 0 = (Sl.v p0) ∧ ρ 1 = (Value.string p1) ∧ ρ 2 = (Value.int .i64 p2) ∧ ρ 6 = (Value.int .i64 p6) ∧ ρ 15 = (Value.bool r9) ∧ ρ 16 = (Value.pointer r14.1) ∧ ρ 17 = (Value.int .i64 r14.2.1) ∧ ρ 18 = (Sl.v r14.2.2.1) ∧ ρ 20 = (Sl.v r33) ∧ True) ⟨e0, e1, e2, e6, e15, e16, e17, e18, rfl, trivial⟩ ?_
        rintro ρ ⟨e0, e1, e2, e6, e15, e16, e17, e18, e20, -⟩
        refine wpC_region ?_
        refine wpR_val (v := (Value.pointer r14.1)) (w' := w4) rfl rfl rfl (x_move (v := (Value.pointer r14.1)) rfl e16) ?_
        refine wpR_val (v := (Value.int .i64 r14.2.1)) (w' := w4) rfl rfl rfl (x_move (v := (Value.int .i64 r14.2.1)) rfl e17) ?_
        refine wpR_val (v := (Sl.v r33)) (w' := w4) rfl rfl rfl (x_move (v := (Sl.v r33)) rfl e20) ?_
        refine wpR_enter rfl rfl rfl (x_call (vs := [(Value.pointer r14.1), (Value.int .i64 r14.2.1), (Sl.v r33)]) rfl rfl (mapl_cons rfl (mapl_cons rfl (mapl_cons rfl mapl_nil))) Try.func10 NN_10 NB_10) (Calls.mono h ?_)
        rintro _ w5 ⟨r34, rfl, h⟩
        refine ⟨_, rfl, ?_⟩
        refine wpR_val (v := (Value.tuple #[(Value.string r34.1), (Value.int .i64 r34.2)])) (w' := w5) rfl rfl rfl (x_move (v := (Value.tuple #[(Value.string r34.1), (Value.int .i64 r34.2)])) rfl rfl) ?_
        refine wpR_val (v := (Value.string r34.1)) (w' := w5) rfl rfl rfl (x_extract rfl rfl rfl) ?_
        refine wpR_val (v := (Value.int .i64 r34.2)) (w' := w5) rfl rfl rfl (x_extract rfl rfl rfl) ?_
        refine wpR_val (v := (Value.string r34.1)) (w' := w5) rfl rfl rfl (x_assign (v := (Value.string r34.1)) rfl rfl) ?_
        refine wpR_val (v := (Value.int .i64 r34.2)) (w' := w5) rfl rfl rfl (x_assign (v := (Value.int .i64 r34.2)) rfl rfl) ?_
        refine wpR_nil ?_
        refine wpC_seq ?_
        refine wpC_seq ?_
        refine wpC_cut (fun ρ => ρ 0 = (Sl.v p0) ∧ ρ 1 = (Value.string p1) ∧ ρ 2 = (Value.int .i64 p2) ∧ ρ 6 = (Value.int .i64 p6) ∧ ρ 15 = (Value.bool r9) ∧ ρ 16 = (Value.pointer r14.1) ∧ ρ 17 = (Value.int .i64 r14.2.1) ∧ ρ 18 = (Sl.v r14.2.2.1) ∧ ρ 20 = (Sl.v r33) ∧ ρ 21 = (Value.string r34.1) ∧ ρ 22 = (Value.int .i64 r34.2) ∧ True) ⟨e0, e1, e2, e6, e15, e16, e17, e18, e20, rfl, rfl, trivial⟩ ?_
        rintro ρ ⟨e0, e1, e2, e6, e15, e16, e17, e18, e20, e21, e22, -⟩
        refine wpC_region ?_
        refine wpR_val (v := (Sl.v r33)) (w' := w5) rfl rfl rfl (x_move (v := (Sl.v r33)) rfl e20) ?_
        refine wpR_val (v := (Value.int .i64 (r33.len : Int))) (w' := w5) rfl rfl rfl (x_lenS (s := r33) rfl rfl isSliceT_25) ?_
        refine wpR_val (v := (Value.int .i64 p2)) (w' := w5) rfl rfl rfl (x_move (v := (Value.int .i64 p2)) rfl e2) ?_
        refine wpR_val (v := (Value.bool (decide ((r33.len : Int) < p2)))) (w' := w5) rfl rfl rfl (x_lss rfl rfl rfl) ?_
        refine wpR_val (v := (Value.bool (decide ((r33.len : Int) < p2)))) (w' := w5) rfl rfl rfl (x_move (v := (Value.bool (decide ((r33.len : Int) < p2)))) rfl rfl) ?_
        refine wpR_joinJ 7 (fun (_ : Unit) ρ => ρ 112 = Value.bool ((decide ((r33.len : Int) < p2)) && ((!decide (r34.2 = 20)) || (!beqS r34.1 (ByteArray.mk #[])))) ∧ ρ 0 = (Sl.v p0) ∧ ρ 1 = (Value.string p1) ∧ ρ 2 = (Value.int .i64 p2) ∧ ρ 6 = (Value.int .i64 p6) ∧ ρ 15 = (Value.bool r9) ∧ ρ 16 = (Value.pointer r14.1) ∧ ρ 17 = (Value.int .i64 r14.2.1) ∧ ρ 18 = (Sl.v r14.2.2.1) ∧ ρ 20 = (Sl.v r33) ∧ ρ 21 = (Value.string r34.1) ∧ ρ 22 = (Value.int .i64 r34.2) ∧ True) (fun _ w => w5 = w) ?_ ?_
        · clear h
          rcases Bool.eq_false_or_eq_true (decide ((r33.len : Int) < p2)) with hc36 | hc36
          · skip
            refine wpR_val (v := (Value.int .i64 r34.2)) (w' := w5) (wantG rfl rfl rfl hc36) rfl rfl (x_move (v := (Value.int .i64 r34.2)) rfl e22) ?_
            refine wpR_val (v := (Value.bool (!decide (r34.2 = 20)))) (w' := w5) (wantG rfl rfl rfl hc36) rfl rfl (x_neq rfl rfl rfl) ?_
            refine wpR_val (v := (Value.bool (!decide (r34.2 = 20)))) (w' := w5) (wantG rfl rfl rfl hc36) rfl rfl (x_move (v := (Value.bool (!decide (r34.2 = 20)))) rfl rfl) ?_
            refine wpR_joinJ 3 (fun (_ : Unit) ρ => ρ 111 = Value.bool ((!decide (r34.2 = 20)) || (!beqS r34.1 (ByteArray.mk #[]))) ∧ ρ 0 = (Sl.v p0) ∧ ρ 1 = (Value.string p1) ∧ ρ 2 = (Value.int .i64 p2) ∧ ρ 6 = (Value.int .i64 p6) ∧ ρ 15 = (Value.bool r9) ∧ ρ 16 = (Value.pointer r14.1) ∧ ρ 17 = (Value.int .i64 r14.2.1) ∧ ρ 18 = (Sl.v r14.2.2.1) ∧ ρ 20 = (Sl.v r33) ∧ ρ 21 = (Value.string r34.1) ∧ ρ 22 = (Value.int .i64 r34.2) ∧ ρ 105 = (Value.bool (decide ((r33.len : Int) < p2))) ∧ True) (fun _ w => w5 = w) ?_ ?_
            · clear h
              rcases Bool.eq_false_or_eq_true (!decide (r34.2 = 20)) with hc42 | hc42
              · skip
                refine wpR_pass (wantN rfl rfl rfl hc42) rfl rfl ?_
                refine wpR_pass (wantN rfl rfl rfl hc42) rfl rfl ?_
                refine wpR_val (v := (Value.bool true)) (w' := w5) (wantG rfl rfl rfl hc36) rfl rfl (x_pickT (v := (Value.bool true)) rfl rfl hc42 rfl) ?_
                refine wpR_nil ?_
                exact ⟨(), ⟨(by rw [hc42]; rfl), e0, e1, e2, e6, e15, e16, e17, e18, e20, e21, e22, rfl, trivial⟩, rfl⟩
              · skip
                refine wpR_val (v := (Value.string r34.1)) (w' := w5) (wantG rfl rfl rfl hc42) rfl rfl (x_move (v := (Value.string r34.1)) rfl e21) ?_
                refine wpR_val (v := (Value.bool (!beqS r34.1 (ByteArray.mk #[])))) (w' := w5) (wantG rfl rfl rfl hc42) rfl rfl (x_neqS rfl rfl rfl) ?_
                refine wpR_val (v := (Value.bool (!beqS r34.1 (ByteArray.mk #[])))) (w' := w5) (wantG rfl rfl rfl hc36) rfl rfl (x_pickF (v := (Value.bool (!beqS r34.1 (ByteArray.mk #[])))) rfl rfl hc42 rfl) ?_
                refine wpR_nil ?_
                exact ⟨(), ⟨(by rw [hc42]; rfl), e0, e1, e2, e6, e15, e16, e17, e18, e20, e21, e22, rfl, trivial⟩, rfl⟩
            rintro _ ρ wj ⟨e111, e0, e1, e2, e6, e15, e16, e17, e18, e20, e21, e22, e105, -⟩ rfl
            refine wpR_val (v := (Value.bool ((!decide (r34.2 = 20)) || (!beqS r34.1 (ByteArray.mk #[]))))) (w' := w5) rfl rfl rfl (x_pickT (v := (Value.bool ((!decide (r34.2 = 20)) || (!beqS r34.1 (ByteArray.mk #[]))))) rfl e105 hc36 e111) ?_
            refine wpR_nil ?_
            exact ⟨(), ⟨(by rw [hc36]; rfl), e0, e1, e2, e6, e15, e16, e17, e18, e20, e21, e22, trivial⟩, rfl⟩
          · skip
            refine wpR_pass (wantN rfl rfl rfl hc36) rfl rfl ?_
            refine wpR_pass (wantN rfl rfl rfl hc36) rfl rfl ?_
            refine wpR_pass (wantN rfl rfl rfl hc36) rfl rfl ?_
            refine wpR_pass (wantU rfl rfl rfl) rfl rfl ?_
            refine wpR_pass (wantU rfl rfl rfl) rfl rfl ?_
            refine wpR_pass (wantN rfl rfl rfl hc36) rfl rfl ?_
            refine wpR_val (v := (Value.bool false)) (w' := w5) rfl rfl rfl (x_pickF (v := (Value.bool false)) rfl rfl hc36 rfl) ?_
            refine wpR_nil ?_
            exact ⟨(), ⟨(by rw [hc36]; rfl), e0, e1, e2, e6, e15, e16, e17, e18, e20, e21, e22, trivial⟩, rfl⟩
        rintro _ ρ wj ⟨e112, e0, e1, e2, e6, e15, e16, e17, e18, e20, e21, e22, -⟩ rfl
        refine wpR_val (v := (Value.bool ((decide ((r33.len : Int) < p2)) && ((!decide (r34.2 = 20)) || (!beqS r34.1 (ByteArray.mk #[])))))) (w' := w5) rfl rfl rfl (x_move (v := (Value.bool ((decide ((r33.len : Int) < p2)) && ((!decide (r34.2 = 20)) || (!beqS r34.1 (ByteArray.mk #[])))))) rfl e112) ?_
        refine wpR_joinJ 14 (fun (_ : Unit) ρ => ρ 127 = Value.bool (((decide ((r33.len : Int) < p2)) && ((!decide (r34.2 = 20)) || (!beqS r34.1 (ByteArray.mk #[])))) || ((decide (p2 ≤ (r33.len : Int))) && ((!decide (r34.2 = 0)) || (!beqS r34.1 p1)))) ∧ ρ 0 = (Sl.v p0) ∧ ρ 1 = (Value.string p1) ∧ ρ 2 = (Value.int .i64 p2) ∧ ρ 6 = (Value.int .i64 p6) ∧ ρ 15 = (Value.bool r9) ∧ ρ 16 = (Value.pointer r14.1) ∧ ρ 17 = (Value.int .i64 r14.2.1) ∧ ρ 18 = (Sl.v r14.2.2.1) ∧ ρ 20 = (Sl.v r33) ∧ True) (fun _ w => w5 = w) ?_ ?_
        · clear h
          rcases Bool.eq_false_or_eq_true ((decide ((r33.len : Int) < p2)) && ((!decide (r34.2 = 20)) || (!beqS r34.1 (ByteArray.mk #[])))) with hc44 | hc44
          · skip
            refine wpR_pass (wantN rfl rfl rfl hc44) rfl rfl ?_
            refine wpR_pass (wantN rfl rfl rfl hc44) rfl rfl ?_
            refine wpR_pass (wantN rfl rfl rfl hc44) rfl rfl ?_
            refine wpR_pass (wantN rfl rfl rfl hc44) rfl rfl ?_
            refine wpR_pass (wantN rfl rfl rfl hc44) rfl rfl ?_
            refine wpR_pass (wantU rfl rfl rfl) rfl rfl ?_
            refine wpR_pass (wantU rfl rfl rfl) rfl rfl ?_
            refine wpR_pass (wantU rfl rfl rfl) rfl rfl ?_
            refine wpR_pass (wantU rfl rfl rfl) rfl rfl ?_
            refine wpR_pass (wantU rfl rfl rfl) rfl rfl ?_
            refine wpR_pass (wantU rfl rfl rfl) rfl rfl ?_
            refine wpR_pass (wantU rfl rfl rfl) rfl rfl ?_
            refine wpR_pass (wantN rfl rfl rfl hc44) rfl rfl ?_
            refine wpR_val (v := (Value.bool true)) (w' := w5) rfl rfl rfl (x_pickT (v := (Value.bool true)) rfl rfl hc44 rfl) ?_
            refine wpR_nil ?_
            exact ⟨(), ⟨(by rw [hc44]; rfl), e0, e1, e2, e6, e15, e16, e17, e18, e20, trivial⟩, rfl⟩
          · skip
            refine wpR_val (v := (Sl.v r33)) (w' := w5) (wantG rfl rfl rfl hc44) rfl rfl (x_move (v := (Sl.v r33)) rfl e20) ?_
            refine wpR_val (v := (Value.int .i64 (r33.len : Int))) (w' := w5) (wantG rfl rfl rfl hc44) rfl rfl (x_lenS (s := r33) rfl rfl isSliceT_25) ?_
            refine wpR_val (v := (Value.int .i64 p2)) (w' := w5) (wantG rfl rfl rfl hc44) rfl rfl (x_move (v := (Value.int .i64 p2)) rfl e2) ?_
            refine wpR_val (v := (Value.bool (decide (p2 ≤ (r33.len : Int))))) (w' := w5) (wantG rfl rfl rfl hc44) rfl rfl (x_geq rfl rfl rfl) ?_
            refine wpR_val (v := (Value.bool (decide (p2 ≤ (r33.len : Int))))) (w' := w5) (wantG rfl rfl rfl hc44) rfl rfl (x_move (v := (Value.bool (decide (p2 ≤ (r33.len : Int))))) rfl rfl) ?_
            refine wpR_joinJ 8 (fun (_ : Unit) ρ => ρ 126 = Value.bool ((decide (p2 ≤ (r33.len : Int))) && ((!decide (r34.2 = 0)) || (!beqS r34.1 p1))) ∧ ρ 0 = (Sl.v p0) ∧ ρ 1 = (Value.string p1) ∧ ρ 2 = (Value.int .i64 p2) ∧ ρ 6 = (Value.int .i64 p6) ∧ ρ 15 = (Value.bool r9) ∧ ρ 16 = (Value.pointer r14.1) ∧ ρ 17 = (Value.int .i64 r14.2.1) ∧ ρ 18 = (Sl.v r14.2.2.1) ∧ ρ 20 = (Sl.v r33) ∧ ρ 113 = (Value.bool ((decide ((r33.len : Int) < p2)) && ((!decide (r34.2 = 20)) || (!beqS r34.1 (ByteArray.mk #[]))))) ∧ True) (fun _ w => w5 = w) ?_ ?_
            · clear h
              rcases Bool.eq_false_or_eq_true (decide (p2 ≤ (r33.len : Int))) with hc62 | hc62
              · skip
                refine wpR_val (v := (Value.int .i64 r34.2)) (w' := w5) (wantG rfl rfl rfl hc62) rfl rfl (x_move (v := (Value.int .i64 r34.2)) rfl e22) ?_
                refine wpR_val (v := (Value.bool (!decide (r34.2 = 0)))) (w' := w5) (wantG rfl rfl rfl hc62) rfl rfl (x_neq rfl rfl rfl) ?_
                refine wpR_val (v := (Value.bool (!decide (r34.2 = 0)))) (w' := w5) (wantG rfl rfl rfl hc62) rfl rfl (x_move (v := (Value.bool (!decide (r34.2 = 0)))) rfl rfl) ?_
                refine wpR_joinJ 4 (fun (_ : Unit) ρ => ρ 125 = Value.bool ((!decide (r34.2 = 0)) || (!beqS r34.1 p1)) ∧ ρ 0 = (Sl.v p0) ∧ ρ 1 = (Value.string p1) ∧ ρ 2 = (Value.int .i64 p2) ∧ ρ 6 = (Value.int .i64 p6) ∧ ρ 15 = (Value.bool r9) ∧ ρ 16 = (Value.pointer r14.1) ∧ ρ 17 = (Value.int .i64 r14.2.1) ∧ ρ 18 = (Sl.v r14.2.2.1) ∧ ρ 20 = (Sl.v r33) ∧ ρ 113 = (Value.bool ((decide ((r33.len : Int) < p2)) && ((!decide (r34.2 = 20)) || (!beqS r34.1 (ByteArray.mk #[]))))) ∧ ρ 118 = (Value.bool (decide (p2 ≤ (r33.len : Int)))) ∧ True) (fun _ w => w5 = w) ?_ ?_
                · clear h
                  rcases Bool.eq_false_or_eq_true (!decide (r34.2 = 0)) with hc68 | hc68
                  · skip
                    refine wpR_pass (wantN rfl rfl rfl hc68) rfl rfl ?_
                    refine wpR_pass (wantN rfl rfl rfl hc68) rfl rfl ?_
                    refine wpR_pass (wantN rfl rfl rfl hc68) rfl rfl ?_
                    refine wpR_val (v := (Value.bool true)) (w' := w5) (wantG rfl rfl rfl hc62) rfl rfl (x_pickT (v := (Value.bool true)) rfl rfl hc68 rfl) ?_
                    refine wpR_nil ?_
                    exact ⟨(), ⟨(by rw [hc68]; rfl), e0, e1, e2, e6, e15, e16, e17, e18, e20, rfl, rfl, trivial⟩, rfl⟩
                  · skip
                    refine wpR_val (v := (Value.string r34.1)) (w' := w5) (wantG rfl rfl rfl hc68) rfl rfl (x_move (v := (Value.string r34.1)) rfl e21) ?_
                    refine wpR_val (v := (Value.string p1)) (w' := w5) (wantG rfl rfl rfl hc68) rfl rfl (x_move (v := (Value.string p1)) rfl e1) ?_
                    refine wpR_val (v := (Value.bool (!beqS r34.1 p1))) (w' := w5) (wantG rfl rfl rfl hc68) rfl rfl (x_neqS rfl rfl rfl) ?_
                    refine wpR_val (v := (Value.bool (!beqS r34.1 p1))) (w' := w5) (wantG rfl rfl rfl hc62) rfl rfl (x_pickF (v := (Value.bool (!beqS r34.1 p1))) rfl rfl hc68 rfl) ?_
                    refine wpR_nil ?_
                    exact ⟨(), ⟨(by rw [hc68]; rfl), e0, e1, e2, e6, e15, e16, e17, e18, e20, rfl, rfl, trivial⟩, rfl⟩
                rintro _ ρ wj ⟨e125, e0, e1, e2, e6, e15, e16, e17, e18, e20, e113, e118, -⟩ rfl
                refine wpR_val (v := (Value.bool ((!decide (r34.2 = 0)) || (!beqS r34.1 p1)))) (w' := w5) (wantG rfl rfl e113 hc44) rfl rfl (x_pickT (v := (Value.bool ((!decide (r34.2 = 0)) || (!beqS r34.1 p1)))) rfl e118 hc62 e125) ?_
                refine wpR_nil ?_
                exact ⟨(), ⟨(by rw [hc62]; rfl), e0, e1, e2, e6, e15, e16, e17, e18, e20, e113, trivial⟩, rfl⟩
              · skip
                refine wpR_pass (wantN rfl rfl rfl hc62) rfl rfl ?_
                refine wpR_pass (wantN rfl rfl rfl hc62) rfl rfl ?_
                refine wpR_pass (wantN rfl rfl rfl hc62) rfl rfl ?_
                refine wpR_pass (wantU rfl rfl rfl) rfl rfl ?_
                refine wpR_pass (wantU rfl rfl rfl) rfl rfl ?_
                refine wpR_pass (wantU rfl rfl rfl) rfl rfl ?_
                refine wpR_pass (wantN rfl rfl rfl hc62) rfl rfl ?_
                refine wpR_val (v := (Value.bool false)) (w' := w5) (wantG rfl rfl rfl hc44) rfl rfl (x_pickF (v := (Value.bool false)) rfl rfl hc62 rfl) ?_
                refine wpR_nil ?_
                exact ⟨(), ⟨(by rw [hc62]; rfl), e0, e1, e2, e6, e15, e16, e17, e18, e20, rfl, trivial⟩, rfl⟩
            rintro _ ρ wj ⟨e126, e0, e1, e2, e6, e15, e16, e17, e18, e20, e113, -⟩ rfl
            refine wpR_val (v := (Value.bool ((decide (p2 ≤ (r33.len : Int))) && ((!decide (r34.2 = 0)) || (!beqS r34.1 p1))))) (w' := w5) rfl rfl rfl (x_pickF (v := (Value.bool ((decide (p2 ≤ (r33.len : Int))) && ((!decide (r34.2 = 0)) || (!beqS r34.1 p1))))) rfl e113 hc44 e126) ?_
            refine wpR_nil ?_
            exact ⟨(), ⟨(by rw [hc44]; rfl), e0, e1, e2, e6, e15, e16, e17, e18, e20, trivial⟩, rfl⟩
        rintro _ ρ wj ⟨e127, e0, e1, e2, e6, e15, e16, e17, e18, e20, -⟩ rfl
        refine wpR_nil ?_
        refine wpC_cond (b := ((decide ((r33.len : Int) < p2)) && ((!decide (r34.2 = 20)) || (!beqS r34.1 (ByteArray.mk #[])))) || ((decide (p2 ≤ (r33.len : Int))) && ((!decide (r34.2 = 0)) || (!beqS r34.1 p1)))) e127 (fun hc69 => ?_) (fun hc69 => ?_)
        · replace h := h.1 hc69
          refine wpC_seq ?_
          refine wpC_region ?_
          refine wpR_val (v := (Value.bool false)) (w' := w5) rfl rfl rfl (x_assign (v := (Value.bool false)) rfl rfl) ?_
          refine wpR_nil ?_
          refine wpC_ret ?_
          exact ⟨.inl rfl, fun a ha => ⟨_, results_rep1 rfl ha rfl, false, rfl, h⟩⟩
        · replace h := h.2 hc69
          refine wpC_skip ?_
          refine wpC_seq ?_
          refine wpC_seq ?_
          refine wpC_region ?_
          refine wpR_val (v := (Sl.v r33)) (w' := w5) rfl rfl rfl (x_move (v := (Sl.v r33)) rfl e20) ?_
          refine wpR_val (v := (Value.int .i64 (r33.len : Int))) (w' := w5) rfl rfl rfl (x_lenS (s := r33) rfl rfl isSliceT_25) ?_
          refine wpR_val (v := (Value.int .i64 p2)) (w' := w5) rfl rfl rfl (x_move (v := (Value.int .i64 p2)) rfl e2) ?_
          refine wpR_val (v := (Value.bool (decide ((r33.len : Int) < p2)))) (w' := w5) rfl rfl rfl (x_lss rfl rfl rfl) ?_
          refine wpR_val (v := (Value.bool (decide ((r33.len : Int) < p2)))) (w' := w5) rfl rfl rfl (x_move (v := (Value.bool (decide ((r33.len : Int) < p2)))) rfl rfl) ?_
          refine wpR_joinJ 3 (fun (_ : Unit) ρ => ρ 135 = Value.bool ((decide ((r33.len : Int) < p2)) && (decide (0 ≤ p6))) ∧ ρ 0 = (Sl.v p0) ∧ ρ 1 = (Value.string p1) ∧ ρ 2 = (Value.int .i64 p2) ∧ ρ 6 = (Value.int .i64 p6) ∧ ρ 15 = (Value.bool r9) ∧ ρ 16 = (Value.pointer r14.1) ∧ ρ 17 = (Value.int .i64 r14.2.1) ∧ ρ 18 = (Sl.v r14.2.2.1) ∧ ρ 20 = (Sl.v r33) ∧ True) (fun _ w => w5 = w) ?_ ?_
          · clear h
            rcases Bool.eq_false_or_eq_true (decide ((r33.len : Int) < p2)) with hc71 | hc71
            · skip
              refine wpR_val (v := (Value.int .i64 p6)) (w' := w5) (wantG rfl rfl rfl hc71) rfl rfl (x_move (v := (Value.int .i64 p6)) rfl e6) ?_
              refine wpR_val (v := (Value.bool (decide (0 ≤ p6)))) (w' := w5) (wantG rfl rfl rfl hc71) rfl rfl (x_geq rfl rfl rfl) ?_
              refine wpR_val (v := (Value.bool (decide (0 ≤ p6)))) (w' := w5) rfl rfl rfl (x_pickT (v := (Value.bool (decide (0 ≤ p6)))) rfl rfl hc71 rfl) ?_
              refine wpR_nil ?_
              exact ⟨(), ⟨(by rw [hc71]; rfl), e0, e1, e2, e6, e15, e16, e17, e18, e20, trivial⟩, rfl⟩
            · skip
              refine wpR_pass (wantN rfl rfl rfl hc71) rfl rfl ?_
              refine wpR_pass (wantN rfl rfl rfl hc71) rfl rfl ?_
              refine wpR_val (v := (Value.bool false)) (w' := w5) rfl rfl rfl (x_pickF (v := (Value.bool false)) rfl rfl hc71 rfl) ?_
              refine wpR_nil ?_
              exact ⟨(), ⟨(by rw [hc71]; rfl), e0, e1, e2, e6, e15, e16, e17, e18, e20, trivial⟩, rfl⟩
          rintro _ ρ wj ⟨e135, e0, e1, e2, e6, e15, e16, e17, e18, e20, -⟩ rfl
          refine wpR_val (v := (Value.bool ((decide ((r33.len : Int) < p2)) && (decide (0 ≤ p6))))) (w' := w5) rfl rfl rfl (x_move (v := (Value.bool ((decide ((r33.len : Int) < p2)) && (decide (0 ≤ p6))))) rfl e135) ?_
          refine wpR_joinJ 3 (fun (_ : Unit) ρ => ρ 139 = Value.bool (((decide ((r33.len : Int) < p2)) && (decide (0 ≤ p6))) && (decide (p6 < 2147483647))) ∧ ρ 0 = (Sl.v p0) ∧ ρ 1 = (Value.string p1) ∧ ρ 2 = (Value.int .i64 p2) ∧ ρ 6 = (Value.int .i64 p6) ∧ ρ 15 = (Value.bool r9) ∧ ρ 16 = (Value.pointer r14.1) ∧ ρ 17 = (Value.int .i64 r14.2.1) ∧ ρ 18 = (Sl.v r14.2.2.1) ∧ ρ 20 = (Sl.v r33) ∧ True) (fun _ w => w5 = w) ?_ ?_
          · clear h
            rcases Bool.eq_false_or_eq_true ((decide ((r33.len : Int) < p2)) && (decide (0 ≤ p6))) with hc73 | hc73
            · skip
              refine wpR_val (v := (Value.int .i64 p6)) (w' := w5) (wantG rfl rfl rfl hc73) rfl rfl (x_move (v := (Value.int .i64 p6)) rfl e6) ?_
              refine wpR_val (v := (Value.bool (decide (p6 < 2147483647)))) (w' := w5) (wantG rfl rfl rfl hc73) rfl rfl (x_lss rfl rfl rfl) ?_
              refine wpR_val (v := (Value.bool (decide (p6 < 2147483647)))) (w' := w5) rfl rfl rfl (x_pickT (v := (Value.bool (decide (p6 < 2147483647)))) rfl rfl hc73 rfl) ?_
              refine wpR_nil ?_
              exact ⟨(), ⟨(by rw [hc73]; rfl), e0, e1, e2, e6, e15, e16, e17, e18, e20, trivial⟩, rfl⟩
            · skip
              refine wpR_pass (wantN rfl rfl rfl hc73) rfl rfl ?_
              refine wpR_pass (wantN rfl rfl rfl hc73) rfl rfl ?_
              refine wpR_val (v := (Value.bool false)) (w' := w5) rfl rfl rfl (x_pickF (v := (Value.bool false)) rfl rfl hc73 rfl) ?_
              refine wpR_nil ?_
              exact ⟨(), ⟨(by rw [hc73]; rfl), e0, e1, e2, e6, e15, e16, e17, e18, e20, trivial⟩, rfl⟩
          rintro _ ρ wj ⟨e139, e0, e1, e2, e6, e15, e16, e17, e18, e20, -⟩ rfl
          refine wpR_val (v := (Value.bool (((decide ((r33.len : Int) < p2)) && (decide (0 ≤ p6))) && (decide (p6 < 2147483647))))) (w' := w5) rfl rfl rfl (x_move (v := (Value.bool (((decide ((r33.len : Int) < p2)) && (decide (0 ≤ p6))) && (decide (p6 < 2147483647))))) rfl e139) ?_
          obtain ⟨J74, h, hk⟩ := h
          refine wpR_joinJ 6 (fun x ρ => ρ 146 = Value.bool x ∧ ρ 0 = (Sl.v p0) ∧ ρ 1 = (Value.string p1) ∧ ρ 15 = (Value.bool r9) ∧ ρ 16 = (Value.pointer r14.1) ∧ ρ 17 = (Value.int .i64 r14.2.1) ∧ ρ 18 = (Sl.v r14.2.2.1) ∧ True) (J74) ?_ ?_
          · clear hk
            rcases Bool.eq_false_or_eq_true (((decide ((r33.len : Int) < p2)) && (decide (0 ≤ p6))) && (decide (p6 < 2147483647))) with hc75 | hc75
            · replace h := h.1 hc75
              refine wpR_val (v := (Sl.v r33)) (w' := w5) (wantG rfl rfl rfl hc75) rfl rfl (x_move (v := (Sl.v r33)) rfl e20) ?_
              refine wpR_val (v := (Value.int .i64 p2)) (w' := w5) (wantG rfl rfl rfl hc75) rfl rfl (x_move (v := (Value.int .i64 p2)) rfl e2) ?_
              refine wpR_val (v := (Value.int .i64 p6)) (w' := w5) (wantG rfl rfl rfl hc75) rfl rfl (x_move (v := (Value.int .i64 p6)) rfl e6) ?_
              refine wpR_enter (wantG rfl rfl rfl hc75) rfl rfl (x_call (vs := [(Sl.v r33), (Value.int .i64 p2), (Value.int .i64 p6)]) rfl rfl (mapl_cons rfl (mapl_cons rfl (mapl_cons rfl mapl_nil))) Try.func19 NN_19 NB_19) (Calls.mono h ?_)
              rintro _ w6 ⟨r76, rfl, h⟩
              refine ⟨_, rfl, ?_⟩
              refine wpR_val (v := (Value.bool (!r76))) (w' := w6) (wantG rfl rfl rfl hc75) rfl rfl (x_not rfl rfl) ?_
              refine wpR_val (v := (Value.bool (!r76))) (w' := w6) rfl rfl rfl (x_pickT (v := (Value.bool (!r76))) rfl rfl hc75 rfl) ?_
              refine wpR_nil ?_
              exact ⟨!r76, ⟨rfl, e0, e1, e15, e16, e17, e18, trivial⟩, h⟩
            · replace h := h.2 hc75
              refine wpR_pass (wantN rfl rfl rfl hc75) rfl rfl ?_
              refine wpR_pass (wantN rfl rfl rfl hc75) rfl rfl ?_
              refine wpR_pass (wantN rfl rfl rfl hc75) rfl rfl ?_
              refine wpR_pass (wantN rfl rfl rfl hc75) rfl rfl ?_
              refine wpR_pass (wantN rfl rfl rfl hc75) rfl rfl ?_
              refine wpR_val (v := (Value.bool false)) (w' := w5) rfl rfl rfl (x_pickF (v := (Value.bool false)) rfl rfl hc75 rfl) ?_
              refine wpR_nil ?_
              exact ⟨false, ⟨rfl, e0, e1, e15, e16, e17, e18, trivial⟩, h⟩
          clear h
          rintro c77 ρ w7 ⟨e146, e0, e1, e15, e16, e17, e18, -⟩ h
          replace h := hk c77 w7 h
          clear hk
          refine wpR_nil ?_
          refine wpC_cond (b := c77) e146 (fun hc78 => ?_) (fun hc78 => ?_)
          · replace h := h.1 hc78
            refine wpC_seq ?_
            refine wpC_region ?_
            refine wpR_val (v := (Value.bool false)) (w' := w7) rfl rfl rfl (x_assign (v := (Value.bool false)) rfl rfl) ?_
            refine wpR_nil ?_
            refine wpC_ret ?_
            exact ⟨.inl rfl, fun a ha => ⟨_, results_rep1 rfl ha rfl, false, rfl, h⟩⟩
          · replace h := h.2 hc78
            refine wpC_skip ?_
            refine wpC_seq ?_
            refine wpC_region ?_
            refine wpR_val (v := (Value.pointer r14.1)) (w' := w7) rfl rfl rfl (x_move (v := (Value.pointer r14.1)) rfl e16) ?_
            refine wpR_val (v := (Value.int .i64 r14.2.1)) (w' := w7) rfl rfl rfl (x_move (v := (Value.int .i64 r14.2.1)) rfl e17) ?_
            refine wpR_val (v := (Sl.v r14.2.2.1)) (w' := w7) rfl rfl rfl (x_move (v := (Sl.v r14.2.2.1)) rfl e18) ?_
            refine wpR_enter rfl rfl rfl (x_call (vs := [(Value.pointer r14.1), (Value.int .i64 r14.2.1), (Sl.v r14.2.2.1)]) rfl rfl (mapl_cons rfl (mapl_cons rfl (mapl_cons rfl mapl_nil))) Try.func10 NN_10 NB_10) (Calls.mono h ?_)
            rintro _ w8 ⟨r79, rfl, h⟩
            refine ⟨_, rfl, ?_⟩
            refine wpR_val (v := (Value.tuple #[(Value.string r79.1), (Value.int .i64 r79.2)])) (w' := w8) rfl rfl rfl (x_move (v := (Value.tuple #[(Value.string r79.1), (Value.int .i64 r79.2)])) rfl rfl) ?_
            refine wpR_val (v := (Value.string r79.1)) (w' := w8) rfl rfl rfl (x_extract rfl rfl rfl) ?_
            refine wpR_val (v := (Value.int .i64 r79.2)) (w' := w8) rfl rfl rfl (x_extract rfl rfl rfl) ?_
            refine wpR_val (v := (Value.string r79.1)) (w' := w8) rfl rfl rfl (x_assign (v := (Value.string r79.1)) rfl rfl) ?_
            refine wpR_val (v := (Value.int .i64 r79.2)) (w' := w8) rfl rfl rfl (x_assign (v := (Value.int .i64 r79.2)) rfl rfl) ?_
            refine wpR_nil ?_
            refine wpC_seq ?_
            refine wpC_cut (fun ρ => ρ 0 = (Sl.v p0) ∧ ρ 1 = (Value.string p1) ∧ ρ 15 = (Value.bool r9) ∧ ρ 16 = (Value.pointer r14.1) ∧ ρ 17 = (Value.int .i64 r14.2.1) ∧ ρ 18 = (Sl.v r14.2.2.1) ∧ ρ 23 = (Value.string r79.1) ∧ ρ 24 = (Value.int .i64 r79.2) ∧ True) ⟨e0, e1, e15, e16, e17, e18, rfl, rfl, trivial⟩ ?_
            rintro ρ ⟨e0, e1, e15, e16, e17, e18, e23, e24, -⟩
            refine wpC_region ?_
            refine wpR_val (v := (Value.pointer r14.1)) (w' := w8) rfl rfl rfl (x_move (v := (Value.pointer r14.1)) rfl e16) ?_
            refine wpR_val (v := (Value.int .i64 r14.2.1)) (w' := w8) rfl rfl rfl (x_move (v := (Value.int .i64 r14.2.1)) rfl e17) ?_
            refine wpR_enter rfl rfl rfl (x_call (vs := [(Value.pointer r14.1), (Value.int .i64 r14.2.1)]) rfl rfl (mapl_cons rfl (mapl_cons rfl mapl_nil)) Try.func14 NN_14 NB_14) (Calls.mono h ?_)
            rintro _ w9 ⟨r80, rfl, h⟩
            refine ⟨_, rfl, ?_⟩
            refine wpR_val (v := (Value.int .i64 r80)) (w' := w9) rfl rfl rfl (x_assign (v := (Value.int .i64 r80)) rfl rfl) ?_
            refine wpR_nil ?_
            refine wpC_seq ?_
            refine wpC_cut (fun ρ => ρ 0 = (Sl.v p0) ∧ ρ 1 = (Value.string p1) ∧ ρ 15 = (Value.bool r9) ∧ ρ 16 = (Value.pointer r14.1) ∧ ρ 17 = (Value.int .i64 r14.2.1) ∧ ρ 18 = (Sl.v r14.2.2.1) ∧ ρ 23 = (Value.string r79.1) ∧ ρ 24 = (Value.int .i64 r79.2) ∧ ρ 25 = (Value.int .i64 r80) ∧ True) ⟨e0, e1, e15, e16, e17, e18, e23, e24, rfl, trivial⟩ ?_
            rintro ρ ⟨e0, e1, e15, e16, e17, e18, e23, e24, e25, -⟩
            refine wpC_region ?_
            refine wpR_val (v := (Value.pointer r14.1)) (w' := w9) rfl rfl rfl (x_move (v := (Value.pointer r14.1)) rfl e16) ?_
            refine wpR_val (v := (Value.int .i64 r14.2.1)) (w' := w9) rfl rfl rfl (x_move (v := (Value.int .i64 r14.2.1)) rfl e17) ?_
            refine wpR_val (v := (Sl.v r14.2.2.1)) (w' := w9) rfl rfl rfl (x_move (v := (Sl.v r14.2.2.1)) rfl e18) ?_
            refine wpR_enter rfl rfl rfl (x_call (vs := [(Value.pointer r14.1), (Value.int .i64 r14.2.1), (Sl.v r14.2.2.1)]) rfl rfl (mapl_cons rfl (mapl_cons rfl (mapl_cons rfl mapl_nil))) Try.func10 NN_10 NB_10) (Calls.mono h ?_)
            rintro _ w10 ⟨r81, rfl, h⟩
            refine ⟨_, rfl, ?_⟩
            refine wpR_val (v := (Value.tuple #[(Value.string r81.1), (Value.int .i64 r81.2)])) (w' := w10) rfl rfl rfl (x_move (v := (Value.tuple #[(Value.string r81.1), (Value.int .i64 r81.2)])) rfl rfl) ?_
            refine wpR_val (v := (Value.string r81.1)) (w' := w10) rfl rfl rfl (x_extract rfl rfl rfl) ?_
            refine wpR_val (v := (Value.int .i64 r81.2)) (w' := w10) rfl rfl rfl (x_extract rfl rfl rfl) ?_
            refine wpR_val (v := (Value.string r81.1)) (w' := w10) rfl rfl rfl (x_assign (v := (Value.string r81.1)) rfl rfl) ?_
            refine wpR_val (v := (Value.int .i64 r81.2)) (w' := w10) rfl rfl rfl (x_assign (v := (Value.int .i64 r81.2)) rfl rfl) ?_
            refine wpR_nil ?_
            refine wpC_seq ?_
            refine wpC_cut (fun ρ => ρ 0 = (Sl.v p0) ∧ ρ 1 = (Value.string p1) ∧ ρ 15 = (Value.bool r9) ∧ ρ 16 = (Value.pointer r14.1) ∧ ρ 17 = (Value.int .i64 r14.2.1) ∧ ρ 23 = (Value.string r79.1) ∧ ρ 24 = (Value.int .i64 r79.2) ∧ ρ 25 = (Value.int .i64 r80) ∧ ρ 26 = (Value.string r81.1) ∧ ρ 27 = (Value.int .i64 r81.2) ∧ True) ⟨e0, e1, e15, e16, e17, e23, e24, e25, rfl, rfl, trivial⟩ ?_
            rintro ρ ⟨e0, e1, e15, e16, e17, e23, e24, e25, e26, e27, -⟩
            refine wpC_region ?_
            refine wpR_val (v := (Value.pointer r14.1)) (w' := w10) rfl rfl rfl (x_move (v := (Value.pointer r14.1)) rfl e16) ?_
            refine wpR_val (v := (Value.int .i64 r14.2.1)) (w' := w10) rfl rfl rfl (x_move (v := (Value.int .i64 r14.2.1)) rfl e17) ?_
            refine wpR_enter rfl rfl rfl (x_call (vs := [(Value.pointer r14.1), (Value.int .i64 r14.2.1)]) rfl rfl (mapl_cons rfl (mapl_cons rfl mapl_nil)) Try.func14 NN_14 NB_14) (Calls.mono h ?_)
            rintro _ w11 ⟨r82, rfl, h⟩
            refine ⟨_, rfl, ?_⟩
            refine wpR_val (v := (Value.int .i64 r82)) (w' := w11) rfl rfl rfl (x_assign (v := (Value.int .i64 r82)) rfl rfl) ?_
            refine wpR_nil ?_
            refine wpC_seq ?_
            refine wpC_cut (fun ρ => ρ 0 = (Sl.v p0) ∧ ρ 1 = (Value.string p1) ∧ ρ 15 = (Value.bool r9) ∧ ρ 16 = (Value.pointer r14.1) ∧ ρ 23 = (Value.string r79.1) ∧ ρ 24 = (Value.int .i64 r79.2) ∧ ρ 25 = (Value.int .i64 r80) ∧ ρ 26 = (Value.string r81.1) ∧ ρ 27 = (Value.int .i64 r81.2) ∧ ρ 28 = (Value.int .i64 r82) ∧ True) ⟨e0, e1, e15, e16, e23, e24, e25, e26, e27, rfl, trivial⟩ ?_
            rintro ρ ⟨e0, e1, e15, e16, e23, e24, e25, e26, e27, e28, -⟩
            refine wpC_region ?_
            refine wpR_val (v := (Value.bool r9)) (w' := w11) rfl rfl rfl (x_move (v := (Value.bool r9)) rfl e15) ?_
            refine wpR_val (v := (Value.bool r9)) (w' := w11) rfl rfl rfl (x_move (v := (Value.bool r9)) rfl rfl) ?_
            refine wpR_joinJ 4 (fun (_ : Unit) ρ => ρ 172 = Value.bool (r9 && (beqS r79.1 p1)) ∧ ρ 0 = (Sl.v p0) ∧ ρ 16 = (Value.pointer r14.1) ∧ ρ 24 = (Value.int .i64 r79.2) ∧ ρ 25 = (Value.int .i64 r80) ∧ ρ 26 = (Value.string r81.1) ∧ ρ 27 = (Value.int .i64 r81.2) ∧ ρ 28 = (Value.int .i64 r82) ∧ True) (fun _ w => w11 = w) ?_ ?_
            · clear h
              rcases Bool.eq_false_or_eq_true (r9) with hc84 | hc84
              · skip
                refine wpR_val (v := (Value.string r79.1)) (w' := w11) (wantG rfl rfl rfl hc84) rfl rfl (x_move (v := (Value.string r79.1)) rfl e23) ?_
                refine wpR_val (v := (Value.string p1)) (w' := w11) (wantG rfl rfl rfl hc84) rfl rfl (x_move (v := (Value.string p1)) rfl e1) ?_
                refine wpR_val (v := (Value.bool (beqS r79.1 p1))) (w' := w11) (wantG rfl rfl rfl hc84) rfl rfl (x_eqlS rfl rfl rfl) ?_
                refine wpR_val (v := (Value.bool (beqS r79.1 p1))) (w' := w11) rfl rfl rfl (x_pickT (v := (Value.bool (beqS r79.1 p1))) rfl rfl hc84 rfl) ?_
                refine wpR_nil ?_
                exact ⟨(), ⟨(by rw [hc84]; rfl), e0, e16, e24, e25, e26, e27, e28, trivial⟩, rfl⟩
              · skip
                refine wpR_pass (wantN rfl rfl rfl hc84) rfl rfl ?_
                refine wpR_pass (wantN rfl rfl rfl hc84) rfl rfl ?_
                refine wpR_pass (wantN rfl rfl rfl hc84) rfl rfl ?_
                refine wpR_val (v := (Value.bool false)) (w' := w11) rfl rfl rfl (x_pickF (v := (Value.bool false)) rfl rfl hc84 rfl) ?_
                refine wpR_nil ?_
                exact ⟨(), ⟨(by rw [hc84]; rfl), e0, e16, e24, e25, e26, e27, e28, trivial⟩, rfl⟩
            rintro _ ρ wj ⟨e172, e0, e16, e24, e25, e26, e27, e28, -⟩ rfl
            refine wpR_val (v := (Value.bool (r9 && (beqS r79.1 p1)))) (w' := w11) rfl rfl rfl (x_move (v := (Value.bool (r9 && (beqS r79.1 p1)))) rfl e172) ?_
            refine wpR_joinJ 3 (fun (_ : Unit) ρ => ρ 176 = Value.bool ((r9 && (beqS r79.1 p1)) && (decide (r79.2 = 0))) ∧ ρ 0 = (Sl.v p0) ∧ ρ 16 = (Value.pointer r14.1) ∧ ρ 25 = (Value.int .i64 r80) ∧ ρ 26 = (Value.string r81.1) ∧ ρ 27 = (Value.int .i64 r81.2) ∧ ρ 28 = (Value.int .i64 r82) ∧ True) (fun _ w => w11 = w) ?_ ?_
            · clear h
              rcases Bool.eq_false_or_eq_true (r9 && (beqS r79.1 p1)) with hc86 | hc86
              · skip
                refine wpR_val (v := (Value.int .i64 r79.2)) (w' := w11) (wantG rfl rfl rfl hc86) rfl rfl (x_move (v := (Value.int .i64 r79.2)) rfl e24) ?_
                refine wpR_val (v := (Value.bool (decide (r79.2 = 0)))) (w' := w11) (wantG rfl rfl rfl hc86) rfl rfl (x_eql rfl rfl rfl) ?_
                refine wpR_val (v := (Value.bool (decide (r79.2 = 0)))) (w' := w11) rfl rfl rfl (x_pickT (v := (Value.bool (decide (r79.2 = 0)))) rfl rfl hc86 rfl) ?_
                refine wpR_nil ?_
                exact ⟨(), ⟨(by rw [hc86]; rfl), e0, e16, e25, e26, e27, e28, trivial⟩, rfl⟩
              · skip
                refine wpR_pass (wantN rfl rfl rfl hc86) rfl rfl ?_
                refine wpR_pass (wantN rfl rfl rfl hc86) rfl rfl ?_
                refine wpR_val (v := (Value.bool false)) (w' := w11) rfl rfl rfl (x_pickF (v := (Value.bool false)) rfl rfl hc86 rfl) ?_
                refine wpR_nil ?_
                exact ⟨(), ⟨(by rw [hc86]; rfl), e0, e16, e25, e26, e27, e28, trivial⟩, rfl⟩
            rintro _ ρ wj ⟨e176, e0, e16, e25, e26, e27, e28, -⟩ rfl
            refine wpR_val (v := (Value.bool ((r9 && (beqS r79.1 p1)) && (decide (r79.2 = 0))))) (w' := w11) rfl rfl rfl (x_move (v := (Value.bool ((r9 && (beqS r79.1 p1)) && (decide (r79.2 = 0))))) rfl e176) ?_
            refine wpR_joinJ 3 (fun (_ : Unit) ρ => ρ 180 = Value.bool (((r9 && (beqS r79.1 p1)) && (decide (r79.2 = 0))) && (decide (r80 = 0))) ∧ ρ 0 = (Sl.v p0) ∧ ρ 16 = (Value.pointer r14.1) ∧ ρ 26 = (Value.string r81.1) ∧ ρ 27 = (Value.int .i64 r81.2) ∧ ρ 28 = (Value.int .i64 r82) ∧ True) (fun _ w => w11 = w) ?_ ?_
            · clear h
              rcases Bool.eq_false_or_eq_true ((r9 && (beqS r79.1 p1)) && (decide (r79.2 = 0))) with hc88 | hc88
              · skip
                refine wpR_val (v := (Value.int .i64 r80)) (w' := w11) (wantG rfl rfl rfl hc88) rfl rfl (x_move (v := (Value.int .i64 r80)) rfl e25) ?_
                refine wpR_val (v := (Value.bool (decide (r80 = 0)))) (w' := w11) (wantG rfl rfl rfl hc88) rfl rfl (x_eql rfl rfl rfl) ?_
                refine wpR_val (v := (Value.bool (decide (r80 = 0)))) (w' := w11) rfl rfl rfl (x_pickT (v := (Value.bool (decide (r80 = 0)))) rfl rfl hc88 rfl) ?_
                refine wpR_nil ?_
                exact ⟨(), ⟨(by rw [hc88]; rfl), e0, e16, e26, e27, e28, trivial⟩, rfl⟩
              · skip
                refine wpR_pass (wantN rfl rfl rfl hc88) rfl rfl ?_
                refine wpR_pass (wantN rfl rfl rfl hc88) rfl rfl ?_
                refine wpR_val (v := (Value.bool false)) (w' := w11) rfl rfl rfl (x_pickF (v := (Value.bool false)) rfl rfl hc88 rfl) ?_
                refine wpR_nil ?_
                exact ⟨(), ⟨(by rw [hc88]; rfl), e0, e16, e26, e27, e28, trivial⟩, rfl⟩
            rintro _ ρ wj ⟨e180, e0, e16, e26, e27, e28, -⟩ rfl
            refine wpR_val (v := (Value.bool (((r9 && (beqS r79.1 p1)) && (decide (r79.2 = 0))) && (decide (r80 = 0))))) (w' := w11) rfl rfl rfl (x_move (v := (Value.bool (((r9 && (beqS r79.1 p1)) && (decide (r79.2 = 0))) && (decide (r80 = 0))))) rfl e180) ?_
            refine wpR_joinJ 3 (fun (_ : Unit) ρ => ρ 184 = Value.bool ((((r9 && (beqS r79.1 p1)) && (decide (r79.2 = 0))) && (decide (r80 = 0))) && (decide (r81.2 = 13))) ∧ ρ 0 = (Sl.v p0) ∧ ρ 16 = (Value.pointer r14.1) ∧ ρ 26 = (Value.string r81.1) ∧ ρ 28 = (Value.int .i64 r82) ∧ True) (fun _ w => w11 = w) ?_ ?_
            · clear h
              rcases Bool.eq_false_or_eq_true (((r9 && (beqS r79.1 p1)) && (decide (r79.2 = 0))) && (decide (r80 = 0))) with hc90 | hc90
              · skip
                refine wpR_val (v := (Value.int .i64 r81.2)) (w' := w11) (wantG rfl rfl rfl hc90) rfl rfl (x_move (v := (Value.int .i64 r81.2)) rfl e27) ?_
                refine wpR_val (v := (Value.bool (decide (r81.2 = 13)))) (w' := w11) (wantG rfl rfl rfl hc90) rfl rfl (x_eql rfl rfl rfl) ?_
                refine wpR_val (v := (Value.bool (decide (r81.2 = 13)))) (w' := w11) rfl rfl rfl (x_pickT (v := (Value.bool (decide (r81.2 = 13)))) rfl rfl hc90 rfl) ?_
                refine wpR_nil ?_
                exact ⟨(), ⟨(by rw [hc90]; rfl), e0, e16, e26, e28, trivial⟩, rfl⟩
              · skip
                refine wpR_pass (wantN rfl rfl rfl hc90) rfl rfl ?_
                refine wpR_pass (wantN rfl rfl rfl hc90) rfl rfl ?_
                refine wpR_val (v := (Value.bool false)) (w' := w11) rfl rfl rfl (x_pickF (v := (Value.bool false)) rfl rfl hc90 rfl) ?_
                refine wpR_nil ?_
                exact ⟨(), ⟨(by rw [hc90]; rfl), e0, e16, e26, e28, trivial⟩, rfl⟩
            rintro _ ρ wj ⟨e184, e0, e16, e26, e28, -⟩ rfl
            refine wpR_val (v := (Value.bool ((((r9 && (beqS r79.1 p1)) && (decide (r79.2 = 0))) && (decide (r80 = 0))) && (decide (r81.2 = 13))))) (w' := w11) rfl rfl rfl (x_move (v := (Value.bool ((((r9 && (beqS r79.1 p1)) && (decide (r79.2 = 0))) && (decide (r80 = 0))) && (decide (r81.2 = 13))))) rfl e184) ?_
            refine wpR_joinJ 3 (fun (_ : Unit) ρ => ρ 188 = Value.bool (((((r9 && (beqS r79.1 p1)) && (decide (r79.2 = 0))) && (decide (r80 = 0))) && (decide (r81.2 = 13))) && (beqS r81.1 (ByteArray.mk #[]))) ∧ ρ 0 = (Sl.v p0) ∧ ρ 16 = (Value.pointer r14.1) ∧ ρ 28 = (Value.int .i64 r82) ∧ True) (fun _ w => w11 = w) ?_ ?_
            · clear h
              rcases Bool.eq_false_or_eq_true ((((r9 && (beqS r79.1 p1)) && (decide (r79.2 = 0))) && (decide (r80 = 0))) && (decide (r81.2 = 13))) with hc92 | hc92
              · skip
                refine wpR_val (v := (Value.string r81.1)) (w' := w11) (wantG rfl rfl rfl hc92) rfl rfl (x_move (v := (Value.string r81.1)) rfl e26) ?_
                refine wpR_val (v := (Value.bool (beqS r81.1 (ByteArray.mk #[])))) (w' := w11) (wantG rfl rfl rfl hc92) rfl rfl (x_eqlS rfl rfl rfl) ?_
                refine wpR_val (v := (Value.bool (beqS r81.1 (ByteArray.mk #[])))) (w' := w11) rfl rfl rfl (x_pickT (v := (Value.bool (beqS r81.1 (ByteArray.mk #[])))) rfl rfl hc92 rfl) ?_
                refine wpR_nil ?_
                exact ⟨(), ⟨(by rw [hc92]; rfl), e0, e16, e28, trivial⟩, rfl⟩
              · skip
                refine wpR_pass (wantN rfl rfl rfl hc92) rfl rfl ?_
                refine wpR_pass (wantN rfl rfl rfl hc92) rfl rfl ?_
                refine wpR_val (v := (Value.bool false)) (w' := w11) rfl rfl rfl (x_pickF (v := (Value.bool false)) rfl rfl hc92 rfl) ?_
                refine wpR_nil ?_
                exact ⟨(), ⟨(by rw [hc92]; rfl), e0, e16, e28, trivial⟩, rfl⟩
            rintro _ ρ wj ⟨e188, e0, e16, e28, -⟩ rfl
            refine wpR_val (v := (Value.bool (((((r9 && (beqS r79.1 p1)) && (decide (r79.2 = 0))) && (decide (r80 = 0))) && (decide (r81.2 = 13))) && (beqS r81.1 (ByteArray.mk #[]))))) (w' := w11) rfl rfl rfl (x_move (v := (Value.bool (((((r9 && (beqS r79.1 p1)) && (decide (r79.2 = 0))) && (decide (r80 = 0))) && (decide (r81.2 = 13))) && (beqS r81.1 (ByteArray.mk #[]))))) rfl e188) ?_
            refine wpR_joinJ 3 (fun (_ : Unit) ρ => ρ 192 = Value.bool ((((((r9 && (beqS r79.1 p1)) && (decide (r79.2 = 0))) && (decide (r80 = 0))) && (decide (r81.2 = 13))) && (beqS r81.1 (ByteArray.mk #[]))) && (decide (r82 = 5))) ∧ ρ 0 = (Sl.v p0) ∧ ρ 16 = (Value.pointer r14.1) ∧ True) (fun _ w => w11 = w) ?_ ?_
            · clear h
              rcases Bool.eq_false_or_eq_true (((((r9 && (beqS r79.1 p1)) && (decide (r79.2 = 0))) && (decide (r80 = 0))) && (decide (r81.2 = 13))) && (beqS r81.1 (ByteArray.mk #[]))) with hc94 | hc94
              · skip
                refine wpR_val (v := (Value.int .i64 r82)) (w' := w11) (wantG rfl rfl rfl hc94) rfl rfl (x_move (v := (Value.int .i64 r82)) rfl e28) ?_
                refine wpR_val (v := (Value.bool (decide (r82 = 5)))) (w' := w11) (wantG rfl rfl rfl hc94) rfl rfl (x_eql rfl rfl rfl) ?_
                refine wpR_val (v := (Value.bool (decide (r82 = 5)))) (w' := w11) rfl rfl rfl (x_pickT (v := (Value.bool (decide (r82 = 5)))) rfl rfl hc94 rfl) ?_
                refine wpR_nil ?_
                exact ⟨(), ⟨(by rw [hc94]; rfl), e0, e16, trivial⟩, rfl⟩
              · skip
                refine wpR_pass (wantN rfl rfl rfl hc94) rfl rfl ?_
                refine wpR_pass (wantN rfl rfl rfl hc94) rfl rfl ?_
                refine wpR_val (v := (Value.bool false)) (w' := w11) rfl rfl rfl (x_pickF (v := (Value.bool false)) rfl rfl hc94 rfl) ?_
                refine wpR_nil ?_
                exact ⟨(), ⟨(by rw [hc94]; rfl), e0, e16, trivial⟩, rfl⟩
            rintro _ ρ wj ⟨e192, e0, e16, -⟩ rfl
            refine wpR_val (v := (Value.bool ((((((r9 && (beqS r79.1 p1)) && (decide (r79.2 = 0))) && (decide (r80 = 0))) && (decide (r81.2 = 13))) && (beqS r81.1 (ByteArray.mk #[]))) && (decide (r82 = 5))))) (w' := w11) rfl rfl rfl (x_move (v := (Value.bool ((((((r9 && (beqS r79.1 p1)) && (decide (r79.2 = 0))) && (decide (r80 = 0))) && (decide (r81.2 = 13))) && (beqS r81.1 (ByteArray.mk #[]))) && (decide (r82 = 5))))) rfl e192) ?_
            obtain ⟨J95, h, hk⟩ := h
            refine wpR_joinJ 8 (fun x ρ => ρ 201 = Value.bool x ∧ True) (J95) ?_ ?_
            · clear hk
              rcases Bool.eq_false_or_eq_true ((((((r9 && (beqS r79.1 p1)) && (decide (r79.2 = 0))) && (decide (r80 = 0))) && (decide (r81.2 = 13))) && (beqS r81.1 (ByteArray.mk #[]))) && (decide (r82 = 5))) with hc96 | hc96
              · replace h := h.1 hc96
                refine wpR_val (v := (Value.pointer r14.1)) (w' := w11) (wantG rfl rfl rfl hc96) rfl rfl (x_move (v := (Value.pointer r14.1)) rfl e16) ?_
                refine wpR_enter (wantG rfl rfl rfl hc96) rfl rfl (x_call (vs := [(Value.pointer r14.1)]) rfl rfl (mapl_cons rfl mapl_nil) Try.func15 NN_15 NB_15) (Calls.mono h ?_)
                rintro _ w12 ⟨r97, rfl, h⟩
                refine ⟨_, rfl, ?_⟩
                refine wpR_val (v := (Sl.v p0)) (w' := w12) (wantG rfl rfl rfl hc96) rfl rfl (x_move (v := (Sl.v p0)) rfl e0) ?_
                refine wpR_val (v := (Value.int .i64 (p0.len : Int))) (w' := w12) (wantG rfl rfl rfl hc96) rfl rfl (x_lenS (s := p0) rfl rfl isSliceT_43) ?_
                refine wpR_val (v := (Value.int .i64 (IntKind.i64.wrap (2 * (p0.len : Int))))) (w' := w12) (wantG rfl rfl rfl hc96) rfl rfl (x_mul rfl rfl rfl) ?_
                refine wpR_val (v := (Value.int .i64 (IntKind.i64.wrap ((IntKind.i64.wrap (2 * (p0.len : Int))) + 1)))) (w' := w12) (wantG rfl rfl rfl hc96) rfl rfl (x_add rfl rfl rfl) ?_
                refine wpR_val (v := (Value.bool (decide (r97 = (IntKind.i64.wrap ((IntKind.i64.wrap (2 * (p0.len : Int))) + 1)))))) (w' := w12) (wantG rfl rfl rfl hc96) rfl rfl (x_eql rfl rfl rfl) ?_
                refine wpR_val (v := (Value.bool (decide (r97 = (IntKind.i64.wrap ((IntKind.i64.wrap (2 * (p0.len : Int))) + 1)))))) (w' := w12) rfl rfl rfl (x_pickT (v := (Value.bool (decide (r97 = (IntKind.i64.wrap ((IntKind.i64.wrap (2 * (p0.len : Int))) + 1)))))) rfl rfl hc96 rfl) ?_
                refine wpR_nil ?_
                exact ⟨decide (r97 = (IntKind.i64.wrap ((IntKind.i64.wrap (2 * (p0.len : Int))) + 1))), ⟨rfl, trivial⟩, h⟩
              · replace h := h.2 hc96
                refine wpR_pass (wantN rfl rfl rfl hc96) rfl rfl ?_
                refine wpR_pass (wantN rfl rfl rfl hc96) rfl rfl ?_
                refine wpR_pass (wantN rfl rfl rfl hc96) rfl rfl ?_
                refine wpR_pass (wantN rfl rfl rfl hc96) rfl rfl ?_
                refine wpR_pass (wantN rfl rfl rfl hc96) rfl rfl ?_
                refine wpR_pass (wantN rfl rfl rfl hc96) rfl rfl ?_
                refine wpR_pass (wantN rfl rfl rfl hc96) rfl rfl ?_
                refine wpR_val (v := (Value.bool false)) (w' := w11) rfl rfl rfl (x_pickF (v := (Value.bool false)) rfl rfl hc96 rfl) ?_
                refine wpR_nil ?_
                exact ⟨false, ⟨rfl, trivial⟩, h⟩
            clear h
            rintro c98 ρ w13 ⟨e201, -⟩ h
            replace h := hk c98 w13 h
            clear hk
            refine wpR_val (v := (Value.bool c98)) (w' := w13) rfl rfl rfl (x_assign (v := (Value.bool c98)) rfl e201) ?_
            refine wpR_nil ?_
            refine wpC_ret ?_
            exact ⟨.inl rfl, fun a ha => ⟨_, results_rep1 rfl ha rfl, c98, rfl, h⟩⟩

/-- lingualaw45.SealedTells -/
def F6 (p0 : Sl) (w0 : World) (K : Bool → World → Prop) : Prop :=
  callC Try.prog 7 #[] (fun (r : Bool) => (Value.bool r)) w0 fun r9 w1 =>
  callC Try.prog 11 #[(Sl.v p0)] (fun (r : Bool) => (Value.bool r)) w1 fun r10 w2 =>
  cnd (!r10)
    (
    K r9 w2
    )
    (
    callC Try.prog 8 #[] (fun (r : (Option Addr)) => (Value.pointer r)) w2 fun r12 w3 =>
    nw 54 #[(Sl.v Sl.nil)] w3 fun b13 w4 =>
    lp (fun (next14 : ((Option Addr) × Sl × Int) → World → Prop) l14 w5 =>
      cnd ((decide (l14.2.2 < (p0.len : Int))) && (!l14.1.isNone))
        (
        ix p0 l14.2.2 9 fun p18 =>
        L36 p18 w5 fun x19 x20 x21 x22 x23 x24 x25 x26 x27 =>
        nw 37 (A36 0 0 0 0 0 0 0 (ByteArray.mk #[]) Sl.nil) w5 fun b28 w6 =>
        st (Addr.mk b28 0 none) (S36 x19 x20 x21 x22 x23 x24 x25 x26 x27) w6 fun w7 =>
        jn (fun (J30 : ((Option Addr) × Sl) → World → Prop) =>
          ld (Value.int .i64) ((Addr.mk b28 0 none).add 0) w7 fun x32 =>
          cnd (decide (x32 = 0))
            (
            ld Value.string ((Addr.mk b28 0 none).add 7) w7 fun x34 =>
            ld (Value.int .i64) ((Addr.mk b28 0 none).add 3) w7 fun x35 =>
            ld (Value.int .i64) ((Addr.mk b28 0 none).add 4) w7 fun x36 =>
            ld (Value.int .i64) ((Addr.mk b28 0 none).add 5) w7 fun x37 =>
            callC Try.prog 9 #[(Value.pointer l14.1), (Value.string x34), (Value.int .i64 x35), (Value.int .i64 x36), (Value.int .i64 x37)] (fun (r : Int × Sl × Int) => (Value.tuple #[(Value.int .i64 r.1), (Sl.v r.2.1), (Value.int .i64 r.2.2)])) w7 fun r38 w9 =>
            ld Value.string ((Addr.mk b28 0 none).add 7) w9 fun x39 =>
            ld (Value.int .i64) ((Addr.mk b28 0 none).add 3) w9 fun x40 =>
            ld (Value.int .i64) ((Addr.mk b28 0 none).add 4) w9 fun x41 =>
            ld (Value.int .i64) ((Addr.mk b28 0 none).add 5) w9 fun x42 =>
            callC Try.prog 20 #[(Value.pointer (some (Addr.mk b13 0 none))), (Value.string x39), (Value.int .i64 x40), (Value.int .i64 x41), (Value.int .i64 x42)] (fun (r : Int × Sl × Int) => (Value.tuple #[(Value.int .i64 r.1), (Sl.v r.2.1), (Value.int .i64 r.2.2)])) w9 fun r43 w10 =>
            jn (fun J46 => cnd ((!decide (r38.1 = r43.1)) || (!decide (r38.2.2 = r43.2.2)))
              (
              J46 true w10
              )
              (
              callC Try.prog 12 #[(Sl.v r38.2.1), (Sl.v r43.2.1)] (fun (r : Bool) => (Value.bool r)) w10 fun r48 w11 =>
              J46 (!r48) w11
              ))
            fun c49 w12 =>
            cnd (c49)
              (
              K false w12
              )
              (
              cnd (decide (r38.2.2 = 0))
                (
                nw 25 #[(Sl.v r43.2.1)] w12 fun b52 w13 =>
                rn Try.prog (Builtin.append_ #[34, 34] 34 #[Sl.v l14.2.1, Sl.v (⟨some ⟨b52, 0, none⟩, 1, 1⟩ : Sl)]) Sl.v w13 fun r53 w14 =>
                J30 (l14.1, r53) w14
                )
                (
                J30 (l14.1, l14.2.1) w12
                )
              )
            )
            (
            cnd (decide (x32 = 1))
              (
              jn (fun (J56 : (ByteArray × Int) → World → Prop) => tk w7 fun w15 =>
                ld (Value.int .i64) ((Addr.mk b28 0 none).add 1) w15 fun x57 =>
                L36 (Addr.mk b28 0 none) w15 fun x58 x59 x60 x61 x62 x63 x64 x65 x66 =>
                callC Try.prog 13 #[(Sl.v l14.2.1), (V36 x58 x59 x60 x61 x62 x63 x64 x65 x66)] (fun (r : Sl) => (Sl.v r)) w15 fun r67 w16 =>
                (w16.cell? ((Addr.mk b28 0 none).add 1) = some (Value.int .i64 x57)) ∧
                callC Try.prog 10 #[(Value.pointer l14.1), (Value.int .i64 x57), (Sl.v r67)] (fun (r : ByteArray × Int) => (Value.tuple #[(Value.string r.1), (Value.int .i64 r.2)])) w16 fun r68 w17 =>
                J56 (r68.1, r68.2) w17
              )
              fun l69 w18 =>
              jn (fun (J71 : (ByteArray × Int) → World → Prop) => tk w18 fun w19 =>
                ld (Value.int .i64) ((Addr.mk b28 0 none).add 1) w19 fun x72 =>
                L36 (Addr.mk b28 0 none) w19 fun x73 x74 x75 x76 x77 x78 x79 x80 x81 =>
                callC Try.prog 13 #[(Sl.v l14.2.1), (V36 x73 x74 x75 x76 x77 x78 x79 x80 x81)] (fun (r : Sl) => (Sl.v r)) w19 fun r82 w20 =>
                (w20.cell? ((Addr.mk b28 0 none).add 1) = some (Value.int .i64 x72)) ∧
                callC Try.prog 21 #[(Value.pointer (some (Addr.mk b13 0 none))), (Value.int .i64 x72), (Sl.v r82)] (fun (r : ByteArray × Int) => (Value.tuple #[(Value.string r.1), (Value.int .i64 r.2)])) w20 fun r83 w21 =>
                J71 (r83.1, r83.2) w21
              )
              fun l84 w22 =>
              cnd ((!beqS l69.1 l84.1) || (!decide (l69.2 = l84.2)))
                (
                K false w22
                )
                (
                J30 (l14.1, l14.2.1) w22
                )
              )
              (
              cnd (decide (x32 = 2))
                (
                jn (fun (J90 : Bool → World → Prop) => tk w7 fun w23 =>
                  ld (Value.int .i64) ((Addr.mk b28 0 none).add 1) w23 fun x91 =>
                  ld (Value.int .i64) ((Addr.mk b28 0 none).add 1) w23 fun x92 =>
                  callC Try.prog 14 #[(Value.pointer l14.1), (Value.int .i64 x91)] (fun (r : Int) => (Value.int .i64 r)) w23 fun r93 w24 =>
                  (w24.cell? ((Addr.mk b28 0 none).add 1) = some (Value.int .i64 x92)) ∧
                  callC Try.prog 22 #[(Value.pointer (some (Addr.mk b13 0 none))), (Value.int .i64 x92)] (fun (r : Int) => (Value.int .i64 r)) w24 fun r94 w25 =>
                  J90 (!decide (r93 = r94)) w25
                )
                fun l95 w26 =>
                cnd (l95)
                  (
                  K false w26
                  )
                  (
                  J30 (l14.1, l14.2.1) w26
                  )
                )
                (
                cnd (decide (x32 = 3))
                  (
                  callC Try.prog 23 #[(Value.pointer l14.1)] (fun (r : (Option Addr)) => (Value.pointer r)) w7 fun r98 w27 =>
                  cnd (r98.isNone)
                    (
                    K false w27
                    )
                    (
                    callC Try.prog 9 #[(Value.pointer l14.1), (Value.string (ByteArray.mk #[120])), (Value.int .i64 1), (Value.int .i64 1), (Value.int .i64 0)] (fun (r : Int × Sl × Int) => (Value.tuple #[(Value.int .i64 r.1), (Sl.v r.2.1), (Value.int .i64 r.2.2)])) w27 fun _r100 w28 =>
                    ld (Value.int .i64) ((Addr.mk b28 0 none).add 1) w28 fun x101 =>
                    callC Try.prog 14 #[(Value.pointer l14.1), (Value.int .i64 x101)] (fun (r : Int) => (Value.int .i64 r)) w28 fun _r102 w29 =>
                    J30 (r98, l14.2.1) w29
                    )
                  )
                  (
                  J30 (l14.1, l14.2.1) w7
                  )
                )
              )
            )
        )
        fun l31 w8 =>
        jn (fun (J104 : Bool → World → Prop) => tk w8 fun w30 =>
          ld Sl.v ((Addr.mk b13 0 none).add 0) w30 fun x105 =>
          callC Try.prog 15 #[(Value.pointer l31.1)] (fun (r : Int) => (Value.int .i64 r)) w30 fun r106 w31 =>
          (w31.cell? ((Addr.mk b13 0 none).add 0) = some (Sl.v x105)) ∧
          J104 (!decide (r106 = (x105.len : Int))) w31
        )
        fun l107 w32 =>
        cnd (l107)
          (
          K false w32
          )
          (
          next14 (l31.1, l31.2, IntKind.i64.wrap (l14.2.2 + 1)) w32
          )
        )
        (
        K (r9 && (!l14.1.isNone)) w5
        )
    ) (r12, Sl.nil, 0) w4
    )
set_option maxRecDepth 100000 in
theorem D6 (p0 : Sl) (w0 : World) (K : Bool → World → Prop) (h : F6 p0 w0 K) : callC Try.prog 6 #[(Sl.v p0)] (fun (r : Bool) => (Value.bool r)) w0 K := by
  unfold F6 at h
  refine calls_of_wpC Try.func6 rfl 161 rfl (by simp) ?_
  intro ρ hρ
  have e0 : ρ 0 = (Sl.v p0) := hρ 0
  clear hρ
  refine wpC_seq ?_
  refine wpC_region ?_
  refine wpR_val (v := (Value.bool false)) (w' := w0) rfl rfl rfl (x_assign (v := (Value.bool false)) rfl rfl) ?_
  refine wpR_nil ?_
  refine wpC_seq ?_
  refine wpC_cut (fun ρ => ρ 0 = (Sl.v p0) ∧ True) ⟨e0, trivial⟩ ?_
  rintro ρ ⟨e0, -⟩
  refine wpC_region ?_
  refine wpR_enter rfl rfl rfl (x_call (vs := []) rfl rfl mapl_nil Try.func7 NN_7 NB_7) (Calls.mono h ?_)
  rintro _ w1 ⟨r9, rfl, h⟩
  refine ⟨_, rfl, ?_⟩
  refine wpR_val (v := (Value.bool r9)) (w' := w1) rfl rfl rfl (x_assign (v := (Value.bool r9)) rfl rfl) ?_
  refine wpR_nil ?_
  refine wpC_seq ?_
  refine wpC_seq ?_
  refine wpC_cut (fun ρ => ρ 0 = (Sl.v p0) ∧ ρ 3 = (Value.bool r9) ∧ True) ⟨e0, rfl, trivial⟩ ?_
  rintro ρ ⟨e0, e3, -⟩
  refine wpC_region ?_
  refine wpR_val (v := (Sl.v p0)) (w' := w1) rfl rfl rfl (x_move (v := (Sl.v p0)) rfl e0) ?_
  refine wpR_enter rfl rfl rfl (x_call (vs := [(Sl.v p0)]) rfl rfl (mapl_cons rfl mapl_nil) Try.func11 NN_11 NB_11) (Calls.mono h ?_)
  rintro _ w2 ⟨r10, rfl, h⟩
  refine ⟨_, rfl, ?_⟩
  refine wpR_val (v := (Value.bool (!r10))) (w' := w2) rfl rfl rfl (x_not rfl rfl) ?_
  refine wpR_nil ?_
  refine wpC_cond (b := !r10) rfl (fun hc11 => ?_) (fun hc11 => ?_)
  · replace h := h.1 hc11
    refine wpC_seq ?_
    refine wpC_cut (fun ρ => ρ 3 = (Value.bool r9) ∧ True) ⟨e3, trivial⟩ ?_
    rintro ρ ⟨e3, -⟩
    refine wpC_region ?_
    refine wpR_val (v := (Value.bool r9)) (w' := w2) rfl rfl rfl (x_move (v := (Value.bool r9)) rfl e3) ?_
    refine wpR_val (v := (Value.bool r9)) (w' := w2) rfl rfl rfl (x_assign (v := (Value.bool r9)) rfl rfl) ?_
    refine wpR_nil ?_
    refine wpC_ret ?_
    exact ⟨.inl rfl, fun a ha => ⟨_, results_rep1 rfl ha rfl, r9, rfl, h⟩⟩
  · replace h := h.2 hc11
    refine wpC_skip ?_
    refine wpC_seq ?_
    refine wpC_cut (fun ρ => ρ 0 = (Sl.v p0) ∧ ρ 3 = (Value.bool r9) ∧ True) ⟨e0, e3, trivial⟩ ?_
    rintro ρ ⟨e0, e3, -⟩
    refine wpC_region ?_
    refine wpR_enter rfl rfl rfl (x_call (vs := []) rfl rfl mapl_nil Try.func8 NN_8 NB_8) (Calls.mono h ?_)
    rintro _ w3 ⟨r12, rfl, h⟩
    refine ⟨_, rfl, ?_⟩
    refine wpR_val (v := (Value.pointer r12)) (w' := w3) rfl rfl rfl (x_assign (v := (Value.pointer r12)) rfl rfl) ?_
    refine wpR_nil ?_
    refine wpC_seq ?_
    refine wpC_cut (fun ρ => ρ 0 = (Sl.v p0) ∧ ρ 3 = (Value.bool r9) ∧ ρ 4 = (Value.pointer r12) ∧ True) ⟨e0, e3, rfl, trivial⟩ ?_
    rintro ρ ⟨e0, e3, e4, -⟩
    refine wpC_region ?_
    refine wpR_val (v := (Value.agg #[(Sl.v Sl.nil)])) (w' := w3) rfl rfl rfl (x_build (qs := []) rfl (by rfl) (BD_54_  _)) ?_
    obtain ⟨b13, hb13⟩ : ∃ u, u = w3.heap.size := ⟨_, rfl⟩
    obtain ⟨w4, hw13⟩ : ∃ u, u = w3.alloc (.cells #[(Sl.v Sl.nil)] 54) := ⟨_, rfl⟩
    replace h := h b13 w4 hb13 hw13
    refine wpR_val (v := (Value.pointer (some (Addr.mk b13 0 none)))) (w' := w4) rfl rfl rfl ((x_box (v := (Value.agg #[(Sl.v Sl.nil)])) rfl rfl).trans (by rw [hb13, hw13]; rfl)) ?_
    refine wpR_val (v := (Value.pointer (some (Addr.mk b13 0 none)))) (w' := w4) rfl rfl rfl (x_assign (v := (Value.pointer (some (Addr.mk b13 0 none)))) rfl rfl) ?_
    refine wpR_nil ?_
    refine wpC_seq ?_
    refine wpC_cut (fun ρ => ρ 0 = (Sl.v p0) ∧ ρ 3 = (Value.bool r9) ∧ ρ 4 = (Value.pointer r12) ∧ ρ 5 = (Value.pointer (some (Addr.mk b13 0 none))) ∧ True) ⟨e0, e3, e4, rfl, trivial⟩ ?_
    rintro ρ ⟨e0, e3, e4, e5, -⟩
    refine wpC_region ?_
    refine wpR_val (v := (Sl.v Sl.nil)) (w' := w4) rfl rfl rfl (x_assign (v := (Sl.v Sl.nil)) rfl rfl) ?_
    refine wpR_nil ?_
    refine wpC_seq ?_
    refine wpC_seq ?_
    refine wpC_cut (fun ρ => ρ 0 = (Sl.v p0) ∧ ρ 3 = (Value.bool r9) ∧ ρ 4 = (Value.pointer r12) ∧ ρ 5 = (Value.pointer (some (Addr.mk b13 0 none))) ∧ ρ 6 = (Sl.v Sl.nil) ∧ True) ⟨e0, e3, e4, e5, rfl, trivial⟩ ?_
    rintro ρ ⟨e0, e3, e4, e5, e6, -⟩
    refine wpC_region ?_
    refine wpR_val (v := (Value.int .i64 0)) (w' := w4) rfl rfl rfl (x_assign (v := (Value.int .i64 0)) rfl rfl) ?_
    refine wpR_nil ?_
    refine wpC_block ?_
    obtain ⟨I14, μ14, hI14, hr14⟩ := h
    refine wpC_loop (fun (x : (Option Addr) × Sl × Int) ρ => ρ 4 = (Value.pointer x.1) ∧ ρ 6 = (Sl.v x.2.1) ∧ ρ 7 = (Value.int .i64 x.2.2) ∧ ρ 0 = (Sl.v p0) ∧ ρ 3 = (Value.bool r9) ∧ ρ 5 = (Value.pointer (some (Addr.mk b13 0 none))) ∧ True) I14 μ14 (r12, Sl.nil, 0) ⟨e4, e6, rfl, e0, e3, e5, trivial⟩ hI14 ?_
    rintro l14 ρ w5 ⟨e4, e6, e7, e0, e3, e5, -⟩ h
    replace h := hr14 l14 w5 h
    clear hr14 hI14
    refine wpC_seq ?_
    refine wpC_seq ?_
    refine wpC_region ?_
    refine wpR_val (v := (Value.int .i64 l14.2.2)) (w' := w5) rfl rfl rfl (x_move (v := (Value.int .i64 l14.2.2)) rfl e7) ?_
    refine wpR_val (v := (Sl.v p0)) (w' := w5) rfl rfl rfl (x_move (v := (Sl.v p0)) rfl e0) ?_
    refine wpR_val (v := (Value.int .i64 (p0.len : Int))) (w' := w5) rfl rfl rfl (x_lenS (s := p0) rfl rfl isSliceT_32) ?_
    refine wpR_val (v := (Value.bool (decide (l14.2.2 < (p0.len : Int))))) (w' := w5) rfl rfl rfl (x_lss rfl rfl rfl) ?_
    refine wpR_val (v := (Value.bool (decide (l14.2.2 < (p0.len : Int))))) (w' := w5) rfl rfl rfl (x_move (v := (Value.bool (decide (l14.2.2 < (p0.len : Int))))) rfl rfl) ?_
    refine wpR_joinJ 3 (fun (_ : Unit) ρ => ρ 35 = Value.bool ((decide (l14.2.2 < (p0.len : Int))) && (!l14.1.isNone)) ∧ ρ 0 = (Sl.v p0) ∧ ρ 3 = (Value.bool r9) ∧ ρ 4 = (Value.pointer l14.1) ∧ ρ 5 = (Value.pointer (some (Addr.mk b13 0 none))) ∧ ρ 6 = (Sl.v l14.2.1) ∧ ρ 7 = (Value.int .i64 l14.2.2) ∧ True) (fun _ w => w5 = w) ?_ ?_
    · clear h
      rcases Bool.eq_false_or_eq_true (decide (l14.2.2 < (p0.len : Int))) with hc16 | hc16
      · skip
        refine wpR_val (v := (Value.pointer l14.1)) (w' := w5) (wantG rfl rfl rfl hc16) rfl rfl (x_move (v := (Value.pointer l14.1)) rfl e4) ?_
        refine wpR_val (v := (Value.bool (!l14.1.isNone))) (w' := w5) (wantG rfl rfl rfl hc16) rfl rfl (x_neqNil rfl rfl rfl isPtrT_23) ?_
        refine wpR_val (v := (Value.bool (!l14.1.isNone))) (w' := w5) rfl rfl rfl (x_pickT (v := (Value.bool (!l14.1.isNone))) rfl rfl hc16 rfl) ?_
        refine wpR_nil ?_
        exact ⟨(), ⟨(by rw [hc16]; rfl), e0, e3, e4, e5, e6, e7, trivial⟩, rfl⟩
      · skip
        refine wpR_pass (wantN rfl rfl rfl hc16) rfl rfl ?_
        refine wpR_pass (wantN rfl rfl rfl hc16) rfl rfl ?_
        refine wpR_val (v := (Value.bool false)) (w' := w5) rfl rfl rfl (x_pickF (v := (Value.bool false)) rfl rfl hc16 rfl) ?_
        refine wpR_nil ?_
        exact ⟨(), ⟨(by rw [hc16]; rfl), e0, e3, e4, e5, e6, e7, trivial⟩, rfl⟩
    rintro _ ρ wj ⟨e35, e0, e3, e4, e5, e6, e7, -⟩ rfl
    refine wpR_nil ?_
    refine wpC_cond (b := (decide (l14.2.2 < (p0.len : Int))) && (!l14.1.isNone)) e35 (fun hc17 => ?_) (fun hc17 => ?_)
    · replace h := h.1 hc17
      refine wpC_skip ?_
      refine wpC_seq ?_
      refine wpC_block ?_
      refine wpC_seq ?_
      refine wpC_region ?_
      refine wpR_val (v := (Sl.v p0)) (w' := w5) rfl rfl rfl (x_move (v := (Sl.v p0)) rfl e0) ?_
      refine wpR_val (v := (Value.int .i64 l14.2.2)) (w' := w5) rfl rfl rfl (x_move (v := (Value.int .i64 l14.2.2)) rfl e7) ?_
      obtain ⟨q18, z18, r18, h⟩ := h
      generalize hp18 : z18.add ((l14.2.2 : Int).toNat * 9) = p18 at h
      refine wpR_val (v := (Value.pointer (some p18))) (w' := w5) rfl rfl rfl ((x_indexAddr (s := p0) rfl rfl rfl ES_32 q18 r18).trans (by rw [hp18])) ?_
      obtain ⟨x19, q19, x20, q20, x21, q21, x22, q22, x23, q23, x24, q24, x25, q25, x26, q26, x27, q27, h⟩ := h
      refine wpR_val (v := (V36 x19 x20 x21 x22 x23 x24 x25 x26 x27)) (w' := w5) rfl rfl rfl (x_loadN (S36 x19 x20 x21 x22 x23 x24 x25 x26 x27) rfl rfl SH_37 (K36 ⟨q19, q20, q21, q22, q23, q24, q25, q26, q27⟩)) ?_
      obtain ⟨b28, hb28⟩ : ∃ u, u = w5.heap.size := ⟨_, rfl⟩
      obtain ⟨w6, hw28⟩ : ∃ u, u = w5.alloc (.cells (A36 0 0 0 0 0 0 0 (ByteArray.mk #[]) Sl.nil) 37) := ⟨_, rfl⟩
      replace h := h b28 w6 hb28 hw28
      refine wpR_val (v := (Value.pointer (some (Addr.mk b28 0 none)))) (w' := w6) rfl rfl rfl ((x_alloc rfl ZV_37).trans (by rw [hb28, hw28]; rfl)) ?_
      obtain ⟨q29, h⟩ := h
      obtain ⟨w7, hw29⟩ : ∃ u, u = setAll w6 (Addr.mk b28 0 none) (S36 x19 x20 x21 x22 x23 x24 x25 x26 x27) 0 := ⟨_, rfl⟩
      replace h := h w7 hw29
      refine wpR_skp (w' := w7) rfl rfl ((x_store (v := (V36 x19 x20 x21 x22 x23 x24 x25 x26 x27)) rfl rfl rfl SZ_37 (ones (by rfl)) q29).trans (by rw [hw29]; rfl)) ?_
      refine wpR_nil ?_
      obtain ⟨J30, h, hk⟩ := h
      refine wpC_seqJ (fun (x : (Option Addr) × Sl) ρ => ρ 4 = (Value.pointer x.1) ∧ ρ 6 = (Sl.v x.2) ∧ ρ 0 = (Sl.v p0) ∧ ρ 3 = (Value.bool r9) ∧ ρ 5 = (Value.pointer (some (Addr.mk b13 0 none))) ∧ ρ 7 = (Value.int .i64 l14.2.2) ∧ True) J30 ?_ ?_
      · clear hk
        refine wpC_seq ?_
        refine wpC_cut (fun ρ => ρ 0 = (Sl.v p0) ∧ ρ 3 = (Value.bool r9) ∧ ρ 4 = (Value.pointer l14.1) ∧ ρ 5 = (Value.pointer (some (Addr.mk b13 0 none))) ∧ ρ 6 = (Sl.v l14.2.1) ∧ ρ 7 = (Value.int .i64 l14.2.2) ∧ ρ 8 = (Value.pointer (some (Addr.mk b28 0 none))) ∧ True) ⟨e0, e3, e4, e5, e6, e7, rfl, trivial⟩ ?_
        rintro ρ ⟨e0, e3, e4, e5, e6, e7, e8, -⟩
        refine wpC_region ?_
        refine wpR_val (v := (Value.pointer (some ((Addr.mk b28 0 none).add 0)))) (w' := w7) rfl rfl rfl (x_fieldAddr rfl e8 FA_37_0) ?_
        obtain ⟨x32, q32, h⟩ := h
        refine wpR_val (v := (Value.int .i64 x32)) (w' := w7) rfl rfl rfl (x_load1 rfl rfl SH_3 q32) ?_
        refine wpR_nil ?_
        refine wpC_block ?_
        refine wpC_seq ?_
        refine wpC_cut (fun ρ => ρ 0 = (Sl.v p0) ∧ ρ 3 = (Value.bool r9) ∧ ρ 4 = (Value.pointer l14.1) ∧ ρ 5 = (Value.pointer (some (Addr.mk b13 0 none))) ∧ ρ 6 = (Sl.v l14.2.1) ∧ ρ 7 = (Value.int .i64 l14.2.2) ∧ ρ 8 = (Value.pointer (some (Addr.mk b28 0 none))) ∧ ρ 43 = (Value.int .i64 x32) ∧ True) ⟨e0, e3, e4, e5, e6, e7, e8, rfl, trivial⟩ ?_
        rintro ρ ⟨e0, e3, e4, e5, e6, e7, e8, e43, -⟩
        refine wpC_region ?_
        refine wpR_val (v := (Value.bool (decide (x32 = 0)))) (w' := w7) rfl rfl rfl (x_eql rfl e43 rfl) ?_
        refine wpR_val (v := (Value.bool (decide (x32 = 0)))) (w' := w7) rfl rfl rfl (x_assign (v := (Value.bool (decide (x32 = 0)))) rfl rfl) ?_
        refine wpR_nil ?_
        refine wpC_cond (b := decide (x32 = 0)) rfl (fun hc33 => ?_) (fun hc33 => ?_)
        · replace h := h.1 hc33
          refine wpC_seq ?_
          refine wpC_cut (fun ρ => ρ 0 = (Sl.v p0) ∧ ρ 3 = (Value.bool r9) ∧ ρ 4 = (Value.pointer l14.1) ∧ ρ 5 = (Value.pointer (some (Addr.mk b13 0 none))) ∧ ρ 6 = (Sl.v l14.2.1) ∧ ρ 7 = (Value.int .i64 l14.2.2) ∧ ρ 8 = (Value.pointer (some (Addr.mk b28 0 none))) ∧ True) ⟨e0, e3, e4, e5, e6, e7, e8, trivial⟩ ?_
          rintro ρ ⟨e0, e3, e4, e5, e6, e7, e8, -⟩
          refine wpC_region ?_
          refine wpR_val (v := (Value.pointer l14.1)) (w' := w7) rfl rfl rfl (x_move (v := (Value.pointer l14.1)) rfl e4) ?_
          refine wpR_val (v := (Value.pointer (some ((Addr.mk b28 0 none).add 7)))) (w' := w7) rfl rfl rfl (x_fieldAddr rfl e8 FA_37_7) ?_
          obtain ⟨x34, q34, h⟩ := h
          refine wpR_val (v := (Value.string x34)) (w' := w7) rfl rfl rfl (x_load1 rfl rfl SH_9 q34) ?_
          refine wpR_val (v := (Value.pointer (some ((Addr.mk b28 0 none).add 3)))) (w' := w7) rfl rfl rfl (x_fieldAddr rfl e8 FA_37_3) ?_
          obtain ⟨x35, q35, h⟩ := h
          refine wpR_val (v := (Value.int .i64 x35)) (w' := w7) rfl rfl rfl (x_load1 rfl rfl SH_3 q35) ?_
          refine wpR_val (v := (Value.pointer (some ((Addr.mk b28 0 none).add 4)))) (w' := w7) rfl rfl rfl (x_fieldAddr rfl e8 FA_37_4) ?_
          obtain ⟨x36, q36, h⟩ := h
          refine wpR_val (v := (Value.int .i64 x36)) (w' := w7) rfl rfl rfl (x_load1 rfl rfl SH_3 q36) ?_
          refine wpR_val (v := (Value.pointer (some ((Addr.mk b28 0 none).add 5)))) (w' := w7) rfl rfl rfl (x_fieldAddr rfl e8 FA_37_5) ?_
          obtain ⟨x37, q37, h⟩ := h
          refine wpR_val (v := (Value.int .i64 x37)) (w' := w7) rfl rfl rfl (x_load1 rfl rfl SH_3 q37) ?_
          refine wpR_enter rfl rfl rfl (x_call (vs := [(Value.pointer l14.1), (Value.string x34), (Value.int .i64 x35), (Value.int .i64 x36), (Value.int .i64 x37)]) rfl rfl (mapl_cons rfl (mapl_cons rfl (mapl_cons rfl (mapl_cons rfl (mapl_cons rfl mapl_nil))))) Try.func9 NN_9 NB_9) (Calls.mono h ?_)
          rintro _ w9 ⟨r38, rfl, h⟩
          refine ⟨_, rfl, ?_⟩
          refine wpR_val (v := (Value.tuple #[(Value.int .i64 r38.1), (Sl.v r38.2.1), (Value.int .i64 r38.2.2)])) (w' := w9) rfl rfl rfl (x_move (v := (Value.tuple #[(Value.int .i64 r38.1), (Sl.v r38.2.1), (Value.int .i64 r38.2.2)])) rfl rfl) ?_
          refine wpR_val (v := (Value.int .i64 r38.1)) (w' := w9) rfl rfl rfl (x_extract rfl rfl rfl) ?_
          refine wpR_val (v := (Sl.v r38.2.1)) (w' := w9) rfl rfl rfl (x_extract rfl rfl rfl) ?_
          refine wpR_val (v := (Value.int .i64 r38.2.2)) (w' := w9) rfl rfl rfl (x_extract rfl rfl rfl) ?_
          refine wpR_val (v := (Value.int .i64 r38.1)) (w' := w9) rfl rfl rfl (x_assign (v := (Value.int .i64 r38.1)) rfl rfl) ?_
          refine wpR_val (v := (Sl.v r38.2.1)) (w' := w9) rfl rfl rfl (x_assign (v := (Sl.v r38.2.1)) rfl rfl) ?_
          refine wpR_val (v := (Value.int .i64 r38.2.2)) (w' := w9) rfl rfl rfl (x_assign (v := (Value.int .i64 r38.2.2)) rfl rfl) ?_
          refine wpR_nil ?_
          refine wpC_seq ?_
          refine wpC_cut (fun ρ => ρ 0 = (Sl.v p0) ∧ ρ 3 = (Value.bool r9) ∧ ρ 4 = (Value.pointer l14.1) ∧ ρ 5 = (Value.pointer (some (Addr.mk b13 0 none))) ∧ ρ 6 = (Sl.v l14.2.1) ∧ ρ 7 = (Value.int .i64 l14.2.2) ∧ ρ 8 = (Value.pointer (some (Addr.mk b28 0 none))) ∧ ρ 9 = (Value.int .i64 r38.1) ∧ ρ 10 = (Sl.v r38.2.1) ∧ ρ 11 = (Value.int .i64 r38.2.2) ∧ True) ⟨e0, e3, e4, e5, e6, e7, e8, rfl, rfl, rfl, trivial⟩ ?_
          rintro ρ ⟨e0, e3, e4, e5, e6, e7, e8, e9, e10, e11, -⟩
          refine wpC_region ?_
          refine wpR_val (v := (Value.pointer (some (Addr.mk b13 0 none)))) (w' := w9) rfl rfl rfl (x_move (v := (Value.pointer (some (Addr.mk b13 0 none)))) rfl e5) ?_
          refine wpR_val (v := (Value.pointer (some ((Addr.mk b28 0 none).add 7)))) (w' := w9) rfl rfl rfl (x_fieldAddr rfl e8 FA_37_7) ?_
          obtain ⟨x39, q39, h⟩ := h
          refine wpR_val (v := (Value.string x39)) (w' := w9) rfl rfl rfl (x_load1 rfl rfl SH_9 q39) ?_
          refine wpR_val (v := (Value.pointer (some ((Addr.mk b28 0 none).add 3)))) (w' := w9) rfl rfl rfl (x_fieldAddr rfl e8 FA_37_3) ?_
          obtain ⟨x40, q40, h⟩ := h
          refine wpR_val (v := (Value.int .i64 x40)) (w' := w9) rfl rfl rfl (x_load1 rfl rfl SH_3 q40) ?_
          refine wpR_val (v := (Value.pointer (some ((Addr.mk b28 0 none).add 4)))) (w' := w9) rfl rfl rfl (x_fieldAddr rfl e8 FA_37_4) ?_
          obtain ⟨x41, q41, h⟩ := h
          refine wpR_val (v := (Value.int .i64 x41)) (w' := w9) rfl rfl rfl (x_load1 rfl rfl SH_3 q41) ?_
          refine wpR_val (v := (Value.pointer (some ((Addr.mk b28 0 none).add 5)))) (w' := w9) rfl rfl rfl (x_fieldAddr rfl e8 FA_37_5) ?_
          obtain ⟨x42, q42, h⟩ := h
          refine wpR_val (v := (Value.int .i64 x42)) (w' := w9) rfl rfl rfl (x_load1 rfl rfl SH_3 q42) ?_
          refine wpR_enter rfl rfl rfl (x_call (vs := [(Value.pointer (some (Addr.mk b13 0 none))), (Value.string x39), (Value.int .i64 x40), (Value.int .i64 x41), (Value.int .i64 x42)]) rfl rfl (mapl_cons rfl (mapl_cons rfl (mapl_cons rfl (mapl_cons rfl (mapl_cons rfl mapl_nil))))) Try.func20 NN_20 NB_20) (Calls.mono h ?_)
          rintro _ w10 ⟨r43, rfl, h⟩
          refine ⟨_, rfl, ?_⟩
          refine wpR_val (v := (Value.tuple #[(Value.int .i64 r43.1), (Sl.v r43.2.1), (Value.int .i64 r43.2.2)])) (w' := w10) rfl rfl rfl (x_move (v := (Value.tuple #[(Value.int .i64 r43.1), (Sl.v r43.2.1), (Value.int .i64 r43.2.2)])) rfl rfl) ?_
          refine wpR_val (v := (Value.int .i64 r43.1)) (w' := w10) rfl rfl rfl (x_extract rfl rfl rfl) ?_
          refine wpR_val (v := (Sl.v r43.2.1)) (w' := w10) rfl rfl rfl (x_extract rfl rfl rfl) ?_
          refine wpR_val (v := (Value.int .i64 r43.2.2)) (w' := w10) rfl rfl rfl (x_extract rfl rfl rfl) ?_
          refine wpR_val (v := (Value.int .i64 r43.1)) (w' := w10) rfl rfl rfl (x_assign (v := (Value.int .i64 r43.1)) rfl rfl) ?_
          refine wpR_val (v := (Sl.v r43.2.1)) (w' := w10) rfl rfl rfl (x_assign (v := (Sl.v r43.2.1)) rfl rfl) ?_
          refine wpR_val (v := (Value.int .i64 r43.2.2)) (w' := w10) rfl rfl rfl (x_assign (v := (Value.int .i64 r43.2.2)) rfl rfl) ?_
          refine wpR_nil ?_
          refine wpC_seq ?_
          refine wpC_seq ?_
          refine wpC_cut (fun ρ => ρ 0 = (Sl.v p0) ∧ ρ 3 = (Value.bool r9) ∧ ρ 4 = (Value.pointer l14.1) ∧ ρ 5 = (Value.pointer (some (Addr.mk b13 0 none))) ∧ ρ 6 = (Sl.v l14.2.1) ∧ ρ 7 = (Value.int .i64 l14.2.2) ∧ ρ 9 = (Value.int .i64 r38.1) ∧ ρ 10 = (Sl.v r38.2.1) ∧ ρ 11 = (Value.int .i64 r38.2.2) ∧ ρ 12 = (Value.int .i64 r43.1) ∧ ρ 13 = (Sl.v r43.2.1) ∧ ρ 14 = (Value.int .i64 r43.2.2) ∧ True) ⟨e0, e3, e4, e5, e6, e7, e9, e10, e11, rfl, rfl, rfl, trivial⟩ ?_
          rintro ρ ⟨e0, e3, e4, e5, e6, e7, e9, e10, e11, e12, e13, e14, -⟩
          refine wpC_region ?_
          refine wpR_val (v := (Value.int .i64 r38.1)) (w' := w10) rfl rfl rfl (x_move (v := (Value.int .i64 r38.1)) rfl e9) ?_
          refine wpR_val (v := (Value.int .i64 r43.1)) (w' := w10) rfl rfl rfl (x_move (v := (Value.int .i64 r43.1)) rfl e12) ?_
          refine wpR_val (v := (Value.bool (!decide (r38.1 = r43.1)))) (w' := w10) rfl rfl rfl (x_neq rfl rfl rfl) ?_
          refine wpR_val (v := (Value.bool (!decide (r38.1 = r43.1)))) (w' := w10) rfl rfl rfl (x_move (v := (Value.bool (!decide (r38.1 = r43.1)))) rfl rfl) ?_
          refine wpR_joinJ 4 (fun (_ : Unit) ρ => ρ 81 = Value.bool ((!decide (r38.1 = r43.1)) || (!decide (r38.2.2 = r43.2.2))) ∧ ρ 0 = (Sl.v p0) ∧ ρ 3 = (Value.bool r9) ∧ ρ 4 = (Value.pointer l14.1) ∧ ρ 5 = (Value.pointer (some (Addr.mk b13 0 none))) ∧ ρ 6 = (Sl.v l14.2.1) ∧ ρ 7 = (Value.int .i64 l14.2.2) ∧ ρ 10 = (Sl.v r38.2.1) ∧ ρ 11 = (Value.int .i64 r38.2.2) ∧ ρ 13 = (Sl.v r43.2.1) ∧ True) (fun _ w => w10 = w) ?_ ?_
          · clear h
            rcases Bool.eq_false_or_eq_true (!decide (r38.1 = r43.1)) with hc45 | hc45
            · skip
              refine wpR_pass (wantN rfl rfl rfl hc45) rfl rfl ?_
              refine wpR_pass (wantN rfl rfl rfl hc45) rfl rfl ?_
              refine wpR_pass (wantN rfl rfl rfl hc45) rfl rfl ?_
              refine wpR_val (v := (Value.bool true)) (w' := w10) rfl rfl rfl (x_pickT (v := (Value.bool true)) rfl rfl hc45 rfl) ?_
              refine wpR_nil ?_
              exact ⟨(), ⟨(by rw [hc45]; rfl), e0, e3, e4, e5, e6, e7, e10, e11, e13, trivial⟩, rfl⟩
            · skip
              refine wpR_val (v := (Value.int .i64 r38.2.2)) (w' := w10) (wantG rfl rfl rfl hc45) rfl rfl (x_move (v := (Value.int .i64 r38.2.2)) rfl e11) ?_
              refine wpR_val (v := (Value.int .i64 r43.2.2)) (w' := w10) (wantG rfl rfl rfl hc45) rfl rfl (x_move (v := (Value.int .i64 r43.2.2)) rfl e14) ?_
              refine wpR_val (v := (Value.bool (!decide (r38.2.2 = r43.2.2)))) (w' := w10) (wantG rfl rfl rfl hc45) rfl rfl (x_neq rfl rfl rfl) ?_
              refine wpR_val (v := (Value.bool (!decide (r38.2.2 = r43.2.2)))) (w' := w10) rfl rfl rfl (x_pickF (v := (Value.bool (!decide (r38.2.2 = r43.2.2)))) rfl rfl hc45 rfl) ?_
              refine wpR_nil ?_
              exact ⟨(), ⟨(by rw [hc45]; rfl), e0, e3, e4, e5, e6, e7, e10, e11, e13, trivial⟩, rfl⟩
          rintro _ ρ wj ⟨e81, e0, e3, e4, e5, e6, e7, e10, e11, e13, -⟩ rfl
          refine wpR_val (v := (Value.bool ((!decide (r38.1 = r43.1)) || (!decide (r38.2.2 = r43.2.2))))) (w' := w10) rfl rfl rfl (x_move (v := (Value.bool ((!decide (r38.1 = r43.1)) || (!decide (r38.2.2 = r43.2.2))))) rfl e81) ?_
          obtain ⟨J46, h, hk⟩ := h
          refine wpR_joinJ 5 (fun x ρ => ρ 87 = Value.bool x ∧ ρ 0 = (Sl.v p0) ∧ ρ 3 = (Value.bool r9) ∧ ρ 4 = (Value.pointer l14.1) ∧ ρ 5 = (Value.pointer (some (Addr.mk b13 0 none))) ∧ ρ 6 = (Sl.v l14.2.1) ∧ ρ 7 = (Value.int .i64 l14.2.2) ∧ ρ 11 = (Value.int .i64 r38.2.2) ∧ ρ 13 = (Sl.v r43.2.1) ∧ True) (J46) ?_ ?_
          · clear hk
            rcases Bool.eq_false_or_eq_true ((!decide (r38.1 = r43.1)) || (!decide (r38.2.2 = r43.2.2))) with hc47 | hc47
            · replace h := h.1 hc47
              refine wpR_pass (wantN rfl rfl rfl hc47) rfl rfl ?_
              refine wpR_pass (wantN rfl rfl rfl hc47) rfl rfl ?_
              refine wpR_pass (wantN rfl rfl rfl hc47) rfl rfl ?_
              refine wpR_pass (wantN rfl rfl rfl hc47) rfl rfl ?_
              refine wpR_val (v := (Value.bool true)) (w' := w10) rfl rfl rfl (x_pickT (v := (Value.bool true)) rfl rfl hc47 rfl) ?_
              refine wpR_nil ?_
              exact ⟨true, ⟨rfl, e0, e3, e4, e5, e6, e7, e11, e13, trivial⟩, h⟩
            · replace h := h.2 hc47
              refine wpR_val (v := (Sl.v r38.2.1)) (w' := w10) (wantG rfl rfl rfl hc47) rfl rfl (x_move (v := (Sl.v r38.2.1)) rfl e10) ?_
              refine wpR_val (v := (Sl.v r43.2.1)) (w' := w10) (wantG rfl rfl rfl hc47) rfl rfl (x_move (v := (Sl.v r43.2.1)) rfl e13) ?_
              refine wpR_enter (wantG rfl rfl rfl hc47) rfl rfl (x_call (vs := [(Sl.v r38.2.1), (Sl.v r43.2.1)]) rfl rfl (mapl_cons rfl (mapl_cons rfl mapl_nil)) Try.func12 NN_12 NB_12) (Calls.mono h ?_)
              rintro _ w11 ⟨r48, rfl, h⟩
              refine ⟨_, rfl, ?_⟩
              refine wpR_val (v := (Value.bool (!r48))) (w' := w11) (wantG rfl rfl rfl hc47) rfl rfl (x_not rfl rfl) ?_
              refine wpR_val (v := (Value.bool (!r48))) (w' := w11) rfl rfl rfl (x_pickF (v := (Value.bool (!r48))) rfl rfl hc47 rfl) ?_
              refine wpR_nil ?_
              exact ⟨!r48, ⟨rfl, e0, e3, e4, e5, e6, e7, e11, e13, trivial⟩, h⟩
          clear h
          rintro c49 ρ w12 ⟨e87, e0, e3, e4, e5, e6, e7, e11, e13, -⟩ h
          replace h := hk c49 w12 h
          clear hk
          refine wpR_nil ?_
          refine wpC_cond (b := c49) e87 (fun hc50 => ?_) (fun hc50 => ?_)
          · replace h := h.1 hc50
            refine wpC_seq ?_
            refine wpC_region ?_
            refine wpR_val (v := (Value.bool false)) (w' := w12) rfl rfl rfl (x_assign (v := (Value.bool false)) rfl rfl) ?_
            refine wpR_nil ?_
            refine wpC_ret ?_
            exact ⟨.inl rfl, fun a ha => ⟨_, results_rep1 rfl ha rfl, false, rfl, h⟩⟩
          · replace h := h.2 hc50
            refine wpC_skip ?_
            refine wpC_seq ?_
            refine wpC_region ?_
            refine wpR_val (v := (Value.int .i64 r38.2.2)) (w' := w12) rfl rfl rfl (x_move (v := (Value.int .i64 r38.2.2)) rfl e11) ?_
            refine wpR_val (v := (Value.bool (decide (r38.2.2 = 0)))) (w' := w12) rfl rfl rfl (x_eql rfl rfl rfl) ?_
            refine wpR_nil ?_
            refine wpC_cond (b := decide (r38.2.2 = 0)) rfl (fun hc51 => ?_) (fun hc51 => ?_)
            · replace h := h.1 hc51
              refine wpC_cut (fun ρ => ρ 0 = (Sl.v p0) ∧ ρ 3 = (Value.bool r9) ∧ ρ 4 = (Value.pointer l14.1) ∧ ρ 5 = (Value.pointer (some (Addr.mk b13 0 none))) ∧ ρ 6 = (Sl.v l14.2.1) ∧ ρ 7 = (Value.int .i64 l14.2.2) ∧ ρ 13 = (Sl.v r43.2.1) ∧ True) ⟨e0, e3, e4, e5, e6, e7, e13, trivial⟩ ?_
              rintro ρ ⟨e0, e3, e4, e5, e6, e7, e13, -⟩
              refine wpC_region ?_
              refine wpR_val (v := (Sl.v l14.2.1)) (w' := w12) rfl rfl rfl (x_move (v := (Sl.v l14.2.1)) rfl e6) ?_
              refine wpR_val (v := (Sl.v r43.2.1)) (w' := w12) rfl rfl rfl (x_move (v := (Sl.v r43.2.1)) rfl e13) ?_
              obtain ⟨b52, hb52⟩ : ∃ u, u = w12.heap.size := ⟨_, rfl⟩
              obtain ⟨w13, hw52⟩ : ∃ u, u = w12.alloc (.cells #[(Sl.v r43.2.1)] 25) := ⟨_, rfl⟩
              replace h := h b52 w13 hb52 hw52
              refine wpR_val (v := (Sl.v (⟨some ⟨b52, 0, none⟩, 1, 1⟩ : Sl))) (w' := w13) rfl rfl rfl ((x_buildSlice (qs := [(0, (Sl.v r43.2.1))]) rfl (by rfl) (BS_34_1_0 r43.2.1)).trans (by rw [← hb52, ← hw52])) ?_
              obtain ⟨r53, w14, q53, h⟩ := h
              refine wpR_val (v := (Sl.v r53)) (w' := w14) rfl rfl rfl (x_append (s := l14.2.1) (u := (⟨some ⟨b52, 0, none⟩, 1, 1⟩ : Sl)) rfl rfl rfl rfl q53) ?_
              refine wpR_val (v := (Sl.v r53)) (w' := w14) rfl rfl rfl (x_assign (v := (Sl.v r53)) rfl rfl) ?_
              refine wpR_nil ?_
              exact ⟨(l14.1, r53), ⟨e4, rfl, e0, e3, e5, e7, trivial⟩, h⟩
            · replace h := h.2 hc51
              refine wpC_skip ?_
              exact ⟨(l14.1, l14.2.1), ⟨e4, e6, e0, e3, e5, e7, trivial⟩, h⟩
        · replace h := h.2 hc33
          refine wpC_seq ?_
          refine wpC_cut (fun ρ => ρ 0 = (Sl.v p0) ∧ ρ 3 = (Value.bool r9) ∧ ρ 4 = (Value.pointer l14.1) ∧ ρ 5 = (Value.pointer (some (Addr.mk b13 0 none))) ∧ ρ 6 = (Sl.v l14.2.1) ∧ ρ 7 = (Value.int .i64 l14.2.2) ∧ ρ 8 = (Value.pointer (some (Addr.mk b28 0 none))) ∧ ρ 43 = (Value.int .i64 x32) ∧ True) ⟨e0, e3, e4, e5, e6, e7, e8, e43, trivial⟩ ?_
          rintro ρ ⟨e0, e3, e4, e5, e6, e7, e8, e43, -⟩
          refine wpC_region ?_
          refine wpR_val (v := (Value.bool (decide (x32 = 1)))) (w' := w7) rfl rfl rfl (x_eql rfl e43 rfl) ?_
          refine wpR_val (v := (Value.bool (decide (x32 = 1)))) (w' := w7) rfl rfl rfl (x_assign (v := (Value.bool (decide (x32 = 1)))) rfl rfl) ?_
          refine wpR_nil ?_
          refine wpC_cond (b := decide (x32 = 1)) rfl (fun hc54 => ?_) (fun hc54 => ?_)
          · replace h := h.1 hc54
            refine wpC_seq ?_
            refine wpC_cut (fun ρ => ρ 0 = (Sl.v p0) ∧ ρ 3 = (Value.bool r9) ∧ ρ 4 = (Value.pointer l14.1) ∧ ρ 5 = (Value.pointer (some (Addr.mk b13 0 none))) ∧ ρ 6 = (Sl.v l14.2.1) ∧ ρ 7 = (Value.int .i64 l14.2.2) ∧ ρ 8 = (Value.pointer (some (Addr.mk b28 0 none))) ∧ True) ⟨e0, e3, e4, e5, e6, e7, e8, trivial⟩ ?_
            rintro ρ ⟨e0, e3, e4, e5, e6, e7, e8, -⟩
            obtain ⟨J56, h, hk⟩ := h
            refine wpC_drawJ (by kernel_rfl) (fun (x : ByteArray × Int) ρ => ρ 15 = (Value.string x.1) ∧ ρ 16 = (Value.int .i64 x.2) ∧ ρ 0 = (Sl.v p0) ∧ ρ 3 = (Value.bool r9) ∧ ρ 4 = (Value.pointer l14.1) ∧ ρ 5 = (Value.pointer (some (Addr.mk b13 0 none))) ∧ ρ 6 = (Sl.v l14.2.1) ∧ ρ 7 = (Value.int .i64 l14.2.2) ∧ ρ 8 = (Value.pointer (some (Addr.mk b28 0 none))) ∧ True) J56 ?_ ?_
            · clear hk
              unfold tk at h
              generalize w7.drew = w15 at h ⊢
              refine wpD_take (v := (Value.pointer l14.1)) 0 (fun _ => True) rfl (by kernel_rfl) (by kernel_rfl) (by kernel_rfl) rfl rfl rfl trivial (fun w _ => (x_move (v := (Value.pointer l14.1)) rfl e4)) ?_
              refine wpD_take (v := (Value.pointer (some ((Addr.mk b28 0 none).add 1)))) 1 (fun _ => True) rfl (by kernel_rfl) (by kernel_rfl) (by kernel_rfl) rfl rfl rfl trivial (fun w _ => (x_fieldAddr rfl e8 FA_37_1)) ?_
              obtain ⟨x57, q57, h⟩ := h
              refine wpD_take (v := (Value.int .i64 x57)) 2 (fun w => w.cell? ((Addr.mk b28 0 none).add 1) = some (Value.int .i64 x57)) rfl (by kernel_rfl) (by kernel_rfl) (by kernel_rfl) rfl rfl rfl q57 (fun w q57 => (x_load1 rfl rfl SH_3 q57)) ?_
              refine wpD_take (v := (Sl.v l14.2.1)) 3 (fun _ => True) rfl (by kernel_rfl) (by kernel_rfl) (by kernel_rfl) rfl rfl rfl trivial (fun w _ => (x_move (v := (Sl.v l14.2.1)) rfl e6)) ?_
              obtain ⟨x58, q58, x59, q59, x60, q60, x61, q61, x62, q62, x63, q63, x64, q64, x65, q65, x66, q66, h⟩ := h
              refine wpD_take (v := (V36 x58 x59 x60 x61 x62 x63 x64 x65 x66)) 4 (fun w => C36 (Addr.mk b28 0 none) x58 x59 x60 x61 x62 x63 x64 x65 x66 w) rfl (by kernel_rfl) (by kernel_rfl) (by kernel_rfl) rfl rfl rfl ⟨q58, q59, q60, q61, q62, q63, q64, q65, q66⟩ (fun w q => (x_loadN (S36 x58 x59 x60 x61 x62 x63 x64 x65 x66) rfl e8 SH_37 (K36 q))) ?_
              refine wpD_all (rs := [5]) (by kernel_rfl) (by simp) (allD_cons ?_ allD_nil)
              refine stepD_enterL (L' := [(2, fun w => w.cell? ((Addr.mk b28 0 none).add 1) = some (Value.int .i64 x57)), (1, fun _ => True), (0, fun _ => True)]) rfl rfl rfl rfl (x_call (vs := [(Sl.v l14.2.1), (V36 x58 x59 x60 x61 x62 x63 x64 x65 x66)]) rfl rfl (mapl_cons rfl (mapl_cons rfl mapl_nil)) Try.func13 NN_13 NB_13) (by kernel_rfl) (Calls.mono h ?_)
              rintro _ w16 ⟨r67, rfl, h⟩
              obtain ⟨o2, h⟩ := h
              refine ⟨_, rfl, (held_cons o2 (held_cons trivial (held_cons trivial held_nil))), ?_⟩
              refine wpD_all (rs := [6]) (by kernel_rfl) (by simp) (allD_cons ?_ allD_nil)
              refine stepD_enterL (L' := [(1, fun _ => True)]) rfl rfl rfl rfl (x_call (vs := [(Value.pointer l14.1), (Value.int .i64 x57), (Sl.v r67)]) rfl rfl (mapl_cons rfl (mapl_cons rfl (mapl_cons rfl mapl_nil))) Try.func10 NN_10 NB_10) (by kernel_rfl) (Calls.mono h ?_)
              rintro _ w17 ⟨r68, rfl, h⟩
              refine ⟨_, rfl, (held_cons trivial held_nil), ?_⟩
              refine wpD_take (v := (Value.tuple #[(Value.string r68.1), (Value.int .i64 r68.2)])) 7 (fun _ => True) rfl (by kernel_rfl) (by kernel_rfl) (by kernel_rfl) rfl rfl rfl trivial (fun w _ => (x_move (v := (Value.tuple #[(Value.string r68.1), (Value.int .i64 r68.2)])) rfl rfl)) ?_
              refine wpD_take (v := (Value.string r68.1)) 8 (fun _ => True) rfl (by kernel_rfl) (by kernel_rfl) (by kernel_rfl) rfl rfl rfl trivial (fun w _ => (x_extract rfl rfl rfl)) ?_
              refine wpD_take (v := (Value.int .i64 r68.2)) 9 (fun _ => True) rfl (by kernel_rfl) (by kernel_rfl) (by kernel_rfl) rfl rfl rfl trivial (fun w _ => (x_extract rfl rfl rfl)) ?_
              refine wpD_take (v := (Value.string r68.1)) 10 (fun _ => True) rfl (by kernel_rfl) (by kernel_rfl) (by kernel_rfl) rfl rfl rfl trivial (fun w _ => (x_assign (v := (Value.string r68.1)) rfl rfl)) ?_
              refine wpD_take (v := (Value.int .i64 r68.2)) 11 (fun _ => True) rfl (by kernel_rfl) (by kernel_rfl) (by kernel_rfl) rfl rfl rfl trivial (fun w _ => (x_assign (v := (Value.int .i64 r68.2)) rfl rfl)) ?_
              exact wpD_done (by kernel_rfl) ⟨(r68.1, r68.2), ⟨rfl, rfl, e0, e3, e4, e5, e6, e7, e8, trivial⟩, h⟩
            clear h
            rintro l69 ρ w18 ⟨e15, e16, e0, e3, e4, e5, e6, e7, e8, -⟩ h
            replace h := hk l69 w18 h
            clear hk
            refine wpC_seq ?_
            obtain ⟨J71, h, hk⟩ := h
            refine wpC_drawJ (by kernel_rfl) (fun (x : ByteArray × Int) ρ => ρ 17 = (Value.string x.1) ∧ ρ 18 = (Value.int .i64 x.2) ∧ ρ 0 = (Sl.v p0) ∧ ρ 3 = (Value.bool r9) ∧ ρ 4 = (Value.pointer l14.1) ∧ ρ 5 = (Value.pointer (some (Addr.mk b13 0 none))) ∧ ρ 6 = (Sl.v l14.2.1) ∧ ρ 7 = (Value.int .i64 l14.2.2) ∧ ρ 15 = (Value.string l69.1) ∧ ρ 16 = (Value.int .i64 l69.2) ∧ True) J71 ?_ ?_
            · clear hk
              unfold tk at h
              generalize w18.drew = w19 at h ⊢
              refine wpD_take (v := (Value.pointer (some (Addr.mk b13 0 none)))) 0 (fun _ => True) rfl (by kernel_rfl) (by kernel_rfl) (by kernel_rfl) rfl rfl rfl trivial (fun w _ => (x_move (v := (Value.pointer (some (Addr.mk b13 0 none)))) rfl e5)) ?_
              refine wpD_take (v := (Value.pointer (some ((Addr.mk b28 0 none).add 1)))) 1 (fun _ => True) rfl (by kernel_rfl) (by kernel_rfl) (by kernel_rfl) rfl rfl rfl trivial (fun w _ => (x_fieldAddr rfl e8 FA_37_1)) ?_
              obtain ⟨x72, q72, h⟩ := h
              refine wpD_take (v := (Value.int .i64 x72)) 2 (fun w => w.cell? ((Addr.mk b28 0 none).add 1) = some (Value.int .i64 x72)) rfl (by kernel_rfl) (by kernel_rfl) (by kernel_rfl) rfl rfl rfl q72 (fun w q72 => (x_load1 rfl rfl SH_3 q72)) ?_
              refine wpD_take (v := (Sl.v l14.2.1)) 3 (fun _ => True) rfl (by kernel_rfl) (by kernel_rfl) (by kernel_rfl) rfl rfl rfl trivial (fun w _ => (x_move (v := (Sl.v l14.2.1)) rfl e6)) ?_
              obtain ⟨x73, q73, x74, q74, x75, q75, x76, q76, x77, q77, x78, q78, x79, q79, x80, q80, x81, q81, h⟩ := h
              refine wpD_take (v := (V36 x73 x74 x75 x76 x77 x78 x79 x80 x81)) 4 (fun w => C36 (Addr.mk b28 0 none) x73 x74 x75 x76 x77 x78 x79 x80 x81 w) rfl (by kernel_rfl) (by kernel_rfl) (by kernel_rfl) rfl rfl rfl ⟨q73, q74, q75, q76, q77, q78, q79, q80, q81⟩ (fun w q => (x_loadN (S36 x73 x74 x75 x76 x77 x78 x79 x80 x81) rfl e8 SH_37 (K36 q))) ?_
              refine wpD_all (rs := [5]) (by kernel_rfl) (by simp) (allD_cons ?_ allD_nil)
              refine stepD_enterL (L' := [(2, fun w => w.cell? ((Addr.mk b28 0 none).add 1) = some (Value.int .i64 x72)), (1, fun _ => True), (0, fun _ => True)]) rfl rfl rfl rfl (x_call (vs := [(Sl.v l14.2.1), (V36 x73 x74 x75 x76 x77 x78 x79 x80 x81)]) rfl rfl (mapl_cons rfl (mapl_cons rfl mapl_nil)) Try.func13 NN_13 NB_13) (by kernel_rfl) (Calls.mono h ?_)
              rintro _ w20 ⟨r82, rfl, h⟩
              obtain ⟨o2, h⟩ := h
              refine ⟨_, rfl, (held_cons o2 (held_cons trivial (held_cons trivial held_nil))), ?_⟩
              refine wpD_all (rs := [6]) (by kernel_rfl) (by simp) (allD_cons ?_ allD_nil)
              refine stepD_enterL (L' := [(1, fun _ => True)]) rfl rfl rfl rfl (x_call (vs := [(Value.pointer (some (Addr.mk b13 0 none))), (Value.int .i64 x72), (Sl.v r82)]) rfl rfl (mapl_cons rfl (mapl_cons rfl (mapl_cons rfl mapl_nil))) Try.func21 NN_21 NB_21) (by kernel_rfl) (Calls.mono h ?_)
              rintro _ w21 ⟨r83, rfl, h⟩
              refine ⟨_, rfl, (held_cons trivial held_nil), ?_⟩
              refine wpD_take (v := (Value.tuple #[(Value.string r83.1), (Value.int .i64 r83.2)])) 7 (fun _ => True) rfl (by kernel_rfl) (by kernel_rfl) (by kernel_rfl) rfl rfl rfl trivial (fun w _ => (x_move (v := (Value.tuple #[(Value.string r83.1), (Value.int .i64 r83.2)])) rfl rfl)) ?_
              refine wpD_take (v := (Value.string r83.1)) 8 (fun _ => True) rfl (by kernel_rfl) (by kernel_rfl) (by kernel_rfl) rfl rfl rfl trivial (fun w _ => (x_extract rfl rfl rfl)) ?_
              refine wpD_take (v := (Value.int .i64 r83.2)) 9 (fun _ => True) rfl (by kernel_rfl) (by kernel_rfl) (by kernel_rfl) rfl rfl rfl trivial (fun w _ => (x_extract rfl rfl rfl)) ?_
              refine wpD_take (v := (Value.string r83.1)) 10 (fun _ => True) rfl (by kernel_rfl) (by kernel_rfl) (by kernel_rfl) rfl rfl rfl trivial (fun w _ => (x_assign (v := (Value.string r83.1)) rfl rfl)) ?_
              refine wpD_take (v := (Value.int .i64 r83.2)) 11 (fun _ => True) rfl (by kernel_rfl) (by kernel_rfl) (by kernel_rfl) rfl rfl rfl trivial (fun w _ => (x_assign (v := (Value.int .i64 r83.2)) rfl rfl)) ?_
              exact wpD_done (by kernel_rfl) ⟨(r83.1, r83.2), ⟨rfl, rfl, e0, e3, e4, e5, e6, e7, e15, e16, trivial⟩, h⟩
            clear h
            rintro l84 ρ w22 ⟨e17, e18, e0, e3, e4, e5, e6, e7, e15, e16, -⟩ h
            replace h := hk l84 w22 h
            clear hk
            refine wpC_seq ?_
            refine wpC_region ?_
            refine wpR_val (v := (Value.string l69.1)) (w' := w22) rfl rfl rfl (x_move (v := (Value.string l69.1)) rfl e15) ?_
            refine wpR_val (v := (Value.string l84.1)) (w' := w22) rfl rfl rfl (x_move (v := (Value.string l84.1)) rfl e17) ?_
            refine wpR_val (v := (Value.bool (!beqS l69.1 l84.1))) (w' := w22) rfl rfl rfl (x_neqS rfl rfl rfl) ?_
            refine wpR_val (v := (Value.bool (!beqS l69.1 l84.1))) (w' := w22) rfl rfl rfl (x_move (v := (Value.bool (!beqS l69.1 l84.1))) rfl rfl) ?_
            refine wpR_joinJ 4 (fun (_ : Unit) ρ => ρ 123 = Value.bool ((!beqS l69.1 l84.1) || (!decide (l69.2 = l84.2))) ∧ ρ 0 = (Sl.v p0) ∧ ρ 3 = (Value.bool r9) ∧ ρ 4 = (Value.pointer l14.1) ∧ ρ 5 = (Value.pointer (some (Addr.mk b13 0 none))) ∧ ρ 6 = (Sl.v l14.2.1) ∧ ρ 7 = (Value.int .i64 l14.2.2) ∧ True) (fun _ w => w22 = w) ?_ ?_
            · clear h
              rcases Bool.eq_false_or_eq_true (!beqS l69.1 l84.1) with hc86 | hc86
              · skip
                refine wpR_pass (wantN rfl rfl rfl hc86) rfl rfl ?_
                refine wpR_pass (wantN rfl rfl rfl hc86) rfl rfl ?_
                refine wpR_pass (wantN rfl rfl rfl hc86) rfl rfl ?_
                refine wpR_val (v := (Value.bool true)) (w' := w22) rfl rfl rfl (x_pickT (v := (Value.bool true)) rfl rfl hc86 rfl) ?_
                refine wpR_nil ?_
                exact ⟨(), ⟨(by rw [hc86]; rfl), e0, e3, e4, e5, e6, e7, trivial⟩, rfl⟩
              · skip
                refine wpR_val (v := (Value.int .i64 l69.2)) (w' := w22) (wantG rfl rfl rfl hc86) rfl rfl (x_move (v := (Value.int .i64 l69.2)) rfl e16) ?_
                refine wpR_val (v := (Value.int .i64 l84.2)) (w' := w22) (wantG rfl rfl rfl hc86) rfl rfl (x_move (v := (Value.int .i64 l84.2)) rfl e18) ?_
                refine wpR_val (v := (Value.bool (!decide (l69.2 = l84.2)))) (w' := w22) (wantG rfl rfl rfl hc86) rfl rfl (x_neq rfl rfl rfl) ?_
                refine wpR_val (v := (Value.bool (!decide (l69.2 = l84.2)))) (w' := w22) rfl rfl rfl (x_pickF (v := (Value.bool (!decide (l69.2 = l84.2)))) rfl rfl hc86 rfl) ?_
                refine wpR_nil ?_
                exact ⟨(), ⟨(by rw [hc86]; rfl), e0, e3, e4, e5, e6, e7, trivial⟩, rfl⟩
            rintro _ ρ wj ⟨e123, e0, e3, e4, e5, e6, e7, -⟩ rfl
            refine wpR_nil ?_
            refine wpC_cond (b := (!beqS l69.1 l84.1) || (!decide (l69.2 = l84.2))) e123 (fun hc87 => ?_) (fun hc87 => ?_)
            · replace h := h.1 hc87
              refine wpC_seq ?_
              refine wpC_region ?_
              refine wpR_val (v := (Value.bool false)) (w' := w22) rfl rfl rfl (x_assign (v := (Value.bool false)) rfl rfl) ?_
              refine wpR_nil ?_
              refine wpC_ret ?_
              exact ⟨.inl rfl, fun a ha => ⟨_, results_rep1 rfl ha rfl, false, rfl, h⟩⟩
            · replace h := h.2 hc87
              refine wpC_skip ?_
              exact ⟨(l14.1, l14.2.1), ⟨e4, e6, e0, e3, e5, e7, trivial⟩, h⟩
          · replace h := h.2 hc54
            refine wpC_seq ?_
            refine wpC_cut (fun ρ => ρ 0 = (Sl.v p0) ∧ ρ 3 = (Value.bool r9) ∧ ρ 4 = (Value.pointer l14.1) ∧ ρ 5 = (Value.pointer (some (Addr.mk b13 0 none))) ∧ ρ 6 = (Sl.v l14.2.1) ∧ ρ 7 = (Value.int .i64 l14.2.2) ∧ ρ 8 = (Value.pointer (some (Addr.mk b28 0 none))) ∧ ρ 43 = (Value.int .i64 x32) ∧ True) ⟨e0, e3, e4, e5, e6, e7, e8, e43, trivial⟩ ?_
            rintro ρ ⟨e0, e3, e4, e5, e6, e7, e8, e43, -⟩
            refine wpC_region ?_
            refine wpR_val (v := (Value.bool (decide (x32 = 2)))) (w' := w7) rfl rfl rfl (x_eql rfl e43 rfl) ?_
            refine wpR_val (v := (Value.bool (decide (x32 = 2)))) (w' := w7) rfl rfl rfl (x_assign (v := (Value.bool (decide (x32 = 2)))) rfl rfl) ?_
            refine wpR_nil ?_
            refine wpC_cond (b := decide (x32 = 2)) rfl (fun hc88 => ?_) (fun hc88 => ?_)
            · replace h := h.1 hc88
              refine wpC_seq ?_
              refine wpC_cut (fun ρ => ρ 0 = (Sl.v p0) ∧ ρ 3 = (Value.bool r9) ∧ ρ 4 = (Value.pointer l14.1) ∧ ρ 5 = (Value.pointer (some (Addr.mk b13 0 none))) ∧ ρ 6 = (Sl.v l14.2.1) ∧ ρ 7 = (Value.int .i64 l14.2.2) ∧ ρ 8 = (Value.pointer (some (Addr.mk b28 0 none))) ∧ True) ⟨e0, e3, e4, e5, e6, e7, e8, trivial⟩ ?_
              rintro ρ ⟨e0, e3, e4, e5, e6, e7, e8, -⟩
              obtain ⟨J90, h, hk⟩ := h
              refine wpC_drawJ (by kernel_rfl) (fun (x : Bool) ρ => ρ 134 = (Value.bool x) ∧ ρ 0 = (Sl.v p0) ∧ ρ 3 = (Value.bool r9) ∧ ρ 4 = (Value.pointer l14.1) ∧ ρ 5 = (Value.pointer (some (Addr.mk b13 0 none))) ∧ ρ 6 = (Sl.v l14.2.1) ∧ ρ 7 = (Value.int .i64 l14.2.2) ∧ True) J90 ?_ ?_
              · clear hk
                unfold tk at h
                generalize w7.drew = w23 at h ⊢
                refine wpD_take (v := (Value.pointer l14.1)) 0 (fun _ => True) rfl (by kernel_rfl) (by kernel_rfl) (by kernel_rfl) rfl rfl rfl trivial (fun w _ => (x_move (v := (Value.pointer l14.1)) rfl e4)) ?_
                refine wpD_take (v := (Value.pointer (some ((Addr.mk b28 0 none).add 1)))) 1 (fun _ => True) rfl (by kernel_rfl) (by kernel_rfl) (by kernel_rfl) rfl rfl rfl trivial (fun w _ => (x_fieldAddr rfl e8 FA_37_1)) ?_
                obtain ⟨x91, q91, h⟩ := h
                refine wpD_take (v := (Value.int .i64 x91)) 2 (fun w => w.cell? ((Addr.mk b28 0 none).add 1) = some (Value.int .i64 x91)) rfl (by kernel_rfl) (by kernel_rfl) (by kernel_rfl) rfl rfl rfl q91 (fun w q91 => (x_load1 rfl rfl SH_3 q91)) ?_
                refine wpD_take (v := (Value.pointer (some (Addr.mk b13 0 none)))) 4 (fun _ => True) rfl (by kernel_rfl) (by kernel_rfl) (by kernel_rfl) rfl rfl rfl trivial (fun w _ => (x_move (v := (Value.pointer (some (Addr.mk b13 0 none)))) rfl e5)) ?_
                refine wpD_take (v := (Value.pointer (some ((Addr.mk b28 0 none).add 1)))) 5 (fun _ => True) rfl (by kernel_rfl) (by kernel_rfl) (by kernel_rfl) rfl rfl rfl trivial (fun w _ => (x_fieldAddr rfl e8 FA_37_1)) ?_
                obtain ⟨x92, q92, h⟩ := h
                refine wpD_take (v := (Value.int .i64 x92)) 6 (fun w => w.cell? ((Addr.mk b28 0 none).add 1) = some (Value.int .i64 x92)) rfl (by kernel_rfl) (by kernel_rfl) (by kernel_rfl) rfl rfl rfl q92 (fun w q92 => (x_load1 rfl rfl SH_3 q92)) ?_
                refine wpD_all (rs := [3]) (by kernel_rfl) (by simp) (allD_cons ?_ allD_nil)
                refine stepD_enterL (L' := [(6, fun w => w.cell? ((Addr.mk b28 0 none).add 1) = some (Value.int .i64 x92)), (5, fun _ => True), (4, fun _ => True), (1, fun _ => True)]) rfl rfl rfl rfl (x_call (vs := [(Value.pointer l14.1), (Value.int .i64 x91)]) rfl rfl (mapl_cons rfl (mapl_cons rfl mapl_nil)) Try.func14 NN_14 NB_14) (by kernel_rfl) (Calls.mono h ?_)
                rintro _ w24 ⟨r93, rfl, h⟩
                obtain ⟨o6, h⟩ := h
                refine ⟨_, rfl, (held_cons o6 (held_cons trivial (held_cons trivial (held_cons trivial held_nil)))), ?_⟩
                refine wpD_all (rs := [7]) (by kernel_rfl) (by simp) (allD_cons ?_ allD_nil)
                refine stepD_enterL (L' := [(5, fun _ => True), (1, fun _ => True)]) rfl rfl rfl rfl (x_call (vs := [(Value.pointer (some (Addr.mk b13 0 none))), (Value.int .i64 x92)]) rfl rfl (mapl_cons rfl (mapl_cons rfl mapl_nil)) Try.func22 NN_22 NB_22) (by kernel_rfl) (Calls.mono h ?_)
                rintro _ w25 ⟨r94, rfl, h⟩
                refine ⟨_, rfl, (held_cons trivial (held_cons trivial held_nil)), ?_⟩
                refine wpD_take (v := (Value.bool (!decide (r93 = r94)))) 8 (fun _ => True) rfl (by kernel_rfl) (by kernel_rfl) (by kernel_rfl) rfl rfl rfl trivial (fun w _ => (x_neq rfl rfl rfl)) ?_
                exact wpD_done (by kernel_rfl) ⟨!decide (r93 = r94), ⟨rfl, e0, e3, e4, e5, e6, e7, trivial⟩, h⟩
              clear h
              rintro l95 ρ w26 ⟨e134, e0, e3, e4, e5, e6, e7, -⟩ h
              replace h := hk l95 w26 h
              clear hk
              refine wpC_cond (b := l95) e134 (fun hc96 => ?_) (fun hc96 => ?_)
              · replace h := h.1 hc96
                refine wpC_seq ?_
                refine wpC_region ?_
                refine wpR_val (v := (Value.bool false)) (w' := w26) rfl rfl rfl (x_assign (v := (Value.bool false)) rfl rfl) ?_
                refine wpR_nil ?_
                refine wpC_ret ?_
                exact ⟨.inl rfl, fun a ha => ⟨_, results_rep1 rfl ha rfl, false, rfl, h⟩⟩
              · replace h := h.2 hc96
                refine wpC_skip ?_
                exact ⟨(l14.1, l14.2.1), ⟨e4, e6, e0, e3, e5, e7, trivial⟩, h⟩
            · replace h := h.2 hc88
              refine wpC_seq ?_
              refine wpC_cut (fun ρ => ρ 0 = (Sl.v p0) ∧ ρ 3 = (Value.bool r9) ∧ ρ 4 = (Value.pointer l14.1) ∧ ρ 5 = (Value.pointer (some (Addr.mk b13 0 none))) ∧ ρ 6 = (Sl.v l14.2.1) ∧ ρ 7 = (Value.int .i64 l14.2.2) ∧ ρ 8 = (Value.pointer (some (Addr.mk b28 0 none))) ∧ ρ 43 = (Value.int .i64 x32) ∧ True) ⟨e0, e3, e4, e5, e6, e7, e8, e43, trivial⟩ ?_
              rintro ρ ⟨e0, e3, e4, e5, e6, e7, e8, e43, -⟩
              refine wpC_region ?_
              refine wpR_val (v := (Value.bool (decide (x32 = 3)))) (w' := w7) rfl rfl rfl (x_eql rfl e43 rfl) ?_
              refine wpR_val (v := (Value.bool (decide (x32 = 3)))) (w' := w7) rfl rfl rfl (x_assign (v := (Value.bool (decide (x32 = 3)))) rfl rfl) ?_
              refine wpR_nil ?_
              refine wpC_cond (b := decide (x32 = 3)) rfl (fun hc97 => ?_) (fun hc97 => ?_)
              · replace h := h.1 hc97
                refine wpC_seq ?_
                refine wpC_cut (fun ρ => ρ 0 = (Sl.v p0) ∧ ρ 3 = (Value.bool r9) ∧ ρ 4 = (Value.pointer l14.1) ∧ ρ 5 = (Value.pointer (some (Addr.mk b13 0 none))) ∧ ρ 6 = (Sl.v l14.2.1) ∧ ρ 7 = (Value.int .i64 l14.2.2) ∧ ρ 8 = (Value.pointer (some (Addr.mk b28 0 none))) ∧ True) ⟨e0, e3, e4, e5, e6, e7, e8, trivial⟩ ?_
                rintro ρ ⟨e0, e3, e4, e5, e6, e7, e8, -⟩
                refine wpC_region ?_
                refine wpR_val (v := (Value.pointer l14.1)) (w' := w7) rfl rfl rfl (x_move (v := (Value.pointer l14.1)) rfl e4) ?_
                refine wpR_enter rfl rfl rfl (x_call (vs := [(Value.pointer l14.1)]) rfl rfl (mapl_cons rfl mapl_nil) Try.func23 NN_23 NB_23) (Calls.mono h ?_)
                rintro _ w27 ⟨r98, rfl, h⟩
                refine ⟨_, rfl, ?_⟩
                refine wpR_val (v := (Value.pointer r98)) (w' := w27) rfl rfl rfl (x_assign (v := (Value.pointer r98)) rfl rfl) ?_
                refine wpR_nil ?_
                refine wpC_seq ?_
                refine wpC_seq ?_
                refine wpC_cut (fun ρ => ρ 0 = (Sl.v p0) ∧ ρ 3 = (Value.bool r9) ∧ ρ 4 = (Value.pointer l14.1) ∧ ρ 5 = (Value.pointer (some (Addr.mk b13 0 none))) ∧ ρ 6 = (Sl.v l14.2.1) ∧ ρ 7 = (Value.int .i64 l14.2.2) ∧ ρ 8 = (Value.pointer (some (Addr.mk b28 0 none))) ∧ ρ 19 = (Value.pointer r98) ∧ True) ⟨e0, e3, e4, e5, e6, e7, e8, rfl, trivial⟩ ?_
                rintro ρ ⟨e0, e3, e4, e5, e6, e7, e8, e19, -⟩
                refine wpC_region ?_
                refine wpR_val (v := (Value.pointer r98)) (w' := w27) rfl rfl rfl (x_move (v := (Value.pointer r98)) rfl e19) ?_
                refine wpR_val (v := (Value.bool r98.isNone)) (w' := w27) rfl rfl rfl (x_eqlNil rfl rfl rfl isPtrT_23) ?_
                refine wpR_nil ?_
                refine wpC_cond (b := r98.isNone) rfl (fun hc99 => ?_) (fun hc99 => ?_)
                · replace h := h.1 hc99
                  refine wpC_seq ?_
                  refine wpC_cut (fun ρ => True) trivial ?_
                  rintro ρ -
                  refine wpC_region ?_
                  refine wpR_val (v := (Value.bool false)) (w' := w27) rfl rfl rfl (x_assign (v := (Value.bool false)) rfl rfl) ?_
                  refine wpR_nil ?_
                  refine wpC_ret ?_
                  exact ⟨.inl rfl, fun a ha => ⟨_, results_rep1 rfl ha rfl, false, rfl, h⟩⟩
                · replace h := h.2 hc99
                  refine wpC_skip ?_
                  refine wpC_seq ?_
                  refine wpC_cut (fun ρ => ρ 0 = (Sl.v p0) ∧ ρ 3 = (Value.bool r9) ∧ ρ 4 = (Value.pointer l14.1) ∧ ρ 5 = (Value.pointer (some (Addr.mk b13 0 none))) ∧ ρ 6 = (Sl.v l14.2.1) ∧ ρ 7 = (Value.int .i64 l14.2.2) ∧ ρ 8 = (Value.pointer (some (Addr.mk b28 0 none))) ∧ ρ 19 = (Value.pointer r98) ∧ True) ⟨e0, e3, e4, e5, e6, e7, e8, e19, trivial⟩ ?_
                  rintro ρ ⟨e0, e3, e4, e5, e6, e7, e8, e19, -⟩
                  refine wpC_region ?_
                  refine wpR_val (v := (Value.pointer l14.1)) (w' := w27) rfl rfl rfl (x_move (v := (Value.pointer l14.1)) rfl e4) ?_
                  refine wpR_enter rfl rfl rfl (x_call (vs := [(Value.pointer l14.1), (Value.string (ByteArray.mk #[120])), (Value.int .i64 1), (Value.int .i64 1), (Value.int .i64 0)]) rfl rfl (mapl_cons rfl (mapl_cons rfl (mapl_cons rfl (mapl_cons rfl (mapl_cons rfl mapl_nil))))) Try.func9 NN_9 NB_9) (Calls.mono h ?_)
                  rintro _ w28 ⟨r100, rfl, h⟩
                  refine ⟨_, rfl, ?_⟩
                  refine wpR_nil ?_
                  refine wpC_seq ?_
                  refine wpC_cut (fun ρ => ρ 0 = (Sl.v p0) ∧ ρ 3 = (Value.bool r9) ∧ ρ 4 = (Value.pointer l14.1) ∧ ρ 5 = (Value.pointer (some (Addr.mk b13 0 none))) ∧ ρ 6 = (Sl.v l14.2.1) ∧ ρ 7 = (Value.int .i64 l14.2.2) ∧ ρ 8 = (Value.pointer (some (Addr.mk b28 0 none))) ∧ ρ 19 = (Value.pointer r98) ∧ True) ⟨e0, e3, e4, e5, e6, e7, e8, e19, trivial⟩ ?_
                  rintro ρ ⟨e0, e3, e4, e5, e6, e7, e8, e19, -⟩
                  refine wpC_region ?_
                  refine wpR_val (v := (Value.pointer l14.1)) (w' := w28) rfl rfl rfl (x_move (v := (Value.pointer l14.1)) rfl e4) ?_
                  refine wpR_val (v := (Value.pointer (some ((Addr.mk b28 0 none).add 1)))) (w' := w28) rfl rfl rfl (x_fieldAddr rfl e8 FA_37_1) ?_
                  obtain ⟨x101, q101, h⟩ := h
                  refine wpR_val (v := (Value.int .i64 x101)) (w' := w28) rfl rfl rfl (x_load1 rfl rfl SH_3 q101) ?_
                  refine wpR_enter rfl rfl rfl (x_call (vs := [(Value.pointer l14.1), (Value.int .i64 x101)]) rfl rfl (mapl_cons rfl (mapl_cons rfl mapl_nil)) Try.func14 NN_14 NB_14) (Calls.mono h ?_)
                  rintro _ w29 ⟨r102, rfl, h⟩
                  refine ⟨_, rfl, ?_⟩
                  refine wpR_nil ?_
                  refine wpC_cut (fun ρ => ρ 0 = (Sl.v p0) ∧ ρ 3 = (Value.bool r9) ∧ ρ 5 = (Value.pointer (some (Addr.mk b13 0 none))) ∧ ρ 6 = (Sl.v l14.2.1) ∧ ρ 7 = (Value.int .i64 l14.2.2) ∧ ρ 19 = (Value.pointer r98) ∧ True) ⟨e0, e3, e5, e6, e7, e19, trivial⟩ ?_
                  rintro ρ ⟨e0, e3, e5, e6, e7, e19, -⟩
                  refine wpC_region ?_
                  refine wpR_val (v := (Value.pointer r98)) (w' := w29) rfl rfl rfl (x_move (v := (Value.pointer r98)) rfl e19) ?_
                  refine wpR_val (v := (Value.pointer r98)) (w' := w29) rfl rfl rfl (x_assign (v := (Value.pointer r98)) rfl rfl) ?_
                  refine wpR_nil ?_
                  exact ⟨(r98, l14.2.1), ⟨rfl, e6, e0, e3, e5, e7, trivial⟩, h⟩
              · replace h := h.2 hc97
                refine wpC_skip ?_
                exact ⟨(l14.1, l14.2.1), ⟨e4, e6, e0, e3, e5, e7, trivial⟩, h⟩
      clear h
      rintro l31 ρ w8 ⟨e4, e6, e0, e3, e5, e7, -⟩ h
      replace h := hk l31 w8 h
      clear hk
      refine wpC_seq ?_
      obtain ⟨J104, h, hk⟩ := h
      refine wpC_drawJ (by kernel_rfl) (fun (x : Bool) ρ => ρ 155 = (Value.bool x) ∧ ρ 0 = (Sl.v p0) ∧ ρ 3 = (Value.bool r9) ∧ ρ 4 = (Value.pointer l31.1) ∧ ρ 5 = (Value.pointer (some (Addr.mk b13 0 none))) ∧ ρ 6 = (Sl.v l31.2) ∧ ρ 7 = (Value.int .i64 l14.2.2) ∧ True) J104 ?_ ?_
      · clear hk
        unfold tk at h
        generalize w8.drew = w30 at h ⊢
        refine wpD_take (v := (Value.pointer l31.1)) 0 (fun _ => True) rfl (by kernel_rfl) (by kernel_rfl) (by kernel_rfl) rfl rfl rfl trivial (fun w _ => (x_move (v := (Value.pointer l31.1)) rfl e4)) ?_
        refine wpD_take (v := (Value.pointer (some (Addr.mk b13 0 none)))) 2 (fun _ => True) rfl (by kernel_rfl) (by kernel_rfl) (by kernel_rfl) rfl rfl rfl trivial (fun w _ => (x_move (v := (Value.pointer (some (Addr.mk b13 0 none)))) rfl e5)) ?_
        refine wpD_take (v := (Value.pointer (some (Addr.mk b13 0 none)))) 3 (fun _ => True) rfl (by kernel_rfl) (by kernel_rfl) (by kernel_rfl) rfl rfl rfl trivial (fun w _ => (x_nilCheck rfl rfl rfl)) ?_
        refine wpD_take (v := (Value.pointer (some ((Addr.mk b13 0 none).add 0)))) 4 (fun _ => True) rfl (by kernel_rfl) (by kernel_rfl) (by kernel_rfl) rfl rfl rfl trivial (fun w _ => (x_fieldAddr rfl rfl FA_54_0)) ?_
        obtain ⟨x105, q105, h⟩ := h
        refine wpD_take (v := (Sl.v x105)) 5 (fun w => w.cell? ((Addr.mk b13 0 none).add 0) = some (Sl.v x105)) rfl (by kernel_rfl) (by kernel_rfl) (by kernel_rfl) rfl rfl rfl q105 (fun w q105 => (x_load1 rfl rfl SH_52 q105)) ?_
        refine wpD_take (v := (Value.int .i64 (x105.len : Int))) 6 (fun _ => True) rfl (by kernel_rfl) (by kernel_rfl) (by kernel_rfl) rfl rfl rfl trivial (fun w _ => (x_lenS (s := x105) rfl rfl isSliceT_52)) ?_
        refine wpD_all (rs := [1]) (by kernel_rfl) (by simp) (allD_cons ?_ allD_nil)
        refine stepD_enterL (L' := [(6, fun _ => True), (5, fun w => w.cell? ((Addr.mk b13 0 none).add 0) = some (Sl.v x105)), (4, fun _ => True), (3, fun _ => True), (2, fun _ => True)]) rfl rfl rfl rfl (x_call (vs := [(Value.pointer l31.1)]) rfl rfl (mapl_cons rfl mapl_nil) Try.func15 NN_15 NB_15) (by kernel_rfl) (Calls.mono h ?_)
        rintro _ w31 ⟨r106, rfl, h⟩
        obtain ⟨o5, h⟩ := h
        refine ⟨_, rfl, (held_cons trivial (held_cons o5 (held_cons trivial (held_cons trivial (held_cons trivial held_nil))))), ?_⟩
        refine wpD_take (v := (Value.bool (!decide (r106 = (x105.len : Int))))) 7 (fun _ => True) rfl (by kernel_rfl) (by kernel_rfl) (by kernel_rfl) rfl rfl rfl trivial (fun w _ => (x_neq rfl rfl rfl)) ?_
        exact wpD_done (by kernel_rfl) ⟨!decide (r106 = (x105.len : Int)), ⟨rfl, e0, e3, e4, e5, e6, e7, trivial⟩, h⟩
      clear h
      rintro l107 ρ w32 ⟨e155, e0, e3, e4, e5, e6, e7, -⟩ h
      replace h := hk l107 w32 h
      clear hk
      refine wpC_cond (b := l107) e155 (fun hc108 => ?_) (fun hc108 => ?_)
      · replace h := h.1 hc108
        refine wpC_seq ?_
        refine wpC_region ?_
        refine wpR_val (v := (Value.bool false)) (w' := w32) rfl rfl rfl (x_assign (v := (Value.bool false)) rfl rfl) ?_
        refine wpR_nil ?_
        refine wpC_ret ?_
        exact ⟨.inl rfl, fun a ha => ⟨_, results_rep1 rfl ha rfl, false, rfl, h⟩⟩
      · replace h := h.2 hc108
        refine wpC_skip ?_
        refine wpC_region ?_
        refine wpR_val (v := (Value.int .i64 l14.2.2)) (w' := w32) rfl rfl rfl (x_move (v := (Value.int .i64 l14.2.2)) rfl e7) ?_
        refine wpR_val (v := (Value.int .i64 (IntKind.i64.wrap (l14.2.2 + 1)))) (w' := w32) rfl rfl rfl (x_add rfl rfl rfl) ?_
        refine wpR_val (v := (Value.int .i64 (IntKind.i64.wrap (l14.2.2 + 1)))) (w' := w32) rfl rfl rfl (x_assign (v := (Value.int .i64 (IntKind.i64.wrap (l14.2.2 + 1)))) rfl rfl) ?_
        refine wpR_nil ?_
        exact ⟨(l31.1, l31.2, IntKind.i64.wrap (l14.2.2 + 1)), ⟨e4, e6, rfl, e0, e3, e5, trivial⟩, h⟩
    · replace h := h.2 hc17
      refine wpC_exit ?_
      refine wpC_seq ?_
      refine wpC_region ?_
      refine wpR_val (v := (Value.bool r9)) (w' := w5) rfl rfl rfl (x_move (v := (Value.bool r9)) rfl e3) ?_
      refine wpR_val (v := (Value.bool r9)) (w' := w5) rfl rfl rfl (x_move (v := (Value.bool r9)) rfl rfl) ?_
      refine wpR_joinJ 3 (fun (_ : Unit) ρ => ρ 160 = Value.bool (r9 && (!l14.1.isNone)) ∧ True) (fun _ w => w5 = w) ?_ ?_
      · clear h
        rcases Bool.eq_false_or_eq_true (r9) with hc110 | hc110
        · skip
          refine wpR_val (v := (Value.pointer l14.1)) (w' := w5) (wantG rfl rfl rfl hc110) rfl rfl (x_move (v := (Value.pointer l14.1)) rfl e4) ?_
          refine wpR_val (v := (Value.bool (!l14.1.isNone))) (w' := w5) (wantG rfl rfl rfl hc110) rfl rfl (x_neqNil rfl rfl rfl isPtrT_23) ?_
          refine wpR_val (v := (Value.bool (!l14.1.isNone))) (w' := w5) rfl rfl rfl (x_pickT (v := (Value.bool (!l14.1.isNone))) rfl rfl hc110 rfl) ?_
          refine wpR_nil ?_
          exact ⟨(), ⟨(by rw [hc110]; rfl), trivial⟩, rfl⟩
        · skip
          refine wpR_pass (wantN rfl rfl rfl hc110) rfl rfl ?_
          refine wpR_pass (wantN rfl rfl rfl hc110) rfl rfl ?_
          refine wpR_val (v := (Value.bool false)) (w' := w5) rfl rfl rfl (x_pickF (v := (Value.bool false)) rfl rfl hc110 rfl) ?_
          refine wpR_nil ?_
          exact ⟨(), ⟨(by rw [hc110]; rfl), trivial⟩, rfl⟩
      rintro _ ρ wj ⟨e160, -⟩ rfl
      refine wpR_val (v := (Value.bool (r9 && (!l14.1.isNone)))) (w' := w5) rfl rfl rfl (x_assign (v := (Value.bool (r9 && (!l14.1.isNone)))) rfl e160) ?_
      refine wpR_nil ?_
      refine wpC_ret ?_
      exact ⟨.inl rfl, fun a ha => ⟨_, results_rep1 rfl ha rfl, r9 && (!l14.1.isNone), rfl, h⟩⟩

/-- lingualaw45.small -/
def F7  (w0 : World) (K : Bool → World → Prop) : Prop :=
  callC Try.prog 8 #[] (fun (r : (Option Addr)) => (Value.pointer r)) w0 fun r9 w1 =>
  cnd (r9.isNone)
    (
    K false w1
    )
    (
    callC Try.prog 9 #[(Value.pointer r9), (Value.string (ByteArray.mk #[97])), (Value.int .i64 2), (Value.int .i64 3), (Value.int .i64 7)] (fun (r : Int × Sl × Int) => (Value.tuple #[(Value.int .i64 r.1), (Sl.v r.2.1), (Value.int .i64 r.2.2)])) w1 fun r11 w2 =>
    cnd (((!decide ((r11.2.1.len : Int) = 3)) || (!decide (r11.1 = 0))) || (!decide (r11.2.2 = 0)))
      (
      K false w2
      )
      (
      jn (fun (J18 : (ByteArray × Int) → World → Prop) => tk w2 fun w3 =>
        ix r11.2.1 0 2 fun p19 =>
        ld (Value.int .i64) (p19.add 0) w3 fun x20 =>
        ld (Value.int .i64) (p19.add 1) w3 fun x21 =>
        ix r11.2.1 2 2 fun p22 =>
        ld (Value.int .i64) (p22.add 0) w3 fun x23 =>
        ld (Value.int .i64) (p22.add 1) w3 fun x24 =>
        nw 56 #[(Value.int .i64 x20), (Value.int .i64 x21), (Value.int .i64 x23), (Value.int .i64 x24)] w3 fun b25 w4 =>
        callC Try.prog 10 #[(Value.pointer r9), (Value.int .i64 0), (Sl.v (⟨some ⟨b25, 0, none⟩, 2, 2⟩ : Sl))] (fun (r : ByteArray × Int) => (Value.tuple #[(Value.string r.1), (Value.int .i64 r.2)])) w4 fun r26 w5 =>
        J18 (r26.1, r26.2) w5
      )
      fun l27 w6 =>
      rn Try.prog (Instr.sliceAt 25 (Sl.v r11.2.1) (some (Value.int .i64 1)) (some (Value.int .i64 2)) none) (fun (r : Sl) => (Sl.v r)) w6 fun r28 w7 =>
      callC Try.prog 10 #[(Value.pointer r9), (Value.int .i64 0), (Sl.v r28)] (fun (r : ByteArray × Int) => (Value.tuple #[(Value.string r.1), (Value.int .i64 r.2)])) w7 fun r29 w8 =>
      callC Try.prog 14 #[(Value.pointer r9), (Value.int .i64 0)] (fun (r : Int) => (Value.int .i64 r)) w8 fun r30 w9 =>
      callC Try.prog 10 #[(Value.pointer r9), (Value.int .i64 0), (Sl.v r11.2.1)] (fun (r : ByteArray × Int) => (Value.tuple #[(Value.string r.1), (Value.int .i64 r.2)])) w9 fun r31 w10 =>
      jn (fun J40 => cnd (((((beqS l27.1 (ByteArray.mk #[97])) && (decide (l27.2 = 0))) && (decide (r29.2 = 20))) && (decide (r30 = 0))) && (decide (r31.2 = 13)))
        (
        callC Try.prog 15 #[(Value.pointer r9)] (fun (r : Int) => (Value.int .i64 r)) w10 fun r42 w11 =>
        J40 (decide (r42 = 1)) w11
        )
        (
        J40 false w10
        ))
      fun c43 w12 =>
      K c43 w12
      )
    )
set_option maxRecDepth 100000 in
theorem D7  (w0 : World) (K : Bool → World → Prop) (h : F7  w0 K) : callC Try.prog 7 #[] (fun (r : Bool) => (Value.bool r)) w0 K := by
  unfold F7 at h
  refine calls_of_wpC Try.func7 rfl 82 rfl (by simp) ?_
  intro ρ hρ
  clear hρ
  refine wpC_seq ?_
  refine wpC_region ?_
  refine wpR_val (v := (Value.bool false)) (w' := w0) rfl rfl rfl (x_assign (v := (Value.bool false)) rfl rfl) ?_
  refine wpR_nil ?_
  refine wpC_seq ?_
  refine wpC_cut (fun ρ => True) trivial ?_
  rintro ρ -
  refine wpC_region ?_
  refine wpR_enter rfl rfl rfl (x_call (vs := []) rfl rfl mapl_nil Try.func8 NN_8 NB_8) (Calls.mono h ?_)
  rintro _ w1 ⟨r9, rfl, h⟩
  refine ⟨_, rfl, ?_⟩
  refine wpR_val (v := (Value.pointer r9)) (w' := w1) rfl rfl rfl (x_assign (v := (Value.pointer r9)) rfl rfl) ?_
  refine wpR_nil ?_
  refine wpC_seq ?_
  refine wpC_seq ?_
  refine wpC_cut (fun ρ => ρ 1 = (Value.pointer r9) ∧ True) ⟨rfl, trivial⟩ ?_
  rintro ρ ⟨e1, -⟩
  refine wpC_region ?_
  refine wpR_val (v := (Value.pointer r9)) (w' := w1) rfl rfl rfl (x_move (v := (Value.pointer r9)) rfl e1) ?_
  refine wpR_val (v := (Value.bool r9.isNone)) (w' := w1) rfl rfl rfl (x_eqlNil rfl rfl rfl isPtrT_23) ?_
  refine wpR_nil ?_
  refine wpC_cond (b := r9.isNone) rfl (fun hc10 => ?_) (fun hc10 => ?_)
  · replace h := h.1 hc10
    refine wpC_seq ?_
    refine wpC_cut (fun ρ => True) trivial ?_
    rintro ρ -
    refine wpC_region ?_
    refine wpR_val (v := (Value.bool false)) (w' := w1) rfl rfl rfl (x_assign (v := (Value.bool false)) rfl rfl) ?_
    refine wpR_nil ?_
    refine wpC_ret ?_
    exact ⟨.inl rfl, fun a ha => ⟨_, results_rep1 rfl ha rfl, false, rfl, h⟩⟩
  · replace h := h.2 hc10
    refine wpC_skip ?_
    refine wpC_seq ?_
    refine wpC_cut (fun ρ => ρ 1 = (Value.pointer r9) ∧ True) ⟨e1, trivial⟩ ?_
    rintro ρ ⟨e1, -⟩
    refine wpC_region ?_
    refine wpR_val (v := (Value.pointer r9)) (w' := w1) rfl rfl rfl (x_move (v := (Value.pointer r9)) rfl e1) ?_
    refine wpR_enter rfl rfl rfl (x_call (vs := [(Value.pointer r9), (Value.string (ByteArray.mk #[97])), (Value.int .i64 2), (Value.int .i64 3), (Value.int .i64 7)]) rfl rfl (mapl_cons rfl (mapl_cons rfl (mapl_cons rfl (mapl_cons rfl (mapl_cons rfl mapl_nil))))) Try.func9 NN_9 NB_9) (Calls.mono h ?_)
    rintro _ w2 ⟨r11, rfl, h⟩
    refine ⟨_, rfl, ?_⟩
    refine wpR_val (v := (Value.tuple #[(Value.int .i64 r11.1), (Sl.v r11.2.1), (Value.int .i64 r11.2.2)])) (w' := w2) rfl rfl rfl (x_move (v := (Value.tuple #[(Value.int .i64 r11.1), (Sl.v r11.2.1), (Value.int .i64 r11.2.2)])) rfl rfl) ?_
    refine wpR_val (v := (Value.int .i64 r11.1)) (w' := w2) rfl rfl rfl (x_extract rfl rfl rfl) ?_
    refine wpR_val (v := (Sl.v r11.2.1)) (w' := w2) rfl rfl rfl (x_extract rfl rfl rfl) ?_
    refine wpR_val (v := (Value.int .i64 r11.2.2)) (w' := w2) rfl rfl rfl (x_extract rfl rfl rfl) ?_
    refine wpR_val (v := (Value.int .i64 r11.1)) (w' := w2) rfl rfl rfl (x_assign (v := (Value.int .i64 r11.1)) rfl rfl) ?_
    refine wpR_val (v := (Sl.v r11.2.1)) (w' := w2) rfl rfl rfl (x_assign (v := (Sl.v r11.2.1)) rfl rfl) ?_
    refine wpR_val (v := (Value.int .i64 r11.2.2)) (w' := w2) rfl rfl rfl (x_assign (v := (Value.int .i64 r11.2.2)) rfl rfl) ?_
    refine wpR_nil ?_
    refine wpC_seq ?_
    refine wpC_seq ?_
    refine wpC_cut (fun ρ => ρ 1 = (Value.pointer r9) ∧ ρ 2 = (Value.int .i64 r11.1) ∧ ρ 3 = (Sl.v r11.2.1) ∧ ρ 4 = (Value.int .i64 r11.2.2) ∧ True) ⟨e1, rfl, rfl, rfl, trivial⟩ ?_
    rintro ρ ⟨e1, e2, e3, e4, -⟩
    refine wpC_region ?_
    refine wpR_val (v := (Sl.v r11.2.1)) (w' := w2) rfl rfl rfl (x_move (v := (Sl.v r11.2.1)) rfl e3) ?_
    refine wpR_val (v := (Value.int .i64 (r11.2.1.len : Int))) (w' := w2) rfl rfl rfl (x_lenS (s := r11.2.1) rfl rfl isSliceT_25) ?_
    refine wpR_val (v := (Value.bool (!decide ((r11.2.1.len : Int) = 3)))) (w' := w2) rfl rfl rfl (x_neq rfl rfl rfl) ?_
    refine wpR_val (v := (Value.bool (!decide ((r11.2.1.len : Int) = 3)))) (w' := w2) rfl rfl rfl (x_move (v := (Value.bool (!decide ((r11.2.1.len : Int) = 3)))) rfl rfl) ?_
    refine wpR_joinJ 3 (fun (_ : Unit) ρ => ρ 27 = Value.bool ((!decide ((r11.2.1.len : Int) = 3)) || (!decide (r11.1 = 0))) ∧ ρ 1 = (Value.pointer r9) ∧ ρ 3 = (Sl.v r11.2.1) ∧ ρ 4 = (Value.int .i64 r11.2.2) ∧ True) (fun _ w => w2 = w) ?_ ?_
    · clear h
      rcases Bool.eq_false_or_eq_true (!decide ((r11.2.1.len : Int) = 3)) with hc13 | hc13
      · skip
        refine wpR_pass (wantN rfl rfl rfl hc13) rfl rfl ?_
        refine wpR_pass (wantN rfl rfl rfl hc13) rfl rfl ?_
        refine wpR_val (v := (Value.bool true)) (w' := w2) rfl rfl rfl (x_pickT (v := (Value.bool true)) rfl rfl hc13 rfl) ?_
        refine wpR_nil ?_
        exact ⟨(), ⟨(by rw [hc13]; rfl), e1, e3, e4, trivial⟩, rfl⟩
      · skip
        refine wpR_val (v := (Value.int .i64 r11.1)) (w' := w2) (wantG rfl rfl rfl hc13) rfl rfl (x_move (v := (Value.int .i64 r11.1)) rfl e2) ?_
        refine wpR_val (v := (Value.bool (!decide (r11.1 = 0)))) (w' := w2) (wantG rfl rfl rfl hc13) rfl rfl (x_neq rfl rfl rfl) ?_
        refine wpR_val (v := (Value.bool (!decide (r11.1 = 0)))) (w' := w2) rfl rfl rfl (x_pickF (v := (Value.bool (!decide (r11.1 = 0)))) rfl rfl hc13 rfl) ?_
        refine wpR_nil ?_
        exact ⟨(), ⟨(by rw [hc13]; rfl), e1, e3, e4, trivial⟩, rfl⟩
    rintro _ ρ wj ⟨e27, e1, e3, e4, -⟩ rfl
    refine wpR_val (v := (Value.bool ((!decide ((r11.2.1.len : Int) = 3)) || (!decide (r11.1 = 0))))) (w' := w2) rfl rfl rfl (x_move (v := (Value.bool ((!decide ((r11.2.1.len : Int) = 3)) || (!decide (r11.1 = 0))))) rfl e27) ?_
    refine wpR_joinJ 3 (fun (_ : Unit) ρ => ρ 31 = Value.bool (((!decide ((r11.2.1.len : Int) = 3)) || (!decide (r11.1 = 0))) || (!decide (r11.2.2 = 0))) ∧ ρ 1 = (Value.pointer r9) ∧ ρ 3 = (Sl.v r11.2.1) ∧ True) (fun _ w => w2 = w) ?_ ?_
    · clear h
      rcases Bool.eq_false_or_eq_true ((!decide ((r11.2.1.len : Int) = 3)) || (!decide (r11.1 = 0))) with hc15 | hc15
      · skip
        refine wpR_pass (wantN rfl rfl rfl hc15) rfl rfl ?_
        refine wpR_pass (wantN rfl rfl rfl hc15) rfl rfl ?_
        refine wpR_val (v := (Value.bool true)) (w' := w2) rfl rfl rfl (x_pickT (v := (Value.bool true)) rfl rfl hc15 rfl) ?_
        refine wpR_nil ?_
        exact ⟨(), ⟨(by rw [hc15]; rfl), e1, e3, trivial⟩, rfl⟩
      · skip
        refine wpR_val (v := (Value.int .i64 r11.2.2)) (w' := w2) (wantG rfl rfl rfl hc15) rfl rfl (x_move (v := (Value.int .i64 r11.2.2)) rfl e4) ?_
        refine wpR_val (v := (Value.bool (!decide (r11.2.2 = 0)))) (w' := w2) (wantG rfl rfl rfl hc15) rfl rfl (x_neq rfl rfl rfl) ?_
        refine wpR_val (v := (Value.bool (!decide (r11.2.2 = 0)))) (w' := w2) rfl rfl rfl (x_pickF (v := (Value.bool (!decide (r11.2.2 = 0)))) rfl rfl hc15 rfl) ?_
        refine wpR_nil ?_
        exact ⟨(), ⟨(by rw [hc15]; rfl), e1, e3, trivial⟩, rfl⟩
    rintro _ ρ wj ⟨e31, e1, e3, -⟩ rfl
    refine wpR_nil ?_
    refine wpC_cond (b := ((!decide ((r11.2.1.len : Int) = 3)) || (!decide (r11.1 = 0))) || (!decide (r11.2.2 = 0))) e31 (fun hc16 => ?_) (fun hc16 => ?_)
    · replace h := h.1 hc16
      refine wpC_seq ?_
      refine wpC_region ?_
      refine wpR_val (v := (Value.bool false)) (w' := w2) rfl rfl rfl (x_assign (v := (Value.bool false)) rfl rfl) ?_
      refine wpR_nil ?_
      refine wpC_ret ?_
      exact ⟨.inl rfl, fun a ha => ⟨_, results_rep1 rfl ha rfl, false, rfl, h⟩⟩
    · replace h := h.2 hc16
      refine wpC_skip ?_
      refine wpC_seq ?_
      obtain ⟨J18, h, hk⟩ := h
      refine wpC_drawJ (by kernel_rfl) (fun (x : ByteArray × Int) ρ => ρ 5 = (Value.string x.1) ∧ ρ 6 = (Value.int .i64 x.2) ∧ ρ 1 = (Value.pointer r9) ∧ ρ 3 = (Sl.v r11.2.1) ∧ True) J18 ?_ ?_
      · clear hk
        unfold tk at h
        generalize w2.drew = w3 at h ⊢
        refine wpD_take (v := (Value.pointer r9)) 0 (fun _ => True) rfl (by kernel_rfl) (by kernel_rfl) (by kernel_rfl) rfl rfl rfl trivial (fun w _ => (x_move (v := (Value.pointer r9)) rfl e1)) ?_
        refine wpD_take (v := (Sl.v r11.2.1)) 1 (fun _ => True) rfl (by kernel_rfl) (by kernel_rfl) (by kernel_rfl) rfl rfl rfl trivial (fun w _ => (x_move (v := (Sl.v r11.2.1)) rfl e3)) ?_
        obtain ⟨q19, z19, r19, h⟩ := h
        generalize hp19 : z19.add ((0 : Int).toNat * 2) = p19 at h
        refine wpD_take (v := (Value.pointer (some p19))) 2 (fun _ => True) rfl (by kernel_rfl) (by kernel_rfl) (by kernel_rfl) rfl rfl rfl trivial (fun w _ => ((x_indexAddr (s := r11.2.1) rfl rfl rfl ES_25 q19 r19).trans (by rw [hp19]))) ?_
        obtain ⟨x20, q20, x21, q21, h⟩ := h
        refine wpD_take (v := (Value.agg #[(Value.int .i64 x20), (Value.int .i64 x21)])) 3 (fun w => w.cell? (p19.add 0) = some (Value.int .i64 x20) ∧ w.cell? (p19.add 1) = some (Value.int .i64 x21)) rfl (by kernel_rfl) (by kernel_rfl) (by kernel_rfl) rfl rfl rfl ⟨q20, q21⟩ (fun w ⟨q20, q21⟩ => (x_loadN [(Value.int .i64 x20), (Value.int .i64 x21)] rfl rfl SH_56 (CellsAt.out (CellsAt.cons q20 (CellsAt.cons q21 CellsAt.nil))))) ?_
        refine wpD_take (v := (Sl.v r11.2.1)) 4 (fun _ => True) rfl (by kernel_rfl) (by kernel_rfl) (by kernel_rfl) rfl rfl rfl trivial (fun w _ => (x_move (v := (Sl.v r11.2.1)) rfl e3)) ?_
        obtain ⟨q22, z22, r22, h⟩ := h
        generalize hp22 : z22.add ((2 : Int).toNat * 2) = p22 at h
        refine wpD_take (v := (Value.pointer (some p22))) 5 (fun _ => True) rfl (by kernel_rfl) (by kernel_rfl) (by kernel_rfl) rfl rfl rfl trivial (fun w _ => ((x_indexAddr (s := r11.2.1) rfl rfl rfl ES_25 q22 r22).trans (by rw [hp22]))) ?_
        obtain ⟨x23, q23, x24, q24, h⟩ := h
        refine wpD_take (v := (Value.agg #[(Value.int .i64 x23), (Value.int .i64 x24)])) 6 (fun w => w.cell? (p22.add 0) = some (Value.int .i64 x23) ∧ w.cell? (p22.add 1) = some (Value.int .i64 x24)) rfl (by kernel_rfl) (by kernel_rfl) (by kernel_rfl) rfl rfl rfl ⟨q23, q24⟩ (fun w ⟨q23, q24⟩ => (x_loadN [(Value.int .i64 x23), (Value.int .i64 x24)] rfl rfl SH_56 (CellsAt.out (CellsAt.cons q23 (CellsAt.cons q24 CellsAt.nil))))) ?_
        refine wpD_all (rs := [7]) (by kernel_rfl) (by simp) (allD_cons ?_ allD_nil)
        obtain ⟨b25, hb25⟩ : ∃ u, u = w3.heap.size := ⟨_, rfl⟩
        obtain ⟨w4, hw25⟩ : ∃ u, u = w3.alloc (.cells #[(Value.int .i64 x20), (Value.int .i64 x21), (Value.int .i64 x23), (Value.int .i64 x24)] 56) := ⟨_, rfl⟩
        replace h := h b25 w4 hb25 hw25
        refine stepD_valL (L' := [(5, fun _ => True), (4, fun _ => True), (2, fun _ => True), (1, fun _ => True), (0, fun _ => True)]) (v := (Sl.v (⟨some ⟨b25, 0, none⟩, 2, 2⟩ : Sl))) (w' := w4) rfl rfl rfl rfl ((x_buildSlice (qs := [(0, (Value.agg #[(Value.int .i64 x20), (Value.int .i64 x21)])), (1, (Value.agg #[(Value.int .i64 x23), (Value.int .i64 x24)]))]) rfl (by rfl) (BS_25_2_0_1 x20 x21 x23 x24)).trans (by rw [← hb25, ← hw25])) (by kernel_rfl) (held_cons trivial (held_cons trivial (held_cons trivial (held_cons trivial (held_cons trivial held_nil))))) ?_
        refine wpD_all (rs := [8]) (by kernel_rfl) (by simp) (allD_cons ?_ allD_nil)
        refine stepD_enterL (L' := [(5, fun _ => True), (4, fun _ => True), (2, fun _ => True), (1, fun _ => True)]) rfl rfl rfl rfl (x_call (vs := [(Value.pointer r9), (Value.int .i64 0), (Sl.v (⟨some ⟨b25, 0, none⟩, 2, 2⟩ : Sl))]) rfl rfl (mapl_cons rfl (mapl_cons rfl (mapl_cons rfl mapl_nil))) Try.func10 NN_10 NB_10) (by kernel_rfl) (Calls.mono h ?_)
        rintro _ w5 ⟨r26, rfl, h⟩
        refine ⟨_, rfl, (held_cons trivial (held_cons trivial (held_cons trivial (held_cons trivial held_nil)))), ?_⟩
        refine wpD_take (v := (Value.tuple #[(Value.string r26.1), (Value.int .i64 r26.2)])) 9 (fun _ => True) rfl (by kernel_rfl) (by kernel_rfl) (by kernel_rfl) rfl rfl rfl trivial (fun w _ => (x_move (v := (Value.tuple #[(Value.string r26.1), (Value.int .i64 r26.2)])) rfl rfl)) ?_
        refine wpD_take (v := (Value.string r26.1)) 10 (fun _ => True) rfl (by kernel_rfl) (by kernel_rfl) (by kernel_rfl) rfl rfl rfl trivial (fun w _ => (x_extract rfl rfl rfl)) ?_
        refine wpD_take (v := (Value.int .i64 r26.2)) 11 (fun _ => True) rfl (by kernel_rfl) (by kernel_rfl) (by kernel_rfl) rfl rfl rfl trivial (fun w _ => (x_extract rfl rfl rfl)) ?_
        refine wpD_take (v := (Value.string r26.1)) 12 (fun _ => True) rfl (by kernel_rfl) (by kernel_rfl) (by kernel_rfl) rfl rfl rfl trivial (fun w _ => (x_assign (v := (Value.string r26.1)) rfl rfl)) ?_
        refine wpD_take (v := (Value.int .i64 r26.2)) 13 (fun _ => True) rfl (by kernel_rfl) (by kernel_rfl) (by kernel_rfl) rfl rfl rfl trivial (fun w _ => (x_assign (v := (Value.int .i64 r26.2)) rfl rfl)) ?_
        exact wpD_done (by kernel_rfl) ⟨(r26.1, r26.2), ⟨rfl, rfl, e1, e3, trivial⟩, h⟩
      clear h
      rintro l27 ρ w6 ⟨e5, e6, e1, e3, -⟩ h
      replace h := hk l27 w6 h
      clear hk
      refine wpC_seq ?_
      refine wpC_region ?_
      refine wpR_val (v := (Value.pointer r9)) (w' := w6) rfl rfl rfl (x_move (v := (Value.pointer r9)) rfl e1) ?_
      refine wpR_val (v := (Sl.v r11.2.1)) (w' := w6) rfl rfl rfl (x_move (v := (Sl.v r11.2.1)) rfl e3) ?_
      obtain ⟨r28, w7, q28, h⟩ := h
      refine wpR_val (v := (Sl.v r28)) (w' := w7) rfl rfl rfl (x_sliceAt rfl rfl (congrArg some rfl) (congrArg some rfl) rfl q28) ?_
      refine wpR_enter rfl rfl rfl (x_call (vs := [(Value.pointer r9), (Value.int .i64 0), (Sl.v r28)]) rfl rfl (mapl_cons rfl (mapl_cons rfl (mapl_cons rfl mapl_nil))) Try.func10 NN_10 NB_10) (Calls.mono h ?_)
      rintro _ w8 ⟨r29, rfl, h⟩
      refine ⟨_, rfl, ?_⟩
      refine wpR_val (v := (Value.tuple #[(Value.string r29.1), (Value.int .i64 r29.2)])) (w' := w8) rfl rfl rfl (x_move (v := (Value.tuple #[(Value.string r29.1), (Value.int .i64 r29.2)])) rfl rfl) ?_
      refine wpR_val (v := (Value.string r29.1)) (w' := w8) rfl rfl rfl (x_extract rfl rfl rfl) ?_
      refine wpR_val (v := (Value.int .i64 r29.2)) (w' := w8) rfl rfl rfl (x_extract rfl rfl rfl) ?_
      refine wpR_val (v := (Value.string r29.1)) (w' := w8) rfl rfl rfl (x_assign (v := (Value.string r29.1)) rfl rfl) ?_
      refine wpR_val (v := (Value.int .i64 r29.2)) (w' := w8) rfl rfl rfl (x_assign (v := (Value.int .i64 r29.2)) rfl rfl) ?_
      refine wpR_nil ?_
      refine wpC_seq ?_
      refine wpC_cut (fun ρ => ρ 1 = (Value.pointer r9) ∧ ρ 3 = (Sl.v r11.2.1) ∧ ρ 5 = (Value.string l27.1) ∧ ρ 6 = (Value.int .i64 l27.2) ∧ ρ 8 = (Value.int .i64 r29.2) ∧ True) ⟨e1, e3, e5, e6, rfl, trivial⟩ ?_
      rintro ρ ⟨e1, e3, e5, e6, e8, -⟩
      refine wpC_region ?_
      refine wpR_val (v := (Value.pointer r9)) (w' := w8) rfl rfl rfl (x_move (v := (Value.pointer r9)) rfl e1) ?_
      refine wpR_enter rfl rfl rfl (x_call (vs := [(Value.pointer r9), (Value.int .i64 0)]) rfl rfl (mapl_cons rfl (mapl_cons rfl mapl_nil)) Try.func14 NN_14 NB_14) (Calls.mono h ?_)
      rintro _ w9 ⟨r30, rfl, h⟩
      refine ⟨_, rfl, ?_⟩
      refine wpR_val (v := (Value.int .i64 r30)) (w' := w9) rfl rfl rfl (x_assign (v := (Value.int .i64 r30)) rfl rfl) ?_
      refine wpR_nil ?_
      refine wpC_seq ?_
      refine wpC_cut (fun ρ => ρ 1 = (Value.pointer r9) ∧ ρ 3 = (Sl.v r11.2.1) ∧ ρ 5 = (Value.string l27.1) ∧ ρ 6 = (Value.int .i64 l27.2) ∧ ρ 8 = (Value.int .i64 r29.2) ∧ ρ 9 = (Value.int .i64 r30) ∧ True) ⟨e1, e3, e5, e6, e8, rfl, trivial⟩ ?_
      rintro ρ ⟨e1, e3, e5, e6, e8, e9, -⟩
      refine wpC_region ?_
      refine wpR_val (v := (Value.pointer r9)) (w' := w9) rfl rfl rfl (x_move (v := (Value.pointer r9)) rfl e1) ?_
      refine wpR_val (v := (Sl.v r11.2.1)) (w' := w9) rfl rfl rfl (x_move (v := (Sl.v r11.2.1)) rfl e3) ?_
      refine wpR_enter rfl rfl rfl (x_call (vs := [(Value.pointer r9), (Value.int .i64 0), (Sl.v r11.2.1)]) rfl rfl (mapl_cons rfl (mapl_cons rfl (mapl_cons rfl mapl_nil))) Try.func10 NN_10 NB_10) (Calls.mono h ?_)
      rintro _ w10 ⟨r31, rfl, h⟩
      refine ⟨_, rfl, ?_⟩
      refine wpR_val (v := (Value.tuple #[(Value.string r31.1), (Value.int .i64 r31.2)])) (w' := w10) rfl rfl rfl (x_move (v := (Value.tuple #[(Value.string r31.1), (Value.int .i64 r31.2)])) rfl rfl) ?_
      refine wpR_val (v := (Value.string r31.1)) (w' := w10) rfl rfl rfl (x_extract rfl rfl rfl) ?_
      refine wpR_val (v := (Value.int .i64 r31.2)) (w' := w10) rfl rfl rfl (x_extract rfl rfl rfl) ?_
      refine wpR_val (v := (Value.string r31.1)) (w' := w10) rfl rfl rfl (x_assign (v := (Value.string r31.1)) rfl rfl) ?_
      refine wpR_val (v := (Value.int .i64 r31.2)) (w' := w10) rfl rfl rfl (x_assign (v := (Value.int .i64 r31.2)) rfl rfl) ?_
      refine wpR_nil ?_
      refine wpC_seq ?_
      refine wpC_cut (fun ρ => ρ 1 = (Value.pointer r9) ∧ ρ 5 = (Value.string l27.1) ∧ ρ 6 = (Value.int .i64 l27.2) ∧ ρ 8 = (Value.int .i64 r29.2) ∧ ρ 9 = (Value.int .i64 r30) ∧ ρ 11 = (Value.int .i64 r31.2) ∧ True) ⟨e1, e5, e6, e8, e9, rfl, trivial⟩ ?_
      rintro ρ ⟨e1, e5, e6, e8, e9, e11, -⟩
      refine wpC_region ?_
      refine wpR_val (v := (Value.string l27.1)) (w' := w10) rfl rfl rfl (x_move (v := (Value.string l27.1)) rfl e5) ?_
      refine wpR_val (v := (Value.bool (beqS l27.1 (ByteArray.mk #[97])))) (w' := w10) rfl rfl rfl (x_eqlS rfl rfl rfl) ?_
      refine wpR_val (v := (Value.bool (beqS l27.1 (ByteArray.mk #[97])))) (w' := w10) rfl rfl rfl (x_move (v := (Value.bool (beqS l27.1 (ByteArray.mk #[97])))) rfl rfl) ?_
      refine wpR_joinJ 3 (fun (_ : Unit) ρ => ρ 64 = Value.bool ((beqS l27.1 (ByteArray.mk #[97])) && (decide (l27.2 = 0))) ∧ ρ 1 = (Value.pointer r9) ∧ ρ 8 = (Value.int .i64 r29.2) ∧ ρ 9 = (Value.int .i64 r30) ∧ ρ 11 = (Value.int .i64 r31.2) ∧ True) (fun _ w => w10 = w) ?_ ?_
      · clear h
        rcases Bool.eq_false_or_eq_true (beqS l27.1 (ByteArray.mk #[97])) with hc33 | hc33
        · skip
          refine wpR_val (v := (Value.int .i64 l27.2)) (w' := w10) (wantG rfl rfl rfl hc33) rfl rfl (x_move (v := (Value.int .i64 l27.2)) rfl e6) ?_
          refine wpR_val (v := (Value.bool (decide (l27.2 = 0)))) (w' := w10) (wantG rfl rfl rfl hc33) rfl rfl (x_eql rfl rfl rfl) ?_
          refine wpR_val (v := (Value.bool (decide (l27.2 = 0)))) (w' := w10) rfl rfl rfl (x_pickT (v := (Value.bool (decide (l27.2 = 0)))) rfl rfl hc33 rfl) ?_
          refine wpR_nil ?_
          exact ⟨(), ⟨(by rw [hc33]; rfl), e1, e8, e9, e11, trivial⟩, rfl⟩
        · skip
          refine wpR_pass (wantN rfl rfl rfl hc33) rfl rfl ?_
          refine wpR_pass (wantN rfl rfl rfl hc33) rfl rfl ?_
          refine wpR_val (v := (Value.bool false)) (w' := w10) rfl rfl rfl (x_pickF (v := (Value.bool false)) rfl rfl hc33 rfl) ?_
          refine wpR_nil ?_
          exact ⟨(), ⟨(by rw [hc33]; rfl), e1, e8, e9, e11, trivial⟩, rfl⟩
      rintro _ ρ wj ⟨e64, e1, e8, e9, e11, -⟩ rfl
      refine wpR_val (v := (Value.bool ((beqS l27.1 (ByteArray.mk #[97])) && (decide (l27.2 = 0))))) (w' := w10) rfl rfl rfl (x_move (v := (Value.bool ((beqS l27.1 (ByteArray.mk #[97])) && (decide (l27.2 = 0))))) rfl e64) ?_
      refine wpR_joinJ 3 (fun (_ : Unit) ρ => ρ 68 = Value.bool (((beqS l27.1 (ByteArray.mk #[97])) && (decide (l27.2 = 0))) && (decide (r29.2 = 20))) ∧ ρ 1 = (Value.pointer r9) ∧ ρ 9 = (Value.int .i64 r30) ∧ ρ 11 = (Value.int .i64 r31.2) ∧ True) (fun _ w => w10 = w) ?_ ?_
      · clear h
        rcases Bool.eq_false_or_eq_true ((beqS l27.1 (ByteArray.mk #[97])) && (decide (l27.2 = 0))) with hc35 | hc35
        · skip
          refine wpR_val (v := (Value.int .i64 r29.2)) (w' := w10) (wantG rfl rfl rfl hc35) rfl rfl (x_move (v := (Value.int .i64 r29.2)) rfl e8) ?_
          refine wpR_val (v := (Value.bool (decide (r29.2 = 20)))) (w' := w10) (wantG rfl rfl rfl hc35) rfl rfl (x_eql rfl rfl rfl) ?_
          refine wpR_val (v := (Value.bool (decide (r29.2 = 20)))) (w' := w10) rfl rfl rfl (x_pickT (v := (Value.bool (decide (r29.2 = 20)))) rfl rfl hc35 rfl) ?_
          refine wpR_nil ?_
          exact ⟨(), ⟨(by rw [hc35]; rfl), e1, e9, e11, trivial⟩, rfl⟩
        · skip
          refine wpR_pass (wantN rfl rfl rfl hc35) rfl rfl ?_
          refine wpR_pass (wantN rfl rfl rfl hc35) rfl rfl ?_
          refine wpR_val (v := (Value.bool false)) (w' := w10) rfl rfl rfl (x_pickF (v := (Value.bool false)) rfl rfl hc35 rfl) ?_
          refine wpR_nil ?_
          exact ⟨(), ⟨(by rw [hc35]; rfl), e1, e9, e11, trivial⟩, rfl⟩
      rintro _ ρ wj ⟨e68, e1, e9, e11, -⟩ rfl
      refine wpR_val (v := (Value.bool (((beqS l27.1 (ByteArray.mk #[97])) && (decide (l27.2 = 0))) && (decide (r29.2 = 20))))) (w' := w10) rfl rfl rfl (x_move (v := (Value.bool (((beqS l27.1 (ByteArray.mk #[97])) && (decide (l27.2 = 0))) && (decide (r29.2 = 20))))) rfl e68) ?_
      refine wpR_joinJ 3 (fun (_ : Unit) ρ => ρ 72 = Value.bool ((((beqS l27.1 (ByteArray.mk #[97])) && (decide (l27.2 = 0))) && (decide (r29.2 = 20))) && (decide (r30 = 0))) ∧ ρ 1 = (Value.pointer r9) ∧ ρ 11 = (Value.int .i64 r31.2) ∧ True) (fun _ w => w10 = w) ?_ ?_
      · clear h
        rcases Bool.eq_false_or_eq_true (((beqS l27.1 (ByteArray.mk #[97])) && (decide (l27.2 = 0))) && (decide (r29.2 = 20))) with hc37 | hc37
        · skip
          refine wpR_val (v := (Value.int .i64 r30)) (w' := w10) (wantG rfl rfl rfl hc37) rfl rfl (x_move (v := (Value.int .i64 r30)) rfl e9) ?_
          refine wpR_val (v := (Value.bool (decide (r30 = 0)))) (w' := w10) (wantG rfl rfl rfl hc37) rfl rfl (x_eql rfl rfl rfl) ?_
          refine wpR_val (v := (Value.bool (decide (r30 = 0)))) (w' := w10) rfl rfl rfl (x_pickT (v := (Value.bool (decide (r30 = 0)))) rfl rfl hc37 rfl) ?_
          refine wpR_nil ?_
          exact ⟨(), ⟨(by rw [hc37]; rfl), e1, e11, trivial⟩, rfl⟩
        · skip
          refine wpR_pass (wantN rfl rfl rfl hc37) rfl rfl ?_
          refine wpR_pass (wantN rfl rfl rfl hc37) rfl rfl ?_
          refine wpR_val (v := (Value.bool false)) (w' := w10) rfl rfl rfl (x_pickF (v := (Value.bool false)) rfl rfl hc37 rfl) ?_
          refine wpR_nil ?_
          exact ⟨(), ⟨(by rw [hc37]; rfl), e1, e11, trivial⟩, rfl⟩
      rintro _ ρ wj ⟨e72, e1, e11, -⟩ rfl
      refine wpR_val (v := (Value.bool ((((beqS l27.1 (ByteArray.mk #[97])) && (decide (l27.2 = 0))) && (decide (r29.2 = 20))) && (decide (r30 = 0))))) (w' := w10) rfl rfl rfl (x_move (v := (Value.bool ((((beqS l27.1 (ByteArray.mk #[97])) && (decide (l27.2 = 0))) && (decide (r29.2 = 20))) && (decide (r30 = 0))))) rfl e72) ?_
      refine wpR_joinJ 3 (fun (_ : Unit) ρ => ρ 76 = Value.bool (((((beqS l27.1 (ByteArray.mk #[97])) && (decide (l27.2 = 0))) && (decide (r29.2 = 20))) && (decide (r30 = 0))) && (decide (r31.2 = 13))) ∧ ρ 1 = (Value.pointer r9) ∧ True) (fun _ w => w10 = w) ?_ ?_
      · clear h
        rcases Bool.eq_false_or_eq_true ((((beqS l27.1 (ByteArray.mk #[97])) && (decide (l27.2 = 0))) && (decide (r29.2 = 20))) && (decide (r30 = 0))) with hc39 | hc39
        · skip
          refine wpR_val (v := (Value.int .i64 r31.2)) (w' := w10) (wantG rfl rfl rfl hc39) rfl rfl (x_move (v := (Value.int .i64 r31.2)) rfl e11) ?_
          refine wpR_val (v := (Value.bool (decide (r31.2 = 13)))) (w' := w10) (wantG rfl rfl rfl hc39) rfl rfl (x_eql rfl rfl rfl) ?_
          refine wpR_val (v := (Value.bool (decide (r31.2 = 13)))) (w' := w10) rfl rfl rfl (x_pickT (v := (Value.bool (decide (r31.2 = 13)))) rfl rfl hc39 rfl) ?_
          refine wpR_nil ?_
          exact ⟨(), ⟨(by rw [hc39]; rfl), e1, trivial⟩, rfl⟩
        · skip
          refine wpR_pass (wantN rfl rfl rfl hc39) rfl rfl ?_
          refine wpR_pass (wantN rfl rfl rfl hc39) rfl rfl ?_
          refine wpR_val (v := (Value.bool false)) (w' := w10) rfl rfl rfl (x_pickF (v := (Value.bool false)) rfl rfl hc39 rfl) ?_
          refine wpR_nil ?_
          exact ⟨(), ⟨(by rw [hc39]; rfl), e1, trivial⟩, rfl⟩
      rintro _ ρ wj ⟨e76, e1, -⟩ rfl
      refine wpR_val (v := (Value.bool (((((beqS l27.1 (ByteArray.mk #[97])) && (decide (l27.2 = 0))) && (decide (r29.2 = 20))) && (decide (r30 = 0))) && (decide (r31.2 = 13))))) (w' := w10) rfl rfl rfl (x_move (v := (Value.bool (((((beqS l27.1 (ByteArray.mk #[97])) && (decide (l27.2 = 0))) && (decide (r29.2 = 20))) && (decide (r30 = 0))) && (decide (r31.2 = 13))))) rfl e76) ?_
      obtain ⟨J40, h, hk⟩ := h
      refine wpR_joinJ 4 (fun x ρ => ρ 81 = Value.bool x ∧ True) (J40) ?_ ?_
      · clear hk
        rcases Bool.eq_false_or_eq_true (((((beqS l27.1 (ByteArray.mk #[97])) && (decide (l27.2 = 0))) && (decide (r29.2 = 20))) && (decide (r30 = 0))) && (decide (r31.2 = 13))) with hc41 | hc41
        · replace h := h.1 hc41
          refine wpR_val (v := (Value.pointer r9)) (w' := w10) (wantG rfl rfl rfl hc41) rfl rfl (x_move (v := (Value.pointer r9)) rfl e1) ?_
          refine wpR_enter (wantG rfl rfl rfl hc41) rfl rfl (x_call (vs := [(Value.pointer r9)]) rfl rfl (mapl_cons rfl mapl_nil) Try.func15 NN_15 NB_15) (Calls.mono h ?_)
          rintro _ w11 ⟨r42, rfl, h⟩
          refine ⟨_, rfl, ?_⟩
          refine wpR_val (v := (Value.bool (decide (r42 = 1)))) (w' := w11) (wantG rfl rfl rfl hc41) rfl rfl (x_eql rfl rfl rfl) ?_
          refine wpR_val (v := (Value.bool (decide (r42 = 1)))) (w' := w11) rfl rfl rfl (x_pickT (v := (Value.bool (decide (r42 = 1)))) rfl rfl hc41 rfl) ?_
          refine wpR_nil ?_
          exact ⟨decide (r42 = 1), ⟨rfl, trivial⟩, h⟩
        · replace h := h.2 hc41
          refine wpR_pass (wantN rfl rfl rfl hc41) rfl rfl ?_
          refine wpR_pass (wantN rfl rfl rfl hc41) rfl rfl ?_
          refine wpR_pass (wantN rfl rfl rfl hc41) rfl rfl ?_
          refine wpR_val (v := (Value.bool false)) (w' := w10) rfl rfl rfl (x_pickF (v := (Value.bool false)) rfl rfl hc41 rfl) ?_
          refine wpR_nil ?_
          exact ⟨false, ⟨rfl, trivial⟩, h⟩
      clear h
      rintro c43 ρ w12 ⟨e81, -⟩ h
      replace h := hk c43 w12 h
      clear hk
      refine wpR_val (v := (Value.bool c43)) (w' := w12) rfl rfl rfl (x_assign (v := (Value.bool c43)) rfl e81) ?_
      refine wpR_nil ?_
      refine wpC_ret ?_
      exact ⟨.inl rfl, fun a ha => ⟨_, results_rep1 rfl ha rfl, c43, rfl, h⟩⟩

/-- sealed.New -/
def F8  (w0 : World) (K : (Option Addr) → World → Prop) : Prop :=
  callC Try.prog 24 #[] (fun (r : (Option Addr)) => (Value.pointer r)) w0 fun r9 w1 =>
  nw 63 #[(Value.pointer r9), (Sl.v Sl.nil)] w1 fun b10 w2 =>
  K (some (Addr.mk b10 0 none)) w2
set_option maxRecDepth 100000 in
theorem D8  (w0 : World) (K : (Option Addr) → World → Prop) (h : F8  w0 K) : callC Try.prog 8 #[] (fun (r : (Option Addr)) => (Value.pointer r)) w0 K := by
  unfold F8 at h
  refine calls_of_wpC Try.func8 rfl 5 rfl (by simp) ?_
  intro ρ hρ
  clear hρ
  refine wpC_seq ?_
  refine wpC_region ?_
  refine wpR_val (v := (Value.pointer none)) (w' := w0) rfl rfl rfl (x_assign (v := (Value.pointer none)) rfl rfl) ?_
  refine wpR_nil ?_
  refine wpC_seq ?_
  refine wpC_cut (fun ρ => True) trivial ?_
  rintro ρ -
  refine wpC_region ?_
  refine wpR_enter rfl rfl rfl (x_call (vs := []) rfl rfl mapl_nil Try.func24 NN_24 NB_24) (Calls.mono h ?_)
  rintro _ w1 ⟨r9, rfl, h⟩
  refine ⟨_, rfl, ?_⟩
  refine wpR_val (v := (Value.agg #[(Value.pointer r9)])) (w' := w1) rfl rfl rfl (x_build (qs := [(0, (Value.pointer r9))]) rfl (by rfl) (BD_60_0 r9 _)) ?_
  refine wpR_val (v := (Value.agg #[(Value.pointer r9), (Sl.v Sl.nil)])) (w' := w1) rfl rfl rfl (x_build (qs := [(0, (Value.agg #[(Value.pointer r9)]))]) rfl (by rfl) (BD_63_0 r9 _)) ?_
  obtain ⟨b10, hb10⟩ : ∃ u, u = w1.heap.size := ⟨_, rfl⟩
  obtain ⟨w2, hw10⟩ : ∃ u, u = w1.alloc (.cells #[(Value.pointer r9), (Sl.v Sl.nil)] 63) := ⟨_, rfl⟩
  replace h := h b10 w2 hb10 hw10
  refine wpR_val (v := (Value.pointer (some (Addr.mk b10 0 none)))) (w' := w2) rfl rfl rfl ((x_box (v := (Value.agg #[(Value.pointer r9), (Sl.v Sl.nil)])) rfl rfl).trans (by rw [hb10, hw10]; rfl)) ?_
  refine wpR_val (v := (Value.pointer (some (Addr.mk b10 0 none)))) (w' := w2) rfl rfl rfl (x_assign (v := (Value.pointer (some (Addr.mk b10 0 none)))) rfl rfl) ?_
  refine wpR_nil ?_
  refine wpC_ret ?_
  exact ⟨.inl rfl, fun a ha => ⟨_, results_rep1 rfl ha rfl, some (Addr.mk b10 0 none), rfl, h⟩⟩

/-- (*sealed.Safe).Seal -/
def F9 (p0 : Option Addr) (p1 : ByteArray) (p2 : Int) (p3 : Int) (p4 : Int) (w0 : World) (K : (Int × Sl × Int) → World → Prop) : Prop :=
  callC Try.prog 25 #[(Value.int .i64 0), (Value.int .i64 p2), (Value.int .i64 p3), (Value.int .i64 p4)] (fun (r : Sl × Int) => (Value.tuple #[(Sl.v r.1), (Value.int .i64 r.2)])) w0 fun r9 w1 =>
  cnd (!decide (r9.2 = 0))
    (
    K (0, Sl.nil, 1) w1
    )
    (
    cnd (decide (65536 < (p1.size : Int)))
      (
      K (0, Sl.nil, 6) w1
      )
      (
      nn p0 fun a12 =>
      ld Value.pointer ((a12.add 0).add 0) w1 fun x13 =>
      callC Try.prog 26 #[(Value.pointer x13)] (fun (r : Int) => (Value.int .i64 r)) w1 fun r14 w2 =>
      nn p0 fun a15 =>
      ld Value.pointer ((a15.add 0).add 0) w2 fun x16 =>
      callC Try.prog 27 #[(Value.pointer x16), (Value.int .i64 r14), (Value.string p1)] (fun (r : Int × Int) => (Value.tuple #[(Value.int .i64 r.1), (Value.int .i64 r.2)])) w2 fun r17 w3 =>
      cnd (!decide (r17.2 = 0))
        (
        K (0, Sl.nil, r17.2) w3
        )
        (
        nn p0 fun a19 =>
        ld Sl.v (a19.add 1) w3 fun x20 =>
        nw 69 #[(Value.int .i64 r14), (Value.int .i64 r17.1), (Value.int .i64 p2)] w3 fun b21 w4 =>
        rn Try.prog (Builtin.append_ #[61, 61] 61 #[Sl.v x20, Sl.v (⟨some ⟨b21, 0, none⟩, 1, 1⟩ : Sl)]) Sl.v w4 fun r22 w5 =>
        nn p0 fun a23 =>
        st (a23.add 1) [(Sl.v r22)] w5 fun w6 =>
        callC Try.prog 25 #[(Value.int .i64 r14), (Value.int .i64 p2), (Value.int .i64 p3), (Value.int .i64 p4)] (fun (r : Sl × Int) => (Value.tuple #[(Sl.v r.1), (Value.int .i64 r.2)])) w6 fun r25 w7 =>
        nn p0 fun a26 =>
        ld Sl.v (a26.add 1) w7 fun x27 =>
        K (IntKind.i64.wrap ((x27.len : Int) - 1), r25.1, r25.2) w7
        )
      )
    )
set_option maxRecDepth 100000 in
theorem D9 (p0 : Option Addr) (p1 : ByteArray) (p2 : Int) (p3 : Int) (p4 : Int) (w0 : World) (K : (Int × Sl × Int) → World → Prop) (h : F9 p0 p1 p2 p3 p4 w0 K) : callC Try.prog 9 #[(Value.pointer p0), (Value.string p1), (Value.int .i64 p2), (Value.int .i64 p3), (Value.int .i64 p4)] (fun (r : Int × Sl × Int) => (Value.tuple #[(Value.int .i64 r.1), (Sl.v r.2.1), (Value.int .i64 r.2.2)])) w0 K := by
  unfold F9 at h
  refine calls_of_wpC Try.func9 rfl 80 rfl (by simp) ?_
  intro ρ hρ
  have e0 : ρ 0 = (Value.pointer p0) := hρ 0
  have e1 : ρ 1 = (Value.string p1) := hρ 1
  have e2 : ρ 2 = (Value.int .i64 p2) := hρ 2
  have e3 : ρ 3 = (Value.int .i64 p3) := hρ 3
  have e4 : ρ 4 = (Value.int .i64 p4) := hρ 4
  clear hρ
  refine wpC_seq ?_
  refine wpC_region ?_
  refine wpR_val (v := (Value.int .i64 0)) (w' := w0) rfl rfl rfl (x_assign (v := (Value.int .i64 0)) rfl rfl) ?_
  refine wpR_val (v := (Sl.v Sl.nil)) (w' := w0) rfl rfl rfl (x_assign (v := (Sl.v Sl.nil)) rfl rfl) ?_
  refine wpR_val (v := (Value.int .i64 0)) (w' := w0) rfl rfl rfl (x_assign (v := (Value.int .i64 0)) rfl rfl) ?_
  refine wpR_nil ?_
  refine wpC_seq ?_
  refine wpC_seq ?_
  refine wpC_cut (fun ρ => ρ 0 = (Value.pointer p0) ∧ ρ 1 = (Value.string p1) ∧ ρ 2 = (Value.int .i64 p2) ∧ ρ 3 = (Value.int .i64 p3) ∧ ρ 4 = (Value.int .i64 p4) ∧ True) ⟨e0, e1, e2, e3, e4, trivial⟩ ?_
  rintro ρ ⟨e0, e1, e2, e3, e4, -⟩
  refine wpC_region ?_
  refine wpR_val (v := (Value.int .i64 p2)) (w' := w0) rfl rfl rfl (x_move (v := (Value.int .i64 p2)) rfl e2) ?_
  refine wpR_val (v := (Value.int .i64 p3)) (w' := w0) rfl rfl rfl (x_move (v := (Value.int .i64 p3)) rfl e3) ?_
  refine wpR_val (v := (Value.int .i64 p4)) (w' := w0) rfl rfl rfl (x_move (v := (Value.int .i64 p4)) rfl e4) ?_
  refine wpR_enter rfl rfl rfl (x_call (vs := [(Value.int .i64 0), (Value.int .i64 p2), (Value.int .i64 p3), (Value.int .i64 p4)]) rfl rfl (mapl_cons rfl (mapl_cons rfl (mapl_cons rfl (mapl_cons rfl mapl_nil)))) Try.func25 NN_25 NB_25) (Calls.mono h ?_)
  rintro _ w1 ⟨r9, rfl, h⟩
  refine ⟨_, rfl, ?_⟩
  refine wpR_val (v := (Value.tuple #[(Sl.v r9.1), (Value.int .i64 r9.2)])) (w' := w1) rfl rfl rfl (x_move (v := (Value.tuple #[(Sl.v r9.1), (Value.int .i64 r9.2)])) rfl rfl) ?_
  refine wpR_val (v := (Sl.v r9.1)) (w' := w1) rfl rfl rfl (x_extract rfl rfl rfl) ?_
  refine wpR_val (v := (Value.int .i64 r9.2)) (w' := w1) rfl rfl rfl (x_extract rfl rfl rfl) ?_
  refine wpR_val (v := (Sl.v r9.1)) (w' := w1) rfl rfl rfl (x_assign (v := (Sl.v r9.1)) rfl rfl) ?_
  refine wpR_val (v := (Value.int .i64 r9.2)) (w' := w1) rfl rfl rfl (x_assign (v := (Value.int .i64 r9.2)) rfl rfl) ?_
  refine wpR_nil ?_
  refine wpC_seq ?_
  refine wpC_cut (fun ρ => ρ 0 = (Value.pointer p0) ∧ ρ 1 = (Value.string p1) ∧ ρ 2 = (Value.int .i64 p2) ∧ ρ 3 = (Value.int .i64 p3) ∧ ρ 4 = (Value.int .i64 p4) ∧ ρ 14 = (Value.int .i64 r9.2) ∧ True) ⟨e0, e1, e2, e3, e4, rfl, trivial⟩ ?_
  rintro ρ ⟨e0, e1, e2, e3, e4, e14, -⟩
  refine wpC_region ?_
  refine wpR_val (v := (Value.int .i64 r9.2)) (w' := w1) rfl rfl rfl (x_move (v := (Value.int .i64 r9.2)) rfl e14) ?_
  refine wpR_val (v := (Value.bool (!decide (r9.2 = 0)))) (w' := w1) rfl rfl rfl (x_neq rfl rfl rfl) ?_
  refine wpR_nil ?_
  refine wpC_cond (b := !decide (r9.2 = 0)) rfl (fun hc10 => ?_) (fun hc10 => ?_)
  · replace h := h.1 hc10
    refine wpC_seq ?_
    refine wpC_cut (fun ρ => True) trivial ?_
    rintro ρ -
    refine wpC_region ?_
    refine wpR_val (v := (Value.int .i64 0)) (w' := w1) rfl rfl rfl (x_assign (v := (Value.int .i64 0)) rfl rfl) ?_
    refine wpR_val (v := (Sl.v Sl.nil)) (w' := w1) rfl rfl rfl (x_assign (v := (Sl.v Sl.nil)) rfl rfl) ?_
    refine wpR_val (v := (Value.int .i64 1)) (w' := w1) rfl rfl rfl (x_assign (v := (Value.int .i64 1)) rfl rfl) ?_
    refine wpR_nil ?_
    refine wpC_ret ?_
    exact ⟨.inl rfl, fun a ha => ⟨_, results_rep3 rfl ha rfl rfl rfl, (0, Sl.nil, 1), rfl, h⟩⟩
  · replace h := h.2 hc10
    refine wpC_skip ?_
    refine wpC_seq ?_
    refine wpC_seq ?_
    refine wpC_cut (fun ρ => ρ 0 = (Value.pointer p0) ∧ ρ 1 = (Value.string p1) ∧ ρ 2 = (Value.int .i64 p2) ∧ ρ 3 = (Value.int .i64 p3) ∧ ρ 4 = (Value.int .i64 p4) ∧ True) ⟨e0, e1, e2, e3, e4, trivial⟩ ?_
    rintro ρ ⟨e0, e1, e2, e3, e4, -⟩
    refine wpC_region ?_
    refine wpR_val (v := (Value.string p1)) (w' := w1) rfl rfl rfl (x_move (v := (Value.string p1)) rfl e1) ?_
    refine wpR_val (v := (Value.int .i64 (p1.size : Int))) (w' := w1) rfl rfl rfl (x_lenStr rfl rfl isStrT_9) ?_
    refine wpR_val (v := (Value.bool (decide (65536 < (p1.size : Int))))) (w' := w1) rfl rfl rfl (x_gtr rfl rfl rfl) ?_
    refine wpR_nil ?_
    refine wpC_cond (b := decide (65536 < (p1.size : Int))) rfl (fun hc11 => ?_) (fun hc11 => ?_)
    · replace h := h.1 hc11
      refine wpC_seq ?_
      refine wpC_cut (fun ρ => True) trivial ?_
      rintro ρ -
      refine wpC_region ?_
      refine wpR_val (v := (Value.int .i64 0)) (w' := w1) rfl rfl rfl (x_assign (v := (Value.int .i64 0)) rfl rfl) ?_
      refine wpR_val (v := (Sl.v Sl.nil)) (w' := w1) rfl rfl rfl (x_assign (v := (Sl.v Sl.nil)) rfl rfl) ?_
      refine wpR_val (v := (Value.int .i64 6)) (w' := w1) rfl rfl rfl (x_assign (v := (Value.int .i64 6)) rfl rfl) ?_
      refine wpR_nil ?_
      refine wpC_ret ?_
      exact ⟨.inl rfl, fun a ha => ⟨_, results_rep3 rfl ha rfl rfl rfl, (0, Sl.nil, 6), rfl, h⟩⟩
    · replace h := h.2 hc11
      refine wpC_skip ?_
      refine wpC_seq ?_
      refine wpC_cut (fun ρ => ρ 0 = (Value.pointer p0) ∧ ρ 1 = (Value.string p1) ∧ ρ 2 = (Value.int .i64 p2) ∧ ρ 3 = (Value.int .i64 p3) ∧ ρ 4 = (Value.int .i64 p4) ∧ True) ⟨e0, e1, e2, e3, e4, trivial⟩ ?_
      rintro ρ ⟨e0, e1, e2, e3, e4, -⟩
      refine wpC_region ?_
      refine wpR_val (v := (Value.pointer p0)) (w' := w1) rfl rfl rfl (x_move (v := (Value.pointer p0)) rfl e0) ?_
      obtain ⟨a12, q12, h⟩ := h
      refine wpR_val (v := (Value.pointer (some a12))) (w' := w1) rfl rfl rfl (x_nilCheck rfl rfl q12) ?_
      refine wpR_val (v := (Value.pointer (some (a12.add 0)))) (w' := w1) rfl rfl rfl (x_fieldAddr rfl rfl FA_63_0) ?_
      refine wpR_val (v := (Value.pointer (some ((a12.add 0).add 0)))) (w' := w1) rfl rfl rfl (x_fieldAddr rfl rfl FA_60_0) ?_
      obtain ⟨x13, q13, h⟩ := h
      refine wpR_val (v := (Value.pointer x13)) (w' := w1) rfl rfl rfl (x_load1 rfl rfl SH_57 q13) ?_
      refine wpR_enter rfl rfl rfl (x_call (vs := [(Value.pointer x13)]) rfl rfl (mapl_cons rfl mapl_nil) Try.func26 NN_26 NB_26) (Calls.mono h ?_)
      rintro _ w2 ⟨r14, rfl, h⟩
      refine ⟨_, rfl, ?_⟩
      refine wpR_val (v := (Value.int .i64 r14)) (w' := w2) rfl rfl rfl (x_assign (v := (Value.int .i64 r14)) rfl rfl) ?_
      refine wpR_nil ?_
      refine wpC_seq ?_
      refine wpC_cut (fun ρ => ρ 0 = (Value.pointer p0) ∧ ρ 1 = (Value.string p1) ∧ ρ 2 = (Value.int .i64 p2) ∧ ρ 3 = (Value.int .i64 p3) ∧ ρ 4 = (Value.int .i64 p4) ∧ ρ 15 = (Value.int .i64 r14) ∧ True) ⟨e0, e1, e2, e3, e4, rfl, trivial⟩ ?_
      rintro ρ ⟨e0, e1, e2, e3, e4, e15, -⟩
      refine wpC_region ?_
      refine wpR_val (v := (Value.pointer p0)) (w' := w2) rfl rfl rfl (x_move (v := (Value.pointer p0)) rfl e0) ?_
      obtain ⟨a15, q15, h⟩ := h
      refine wpR_val (v := (Value.pointer (some a15))) (w' := w2) rfl rfl rfl (x_nilCheck rfl rfl q15) ?_
      refine wpR_val (v := (Value.pointer (some (a15.add 0)))) (w' := w2) rfl rfl rfl (x_fieldAddr rfl rfl FA_63_0) ?_
      refine wpR_val (v := (Value.pointer (some ((a15.add 0).add 0)))) (w' := w2) rfl rfl rfl (x_fieldAddr rfl rfl FA_60_0) ?_
      obtain ⟨x16, q16, h⟩ := h
      refine wpR_val (v := (Value.pointer x16)) (w' := w2) rfl rfl rfl (x_load1 rfl rfl SH_57 q16) ?_
      refine wpR_val (v := (Value.int .i64 r14)) (w' := w2) rfl rfl rfl (x_move (v := (Value.int .i64 r14)) rfl e15) ?_
      refine wpR_val (v := (Value.string p1)) (w' := w2) rfl rfl rfl (x_move (v := (Value.string p1)) rfl e1) ?_
      refine wpR_enter rfl rfl rfl (x_call (vs := [(Value.pointer x16), (Value.int .i64 r14), (Value.string p1)]) rfl rfl (mapl_cons rfl (mapl_cons rfl (mapl_cons rfl mapl_nil))) Try.func27 NN_27 NB_27) (Calls.mono h ?_)
      rintro _ w3 ⟨r17, rfl, h⟩
      refine ⟨_, rfl, ?_⟩
      refine wpR_val (v := (Value.tuple #[(Value.int .i64 r17.1), (Value.int .i64 r17.2)])) (w' := w3) rfl rfl rfl (x_move (v := (Value.tuple #[(Value.int .i64 r17.1), (Value.int .i64 r17.2)])) rfl rfl) ?_
      refine wpR_val (v := (Value.int .i64 r17.1)) (w' := w3) rfl rfl rfl (x_extract rfl rfl rfl) ?_
      refine wpR_val (v := (Value.int .i64 r17.2)) (w' := w3) rfl rfl rfl (x_extract rfl rfl rfl) ?_
      refine wpR_val (v := (Value.int .i64 r17.1)) (w' := w3) rfl rfl rfl (x_assign (v := (Value.int .i64 r17.1)) rfl rfl) ?_
      refine wpR_val (v := (Value.int .i64 r17.2)) (w' := w3) rfl rfl rfl (x_assign (v := (Value.int .i64 r17.2)) rfl rfl) ?_
      refine wpR_nil ?_
      refine wpC_seq ?_
      refine wpC_seq ?_
      refine wpC_cut (fun ρ => ρ 0 = (Value.pointer p0) ∧ ρ 2 = (Value.int .i64 p2) ∧ ρ 3 = (Value.int .i64 p3) ∧ ρ 4 = (Value.int .i64 p4) ∧ ρ 15 = (Value.int .i64 r14) ∧ ρ 16 = (Value.int .i64 r17.1) ∧ ρ 17 = (Value.int .i64 r17.2) ∧ True) ⟨e0, e2, e3, e4, e15, rfl, rfl, trivial⟩ ?_
      rintro ρ ⟨e0, e2, e3, e4, e15, e16, e17, -⟩
      refine wpC_region ?_
      refine wpR_val (v := (Value.int .i64 r17.2)) (w' := w3) rfl rfl rfl (x_move (v := (Value.int .i64 r17.2)) rfl e17) ?_
      refine wpR_val (v := (Value.bool (!decide (r17.2 = 0)))) (w' := w3) rfl rfl rfl (x_neq rfl rfl rfl) ?_
      refine wpR_nil ?_
      refine wpC_cond (b := !decide (r17.2 = 0)) rfl (fun hc18 => ?_) (fun hc18 => ?_)
      · replace h := h.1 hc18
        refine wpC_seq ?_
        refine wpC_cut (fun ρ => ρ 17 = (Value.int .i64 r17.2) ∧ True) ⟨e17, trivial⟩ ?_
        rintro ρ ⟨e17, -⟩
        refine wpC_region ?_
        refine wpR_val (v := (Value.int .i64 r17.2)) (w' := w3) rfl rfl rfl (x_move (v := (Value.int .i64 r17.2)) rfl e17) ?_
        refine wpR_val (v := (Value.int .i64 0)) (w' := w3) rfl rfl rfl (x_assign (v := (Value.int .i64 0)) rfl rfl) ?_
        refine wpR_val (v := (Sl.v Sl.nil)) (w' := w3) rfl rfl rfl (x_assign (v := (Sl.v Sl.nil)) rfl rfl) ?_
        refine wpR_val (v := (Value.int .i64 r17.2)) (w' := w3) rfl rfl rfl (x_assign (v := (Value.int .i64 r17.2)) rfl rfl) ?_
        refine wpR_nil ?_
        refine wpC_ret ?_
        exact ⟨.inl rfl, fun a ha => ⟨_, results_rep3 rfl ha rfl rfl rfl, (0, Sl.nil, r17.2), rfl, h⟩⟩
      · replace h := h.2 hc18
        refine wpC_skip ?_
        refine wpC_seq ?_
        refine wpC_cut (fun ρ => ρ 0 = (Value.pointer p0) ∧ ρ 2 = (Value.int .i64 p2) ∧ ρ 3 = (Value.int .i64 p3) ∧ ρ 4 = (Value.int .i64 p4) ∧ ρ 15 = (Value.int .i64 r14) ∧ ρ 16 = (Value.int .i64 r17.1) ∧ True) ⟨e0, e2, e3, e4, e15, e16, trivial⟩ ?_
        rintro ρ ⟨e0, e2, e3, e4, e15, e16, -⟩
        refine wpC_region ?_
        refine wpR_val (v := (Value.pointer p0)) (w' := w3) rfl rfl rfl (x_move (v := (Value.pointer p0)) rfl e0) ?_
        refine wpR_val (v := (Value.pointer p0)) (w' := w3) rfl rfl rfl (x_move (v := (Value.pointer p0)) rfl e0) ?_
        obtain ⟨a19, q19, h⟩ := h
        refine wpR_val (v := (Value.pointer (some a19))) (w' := w3) rfl rfl rfl (x_nilCheck rfl rfl q19) ?_
        refine wpR_val (v := (Value.pointer (some (a19.add 1)))) (w' := w3) rfl rfl rfl (x_fieldAddr rfl rfl FA_63_1) ?_
        obtain ⟨x20, q20, h⟩ := h
        refine wpR_val (v := (Sl.v x20)) (w' := w3) rfl rfl rfl (x_load1 rfl rfl SH_61 q20) ?_
        refine wpR_val (v := (Value.int .i64 r14)) (w' := w3) rfl rfl rfl (x_move (v := (Value.int .i64 r14)) rfl e15) ?_
        refine wpR_val (v := (Value.int .i64 r17.1)) (w' := w3) rfl rfl rfl (x_move (v := (Value.int .i64 r17.1)) rfl e16) ?_
        refine wpR_val (v := (Value.int .i64 p2)) (w' := w3) rfl rfl rfl (x_move (v := (Value.int .i64 p2)) rfl e2) ?_
        refine wpR_val (v := (Value.agg #[(Value.int .i64 r14), (Value.int .i64 r17.1), (Value.int .i64 p2)])) (w' := w3) rfl rfl rfl (x_build (qs := [(0, (Value.int .i64 r14)), (1, (Value.int .i64 r17.1)), (2, (Value.int .i64 p2))]) rfl (by rfl) (BD_69_0_1_2 r14 r17.1 p2 _)) ?_
        obtain ⟨b21, hb21⟩ : ∃ u, u = w3.heap.size := ⟨_, rfl⟩
        obtain ⟨w4, hw21⟩ : ∃ u, u = w3.alloc (.cells #[(Value.int .i64 r14), (Value.int .i64 r17.1), (Value.int .i64 p2)] 69) := ⟨_, rfl⟩
        replace h := h b21 w4 hb21 hw21
        refine wpR_val (v := (Sl.v (⟨some ⟨b21, 0, none⟩, 1, 1⟩ : Sl))) (w' := w4) rfl rfl rfl ((x_buildSlice (qs := [(0, (Value.agg #[(Value.int .i64 r14), (Value.int .i64 r17.1), (Value.int .i64 p2)]))]) rfl (by rfl) (BS_61_1_0 r14 r17.1 p2)).trans (by rw [← hb21, ← hw21])) ?_
        obtain ⟨r22, w5, q22, h⟩ := h
        refine wpR_val (v := (Sl.v r22)) (w' := w5) rfl rfl rfl (x_append (s := x20) (u := (⟨some ⟨b21, 0, none⟩, 1, 1⟩ : Sl)) rfl rfl rfl rfl q22) ?_
        obtain ⟨a23, q23, h⟩ := h
        refine wpR_val (v := (Value.pointer (some a23))) (w' := w5) rfl rfl rfl (x_nilCheck rfl rfl q23) ?_
        refine wpR_val (v := (Value.pointer (some (a23.add 1)))) (w' := w5) rfl rfl rfl (x_fieldAddr rfl rfl FA_63_1) ?_
        obtain ⟨q24, h⟩ := h
        obtain ⟨w6, hw24⟩ : ∃ u, u = setAll w5 (a23.add 1) [(Sl.v r22)] 0 := ⟨_, rfl⟩
        replace h := h w6 hw24
        refine wpR_skp (w' := w6) rfl rfl ((x_store (v := (Sl.v r22)) rfl rfl rfl SZ_61 (ones (by rfl)) q24).trans (by rw [hw24]; rfl)) ?_
        refine wpR_nil ?_
        refine wpC_seq ?_
        refine wpC_cut (fun ρ => ρ 0 = (Value.pointer p0) ∧ ρ 2 = (Value.int .i64 p2) ∧ ρ 3 = (Value.int .i64 p3) ∧ ρ 4 = (Value.int .i64 p4) ∧ ρ 15 = (Value.int .i64 r14) ∧ True) ⟨e0, e2, e3, e4, e15, trivial⟩ ?_
        rintro ρ ⟨e0, e2, e3, e4, e15, -⟩
        refine wpC_region ?_
        refine wpR_val (v := (Value.int .i64 r14)) (w' := w6) rfl rfl rfl (x_move (v := (Value.int .i64 r14)) rfl e15) ?_
        refine wpR_val (v := (Value.int .i64 p2)) (w' := w6) rfl rfl rfl (x_move (v := (Value.int .i64 p2)) rfl e2) ?_
        refine wpR_val (v := (Value.int .i64 p3)) (w' := w6) rfl rfl rfl (x_move (v := (Value.int .i64 p3)) rfl e3) ?_
        refine wpR_val (v := (Value.int .i64 p4)) (w' := w6) rfl rfl rfl (x_move (v := (Value.int .i64 p4)) rfl e4) ?_
        refine wpR_enter rfl rfl rfl (x_call (vs := [(Value.int .i64 r14), (Value.int .i64 p2), (Value.int .i64 p3), (Value.int .i64 p4)]) rfl rfl (mapl_cons rfl (mapl_cons rfl (mapl_cons rfl (mapl_cons rfl mapl_nil)))) Try.func25 NN_25 NB_25) (Calls.mono h ?_)
        rintro _ w7 ⟨r25, rfl, h⟩
        refine ⟨_, rfl, ?_⟩
        refine wpR_val (v := (Value.tuple #[(Sl.v r25.1), (Value.int .i64 r25.2)])) (w' := w7) rfl rfl rfl (x_move (v := (Value.tuple #[(Sl.v r25.1), (Value.int .i64 r25.2)])) rfl rfl) ?_
        refine wpR_val (v := (Sl.v r25.1)) (w' := w7) rfl rfl rfl (x_extract rfl rfl rfl) ?_
        refine wpR_val (v := (Value.int .i64 r25.2)) (w' := w7) rfl rfl rfl (x_extract rfl rfl rfl) ?_
        refine wpR_val (v := (Sl.v r25.1)) (w' := w7) rfl rfl rfl (x_assign (v := (Sl.v r25.1)) rfl rfl) ?_
        refine wpR_val (v := (Value.int .i64 r25.2)) (w' := w7) rfl rfl rfl (x_assign (v := (Value.int .i64 r25.2)) rfl rfl) ?_
        refine wpR_nil ?_
        refine wpC_seq ?_
        refine wpC_cut (fun ρ => ρ 0 = (Value.pointer p0) ∧ ρ 17 = (Value.int .i64 r25.2) ∧ ρ 18 = (Sl.v r25.1) ∧ True) ⟨e0, rfl, rfl, trivial⟩ ?_
        rintro ρ ⟨e0, e17, e18, -⟩
        refine wpC_region ?_
        refine wpR_val (v := (Value.pointer p0)) (w' := w7) rfl rfl rfl (x_move (v := (Value.pointer p0)) rfl e0) ?_
        obtain ⟨a26, q26, h⟩ := h
        refine wpR_val (v := (Value.pointer (some a26))) (w' := w7) rfl rfl rfl (x_nilCheck rfl rfl q26) ?_
        refine wpR_val (v := (Value.pointer (some (a26.add 1)))) (w' := w7) rfl rfl rfl (x_fieldAddr rfl rfl FA_63_1) ?_
        obtain ⟨x27, q27, h⟩ := h
        refine wpR_val (v := (Sl.v x27)) (w' := w7) rfl rfl rfl (x_load1 rfl rfl SH_61 q27) ?_
        refine wpR_val (v := (Value.int .i64 (x27.len : Int))) (w' := w7) rfl rfl rfl (x_lenS (s := x27) rfl rfl isSliceT_61) ?_
        refine wpR_val (v := (Value.int .i64 (IntKind.i64.wrap ((x27.len : Int) - 1)))) (w' := w7) rfl rfl rfl (x_sub rfl rfl rfl) ?_
        refine wpR_val (v := (Sl.v r25.1)) (w' := w7) rfl rfl rfl (x_move (v := (Sl.v r25.1)) rfl e18) ?_
        refine wpR_val (v := (Value.int .i64 r25.2)) (w' := w7) rfl rfl rfl (x_move (v := (Value.int .i64 r25.2)) rfl e17) ?_
        refine wpR_val (v := (Value.int .i64 (IntKind.i64.wrap ((x27.len : Int) - 1)))) (w' := w7) rfl rfl rfl (x_assign (v := (Value.int .i64 (IntKind.i64.wrap ((x27.len : Int) - 1)))) rfl rfl) ?_
        refine wpR_val (v := (Sl.v r25.1)) (w' := w7) rfl rfl rfl (x_assign (v := (Sl.v r25.1)) rfl rfl) ?_
        refine wpR_val (v := (Value.int .i64 r25.2)) (w' := w7) rfl rfl rfl (x_assign (v := (Value.int .i64 r25.2)) rfl rfl) ?_
        refine wpR_nil ?_
        refine wpC_ret ?_
        exact ⟨.inl rfl, fun a ha => ⟨_, results_rep3 rfl ha rfl rfl rfl, (IntKind.i64.wrap ((x27.len : Int) - 1), r25.1, r25.2), rfl, h⟩⟩


end Go.Proofs.Ytmnhehklhelpeaa
