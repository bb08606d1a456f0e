import Derived.Test.YtfmimbcljhjflaaRows
import Derived.Test.YtfmimbcljhjflaaFs1
import Derived.Test.YtfmimbcljhjflaaDecOps
namespace Go.Proofs.Ytfmimbcljhjflaa
open Go.Dec
set_option maxHeartbeats 400000

/-- lingualaw05.small -/
def F7  (w0 : World) (K : Bool → World → Prop) : Prop :=
  callC Try.prog 9 #[] (fun (r : (Option Addr)) => (Value.pointer r)) w0 fun r1 w1 =>
  cnd (r1.isNone)
    (
    K false w1
    )
    (
    callC Try.prog 17 #[(Value.pointer r1)] (fun (r : Int) => (Value.int .i64 r)) w1 fun r3 w2 =>
    callC Try.prog 17 #[(Value.pointer r1)] (fun (r : Int) => (Value.int .i64 r)) w2 fun r4 w3 =>
    callC Try.prog 18 #[(Value.pointer r1), (Value.int .i64 1), (Value.string (ByteArray.mk #[97]))] (fun (r : Int × Int) => (Value.tuple #[(Value.int .i64 r.1), (Value.int .i64 r.2)])) w3 fun r5 w4 =>
    callC Try.prog 18 #[(Value.pointer r1), (Value.int .i64 2), (Value.string (ByteArray.mk #[98]))] (fun (r : Int × Int) => (Value.tuple #[(Value.int .i64 r.1), (Value.int .i64 r.2)])) w4 fun r6 w5 =>
    callC Try.prog 15 #[(Value.pointer r1), (Value.int .i64 1), (Value.int .i64 0)] (fun (r : ByteArray × Int) => (Value.tuple #[(Value.string r.1), (Value.int .i64 r.2)])) w5 fun r7 w6 =>
    callC Try.prog 15 #[(Value.pointer r1), (Value.int .i64 0), (Value.int .i64 0)] (fun (r : ByteArray × Int) => (Value.tuple #[(Value.string r.1), (Value.int .i64 r.2)])) w6 fun r8 w7 =>
    callC Try.prog 15 #[(Value.pointer r1), (Value.int .i64 1), (Value.int .i64 1)] (fun (r : ByteArray × Int) => (Value.tuple #[(Value.string r.1), (Value.int .i64 r.2)])) w7 fun r9 w8 =>
    callC Try.prog 19 #[(Value.pointer r1), (Value.int .i64 1)] (fun (r : Int) => (Value.int .i64 r)) w8 fun r26 w9 =>
    callC Try.prog 15 #[(Value.pointer r1), (Value.int .i64 1), (Value.int .i64 0)] (fun (r : ByteArray × Int) => (Value.tuple #[(Value.string r.1), (Value.int .i64 r.2)])) w9 fun r27 w10 =>
    callC Try.prog 18 #[(Value.pointer r1), (Value.int .i64 1), (Value.string (ByteArray.mk #[99]))] (fun (r : Int × Int) => (Value.tuple #[(Value.int .i64 r.1), (Value.int .i64 r.2)])) w10 fun r28 w11 =>
    jn (fun J35 => cnd ((((((((((((decide (r3 = 0)) && (decide (r4 = 1))) && (decide (r5.1 = 0))) && (decide (r5.2 = 0))) && (decide (r6.2 = 4))) && (beqS r7.1 (ByteArray.mk #[97]))) && (decide (r7.2 = 0))) && (decide (r8.2 = 13))) && (decide (r9.2 = 4))) && (decide (r26 = 0))) && (decide (r27.2 = 13))) && (decide (r28.2 = 13)))
      (
      callC Try.prog 19 #[(Value.pointer r1), (Value.int .i64 1)] (fun (r : Int) => (Value.int .i64 r)) w11 fun r37 w12 =>
      J35 (decide (r37 = 5)) w12
      )
      (
      J35 false w11
      ))
    fun c38 w13 =>
    jn (fun J39 => cnd (c38)
      (
      callC Try.prog 13 #[(Value.pointer r1)] (fun (r : Int) => (Value.int .i64 r)) w13 fun r41 w14 =>
      J39 (decide (r41 = 2)) w14
      )
      (
      J39 false w13
      ))
    fun c42 w15 =>
    jn (fun J43 => cnd (c42)
      (
      callC Try.prog 14 #[(Value.pointer r1)] (fun (r : Int) => (Value.int .i64 r)) w15 fun r45 w16 =>
      J43 (decide (r45 = 1)) w16
      )
      (
      J43 false w15
      ))
    fun c46 w17 =>
    K c46 w17
    )
set_option maxRecDepth 100000 in
theorem D7  (w0 : World) (K : Bool → World → Prop) (h : F7  w0 K) : callC Try.prog 7 #[] (fun (r : Bool) => (Value.bool r)) w0 K := by
  unfold F7 at h
  refine calls_of_wpC Try.func7 rfl 126 rfl (by simp) ?_
  intro ρ hρ
  clear hρ
  refine wpC_seq ?_
  refine wpC_region ?_
  refine wpR_val (v := (Value.bool false)) (w' := w0) rfl rfl rfl (x_assign (v := (Value.bool false)) rfl rfl) ?_
  refine wpR_nil ?_
  refine wpC_seq ?_
  refine wpC_cut (fun ρ => True) trivial ?_
  rintro ρ -
  refine wpC_region ?_
  refine wpR_enter rfl rfl rfl (x_call (vs := []) rfl rfl (by rfl) Try.func9 NN_9 NB_9) (Calls.mono h ?_)
  rintro _ w1 ⟨r1, rfl, h⟩
  refine ⟨_, rfl, ?_⟩
  refine wpR_val (v := (Value.pointer r1)) (w' := w1) rfl rfl rfl (x_assign (v := (Value.pointer r1)) rfl rfl) ?_
  refine wpR_nil ?_
  refine wpC_seq ?_
  refine wpC_seq ?_
  refine wpC_cut (fun ρ => ρ 1 = (Value.pointer r1) ∧ True) ⟨rfl, trivial⟩ ?_
  rintro ρ ⟨e1, -⟩
  refine wpC_region ?_
  refine wpR_val (v := (Value.pointer r1)) (w' := w1) rfl rfl rfl (x_move (v := (Value.pointer r1)) rfl e1) ?_
  refine wpR_val (v := (Value.bool r1.isNone)) (w' := w1) rfl rfl rfl (x_eqlNil rfl rfl rfl isPtrT_25) ?_
  refine wpR_nil ?_
  refine wpC_cond (b := r1.isNone) rfl (fun hc2 => ?_) (fun hc2 => ?_)
  · replace h := h.1 hc2
    refine wpC_seq ?_
    refine wpC_cut (fun ρ => True) trivial ?_
    rintro ρ -
    refine wpC_region ?_
    refine wpR_val (v := (Value.bool false)) (w' := w1) rfl rfl rfl (x_assign (v := (Value.bool false)) rfl rfl) ?_
    refine wpR_nil ?_
    refine wpC_ret ?_
    exact ⟨.inl rfl, fun a ha => ⟨_, results_rep1 rfl ha rfl, false, rfl, h⟩⟩
  · replace h := h.2 hc2
    refine wpC_skip ?_
    refine wpC_seq ?_
    refine wpC_cut (fun ρ => ρ 1 = (Value.pointer r1) ∧ True) ⟨e1, trivial⟩ ?_
    rintro ρ ⟨e1, -⟩
    refine wpC_region ?_
    refine wpR_val (v := (Value.pointer r1)) (w' := w1) rfl rfl rfl (x_move (v := (Value.pointer r1)) rfl e1) ?_
    refine wpR_enter rfl rfl rfl (x_call (vs := [(Value.pointer r1)]) rfl rfl (by rfl) Try.func17 NN_17 NB_17) (Calls.mono h ?_)
    rintro _ w2 ⟨r3, rfl, h⟩
    refine ⟨_, rfl, ?_⟩
    refine wpR_val (v := (Value.int .i64 r3)) (w' := w2) rfl rfl rfl (x_assign (v := (Value.int .i64 r3)) rfl rfl) ?_
    refine wpR_nil ?_
    refine wpC_seq ?_
    refine wpC_cut (fun ρ => ρ 1 = (Value.pointer r1) ∧ ρ 2 = (Value.int .i64 r3) ∧ True) ⟨e1, rfl, trivial⟩ ?_
    rintro ρ ⟨e1, e2, -⟩
    refine wpC_region ?_
    refine wpR_val (v := (Value.pointer r1)) (w' := w2) rfl rfl rfl (x_move (v := (Value.pointer r1)) rfl e1) ?_
    refine wpR_enter rfl rfl rfl (x_call (vs := [(Value.pointer r1)]) rfl rfl (by rfl) Try.func17 NN_17 NB_17) (Calls.mono h ?_)
    rintro _ w3 ⟨r4, rfl, h⟩
    refine ⟨_, rfl, ?_⟩
    refine wpR_val (v := (Value.int .i64 r4)) (w' := w3) rfl rfl rfl (x_assign (v := (Value.int .i64 r4)) rfl rfl) ?_
    refine wpR_nil ?_
    refine wpC_seq ?_
    refine wpC_cut (fun ρ => ρ 1 = (Value.pointer r1) ∧ ρ 2 = (Value.int .i64 r3) ∧ ρ 3 = (Value.int .i64 r4) ∧ True) ⟨e1, e2, rfl, trivial⟩ ?_
    rintro ρ ⟨e1, e2, e3, -⟩
    refine wpC_region ?_
    refine wpR_val (v := (Value.pointer r1)) (w' := w3) rfl rfl rfl (x_move (v := (Value.pointer r1)) rfl e1) ?_
    refine wpR_enter rfl rfl rfl (x_call (vs := [(Value.pointer r1), (Value.int .i64 1), (Value.string (ByteArray.mk #[97]))]) rfl rfl (by rfl) Try.func18 NN_18 NB_18) (Calls.mono h ?_)
    rintro _ w4 ⟨r5, rfl, h⟩
    refine ⟨_, rfl, ?_⟩
    refine wpR_val (v := (Value.tuple #[(Value.int .i64 r5.1), (Value.int .i64 r5.2)])) (w' := w4) rfl rfl rfl (x_move (v := (Value.tuple #[(Value.int .i64 r5.1), (Value.int .i64 r5.2)])) rfl rfl) ?_
    refine wpR_val (v := (Value.int .i64 r5.1)) (w' := w4) rfl rfl rfl (x_extract rfl rfl rfl) ?_
    refine wpR_val (v := (Value.int .i64 r5.2)) (w' := w4) rfl rfl rfl (x_extract rfl rfl rfl) ?_
    refine wpR_val (v := (Value.int .i64 r5.1)) (w' := w4) rfl rfl rfl (x_assign (v := (Value.int .i64 r5.1)) rfl rfl) ?_
    refine wpR_val (v := (Value.int .i64 r5.2)) (w' := w4) rfl rfl rfl (x_assign (v := (Value.int .i64 r5.2)) rfl rfl) ?_
    refine wpR_nil ?_
    refine wpC_seq ?_
    refine wpC_cut (fun ρ => ρ 1 = (Value.pointer r1) ∧ ρ 2 = (Value.int .i64 r3) ∧ ρ 3 = (Value.int .i64 r4) ∧ ρ 4 = (Value.int .i64 r5.1) ∧ ρ 5 = (Value.int .i64 r5.2) ∧ True) ⟨e1, e2, e3, rfl, rfl, trivial⟩ ?_
    rintro ρ ⟨e1, e2, e3, e4, e5, -⟩
    refine wpC_region ?_
    refine wpR_val (v := (Value.pointer r1)) (w' := w4) rfl rfl rfl (x_move (v := (Value.pointer r1)) rfl e1) ?_
    refine wpR_enter rfl rfl rfl (x_call (vs := [(Value.pointer r1), (Value.int .i64 2), (Value.string (ByteArray.mk #[98]))]) rfl rfl (by rfl) Try.func18 NN_18 NB_18) (Calls.mono h ?_)
    rintro _ w5 ⟨r6, rfl, h⟩
    refine ⟨_, rfl, ?_⟩
    refine wpR_val (v := (Value.tuple #[(Value.int .i64 r6.1), (Value.int .i64 r6.2)])) (w' := w5) rfl rfl rfl (x_move (v := (Value.tuple #[(Value.int .i64 r6.1), (Value.int .i64 r6.2)])) rfl rfl) ?_
    refine wpR_val (v := (Value.int .i64 r6.1)) (w' := w5) rfl rfl rfl (x_extract rfl rfl rfl) ?_
    refine wpR_val (v := (Value.int .i64 r6.2)) (w' := w5) rfl rfl rfl (x_extract rfl rfl rfl) ?_
    refine wpR_val (v := (Value.int .i64 r6.1)) (w' := w5) rfl rfl rfl (x_assign (v := (Value.int .i64 r6.1)) rfl rfl) ?_
    refine wpR_val (v := (Value.int .i64 r6.2)) (w' := w5) rfl rfl rfl (x_assign (v := (Value.int .i64 r6.2)) rfl rfl) ?_
    refine wpR_nil ?_
    refine wpC_seq ?_
    refine wpC_cut (fun ρ => ρ 1 = (Value.pointer r1) ∧ ρ 2 = (Value.int .i64 r3) ∧ ρ 3 = (Value.int .i64 r4) ∧ ρ 4 = (Value.int .i64 r5.1) ∧ ρ 5 = (Value.int .i64 r5.2) ∧ ρ 7 = (Value.int .i64 r6.2) ∧ True) ⟨e1, e2, e3, e4, e5, rfl, trivial⟩ ?_
    rintro ρ ⟨e1, e2, e3, e4, e5, e7, -⟩
    refine wpC_region ?_
    refine wpR_val (v := (Value.pointer r1)) (w' := w5) rfl rfl rfl (x_move (v := (Value.pointer r1)) rfl e1) ?_
    refine wpR_enter rfl rfl rfl (x_call (vs := [(Value.pointer r1), (Value.int .i64 1), (Value.int .i64 0)]) rfl rfl (by rfl) Try.func15 NN_15 NB_15) (Calls.mono h ?_)
    rintro _ w6 ⟨r7, rfl, h⟩
    refine ⟨_, rfl, ?_⟩
    refine wpR_val (v := (Value.tuple #[(Value.string r7.1), (Value.int .i64 r7.2)])) (w' := w6) rfl rfl rfl (x_move (v := (Value.tuple #[(Value.string r7.1), (Value.int .i64 r7.2)])) rfl rfl) ?_
    refine wpR_val (v := (Value.string r7.1)) (w' := w6) rfl rfl rfl (x_extract rfl rfl rfl) ?_
    refine wpR_val (v := (Value.int .i64 r7.2)) (w' := w6) rfl rfl rfl (x_extract rfl rfl rfl) ?_
    refine wpR_val (v := (Value.string r7.1)) (w' := w6) rfl rfl rfl (x_assign (v := (Value.string r7.1)) rfl rfl) ?_
    refine wpR_val (v := (Value.int .i64 r7.2)) (w' := w6) rfl rfl rfl (x_assign (v := (Value.int .i64 r7.2)) rfl rfl) ?_
    refine wpR_nil ?_
    refine wpC_seq ?_
    refine wpC_cut (fun ρ => ρ 1 = (Value.pointer r1) ∧ ρ 2 = (Value.int .i64 r3) ∧ ρ 3 = (Value.int .i64 r4) ∧ ρ 4 = (Value.int .i64 r5.1) ∧ ρ 5 = (Value.int .i64 r5.2) ∧ ρ 7 = (Value.int .i64 r6.2) ∧ ρ 8 = (Value.string r7.1) ∧ ρ 9 = (Value.int .i64 r7.2) ∧ True) ⟨e1, e2, e3, e4, e5, e7, rfl, rfl, trivial⟩ ?_
    rintro ρ ⟨e1, e2, e3, e4, e5, e7, e8, e9, -⟩
    refine wpC_region ?_
    refine wpR_val (v := (Value.pointer r1)) (w' := w6) rfl rfl rfl (x_move (v := (Value.pointer r1)) rfl e1) ?_
    refine wpR_enter rfl rfl rfl (x_call (vs := [(Value.pointer r1), (Value.int .i64 0), (Value.int .i64 0)]) rfl rfl (by rfl) Try.func15 NN_15 NB_15) (Calls.mono h ?_)
    rintro _ w7 ⟨r8, rfl, h⟩
    refine ⟨_, rfl, ?_⟩
    refine wpR_val (v := (Value.tuple #[(Value.string r8.1), (Value.int .i64 r8.2)])) (w' := w7) rfl rfl rfl (x_move (v := (Value.tuple #[(Value.string r8.1), (Value.int .i64 r8.2)])) rfl rfl) ?_
    refine wpR_val (v := (Value.string r8.1)) (w' := w7) rfl rfl rfl (x_extract rfl rfl rfl) ?_
    refine wpR_val (v := (Value.int .i64 r8.2)) (w' := w7) rfl rfl rfl (x_extract rfl rfl rfl) ?_
    refine wpR_val (v := (Value.string r8.1)) (w' := w7) rfl rfl rfl (x_assign (v := (Value.string r8.1)) rfl rfl) ?_
    refine wpR_val (v := (Value.int .i64 r8.2)) (w' := w7) rfl rfl rfl (x_assign (v := (Value.int .i64 r8.2)) rfl rfl) ?_
    refine wpR_nil ?_
    refine wpC_seq ?_
    refine wpC_cut (fun ρ => ρ 1 = (Value.pointer r1) ∧ ρ 2 = (Value.int .i64 r3) ∧ ρ 3 = (Value.int .i64 r4) ∧ ρ 4 = (Value.int .i64 r5.1) ∧ ρ 5 = (Value.int .i64 r5.2) ∧ ρ 7 = (Value.int .i64 r6.2) ∧ ρ 8 = (Value.string r7.1) ∧ ρ 9 = (Value.int .i64 r7.2) ∧ ρ 11 = (Value.int .i64 r8.2) ∧ True) ⟨e1, e2, e3, e4, e5, e7, e8, e9, rfl, trivial⟩ ?_
    rintro ρ ⟨e1, e2, e3, e4, e5, e7, e8, e9, e11, -⟩
    refine wpC_region ?_
    refine wpR_val (v := (Value.pointer r1)) (w' := w7) rfl rfl rfl (x_move (v := (Value.pointer r1)) rfl e1) ?_
    refine wpR_enter rfl rfl rfl (x_call (vs := [(Value.pointer r1), (Value.int .i64 1), (Value.int .i64 1)]) rfl rfl (by rfl) Try.func15 NN_15 NB_15) (Calls.mono h ?_)
    rintro _ w8 ⟨r9, rfl, h⟩
    refine ⟨_, rfl, ?_⟩
    refine wpR_val (v := (Value.tuple #[(Value.string r9.1), (Value.int .i64 r9.2)])) (w' := w8) rfl rfl rfl (x_move (v := (Value.tuple #[(Value.string r9.1), (Value.int .i64 r9.2)])) rfl rfl) ?_
    refine wpR_val (v := (Value.string r9.1)) (w' := w8) rfl rfl rfl (x_extract rfl rfl rfl) ?_
    refine wpR_val (v := (Value.int .i64 r9.2)) (w' := w8) rfl rfl rfl (x_extract rfl rfl rfl) ?_
    refine wpR_val (v := (Value.string r9.1)) (w' := w8) rfl rfl rfl (x_assign (v := (Value.string r9.1)) rfl rfl) ?_
    refine wpR_val (v := (Value.int .i64 r9.2)) (w' := w8) rfl rfl rfl (x_assign (v := (Value.int .i64 r9.2)) rfl rfl) ?_
    refine wpR_nil ?_
    refine wpC_seq ?_
    refine wpC_cut (fun ρ => ρ 1 = (Value.pointer r1) ∧ ρ 2 = (Value.int .i64 r3) ∧ ρ 3 = (Value.int .i64 r4) ∧ ρ 4 = (Value.int .i64 r5.1) ∧ ρ 5 = (Value.int .i64 r5.2) ∧ ρ 7 = (Value.int .i64 r6.2) ∧ ρ 8 = (Value.string r7.1) ∧ ρ 9 = (Value.int .i64 r7.2) ∧ ρ 11 = (Value.int .i64 r8.2) ∧ ρ 13 = (Value.int .i64 r9.2) ∧ True) ⟨e1, e2, e3, e4, e5, e7, e8, e9, e11, rfl, trivial⟩ ?_
    rintro ρ ⟨e1, e2, e3, e4, e5, e7, e8, e9, e11, e13, -⟩
    refine wpC_region ?_
    refine wpR_val (v := (Value.int .i64 r3)) (w' := w8) rfl rfl rfl (x_move (v := (Value.int .i64 r3)) rfl e2) ?_
    refine wpR_val (v := (Value.bool (decide (r3 = 0)))) (w' := w8) rfl rfl rfl (x_eql rfl rfl rfl) ?_
    refine wpR_val (v := (Value.bool (decide (r3 = 0)))) (w' := w8) rfl rfl rfl (x_move (v := (Value.bool (decide (r3 = 0)))) rfl rfl) ?_
    refine wpR_joinJ 3 (fun (_ : Unit) ρ => ρ 57 = Value.bool ((decide (r3 = 0)) && (decide (r4 = 1))) ∧ ρ 1 = (Value.pointer r1) ∧ ρ 4 = (Value.int .i64 r5.1) ∧ ρ 5 = (Value.int .i64 r5.2) ∧ ρ 7 = (Value.int .i64 r6.2) ∧ ρ 8 = (Value.string r7.1) ∧ ρ 9 = (Value.int .i64 r7.2) ∧ ρ 11 = (Value.int .i64 r8.2) ∧ ρ 13 = (Value.int .i64 r9.2) ∧ True) (fun _ w => w8 = w) ?_ ?_
    · clear h
      rcases Bool.eq_false_or_eq_true (decide (r3 = 0)) with hc11 | hc11
      · skip
        refine wpR_val (v := (Value.int .i64 r4)) (w' := w8) (wantG rfl rfl rfl hc11) rfl rfl (x_move (v := (Value.int .i64 r4)) rfl e3) ?_
        refine wpR_val (v := (Value.bool (decide (r4 = 1)))) (w' := w8) (wantG rfl rfl rfl hc11) rfl rfl (x_eql rfl rfl rfl) ?_
        refine wpR_val (v := (Value.bool (decide (r4 = 1)))) (w' := w8) rfl rfl rfl (x_pickT (v := (Value.bool (decide (r4 = 1)))) rfl rfl hc11 rfl) ?_
        refine wpR_nil ?_
        exact ⟨(), ⟨(by rw [hc11]; rfl), e1, e4, e5, e7, e8, e9, e11, e13, trivial⟩, rfl⟩
      · skip
        refine wpR_pass (wantN rfl rfl rfl hc11) rfl rfl ?_
        refine wpR_pass (wantN rfl rfl rfl hc11) rfl rfl ?_
        refine wpR_val (v := (Value.bool false)) (w' := w8) rfl rfl rfl (x_pickF (v := (Value.bool false)) rfl rfl hc11 rfl) ?_
        refine wpR_nil ?_
        exact ⟨(), ⟨(by rw [hc11]; rfl), e1, e4, e5, e7, e8, e9, e11, e13, trivial⟩, rfl⟩
    rintro _ ρ wj ⟨e57, e1, e4, e5, e7, e8, e9, e11, e13, -⟩ rfl
    refine wpR_val (v := (Value.bool ((decide (r3 = 0)) && (decide (r4 = 1))))) (w' := w8) rfl rfl rfl (x_move (v := (Value.bool ((decide (r3 = 0)) && (decide (r4 = 1))))) rfl e57) ?_
    refine wpR_joinJ 3 (fun (_ : Unit) ρ => ρ 61 = Value.bool (((decide (r3 = 0)) && (decide (r4 = 1))) && (decide (r5.1 = 0))) ∧ ρ 1 = (Value.pointer r1) ∧ ρ 5 = (Value.int .i64 r5.2) ∧ ρ 7 = (Value.int .i64 r6.2) ∧ ρ 8 = (Value.string r7.1) ∧ ρ 9 = (Value.int .i64 r7.2) ∧ ρ 11 = (Value.int .i64 r8.2) ∧ ρ 13 = (Value.int .i64 r9.2) ∧ True) (fun _ w => w8 = w) ?_ ?_
    · clear h
      rcases Bool.eq_false_or_eq_true ((decide (r3 = 0)) && (decide (r4 = 1))) with hc13 | hc13
      · skip
        refine wpR_val (v := (Value.int .i64 r5.1)) (w' := w8) (wantG rfl rfl rfl hc13) rfl rfl (x_move (v := (Value.int .i64 r5.1)) rfl e4) ?_
        refine wpR_val (v := (Value.bool (decide (r5.1 = 0)))) (w' := w8) (wantG rfl rfl rfl hc13) rfl rfl (x_eql rfl rfl rfl) ?_
        refine wpR_val (v := (Value.bool (decide (r5.1 = 0)))) (w' := w8) rfl rfl rfl (x_pickT (v := (Value.bool (decide (r5.1 = 0)))) rfl rfl hc13 rfl) ?_
        refine wpR_nil ?_
        exact ⟨(), ⟨(by rw [hc13]; rfl), e1, e5, e7, e8, e9, e11, e13, trivial⟩, rfl⟩
      · skip
        refine wpR_pass (wantN rfl rfl rfl hc13) rfl rfl ?_
        refine wpR_pass (wantN rfl rfl rfl hc13) rfl rfl ?_
        refine wpR_val (v := (Value.bool false)) (w' := w8) rfl rfl rfl (x_pickF (v := (Value.bool false)) rfl rfl hc13 rfl) ?_
        refine wpR_nil ?_
        exact ⟨(), ⟨(by rw [hc13]; rfl), e1, e5, e7, e8, e9, e11, e13, trivial⟩, rfl⟩
    rintro _ ρ wj ⟨e61, e1, e5, e7, e8, e9, e11, e13, -⟩ rfl
    refine wpR_val (v := (Value.bool (((decide (r3 = 0)) && (decide (r4 = 1))) && (decide (r5.1 = 0))))) (w' := w8) rfl rfl rfl (x_move (v := (Value.bool (((decide (r3 = 0)) && (decide (r4 = 1))) && (decide (r5.1 = 0))))) rfl e61) ?_
    refine wpR_joinJ 3 (fun (_ : Unit) ρ => ρ 65 = Value.bool ((((decide (r3 = 0)) && (decide (r4 = 1))) && (decide (r5.1 = 0))) && (decide (r5.2 = 0))) ∧ ρ 1 = (Value.pointer r1) ∧ ρ 7 = (Value.int .i64 r6.2) ∧ ρ 8 = (Value.string r7.1) ∧ ρ 9 = (Value.int .i64 r7.2) ∧ ρ 11 = (Value.int .i64 r8.2) ∧ ρ 13 = (Value.int .i64 r9.2) ∧ True) (fun _ w => w8 = w) ?_ ?_
    · clear h
      rcases Bool.eq_false_or_eq_true (((decide (r3 = 0)) && (decide (r4 = 1))) && (decide (r5.1 = 0))) with hc15 | hc15
      · skip
        refine wpR_val (v := (Value.int .i64 r5.2)) (w' := w8) (wantG rfl rfl rfl hc15) rfl rfl (x_move (v := (Value.int .i64 r5.2)) rfl e5) ?_
        refine wpR_val (v := (Value.bool (decide (r5.2 = 0)))) (w' := w8) (wantG rfl rfl rfl hc15) rfl rfl (x_eql rfl rfl rfl) ?_
        refine wpR_val (v := (Value.bool (decide (r5.2 = 0)))) (w' := w8) rfl rfl rfl (x_pickT (v := (Value.bool (decide (r5.2 = 0)))) rfl rfl hc15 rfl) ?_
        refine wpR_nil ?_
        exact ⟨(), ⟨(by rw [hc15]; rfl), e1, e7, e8, e9, e11, e13, trivial⟩, rfl⟩
      · skip
        refine wpR_pass (wantN rfl rfl rfl hc15) rfl rfl ?_
        refine wpR_pass (wantN rfl rfl rfl hc15) rfl rfl ?_
        refine wpR_val (v := (Value.bool false)) (w' := w8) rfl rfl rfl (x_pickF (v := (Value.bool false)) rfl rfl hc15 rfl) ?_
        refine wpR_nil ?_
        exact ⟨(), ⟨(by rw [hc15]; rfl), e1, e7, e8, e9, e11, e13, trivial⟩, rfl⟩
    rintro _ ρ wj ⟨e65, e1, e7, e8, e9, e11, e13, -⟩ rfl
    refine wpR_val (v := (Value.bool ((((decide (r3 = 0)) && (decide (r4 = 1))) && (decide (r5.1 = 0))) && (decide (r5.2 = 0))))) (w' := w8) rfl rfl rfl (x_move (v := (Value.bool ((((decide (r3 = 0)) && (decide (r4 = 1))) && (decide (r5.1 = 0))) && (decide (r5.2 = 0))))) rfl e65) ?_
    refine wpR_joinJ 3 (fun (_ : Unit) ρ => ρ 69 = Value.bool (((((decide (r3 = 0)) && (decide (r4 = 1))) && (decide (r5.1 = 0))) && (decide (r5.2 = 0))) && (decide (r6.2 = 4))) ∧ ρ 1 = (Value.pointer r1) ∧ ρ 8 = (Value.string r7.1) ∧ ρ 9 = (Value.int .i64 r7.2) ∧ ρ 11 = (Value.int .i64 r8.2) ∧ ρ 13 = (Value.int .i64 r9.2) ∧ True) (fun _ w => w8 = w) ?_ ?_
    · clear h
      rcases Bool.eq_false_or_eq_true ((((decide (r3 = 0)) && (decide (r4 = 1))) && (decide (r5.1 = 0))) && (decide (r5.2 = 0))) with hc17 | hc17
      · skip
        refine wpR_val (v := (Value.int .i64 r6.2)) (w' := w8) (wantG rfl rfl rfl hc17) rfl rfl (x_move (v := (Value.int .i64 r6.2)) rfl e7) ?_
        refine wpR_val (v := (Value.bool (decide (r6.2 = 4)))) (w' := w8) (wantG rfl rfl rfl hc17) rfl rfl (x_eql rfl rfl rfl) ?_
        refine wpR_val (v := (Value.bool (decide (r6.2 = 4)))) (w' := w8) rfl rfl rfl (x_pickT (v := (Value.bool (decide (r6.2 = 4)))) rfl rfl hc17 rfl) ?_
        refine wpR_nil ?_
        exact ⟨(), ⟨(by rw [hc17]; rfl), e1, e8, e9, e11, e13, trivial⟩, rfl⟩
      · skip
        refine wpR_pass (wantN rfl rfl rfl hc17) rfl rfl ?_
        refine wpR_pass (wantN rfl rfl rfl hc17) rfl rfl ?_
        refine wpR_val (v := (Value.bool false)) (w' := w8) rfl rfl rfl (x_pickF (v := (Value.bool false)) rfl rfl hc17 rfl) ?_
        refine wpR_nil ?_
        exact ⟨(), ⟨(by rw [hc17]; rfl), e1, e8, e9, e11, e13, trivial⟩, rfl⟩
    rintro _ ρ wj ⟨e69, e1, e8, e9, e11, e13, -⟩ rfl
    refine wpR_val (v := (Value.bool (((((decide (r3 = 0)) && (decide (r4 = 1))) && (decide (r5.1 = 0))) && (decide (r5.2 = 0))) && (decide (r6.2 = 4))))) (w' := w8) rfl rfl rfl (x_move (v := (Value.bool (((((decide (r3 = 0)) && (decide (r4 = 1))) && (decide (r5.1 = 0))) && (decide (r5.2 = 0))) && (decide (r6.2 = 4))))) rfl e69) ?_
    refine wpR_joinJ 3 (fun (_ : Unit) ρ => ρ 73 = Value.bool ((((((decide (r3 = 0)) && (decide (r4 = 1))) && (decide (r5.1 = 0))) && (decide (r5.2 = 0))) && (decide (r6.2 = 4))) && (beqS r7.1 (ByteArray.mk #[97]))) ∧ ρ 1 = (Value.pointer r1) ∧ ρ 9 = (Value.int .i64 r7.2) ∧ ρ 11 = (Value.int .i64 r8.2) ∧ ρ 13 = (Value.int .i64 r9.2) ∧ True) (fun _ w => w8 = w) ?_ ?_
    · clear h
      rcases Bool.eq_false_or_eq_true (((((decide (r3 = 0)) && (decide (r4 = 1))) && (decide (r5.1 = 0))) && (decide (r5.2 = 0))) && (decide (r6.2 = 4))) with hc19 | hc19
      · skip
        refine wpR_val (v := (Value.string r7.1)) (w' := w8) (wantG rfl rfl rfl hc19) rfl rfl (x_move (v := (Value.string r7.1)) rfl e8) ?_
        refine wpR_val (v := (Value.bool (beqS r7.1 (ByteArray.mk #[97])))) (w' := w8) (wantG rfl rfl rfl hc19) rfl rfl (x_eqlS rfl rfl rfl) ?_
        refine wpR_val (v := (Value.bool (beqS r7.1 (ByteArray.mk #[97])))) (w' := w8) rfl rfl rfl (x_pickT (v := (Value.bool (beqS r7.1 (ByteArray.mk #[97])))) rfl rfl hc19 rfl) ?_
        refine wpR_nil ?_
        exact ⟨(), ⟨(by rw [hc19]; rfl), e1, e9, e11, e13, trivial⟩, rfl⟩
      · skip
        refine wpR_pass (wantN rfl rfl rfl hc19) rfl rfl ?_
        refine wpR_pass (wantN rfl rfl rfl hc19) rfl rfl ?_
        refine wpR_val (v := (Value.bool false)) (w' := w8) rfl rfl rfl (x_pickF (v := (Value.bool false)) rfl rfl hc19 rfl) ?_
        refine wpR_nil ?_
        exact ⟨(), ⟨(by rw [hc19]; rfl), e1, e9, e11, e13, trivial⟩, rfl⟩
    rintro _ ρ wj ⟨e73, e1, e9, e11, e13, -⟩ rfl
    refine wpR_val (v := (Value.bool ((((((decide (r3 = 0)) && (decide (r4 = 1))) && (decide (r5.1 = 0))) && (decide (r5.2 = 0))) && (decide (r6.2 = 4))) && (beqS r7.1 (ByteArray.mk #[97]))))) (w' := w8) rfl rfl rfl (x_move (v := (Value.bool ((((((decide (r3 = 0)) && (decide (r4 = 1))) && (decide (r5.1 = 0))) && (decide (r5.2 = 0))) && (decide (r6.2 = 4))) && (beqS r7.1 (ByteArray.mk #[97]))))) rfl e73) ?_
    refine wpR_joinJ 3 (fun (_ : Unit) ρ => ρ 77 = Value.bool (((((((decide (r3 = 0)) && (decide (r4 = 1))) && (decide (r5.1 = 0))) && (decide (r5.2 = 0))) && (decide (r6.2 = 4))) && (beqS r7.1 (ByteArray.mk #[97]))) && (decide (r7.2 = 0))) ∧ ρ 1 = (Value.pointer r1) ∧ ρ 11 = (Value.int .i64 r8.2) ∧ ρ 13 = (Value.int .i64 r9.2) ∧ True) (fun _ w => w8 = w) ?_ ?_
    · clear h
      rcases Bool.eq_false_or_eq_true ((((((decide (r3 = 0)) && (decide (r4 = 1))) && (decide (r5.1 = 0))) && (decide (r5.2 = 0))) && (decide (r6.2 = 4))) && (beqS r7.1 (ByteArray.mk #[97]))) with hc21 | hc21
      · skip
        refine wpR_val (v := (Value.int .i64 r7.2)) (w' := w8) (wantG rfl rfl rfl hc21) rfl rfl (x_move (v := (Value.int .i64 r7.2)) rfl e9) ?_
        refine wpR_val (v := (Value.bool (decide (r7.2 = 0)))) (w' := w8) (wantG rfl rfl rfl hc21) rfl rfl (x_eql rfl rfl rfl) ?_
        refine wpR_val (v := (Value.bool (decide (r7.2 = 0)))) (w' := w8) rfl rfl rfl (x_pickT (v := (Value.bool (decide (r7.2 = 0)))) rfl rfl hc21 rfl) ?_
        refine wpR_nil ?_
        exact ⟨(), ⟨(by rw [hc21]; rfl), e1, e11, e13, trivial⟩, rfl⟩
      · skip
        refine wpR_pass (wantN rfl rfl rfl hc21) rfl rfl ?_
        refine wpR_pass (wantN rfl rfl rfl hc21) rfl rfl ?_
        refine wpR_val (v := (Value.bool false)) (w' := w8) rfl rfl rfl (x_pickF (v := (Value.bool false)) rfl rfl hc21 rfl) ?_
        refine wpR_nil ?_
        exact ⟨(), ⟨(by rw [hc21]; rfl), e1, e11, e13, trivial⟩, rfl⟩
    rintro _ ρ wj ⟨e77, e1, e11, e13, -⟩ rfl
    refine wpR_val (v := (Value.bool (((((((decide (r3 = 0)) && (decide (r4 = 1))) && (decide (r5.1 = 0))) && (decide (r5.2 = 0))) && (decide (r6.2 = 4))) && (beqS r7.1 (ByteArray.mk #[97]))) && (decide (r7.2 = 0))))) (w' := w8) rfl rfl rfl (x_move (v := (Value.bool (((((((decide (r3 = 0)) && (decide (r4 = 1))) && (decide (r5.1 = 0))) && (decide (r5.2 = 0))) && (decide (r6.2 = 4))) && (beqS r7.1 (ByteArray.mk #[97]))) && (decide (r7.2 = 0))))) rfl e77) ?_
    refine wpR_joinJ 3 (fun (_ : Unit) ρ => ρ 81 = Value.bool ((((((((decide (r3 = 0)) && (decide (r4 = 1))) && (decide (r5.1 = 0))) && (decide (r5.2 = 0))) && (decide (r6.2 = 4))) && (beqS r7.1 (ByteArray.mk #[97]))) && (decide (r7.2 = 0))) && (decide (r8.2 = 13))) ∧ ρ 1 = (Value.pointer r1) ∧ ρ 13 = (Value.int .i64 r9.2) ∧ True) (fun _ w => w8 = w) ?_ ?_
    · clear h
      rcases Bool.eq_false_or_eq_true (((((((decide (r3 = 0)) && (decide (r4 = 1))) && (decide (r5.1 = 0))) && (decide (r5.2 = 0))) && (decide (r6.2 = 4))) && (beqS r7.1 (ByteArray.mk #[97]))) && (decide (r7.2 = 0))) with hc23 | hc23
      · skip
        refine wpR_val (v := (Value.int .i64 r8.2)) (w' := w8) (wantG rfl rfl rfl hc23) rfl rfl (x_move (v := (Value.int .i64 r8.2)) rfl e11) ?_
        refine wpR_val (v := (Value.bool (decide (r8.2 = 13)))) (w' := w8) (wantG rfl rfl rfl hc23) rfl rfl (x_eql rfl rfl rfl) ?_
        refine wpR_val (v := (Value.bool (decide (r8.2 = 13)))) (w' := w8) rfl rfl rfl (x_pickT (v := (Value.bool (decide (r8.2 = 13)))) rfl rfl hc23 rfl) ?_
        refine wpR_nil ?_
        exact ⟨(), ⟨(by rw [hc23]; rfl), e1, e13, trivial⟩, rfl⟩
      · skip
        refine wpR_pass (wantN rfl rfl rfl hc23) rfl rfl ?_
        refine wpR_pass (wantN rfl rfl rfl hc23) rfl rfl ?_
        refine wpR_val (v := (Value.bool false)) (w' := w8) rfl rfl rfl (x_pickF (v := (Value.bool false)) rfl rfl hc23 rfl) ?_
        refine wpR_nil ?_
        exact ⟨(), ⟨(by rw [hc23]; rfl), e1, e13, trivial⟩, rfl⟩
    rintro _ ρ wj ⟨e81, e1, e13, -⟩ rfl
    refine wpR_val (v := (Value.bool ((((((((decide (r3 = 0)) && (decide (r4 = 1))) && (decide (r5.1 = 0))) && (decide (r5.2 = 0))) && (decide (r6.2 = 4))) && (beqS r7.1 (ByteArray.mk #[97]))) && (decide (r7.2 = 0))) && (decide (r8.2 = 13))))) (w' := w8) rfl rfl rfl (x_move (v := (Value.bool ((((((((decide (r3 = 0)) && (decide (r4 = 1))) && (decide (r5.1 = 0))) && (decide (r5.2 = 0))) && (decide (r6.2 = 4))) && (beqS r7.1 (ByteArray.mk #[97]))) && (decide (r7.2 = 0))) && (decide (r8.2 = 13))))) rfl e81) ?_
    refine wpR_joinJ 3 (fun (_ : Unit) ρ => ρ 85 = Value.bool (((((((((decide (r3 = 0)) && (decide (r4 = 1))) && (decide (r5.1 = 0))) && (decide (r5.2 = 0))) && (decide (r6.2 = 4))) && (beqS r7.1 (ByteArray.mk #[97]))) && (decide (r7.2 = 0))) && (decide (r8.2 = 13))) && (decide (r9.2 = 4))) ∧ ρ 1 = (Value.pointer r1) ∧ True) (fun _ w => w8 = w) ?_ ?_
    · clear h
      rcases Bool.eq_false_or_eq_true ((((((((decide (r3 = 0)) && (decide (r4 = 1))) && (decide (r5.1 = 0))) && (decide (r5.2 = 0))) && (decide (r6.2 = 4))) && (beqS r7.1 (ByteArray.mk #[97]))) && (decide (r7.2 = 0))) && (decide (r8.2 = 13))) with hc25 | hc25
      · skip
        refine wpR_val (v := (Value.int .i64 r9.2)) (w' := w8) (wantG rfl rfl rfl hc25) rfl rfl (x_move (v := (Value.int .i64 r9.2)) rfl e13) ?_
        refine wpR_val (v := (Value.bool (decide (r9.2 = 4)))) (w' := w8) (wantG rfl rfl rfl hc25) rfl rfl (x_eql rfl rfl rfl) ?_
        refine wpR_val (v := (Value.bool (decide (r9.2 = 4)))) (w' := w8) rfl rfl rfl (x_pickT (v := (Value.bool (decide (r9.2 = 4)))) rfl rfl hc25 rfl) ?_
        refine wpR_nil ?_
        exact ⟨(), ⟨(by rw [hc25]; rfl), e1, trivial⟩, rfl⟩
      · skip
        refine wpR_pass (wantN rfl rfl rfl hc25) rfl rfl ?_
        refine wpR_pass (wantN rfl rfl rfl hc25) rfl rfl ?_
        refine wpR_val (v := (Value.bool false)) (w' := w8) rfl rfl rfl (x_pickF (v := (Value.bool false)) rfl rfl hc25 rfl) ?_
        refine wpR_nil ?_
        exact ⟨(), ⟨(by rw [hc25]; rfl), e1, trivial⟩, rfl⟩
    rintro _ ρ wj ⟨e85, e1, -⟩ rfl
    refine wpR_val (v := (Value.bool (((((((((decide (r3 = 0)) && (decide (r4 = 1))) && (decide (r5.1 = 0))) && (decide (r5.2 = 0))) && (decide (r6.2 = 4))) && (beqS r7.1 (ByteArray.mk #[97]))) && (decide (r7.2 = 0))) && (decide (r8.2 = 13))) && (decide (r9.2 = 4))))) (w' := w8) rfl rfl rfl (x_assign (v := (Value.bool (((((((((decide (r3 = 0)) && (decide (r4 = 1))) && (decide (r5.1 = 0))) && (decide (r5.2 = 0))) && (decide (r6.2 = 4))) && (beqS r7.1 (ByteArray.mk #[97]))) && (decide (r7.2 = 0))) && (decide (r8.2 = 13))) && (decide (r9.2 = 4))))) rfl e85) ?_
    refine wpR_nil ?_
    refine wpC_seq ?_
    refine wpC_cut (fun ρ => ρ 1 = (Value.pointer r1) ∧ ρ 14 = (Value.bool (((((((((decide (r3 = 0)) && (decide (r4 = 1))) && (decide (r5.1 = 0))) && (decide (r5.2 = 0))) && (decide (r6.2 = 4))) && (beqS r7.1 (ByteArray.mk #[97]))) && (decide (r7.2 = 0))) && (decide (r8.2 = 13))) && (decide (r9.2 = 4)))) ∧ True) ⟨e1, rfl, trivial⟩ ?_
    rintro ρ ⟨e1, e14, -⟩
    refine wpC_region ?_
    refine wpR_val (v := (Value.pointer r1)) (w' := w8) rfl rfl rfl (x_move (v := (Value.pointer r1)) rfl e1) ?_
    refine wpR_enter rfl rfl rfl (x_call (vs := [(Value.pointer r1), (Value.int .i64 1)]) rfl rfl (by rfl) Try.func19 NN_19 NB_19) (Calls.mono h ?_)
    rintro _ w9 ⟨r26, rfl, h⟩
    refine ⟨_, rfl, ?_⟩
    refine wpR_val (v := (Value.int .i64 r26)) (w' := w9) rfl rfl rfl (x_assign (v := (Value.int .i64 r26)) rfl rfl) ?_
    refine wpR_nil ?_
    refine wpC_seq ?_
    refine wpC_cut (fun ρ => ρ 1 = (Value.pointer r1) ∧ ρ 14 = (Value.bool (((((((((decide (r3 = 0)) && (decide (r4 = 1))) && (decide (r5.1 = 0))) && (decide (r5.2 = 0))) && (decide (r6.2 = 4))) && (beqS r7.1 (ByteArray.mk #[97]))) && (decide (r7.2 = 0))) && (decide (r8.2 = 13))) && (decide (r9.2 = 4)))) ∧ ρ 15 = (Value.int .i64 r26) ∧ True) ⟨e1, e14, rfl, trivial⟩ ?_
    rintro ρ ⟨e1, e14, e15, -⟩
    refine wpC_region ?_
    refine wpR_val (v := (Value.pointer r1)) (w' := w9) rfl rfl rfl (x_move (v := (Value.pointer r1)) rfl e1) ?_
    refine wpR_enter rfl rfl rfl (x_call (vs := [(Value.pointer r1), (Value.int .i64 1), (Value.int .i64 0)]) rfl rfl (by rfl) Try.func15 NN_15 NB_15) (Calls.mono h ?_)
    rintro _ w10 ⟨r27, rfl, h⟩
    refine ⟨_, rfl, ?_⟩
    refine wpR_val (v := (Value.tuple #[(Value.string r27.1), (Value.int .i64 r27.2)])) (w' := w10) rfl rfl rfl (x_move (v := (Value.tuple #[(Value.string r27.1), (Value.int .i64 r27.2)])) rfl rfl) ?_
    refine wpR_val (v := (Value.string r27.1)) (w' := w10) rfl rfl rfl (x_extract rfl rfl rfl) ?_
    refine wpR_val (v := (Value.int .i64 r27.2)) (w' := w10) rfl rfl rfl (x_extract rfl rfl rfl) ?_
    refine wpR_val (v := (Value.string r27.1)) (w' := w10) rfl rfl rfl (x_assign (v := (Value.string r27.1)) rfl rfl) ?_
    refine wpR_val (v := (Value.int .i64 r27.2)) (w' := w10) rfl rfl rfl (x_assign (v := (Value.int .i64 r27.2)) rfl rfl) ?_
    refine wpR_nil ?_
    refine wpC_seq ?_
    refine wpC_cut (fun ρ => ρ 1 = (Value.pointer r1) ∧ ρ 14 = (Value.bool (((((((((decide (r3 = 0)) && (decide (r4 = 1))) && (decide (r5.1 = 0))) && (decide (r5.2 = 0))) && (decide (r6.2 = 4))) && (beqS r7.1 (ByteArray.mk #[97]))) && (decide (r7.2 = 0))) && (decide (r8.2 = 13))) && (decide (r9.2 = 4)))) ∧ ρ 15 = (Value.int .i64 r26) ∧ ρ 17 = (Value.int .i64 r27.2) ∧ True) ⟨e1, e14, e15, rfl, trivial⟩ ?_
    rintro ρ ⟨e1, e14, e15, e17, -⟩
    refine wpC_region ?_
    refine wpR_val (v := (Value.pointer r1)) (w' := w10) rfl rfl rfl (x_move (v := (Value.pointer r1)) rfl e1) ?_
    refine wpR_enter rfl rfl rfl (x_call (vs := [(Value.pointer r1), (Value.int .i64 1), (Value.string (ByteArray.mk #[99]))]) rfl rfl (by rfl) Try.func18 NN_18 NB_18) (Calls.mono h ?_)
    rintro _ w11 ⟨r28, rfl, h⟩
    refine ⟨_, rfl, ?_⟩
    refine wpR_val (v := (Value.tuple #[(Value.int .i64 r28.1), (Value.int .i64 r28.2)])) (w' := w11) rfl rfl rfl (x_move (v := (Value.tuple #[(Value.int .i64 r28.1), (Value.int .i64 r28.2)])) rfl rfl) ?_
    refine wpR_val (v := (Value.int .i64 r28.1)) (w' := w11) rfl rfl rfl (x_extract rfl rfl rfl) ?_
    refine wpR_val (v := (Value.int .i64 r28.2)) (w' := w11) rfl rfl rfl (x_extract rfl rfl rfl) ?_
    refine wpR_val (v := (Value.int .i64 r28.1)) (w' := w11) rfl rfl rfl (x_assign (v := (Value.int .i64 r28.1)) rfl rfl) ?_
    refine wpR_val (v := (Value.int .i64 r28.2)) (w' := w11) rfl rfl rfl (x_assign (v := (Value.int .i64 r28.2)) rfl rfl) ?_
    refine wpR_nil ?_
    refine wpC_seq ?_
    refine wpC_cut (fun ρ => ρ 1 = (Value.pointer r1) ∧ ρ 14 = (Value.bool (((((((((decide (r3 = 0)) && (decide (r4 = 1))) && (decide (r5.1 = 0))) && (decide (r5.2 = 0))) && (decide (r6.2 = 4))) && (beqS r7.1 (ByteArray.mk #[97]))) && (decide (r7.2 = 0))) && (decide (r8.2 = 13))) && (decide (r9.2 = 4)))) ∧ ρ 15 = (Value.int .i64 r26) ∧ ρ 17 = (Value.int .i64 r27.2) ∧ ρ 19 = (Value.int .i64 r28.2) ∧ True) ⟨e1, e14, e15, e17, rfl, trivial⟩ ?_
    rintro ρ ⟨e1, e14, e15, e17, e19, -⟩
    refine wpC_region ?_
    refine wpR_val (v := (Value.bool (((((((((decide (r3 = 0)) && (decide (r4 = 1))) && (decide (r5.1 = 0))) && (decide (r5.2 = 0))) && (decide (r6.2 = 4))) && (beqS r7.1 (ByteArray.mk #[97]))) && (decide (r7.2 = 0))) && (decide (r8.2 = 13))) && (decide (r9.2 = 4))))) (w' := w11) rfl rfl rfl (x_move (v := (Value.bool (((((((((decide (r3 = 0)) && (decide (r4 = 1))) && (decide (r5.1 = 0))) && (decide (r5.2 = 0))) && (decide (r6.2 = 4))) && (beqS r7.1 (ByteArray.mk #[97]))) && (decide (r7.2 = 0))) && (decide (r8.2 = 13))) && (decide (r9.2 = 4))))) rfl e14) ?_
    refine wpR_val (v := (Value.bool (((((((((decide (r3 = 0)) && (decide (r4 = 1))) && (decide (r5.1 = 0))) && (decide (r5.2 = 0))) && (decide (r6.2 = 4))) && (beqS r7.1 (ByteArray.mk #[97]))) && (decide (r7.2 = 0))) && (decide (r8.2 = 13))) && (decide (r9.2 = 4))))) (w' := w11) rfl rfl rfl (x_move (v := (Value.bool (((((((((decide (r3 = 0)) && (decide (r4 = 1))) && (decide (r5.1 = 0))) && (decide (r5.2 = 0))) && (decide (r6.2 = 4))) && (beqS r7.1 (ByteArray.mk #[97]))) && (decide (r7.2 = 0))) && (decide (r8.2 = 13))) && (decide (r9.2 = 4))))) rfl rfl) ?_
    refine wpR_joinJ 3 (fun (_ : Unit) ρ => ρ 102 = Value.bool ((((((((((decide (r3 = 0)) && (decide (r4 = 1))) && (decide (r5.1 = 0))) && (decide (r5.2 = 0))) && (decide (r6.2 = 4))) && (beqS r7.1 (ByteArray.mk #[97]))) && (decide (r7.2 = 0))) && (decide (r8.2 = 13))) && (decide (r9.2 = 4))) && (decide (r26 = 0))) ∧ ρ 1 = (Value.pointer r1) ∧ ρ 17 = (Value.int .i64 r27.2) ∧ ρ 19 = (Value.int .i64 r28.2) ∧ True) (fun _ w => w11 = w) ?_ ?_
    · clear h
      rcases Bool.eq_false_or_eq_true (((((((((decide (r3 = 0)) && (decide (r4 = 1))) && (decide (r5.1 = 0))) && (decide (r5.2 = 0))) && (decide (r6.2 = 4))) && (beqS r7.1 (ByteArray.mk #[97]))) && (decide (r7.2 = 0))) && (decide (r8.2 = 13))) && (decide (r9.2 = 4))) with hc30 | hc30
      · skip
        refine wpR_val (v := (Value.int .i64 r26)) (w' := w11) (wantG rfl rfl rfl hc30) rfl rfl (x_move (v := (Value.int .i64 r26)) rfl e15) ?_
        refine wpR_val (v := (Value.bool (decide (r26 = 0)))) (w' := w11) (wantG rfl rfl rfl hc30) rfl rfl (x_eql rfl rfl rfl) ?_
        refine wpR_val (v := (Value.bool (decide (r26 = 0)))) (w' := w11) rfl rfl rfl (x_pickT (v := (Value.bool (decide (r26 = 0)))) rfl rfl hc30 rfl) ?_
        refine wpR_nil ?_
        exact ⟨(), ⟨(by rw [hc30]; rfl), e1, e17, e19, trivial⟩, rfl⟩
      · skip
        refine wpR_pass (wantN rfl rfl rfl hc30) rfl rfl ?_
        refine wpR_pass (wantN rfl rfl rfl hc30) rfl rfl ?_
        refine wpR_val (v := (Value.bool false)) (w' := w11) rfl rfl rfl (x_pickF (v := (Value.bool false)) rfl rfl hc30 rfl) ?_
        refine wpR_nil ?_
        exact ⟨(), ⟨(by rw [hc30]; rfl), e1, e17, e19, trivial⟩, rfl⟩
    rintro _ ρ wj ⟨e102, e1, e17, e19, -⟩ rfl
    refine wpR_val (v := (Value.bool ((((((((((decide (r3 = 0)) && (decide (r4 = 1))) && (decide (r5.1 = 0))) && (decide (r5.2 = 0))) && (decide (r6.2 = 4))) && (beqS r7.1 (ByteArray.mk #[97]))) && (decide (r7.2 = 0))) && (decide (r8.2 = 13))) && (decide (r9.2 = 4))) && (decide (r26 = 0))))) (w' := w11) rfl rfl rfl (x_move (v := (Value.bool ((((((((((decide (r3 = 0)) && (decide (r4 = 1))) && (decide (r5.1 = 0))) && (decide (r5.2 = 0))) && (decide (r6.2 = 4))) && (beqS r7.1 (ByteArray.mk #[97]))) && (decide (r7.2 = 0))) && (decide (r8.2 = 13))) && (decide (r9.2 = 4))) && (decide (r26 = 0))))) rfl e102) ?_
    refine wpR_joinJ 3 (fun (_ : Unit) ρ => ρ 106 = Value.bool (((((((((((decide (r3 = 0)) && (decide (r4 = 1))) && (decide (r5.1 = 0))) && (decide (r5.2 = 0))) && (decide (r6.2 = 4))) && (beqS r7.1 (ByteArray.mk #[97]))) && (decide (r7.2 = 0))) && (decide (r8.2 = 13))) && (decide (r9.2 = 4))) && (decide (r26 = 0))) && (decide (r27.2 = 13))) ∧ ρ 1 = (Value.pointer r1) ∧ ρ 19 = (Value.int .i64 r28.2) ∧ True) (fun _ w => w11 = w) ?_ ?_
    · clear h
      rcases Bool.eq_false_or_eq_true ((((((((((decide (r3 = 0)) && (decide (r4 = 1))) && (decide (r5.1 = 0))) && (decide (r5.2 = 0))) && (decide (r6.2 = 4))) && (beqS r7.1 (ByteArray.mk #[97]))) && (decide (r7.2 = 0))) && (decide (r8.2 = 13))) && (decide (r9.2 = 4))) && (decide (r26 = 0))) with hc32 | hc32
      · skip
        refine wpR_val (v := (Value.int .i64 r27.2)) (w' := w11) (wantG rfl rfl rfl hc32) rfl rfl (x_move (v := (Value.int .i64 r27.2)) rfl e17) ?_
        refine wpR_val (v := (Value.bool (decide (r27.2 = 13)))) (w' := w11) (wantG rfl rfl rfl hc32) rfl rfl (x_eql rfl rfl rfl) ?_
        refine wpR_val (v := (Value.bool (decide (r27.2 = 13)))) (w' := w11) rfl rfl rfl (x_pickT (v := (Value.bool (decide (r27.2 = 13)))) rfl rfl hc32 rfl) ?_
        refine wpR_nil ?_
        exact ⟨(), ⟨(by rw [hc32]; rfl), e1, e19, trivial⟩, rfl⟩
      · skip
        refine wpR_pass (wantN rfl rfl rfl hc32) rfl rfl ?_
        refine wpR_pass (wantN rfl rfl rfl hc32) rfl rfl ?_
        refine wpR_val (v := (Value.bool false)) (w' := w11) rfl rfl rfl (x_pickF (v := (Value.bool false)) rfl rfl hc32 rfl) ?_
        refine wpR_nil ?_
        exact ⟨(), ⟨(by rw [hc32]; rfl), e1, e19, trivial⟩, rfl⟩
    rintro _ ρ wj ⟨e106, e1, e19, -⟩ rfl
    refine wpR_val (v := (Value.bool (((((((((((decide (r3 = 0)) && (decide (r4 = 1))) && (decide (r5.1 = 0))) && (decide (r5.2 = 0))) && (decide (r6.2 = 4))) && (beqS r7.1 (ByteArray.mk #[97]))) && (decide (r7.2 = 0))) && (decide (r8.2 = 13))) && (decide (r9.2 = 4))) && (decide (r26 = 0))) && (decide (r27.2 = 13))))) (w' := w11) rfl rfl rfl (x_move (v := (Value.bool (((((((((((decide (r3 = 0)) && (decide (r4 = 1))) && (decide (r5.1 = 0))) && (decide (r5.2 = 0))) && (decide (r6.2 = 4))) && (beqS r7.1 (ByteArray.mk #[97]))) && (decide (r7.2 = 0))) && (decide (r8.2 = 13))) && (decide (r9.2 = 4))) && (decide (r26 = 0))) && (decide (r27.2 = 13))))) rfl e106) ?_
    refine wpR_joinJ 3 (fun (_ : Unit) ρ => ρ 110 = Value.bool ((((((((((((decide (r3 = 0)) && (decide (r4 = 1))) && (decide (r5.1 = 0))) && (decide (r5.2 = 0))) && (decide (r6.2 = 4))) && (beqS r7.1 (ByteArray.mk #[97]))) && (decide (r7.2 = 0))) && (decide (r8.2 = 13))) && (decide (r9.2 = 4))) && (decide (r26 = 0))) && (decide (r27.2 = 13))) && (decide (r28.2 = 13))) ∧ ρ 1 = (Value.pointer r1) ∧ True) (fun _ w => w11 = w) ?_ ?_
    · clear h
      rcases Bool.eq_false_or_eq_true (((((((((((decide (r3 = 0)) && (decide (r4 = 1))) && (decide (r5.1 = 0))) && (decide (r5.2 = 0))) && (decide (r6.2 = 4))) && (beqS r7.1 (ByteArray.mk #[97]))) && (decide (r7.2 = 0))) && (decide (r8.2 = 13))) && (decide (r9.2 = 4))) && (decide (r26 = 0))) && (decide (r27.2 = 13))) with hc34 | hc34
      · skip
        refine wpR_val (v := (Value.int .i64 r28.2)) (w' := w11) (wantG rfl rfl rfl hc34) rfl rfl (x_move (v := (Value.int .i64 r28.2)) rfl e19) ?_
        refine wpR_val (v := (Value.bool (decide (r28.2 = 13)))) (w' := w11) (wantG rfl rfl rfl hc34) rfl rfl (x_eql rfl rfl rfl) ?_
        refine wpR_val (v := (Value.bool (decide (r28.2 = 13)))) (w' := w11) rfl rfl rfl (x_pickT (v := (Value.bool (decide (r28.2 = 13)))) rfl rfl hc34 rfl) ?_
        refine wpR_nil ?_
        exact ⟨(), ⟨(by rw [hc34]; rfl), e1, trivial⟩, rfl⟩
      · skip
        refine wpR_pass (wantN rfl rfl rfl hc34) rfl rfl ?_
        refine wpR_pass (wantN rfl rfl rfl hc34) rfl rfl ?_
        refine wpR_val (v := (Value.bool false)) (w' := w11) rfl rfl rfl (x_pickF (v := (Value.bool false)) rfl rfl hc34 rfl) ?_
        refine wpR_nil ?_
        exact ⟨(), ⟨(by rw [hc34]; rfl), e1, trivial⟩, rfl⟩
    rintro _ ρ wj ⟨e110, e1, -⟩ rfl
    refine wpR_val (v := (Value.bool ((((((((((((decide (r3 = 0)) && (decide (r4 = 1))) && (decide (r5.1 = 0))) && (decide (r5.2 = 0))) && (decide (r6.2 = 4))) && (beqS r7.1 (ByteArray.mk #[97]))) && (decide (r7.2 = 0))) && (decide (r8.2 = 13))) && (decide (r9.2 = 4))) && (decide (r26 = 0))) && (decide (r27.2 = 13))) && (decide (r28.2 = 13))))) (w' := w11) rfl rfl rfl (x_move (v := (Value.bool ((((((((((((decide (r3 = 0)) && (decide (r4 = 1))) && (decide (r5.1 = 0))) && (decide (r5.2 = 0))) && (decide (r6.2 = 4))) && (beqS r7.1 (ByteArray.mk #[97]))) && (decide (r7.2 = 0))) && (decide (r8.2 = 13))) && (decide (r9.2 = 4))) && (decide (r26 = 0))) && (decide (r27.2 = 13))) && (decide (r28.2 = 13))))) rfl e110) ?_
    obtain ⟨J35, h, hk⟩ := h
    refine wpR_joinJ 4 (fun x ρ => ρ 115 = Value.bool x ∧ ρ 1 = (Value.pointer r1) ∧ True) (J35) ?_ ?_
    · clear hk
      rcases Bool.eq_false_or_eq_true ((((((((((((decide (r3 = 0)) && (decide (r4 = 1))) && (decide (r5.1 = 0))) && (decide (r5.2 = 0))) && (decide (r6.2 = 4))) && (beqS r7.1 (ByteArray.mk #[97]))) && (decide (r7.2 = 0))) && (decide (r8.2 = 13))) && (decide (r9.2 = 4))) && (decide (r26 = 0))) && (decide (r27.2 = 13))) && (decide (r28.2 = 13))) with hc36 | hc36
      · replace h := h.1 hc36
        refine wpR_val (v := (Value.pointer r1)) (w' := w11) (wantG rfl rfl rfl hc36) rfl rfl (x_move (v := (Value.pointer r1)) rfl e1) ?_
        refine wpR_enter (wantG rfl rfl rfl hc36) rfl rfl (x_call (vs := [(Value.pointer r1), (Value.int .i64 1)]) rfl rfl (by rfl) Try.func19 NN_19 NB_19) (Calls.mono h ?_)
        rintro _ w12 ⟨r37, rfl, h⟩
        refine ⟨_, rfl, ?_⟩
        refine wpR_val (v := (Value.bool (decide (r37 = 5)))) (w' := w12) (wantG rfl rfl rfl hc36) rfl rfl (x_eql rfl rfl rfl) ?_
        refine wpR_val (v := (Value.bool (decide (r37 = 5)))) (w' := w12) rfl rfl rfl (x_pickT (v := (Value.bool (decide (r37 = 5)))) rfl rfl hc36 rfl) ?_
        refine wpR_nil ?_
        exact ⟨decide (r37 = 5), ⟨rfl, e1, trivial⟩, h⟩
      · replace h := h.2 hc36
        refine wpR_pass (wantN rfl rfl rfl hc36) rfl rfl ?_
        refine wpR_pass (wantN rfl rfl rfl hc36) rfl rfl ?_
        refine wpR_pass (wantN rfl rfl rfl hc36) rfl rfl ?_
        refine wpR_val (v := (Value.bool false)) (w' := w11) rfl rfl rfl (x_pickF (v := (Value.bool false)) rfl rfl hc36 rfl) ?_
        refine wpR_nil ?_
        exact ⟨false, ⟨rfl, e1, trivial⟩, h⟩
    clear h
    rintro c38 ρ w13 ⟨e115, e1, -⟩ h
    replace h := hk c38 w13 h
    clear hk
    refine wpR_val (v := (Value.bool c38)) (w' := w13) rfl rfl rfl (x_move (v := (Value.bool c38)) rfl e115) ?_
    obtain ⟨J39, h, hk⟩ := h
    refine wpR_joinJ 4 (fun x ρ => ρ 120 = Value.bool x ∧ ρ 1 = (Value.pointer r1) ∧ True) (J39) ?_ ?_
    · clear hk
      rcases Bool.eq_false_or_eq_true (c38) with hc40 | hc40
      · replace h := h.1 hc40
        refine wpR_val (v := (Value.pointer r1)) (w' := w13) (wantG rfl rfl rfl hc40) rfl rfl (x_move (v := (Value.pointer r1)) rfl e1) ?_
        refine wpR_enter (wantG rfl rfl rfl hc40) rfl rfl (x_call (vs := [(Value.pointer r1)]) rfl rfl (by rfl) Try.func13 NN_13 NB_13) (Calls.mono h ?_)
        rintro _ w14 ⟨r41, rfl, h⟩
        refine ⟨_, rfl, ?_⟩
        refine wpR_val (v := (Value.bool (decide (r41 = 2)))) (w' := w14) (wantG rfl rfl rfl hc40) rfl rfl (x_eql rfl rfl rfl) ?_
        refine wpR_val (v := (Value.bool (decide (r41 = 2)))) (w' := w14) rfl rfl rfl (x_pickT (v := (Value.bool (decide (r41 = 2)))) rfl rfl hc40 rfl) ?_
        refine wpR_nil ?_
        exact ⟨decide (r41 = 2), ⟨rfl, e1, trivial⟩, h⟩
      · replace h := h.2 hc40
        refine wpR_pass (wantN rfl rfl rfl hc40) rfl rfl ?_
        refine wpR_pass (wantN rfl rfl rfl hc40) rfl rfl ?_
        refine wpR_pass (wantN rfl rfl rfl hc40) rfl rfl ?_
        refine wpR_val (v := (Value.bool false)) (w' := w13) rfl rfl rfl (x_pickF (v := (Value.bool false)) rfl rfl hc40 rfl) ?_
        refine wpR_nil ?_
        exact ⟨false, ⟨rfl, e1, trivial⟩, h⟩
    clear h
    rintro c42 ρ w15 ⟨e120, e1, -⟩ h
    replace h := hk c42 w15 h
    clear hk
    refine wpR_val (v := (Value.bool c42)) (w' := w15) rfl rfl rfl (x_move (v := (Value.bool c42)) rfl e120) ?_
    obtain ⟨J43, h, hk⟩ := h
    refine wpR_joinJ 4 (fun x ρ => ρ 125 = Value.bool x ∧ True) (J43) ?_ ?_
    · clear hk
      rcases Bool.eq_false_or_eq_true (c42) with hc44 | hc44
      · replace h := h.1 hc44
        refine wpR_val (v := (Value.pointer r1)) (w' := w15) (wantG rfl rfl rfl hc44) rfl rfl (x_move (v := (Value.pointer r1)) rfl e1) ?_
        refine wpR_enter (wantG rfl rfl rfl hc44) rfl rfl (x_call (vs := [(Value.pointer r1)]) rfl rfl (by rfl) Try.func14 NN_14 NB_14) (Calls.mono h ?_)
        rintro _ w16 ⟨r45, rfl, h⟩
        refine ⟨_, rfl, ?_⟩
        refine wpR_val (v := (Value.bool (decide (r45 = 1)))) (w' := w16) (wantG rfl rfl rfl hc44) rfl rfl (x_eql rfl rfl rfl) ?_
        refine wpR_val (v := (Value.bool (decide (r45 = 1)))) (w' := w16) rfl rfl rfl (x_pickT (v := (Value.bool (decide (r45 = 1)))) rfl rfl hc44 rfl) ?_
        refine wpR_nil ?_
        exact ⟨decide (r45 = 1), ⟨rfl, trivial⟩, h⟩
      · replace h := h.2 hc44
        refine wpR_pass (wantN rfl rfl rfl hc44) rfl rfl ?_
        refine wpR_pass (wantN rfl rfl rfl hc44) rfl rfl ?_
        refine wpR_pass (wantN rfl rfl rfl hc44) rfl rfl ?_
        refine wpR_val (v := (Value.bool false)) (w' := w15) rfl rfl rfl (x_pickF (v := (Value.bool false)) rfl rfl hc44 rfl) ?_
        refine wpR_nil ?_
        exact ⟨false, ⟨rfl, trivial⟩, h⟩
    clear h
    rintro c46 ρ w17 ⟨e125, -⟩ h
    replace h := hk c46 w17 h
    clear hk
    refine wpR_val (v := (Value.bool c46)) (w' := w17) rfl rfl rfl (x_assign (v := (Value.bool c46)) rfl e125) ?_
    refine wpR_nil ?_
    refine wpC_ret ?_
    exact ⟨.inl rfl, fun a ha => ⟨_, results_rep1 rfl ha rfl, c46, rfl, h⟩⟩

/-- lingualaw05.VaultSecret -/
def F4 (p0 : Sl) (p1 : Sl) (w0 : World) (K : Bool → World → Prop) : Prop :=
  callC Try.prog 7 #[] (fun (r : Bool) => (Value.bool r)) w0 fun r1 w1 =>
  callC Try.prog 8 #[(Sl.v p0), (Value.int .i64 60)] (fun (r : Bool) => (Value.bool r)) w1 fun r2 w2 =>
  cnd ((!r2) || (decide (60 < (p1.len : Int))))
    (
    K r1 w2
    )
    (
    callC Try.prog 9 #[] (fun (r : (Option Addr)) => (Value.pointer r)) w2 fun r6 w3 =>
    callC Try.prog 9 #[] (fun (r : (Option Addr)) => (Value.pointer r)) w3 fun r7 w4 =>
    cnd (r6.isNone || r7.isNone)
      (
      K false w4
      )
      (
      lp (fun (next11 : Int → World → Prop) l11 w5 =>
        cnd (decide (l11 < (p0.len : Int)))
          (
          ix p0 l11 4 fun p13 =>
          ld (Value.int .i64) (p13.add 0) w5 fun x14 =>
          ld (Value.int .i64) (p13.add 1) w5 fun x15 =>
          ld (Value.int .i64) (p13.add 2) w5 fun x16 =>
          ld Value.string (p13.add 3) w5 fun x17 =>
          nw 34 #[(Value.int .i64 0), (Value.int .i64 0), (Value.int .i64 0), (Value.string (ByteArray.mk #[]))] w5 fun b18 w6 =>
          st (Addr.mk b18 0 none) [(Value.int .i64 x14), (Value.int .i64 x15), (Value.int .i64 x16), (Value.string x17)] w6 fun w7 =>
          jn (fun (J20 : Unit → World → Prop) =>
            cnd (decide (l11 < (p1.len : Int)))
              (
              ix p1 l11 1 fun p23 =>
              ld Value.string p23 w7 fun x24 =>
              st ((Addr.mk b18 0 none).add 3) [(Value.string x24)] w7 fun w9 =>
              J20 () w9
              )
              (
              J20 () w7
              )
          )
          fun _l21 w8 =>
          ix p0 l11 4 fun p26 =>
          ld (Value.int .i64) (p26.add 0) w8 fun x27 =>
          ld (Value.int .i64) (p26.add 1) w8 fun x28 =>
          ld (Value.int .i64) (p26.add 2) w8 fun x29 =>
          ld Value.string (p26.add 3) w8 fun x30 =>
          callC Try.prog 11 #[(Value.pointer r6), (Value.agg #[(Value.int .i64 x27), (Value.int .i64 x28), (Value.int .i64 x29), (Value.string x30)])] (fun (r : Int × ByteArray × Int) => (Value.agg #[(Value.int .i64 r.1), (Value.string r.2.1), (Value.int .i64 r.2.2)])) w8 fun r31 w10 =>
          nw 31 #[(Value.int .i64 0), (Value.string (ByteArray.mk #[])), (Value.int .i64 0)] w10 fun b32 w11 =>
          st (Addr.mk b32 0 none) [(Value.int .i64 r31.1), (Value.string r31.2.1), (Value.int .i64 r31.2.2)] w11 fun w12 =>
          ld (Value.int .i64) ((Addr.mk b18 0 none).add 0) w12 fun x34 =>
          ld (Value.int .i64) ((Addr.mk b18 0 none).add 1) w12 fun x35 =>
          ld (Value.int .i64) ((Addr.mk b18 0 none).add 2) w12 fun x36 =>
          ld Value.string ((Addr.mk b18 0 none).add 3) w12 fun x37 =>
          callC Try.prog 11 #[(Value.pointer r7), (Value.agg #[(Value.int .i64 x34), (Value.int .i64 x35), (Value.int .i64 x36), (Value.string x37)])] (fun (r : Int × ByteArray × Int) => (Value.agg #[(Value.int .i64 r.1), (Value.string r.2.1), (Value.int .i64 r.2.2)])) w12 fun r38 w13 =>
          nw 31 #[(Value.int .i64 0), (Value.string (ByteArray.mk #[])), (Value.int .i64 0)] w13 fun b39 w14 =>
          st (Addr.mk b39 0 none) [(Value.int .i64 r38.1), (Value.string r38.2.1), (Value.int .i64 r38.2.2)] w14 fun w15 =>
          ld (Value.int .i64) ((Addr.mk b32 0 none).add 0) w15 fun x41 =>
          ld (Value.int .i64) ((Addr.mk b39 0 none).add 0) w15 fun x42 =>
          jp (fun J43 => cnd (!decide (x41 = x42))
            (
            J43 true
            )
            (
            ld (Value.int .i64) ((Addr.mk b32 0 none).add 2) w15 fun x45 =>
            ld (Value.int .i64) ((Addr.mk b39 0 none).add 2) w15 fun x46 =>
            J43 (!decide (x45 = x46))
            ))
          fun c47 =>
          jn (fun J48 => cnd (c47)
            (
            J48 true w15
            )
            (
            callC Try.prog 13 #[(Value.pointer r6)] (fun (r : Int) => (Value.int .i64 r)) w15 fun r50 w16 =>
            callC Try.prog 13 #[(Value.pointer r7)] (fun (r : Int) => (Value.int .i64 r)) w16 fun r51 w17 =>
            J48 (!decide (r50 = r51)) w17
            ))
          fun c52 w18 =>
          jn (fun J53 => cnd (c52)
            (
            J53 true w18
            )
            (
            callC Try.prog 14 #[(Value.pointer r6)] (fun (r : Int) => (Value.int .i64 r)) w18 fun r55 w19 =>
            callC Try.prog 14 #[(Value.pointer r7)] (fun (r : Int) => (Value.int .i64 r)) w19 fun r56 w20 =>
            J53 (!decide (r55 = r56)) w20
            ))
          fun c57 w21 =>
          cnd (c57)
            (
            K false w21
            )
            (
            next11 (IntKind.i64.wrap (l11 + 1)) w21
            )
          )
          (
          K r1 w5
          )
      ) 0 w4
      )
    )
set_option maxRecDepth 100000 in
theorem D4 (p0 : Sl) (p1 : Sl) (w0 : World) (K : Bool → World → Prop) (h : F4 p0 p1 w0 K) : callC Try.prog 4 #[(Sl.v p0), (Sl.v p1)] (fun (r : Bool) => (Value.bool r)) w0 K := by
  unfold F4 at h
  refine calls_of_wpC Try.func4 rfl 85 rfl (by simp) ?_
  intro ρ hρ
  have e0 : ρ 0 = (Sl.v p0) := hρ 0
  have e1 : ρ 1 = (Sl.v p1) := hρ 1
  clear hρ
  refine wpC_seq ?_
  refine wpC_region ?_
  refine wpR_val (v := (Value.bool false)) (w' := w0) rfl rfl rfl (x_assign (v := (Value.bool false)) rfl rfl) ?_
  refine wpR_nil ?_
  refine wpC_seq ?_
  refine wpC_cut (fun ρ => ρ 0 = (Sl.v p0) ∧ ρ 1 = (Sl.v p1) ∧ True) ⟨e0, e1, trivial⟩ ?_
  rintro ρ ⟨e0, e1, -⟩
  refine wpC_region ?_
  refine wpR_enter rfl rfl rfl (x_call (vs := []) rfl rfl (by rfl) Try.func7 NN_7 NB_7) (Calls.mono h ?_)
  rintro _ w1 ⟨r1, rfl, h⟩
  refine ⟨_, rfl, ?_⟩
  refine wpR_val (v := (Value.bool r1)) (w' := w1) rfl rfl rfl (x_assign (v := (Value.bool r1)) rfl rfl) ?_
  refine wpR_nil ?_
  refine wpC_seq ?_
  refine wpC_seq ?_
  refine wpC_cut (fun ρ => ρ 0 = (Sl.v p0) ∧ ρ 1 = (Sl.v p1) ∧ ρ 5 = (Value.bool r1) ∧ True) ⟨e0, e1, rfl, trivial⟩ ?_
  rintro ρ ⟨e0, e1, e5, -⟩
  refine wpC_region ?_
  refine wpR_val (v := (Sl.v p0)) (w' := w1) rfl rfl rfl (x_move (v := (Sl.v p0)) rfl e0) ?_
  refine wpR_enter rfl rfl rfl (x_call (vs := [(Sl.v p0), (Value.int .i64 60)]) rfl rfl (by rfl) Try.func8 NN_8 NB_8) (Calls.mono h ?_)
  rintro _ w2 ⟨r2, rfl, h⟩
  refine ⟨_, rfl, ?_⟩
  refine wpR_val (v := (Value.bool (!r2))) (w' := w2) rfl rfl rfl (x_not rfl rfl) ?_
  refine wpR_val (v := (Value.bool (!r2))) (w' := w2) rfl rfl rfl (x_move (v := (Value.bool (!r2))) rfl rfl) ?_
  refine wpR_joinJ 4 (fun (_ : Unit) ρ => ρ 20 = Value.bool ((!r2) || (decide (60 < (p1.len : Int)))) ∧ ρ 0 = (Sl.v p0) ∧ ρ 1 = (Sl.v p1) ∧ ρ 5 = (Value.bool r1) ∧ True) (fun _ w => w2 = w) ?_ ?_
  · clear h
    rcases Bool.eq_false_or_eq_true (!r2) with hc4 | hc4
    · skip
      refine wpR_pass (wantN rfl rfl rfl hc4) rfl rfl ?_
      refine wpR_pass (wantN rfl rfl rfl hc4) rfl rfl ?_
      refine wpR_pass (wantN rfl rfl rfl hc4) rfl rfl ?_
      refine wpR_val (v := (Value.bool true)) (w' := w2) rfl rfl rfl (x_pickT (v := (Value.bool true)) rfl rfl hc4 rfl) ?_
      refine wpR_nil ?_
      exact ⟨(), ⟨(by rw [hc4]; rfl), e0, e1, e5, trivial⟩, rfl⟩
    · skip
      refine wpR_val (v := (Sl.v p1)) (w' := w2) (wantG rfl rfl rfl hc4) rfl rfl (x_move (v := (Sl.v p1)) rfl e1) ?_
      refine wpR_val (v := (Value.int .i64 (p1.len : Int))) (w' := w2) (wantG rfl rfl rfl hc4) rfl rfl (x_lenS (s := p1) rfl rfl isSliceT_39) ?_
      refine wpR_val (v := (Value.bool (decide (60 < (p1.len : Int))))) (w' := w2) (wantG rfl rfl rfl hc4) rfl rfl (x_gtr rfl rfl rfl) ?_
      refine wpR_val (v := (Value.bool (decide (60 < (p1.len : Int))))) (w' := w2) rfl rfl rfl (x_pickF (v := (Value.bool (decide (60 < (p1.len : Int))))) rfl rfl hc4 rfl) ?_
      refine wpR_nil ?_
      exact ⟨(), ⟨(by rw [hc4]; rfl), e0, e1, e5, trivial⟩, rfl⟩
  rintro _ ρ wj ⟨e20, e0, e1, e5, -⟩ rfl
  refine wpR_nil ?_
  refine wpC_cond (b := (!r2) || (decide (60 < (p1.len : Int)))) e20 (fun hc5 => ?_) (fun hc5 => ?_)
  · replace h := h.1 hc5
    refine wpC_seq ?_
    refine wpC_region ?_
    refine wpR_val (v := (Value.bool r1)) (w' := w2) rfl rfl rfl (x_move (v := (Value.bool r1)) rfl e5) ?_
    refine wpR_val (v := (Value.bool r1)) (w' := w2) rfl rfl rfl (x_assign (v := (Value.bool r1)) rfl rfl) ?_
    refine wpR_nil ?_
    refine wpC_ret ?_
    exact ⟨.inl rfl, fun a ha => ⟨_, results_rep1 rfl ha rfl, r1, rfl, h⟩⟩
  · replace h := h.2 hc5
    refine wpC_skip ?_
    refine wpC_seq ?_
    refine wpC_region ?_
    refine wpR_enter rfl rfl rfl (x_call (vs := []) rfl rfl (by rfl) Try.func9 NN_9 NB_9) (Calls.mono h ?_)
    rintro _ w3 ⟨r6, rfl, h⟩
    refine ⟨_, rfl, ?_⟩
    refine wpR_val (v := (Value.pointer r6)) (w' := w3) rfl rfl rfl (x_assign (v := (Value.pointer r6)) rfl rfl) ?_
    refine wpR_nil ?_
    refine wpC_seq ?_
    refine wpC_cut (fun ρ => ρ 0 = (Sl.v p0) ∧ ρ 1 = (Sl.v p1) ∧ ρ 5 = (Value.bool r1) ∧ ρ 6 = (Value.pointer r6) ∧ True) ⟨e0, e1, e5, rfl, trivial⟩ ?_
    rintro ρ ⟨e0, e1, e5, e6, -⟩
    refine wpC_region ?_
    refine wpR_enter rfl rfl rfl (x_call (vs := []) rfl rfl (by rfl) Try.func9 NN_9 NB_9) (Calls.mono h ?_)
    rintro _ w4 ⟨r7, rfl, h⟩
    refine ⟨_, rfl, ?_⟩
    refine wpR_val (v := (Value.pointer r7)) (w' := w4) rfl rfl rfl (x_assign (v := (Value.pointer r7)) rfl rfl) ?_
    refine wpR_nil ?_
    refine wpC_seq ?_
    refine wpC_seq ?_
    refine wpC_cut (fun ρ => ρ 0 = (Sl.v p0) ∧ ρ 1 = (Sl.v p1) ∧ ρ 5 = (Value.bool r1) ∧ ρ 6 = (Value.pointer r6) ∧ ρ 7 = (Value.pointer r7) ∧ True) ⟨e0, e1, e5, e6, rfl, trivial⟩ ?_
    rintro ρ ⟨e0, e1, e5, e6, e7, -⟩
    refine wpC_region ?_
    refine wpR_val (v := (Value.pointer r6)) (w' := w4) rfl rfl rfl (x_move (v := (Value.pointer r6)) rfl e6) ?_
    refine wpR_val (v := (Value.bool r6.isNone)) (w' := w4) rfl rfl rfl (x_eqlNil rfl rfl rfl isPtrT_25) ?_
    refine wpR_val (v := (Value.bool r6.isNone)) (w' := w4) rfl rfl rfl (x_move (v := (Value.bool r6.isNone)) rfl rfl) ?_
    refine wpR_joinJ 3 (fun (_ : Unit) ρ => ρ 29 = Value.bool (r6.isNone || r7.isNone) ∧ ρ 0 = (Sl.v p0) ∧ ρ 1 = (Sl.v p1) ∧ ρ 5 = (Value.bool r1) ∧ ρ 6 = (Value.pointer r6) ∧ ρ 7 = (Value.pointer r7) ∧ True) (fun _ w => w4 = w) ?_ ?_
    · clear h
      rcases Bool.eq_false_or_eq_true (r6.isNone) with hc9 | hc9
      · skip
        refine wpR_pass (wantN rfl rfl rfl hc9) rfl rfl ?_
        refine wpR_pass (wantN rfl rfl rfl hc9) rfl rfl ?_
        refine wpR_val (v := (Value.bool true)) (w' := w4) rfl rfl rfl (x_pickT (v := (Value.bool true)) rfl rfl hc9 rfl) ?_
        refine wpR_nil ?_
        exact ⟨(), ⟨(by rw [hc9]; rfl), e0, e1, e5, e6, e7, trivial⟩, rfl⟩
      · skip
        refine wpR_val (v := (Value.pointer r7)) (w' := w4) (wantG rfl rfl rfl hc9) rfl rfl (x_move (v := (Value.pointer r7)) rfl e7) ?_
        refine wpR_val (v := (Value.bool r7.isNone)) (w' := w4) (wantG rfl rfl rfl hc9) rfl rfl (x_eqlNil rfl rfl rfl isPtrT_25) ?_
        refine wpR_val (v := (Value.bool r7.isNone)) (w' := w4) rfl rfl rfl (x_pickF (v := (Value.bool r7.isNone)) rfl rfl hc9 rfl) ?_
        refine wpR_nil ?_
        exact ⟨(), ⟨(by rw [hc9]; rfl), e0, e1, e5, e6, e7, trivial⟩, rfl⟩
    rintro _ ρ wj ⟨e29, e0, e1, e5, e6, e7, -⟩ rfl
    refine wpR_nil ?_
    refine wpC_cond (b := r6.isNone || r7.isNone) e29 (fun hc10 => ?_) (fun hc10 => ?_)
    · replace h := h.1 hc10
      refine wpC_seq ?_
      refine wpC_region ?_
      refine wpR_val (v := (Value.bool false)) (w' := w4) rfl rfl rfl (x_assign (v := (Value.bool false)) rfl rfl) ?_
      refine wpR_nil ?_
      refine wpC_ret ?_
      exact ⟨.inl rfl, fun a ha => ⟨_, results_rep1 rfl ha rfl, false, rfl, h⟩⟩
    · replace h := h.2 hc10
      refine wpC_skip ?_
      refine wpC_seq ?_
      refine wpC_seq ?_
      refine wpC_region ?_
      refine wpR_val (v := (Value.int .i64 0)) (w' := w4) rfl rfl rfl (x_assign (v := (Value.int .i64 0)) rfl rfl) ?_
      refine wpR_nil ?_
      refine wpC_block ?_
      obtain ⟨I11, μ11, hI11, hr11⟩ := h
      refine wpC_loop (fun (x : Int) ρ => ρ 8 = (Value.int .i64 x) ∧ ρ 0 = (Sl.v p0) ∧ ρ 1 = (Sl.v p1) ∧ ρ 5 = (Value.bool r1) ∧ ρ 6 = (Value.pointer r6) ∧ ρ 7 = (Value.pointer r7) ∧ True) I11 μ11 0 ⟨rfl, e0, e1, e5, e6, e7, trivial⟩ hI11 ?_
      rintro l11 ρ w5 ⟨e8, e0, e1, e5, e6, e7, -⟩ h
      replace h := hr11 l11 w5 h
      clear hr11 hI11
      refine wpC_seq ?_
      refine wpC_seq ?_
      refine wpC_region ?_
      refine wpR_val (v := (Value.int .i64 l11)) (w' := w5) rfl rfl rfl (x_move (v := (Value.int .i64 l11)) rfl e8) ?_
      refine wpR_val (v := (Sl.v p0)) (w' := w5) rfl rfl rfl (x_move (v := (Sl.v p0)) rfl e0) ?_
      refine wpR_val (v := (Value.int .i64 (p0.len : Int))) (w' := w5) rfl rfl rfl (x_lenS (s := p0) rfl rfl isSliceT_22) ?_
      refine wpR_val (v := (Value.bool (decide (l11 < (p0.len : Int))))) (w' := w5) rfl rfl rfl (x_lss rfl rfl rfl) ?_
      refine wpR_nil ?_
      refine wpC_cond (b := decide (l11 < (p0.len : Int))) rfl (fun hc12 => ?_) (fun hc12 => ?_)
      · replace h := h.1 hc12
        refine wpC_skip ?_
        refine wpC_seq ?_
        refine wpC_block ?_
        refine wpC_seq ?_
        refine wpC_cut (fun ρ => ρ 0 = (Sl.v p0) ∧ ρ 1 = (Sl.v p1) ∧ ρ 5 = (Value.bool r1) ∧ ρ 6 = (Value.pointer r6) ∧ ρ 7 = (Value.pointer r7) ∧ ρ 8 = (Value.int .i64 l11) ∧ True) ⟨e0, e1, e5, e6, e7, e8, trivial⟩ ?_
        rintro ρ ⟨e0, e1, e5, e6, e7, e8, -⟩
        refine wpC_region ?_
        refine wpR_val (v := (Sl.v p0)) (w' := w5) rfl rfl rfl (x_move (v := (Sl.v p0)) rfl e0) ?_
        refine wpR_val (v := (Value.int .i64 l11)) (w' := w5) rfl rfl rfl (x_move (v := (Value.int .i64 l11)) rfl e8) ?_
        obtain ⟨q13, z13, r13, h⟩ := h
        generalize hp13 : z13.add ((l11).toNat * 4) = p13 at h
        refine wpR_val (v := (Value.pointer (some p13))) (w' := w5) rfl rfl rfl ((x_indexAddr (s := p0) rfl rfl rfl ES_22 q13 r13).trans (by rw [hp13])) ?_
        obtain ⟨x14, q14, h⟩ := h
        obtain ⟨x15, q15, h⟩ := h
        obtain ⟨x16, q16, h⟩ := h
        obtain ⟨x17, q17, h⟩ := h
        refine wpR_val (v := (Value.agg #[(Value.int .i64 x14), (Value.int .i64 x15), (Value.int .i64 x16), (Value.string x17)])) (w' := w5) rfl rfl rfl (x_loadN [(Value.int .i64 x14), (Value.int .i64 x15), (Value.int .i64 x16), (Value.string x17)] rfl rfl SH_34 (CellsAt.out (CellsAt.cons q14 (CellsAt.cons q15 (CellsAt.cons q16 (CellsAt.cons q17 CellsAt.nil)))))) ?_
        obtain ⟨b18, hb18⟩ : ∃ u, u = w5.heap.size := ⟨_, rfl⟩
        obtain ⟨w6, hw18⟩ : ∃ u, u = w5.alloc (.cells #[(Value.int .i64 0), (Value.int .i64 0), (Value.int .i64 0), (Value.string (ByteArray.mk #[]))] 34) := ⟨_, rfl⟩
        replace h := h b18 w6 hb18 hw18
        refine wpR_val (v := (Value.pointer (some (Addr.mk b18 0 none)))) (w' := w6) rfl rfl rfl ((x_alloc rfl ZV_34).trans (by rw [hb18, hw18]; rfl)) ?_
        obtain ⟨q19, h⟩ := h
        obtain ⟨w7, hw19⟩ : ∃ u, u = setAll w6 (Addr.mk b18 0 none) [(Value.int .i64 x14), (Value.int .i64 x15), (Value.int .i64 x16), (Value.string x17)] 0 := ⟨_, rfl⟩
        replace h := h w7 hw19
        refine wpR_skp (w' := w7) rfl rfl ((x_store (v := (Value.agg #[(Value.int .i64 x14), (Value.int .i64 x15), (Value.int .i64 x16), (Value.string x17)])) rfl rfl rfl SZ_34 (ones (by rfl)) q19).trans (by rw [hw19]; rfl)) ?_
        refine wpR_nil ?_
        obtain ⟨J20, h, hk⟩ := h
        refine wpC_seqJ (fun (x : Unit) ρ => ρ 0 = (Sl.v p0) ∧ ρ 1 = (Sl.v p1) ∧ ρ 5 = (Value.bool r1) ∧ ρ 6 = (Value.pointer r6) ∧ ρ 7 = (Value.pointer r7) ∧ ρ 8 = (Value.int .i64 l11) ∧ ρ 9 = (Value.pointer (some (Addr.mk b18 0 none))) ∧ True) J20 ?_ ?_
        · clear hk
          refine wpC_seq ?_
          refine wpC_cut (fun ρ => ρ 0 = (Sl.v p0) ∧ ρ 1 = (Sl.v p1) ∧ ρ 5 = (Value.bool r1) ∧ ρ 6 = (Value.pointer r6) ∧ ρ 7 = (Value.pointer r7) ∧ ρ 8 = (Value.int .i64 l11) ∧ ρ 9 = (Value.pointer (some (Addr.mk b18 0 none))) ∧ True) ⟨e0, e1, e5, e6, e7, e8, rfl, trivial⟩ ?_
          rintro ρ ⟨e0, e1, e5, e6, e7, e8, e9, -⟩
          refine wpC_region ?_
          refine wpR_val (v := (Value.int .i64 l11)) (w' := w7) rfl rfl rfl (x_move (v := (Value.int .i64 l11)) rfl e8) ?_
          refine wpR_val (v := (Sl.v p1)) (w' := w7) rfl rfl rfl (x_move (v := (Sl.v p1)) rfl e1) ?_
          refine wpR_val (v := (Value.int .i64 (p1.len : Int))) (w' := w7) rfl rfl rfl (x_lenS (s := p1) rfl rfl isSliceT_39) ?_
          refine wpR_val (v := (Value.bool (decide (l11 < (p1.len : Int))))) (w' := w7) rfl rfl rfl (x_lss rfl rfl rfl) ?_
          refine wpR_nil ?_
          refine wpC_cond (b := decide (l11 < (p1.len : Int))) rfl (fun hc22 => ?_) (fun hc22 => ?_)
          · replace h := h.1 hc22
            refine wpC_cut (fun ρ => ρ 0 = (Sl.v p0) ∧ ρ 1 = (Sl.v p1) ∧ ρ 5 = (Value.bool r1) ∧ ρ 6 = (Value.pointer r6) ∧ ρ 7 = (Value.pointer r7) ∧ ρ 8 = (Value.int .i64 l11) ∧ ρ 9 = (Value.pointer (some (Addr.mk b18 0 none))) ∧ True) ⟨e0, e1, e5, e6, e7, e8, e9, trivial⟩ ?_
            rintro ρ ⟨e0, e1, e5, e6, e7, e8, e9, -⟩
            refine wpC_region ?_
            refine wpR_val (v := (Sl.v p1)) (w' := w7) rfl rfl rfl (x_move (v := (Sl.v p1)) rfl e1) ?_
            refine wpR_val (v := (Value.int .i64 l11)) (w' := w7) rfl rfl rfl (x_move (v := (Value.int .i64 l11)) rfl e8) ?_
            obtain ⟨q23, z23, r23, h⟩ := h
            generalize hp23 : z23.add ((l11).toNat * 1) = p23 at h
            refine wpR_val (v := (Value.pointer (some p23))) (w' := w7) rfl rfl rfl ((x_indexAddr (s := p1) rfl rfl rfl ES_39 q23 r23).trans (by rw [hp23])) ?_
            obtain ⟨x24, q24, h⟩ := h
            refine wpR_val (v := (Value.string x24)) (w' := w7) rfl rfl rfl (x_load1 rfl rfl SH_9 q24) ?_
            refine wpR_val (v := (Value.pointer (some ((Addr.mk b18 0 none).add 3)))) (w' := w7) rfl rfl rfl (x_fieldAddr rfl e9 FA_34_3) ?_
            obtain ⟨q25, h⟩ := h
            obtain ⟨w9, hw25⟩ : ∃ u, u = setAll w7 ((Addr.mk b18 0 none).add 3) [(Value.string x24)] 0 := ⟨_, rfl⟩
            replace h := h w9 hw25
            refine wpR_skp (w' := w9) rfl rfl ((x_store (v := (Value.string x24)) rfl rfl rfl SZ_9 (ones (by rfl)) q25).trans (by rw [hw25]; rfl)) ?_
            refine wpR_nil ?_
            exact ⟨(), ⟨e0, e1, e5, e6, e7, e8, e9, trivial⟩, h⟩
          · replace h := h.2 hc22
            refine wpC_skip ?_
            exact ⟨(), ⟨e0, e1, e5, e6, e7, e8, e9, trivial⟩, h⟩
        clear h
        rintro l21 ρ w8 ⟨e0, e1, e5, e6, e7, e8, e9, -⟩ h
        replace h := hk l21 w8 h
        clear hk
        refine wpC_seq ?_
        refine wpC_region ?_
        refine wpR_val (v := (Value.pointer r6)) (w' := w8) rfl rfl rfl (x_move (v := (Value.pointer r6)) rfl e6) ?_
        refine wpR_val (v := (Sl.v p0)) (w' := w8) rfl rfl rfl (x_move (v := (Sl.v p0)) rfl e0) ?_
        refine wpR_val (v := (Value.int .i64 l11)) (w' := w8) rfl rfl rfl (x_move (v := (Value.int .i64 l11)) rfl e8) ?_
        obtain ⟨q26, z26, r26, h⟩ := h
        generalize hp26 : z26.add ((l11).toNat * 4) = p26 at h
        refine wpR_val (v := (Value.pointer (some p26))) (w' := w8) rfl rfl rfl ((x_indexAddr (s := p0) rfl rfl rfl ES_22 q26 r26).trans (by rw [hp26])) ?_
        obtain ⟨x27, q27, h⟩ := h
        obtain ⟨x28, q28, h⟩ := h
        obtain ⟨x29, q29, h⟩ := h
        obtain ⟨x30, q30, h⟩ := h
        refine wpR_val (v := (Value.agg #[(Value.int .i64 x27), (Value.int .i64 x28), (Value.int .i64 x29), (Value.string x30)])) (w' := w8) rfl rfl rfl (x_loadN [(Value.int .i64 x27), (Value.int .i64 x28), (Value.int .i64 x29), (Value.string x30)] rfl rfl SH_34 (CellsAt.out (CellsAt.cons q27 (CellsAt.cons q28 (CellsAt.cons q29 (CellsAt.cons q30 CellsAt.nil)))))) ?_
        refine wpR_enter rfl rfl rfl (x_call (vs := [(Value.pointer r6), (Value.agg #[(Value.int .i64 x27), (Value.int .i64 x28), (Value.int .i64 x29), (Value.string x30)])]) rfl rfl (by rfl) Try.func11 NN_11 NB_11) (Calls.mono h ?_)
        rintro _ w10 ⟨r31, rfl, h⟩
        refine ⟨_, rfl, ?_⟩
        obtain ⟨b32, hb32⟩ : ∃ u, u = w10.heap.size := ⟨_, rfl⟩
        obtain ⟨w11, hw32⟩ : ∃ u, u = w10.alloc (.cells #[(Value.int .i64 0), (Value.string (ByteArray.mk #[])), (Value.int .i64 0)] 31) := ⟨_, rfl⟩
        replace h := h b32 w11 hb32 hw32
        refine wpR_val (v := (Value.pointer (some (Addr.mk b32 0 none)))) (w' := w11) rfl rfl rfl ((x_alloc rfl ZV_31).trans (by rw [hb32, hw32]; rfl)) ?_
        obtain ⟨q33, h⟩ := h
        obtain ⟨w12, hw33⟩ : ∃ u, u = setAll w11 (Addr.mk b32 0 none) [(Value.int .i64 r31.1), (Value.string r31.2.1), (Value.int .i64 r31.2.2)] 0 := ⟨_, rfl⟩
        replace h := h w12 hw33
        refine wpR_skp (w' := w12) rfl rfl ((x_store (v := (Value.agg #[(Value.int .i64 r31.1), (Value.string r31.2.1), (Value.int .i64 r31.2.2)])) rfl rfl rfl SZ_31 (ones (by rfl)) q33).trans (by rw [hw33]; rfl)) ?_
        refine wpR_nil ?_
        refine wpC_seq ?_
        refine wpC_cut (fun ρ => ρ 0 = (Sl.v p0) ∧ ρ 1 = (Sl.v p1) ∧ ρ 5 = (Value.bool r1) ∧ ρ 6 = (Value.pointer r6) ∧ ρ 7 = (Value.pointer r7) ∧ ρ 8 = (Value.int .i64 l11) ∧ ρ 9 = (Value.pointer (some (Addr.mk b18 0 none))) ∧ ρ 10 = (Value.pointer (some (Addr.mk b32 0 none))) ∧ True) ⟨e0, e1, e5, e6, e7, e8, e9, rfl, trivial⟩ ?_
        rintro ρ ⟨e0, e1, e5, e6, e7, e8, e9, e10, -⟩
        refine wpC_region ?_
        refine wpR_val (v := (Value.pointer r7)) (w' := w12) rfl rfl rfl (x_move (v := (Value.pointer r7)) rfl e7) ?_
        obtain ⟨x34, q34, h⟩ := h
        obtain ⟨x35, q35, h⟩ := h
        obtain ⟨x36, q36, h⟩ := h
        obtain ⟨x37, q37, h⟩ := h
        refine wpR_val (v := (Value.agg #[(Value.int .i64 x34), (Value.int .i64 x35), (Value.int .i64 x36), (Value.string x37)])) (w' := w12) rfl rfl rfl (x_loadN [(Value.int .i64 x34), (Value.int .i64 x35), (Value.int .i64 x36), (Value.string x37)] rfl e9 SH_34 (CellsAt.out (CellsAt.cons q34 (CellsAt.cons q35 (CellsAt.cons q36 (CellsAt.cons q37 CellsAt.nil)))))) ?_
        refine wpR_enter rfl rfl rfl (x_call (vs := [(Value.pointer r7), (Value.agg #[(Value.int .i64 x34), (Value.int .i64 x35), (Value.int .i64 x36), (Value.string x37)])]) rfl rfl (by rfl) Try.func11 NN_11 NB_11) (Calls.mono h ?_)
        rintro _ w13 ⟨r38, rfl, h⟩
        refine ⟨_, rfl, ?_⟩
        obtain ⟨b39, hb39⟩ : ∃ u, u = w13.heap.size := ⟨_, rfl⟩
        obtain ⟨w14, hw39⟩ : ∃ u, u = w13.alloc (.cells #[(Value.int .i64 0), (Value.string (ByteArray.mk #[])), (Value.int .i64 0)] 31) := ⟨_, rfl⟩
        replace h := h b39 w14 hb39 hw39
        refine wpR_val (v := (Value.pointer (some (Addr.mk b39 0 none)))) (w' := w14) rfl rfl rfl ((x_alloc rfl ZV_31).trans (by rw [hb39, hw39]; rfl)) ?_
        obtain ⟨q40, h⟩ := h
        obtain ⟨w15, hw40⟩ : ∃ u, u = setAll w14 (Addr.mk b39 0 none) [(Value.int .i64 r38.1), (Value.string r38.2.1), (Value.int .i64 r38.2.2)] 0 := ⟨_, rfl⟩
        replace h := h w15 hw40
        refine wpR_skp (w' := w15) rfl rfl ((x_store (v := (Value.agg #[(Value.int .i64 r38.1), (Value.string r38.2.1), (Value.int .i64 r38.2.2)])) rfl rfl rfl SZ_31 (ones (by rfl)) q40).trans (by rw [hw40]; rfl)) ?_
        refine wpR_nil ?_
        refine wpC_seq ?_
        refine wpC_cut (fun ρ => ρ 0 = (Sl.v p0) ∧ ρ 1 = (Sl.v p1) ∧ ρ 5 = (Value.bool r1) ∧ ρ 6 = (Value.pointer r6) ∧ ρ 7 = (Value.pointer r7) ∧ ρ 8 = (Value.int .i64 l11) ∧ ρ 10 = (Value.pointer (some (Addr.mk b32 0 none))) ∧ ρ 11 = (Value.pointer (some (Addr.mk b39 0 none))) ∧ True) ⟨e0, e1, e5, e6, e7, e8, e10, rfl, trivial⟩ ?_
        rintro ρ ⟨e0, e1, e5, e6, e7, e8, e10, e11, -⟩
        refine wpC_region ?_
        refine wpR_val (v := (Value.pointer (some ((Addr.mk b32 0 none).add 0)))) (w' := w15) rfl rfl rfl (x_fieldAddr rfl e10 FA_31_0) ?_
        obtain ⟨x41, q41, h⟩ := h
        refine wpR_val (v := (Value.int .i64 x41)) (w' := w15) rfl rfl rfl (x_load1 rfl rfl SH_3 q41) ?_
        refine wpR_val (v := (Value.pointer (some ((Addr.mk b39 0 none).add 0)))) (w' := w15) rfl rfl rfl (x_fieldAddr rfl e11 FA_31_0) ?_
        obtain ⟨x42, q42, h⟩ := h
        refine wpR_val (v := (Value.int .i64 x42)) (w' := w15) rfl rfl rfl (x_load1 rfl rfl SH_3 q42) ?_
        refine wpR_val (v := (Value.bool (!decide (x41 = x42)))) (w' := w15) rfl rfl rfl (x_neq rfl rfl rfl) ?_
        refine wpR_val (v := (Value.bool (!decide (x41 = x42)))) (w' := w15) rfl rfl rfl (x_move (v := (Value.bool (!decide (x41 = x42)))) rfl rfl) ?_
        obtain ⟨J43, h, hk⟩ := h
        refine wpR_joinJ 6 (fun x ρ => ρ 69 = Value.bool x ∧ ρ 0 = (Sl.v p0) ∧ ρ 1 = (Sl.v p1) ∧ ρ 5 = (Value.bool r1) ∧ ρ 6 = (Value.pointer r6) ∧ ρ 7 = (Value.pointer r7) ∧ ρ 8 = (Value.int .i64 l11) ∧ True) (fun x w => J43 x ∧ w15 = w) ?_ ?_
        · clear hk
          rcases Bool.eq_false_or_eq_true (!decide (x41 = x42)) with hc44 | hc44
          · replace h := h.1 hc44
            refine wpR_pass (wantN rfl rfl rfl hc44) rfl rfl ?_
            refine wpR_pass (wantN rfl rfl rfl hc44) rfl rfl ?_
            refine wpR_pass (wantN rfl rfl rfl hc44) rfl rfl ?_
            refine wpR_pass (wantN rfl rfl rfl hc44) rfl rfl ?_
            refine wpR_pass (wantN rfl rfl rfl hc44) rfl rfl ?_
            refine wpR_val (v := (Value.bool true)) (w' := w15) rfl rfl rfl (x_pickT (v := (Value.bool true)) rfl rfl hc44 rfl) ?_
            refine wpR_nil ?_
            exact ⟨true, ⟨rfl, e0, e1, e5, e6, e7, e8, trivial⟩, h, rfl⟩
          · replace h := h.2 hc44
            refine wpR_val (v := (Value.pointer (some ((Addr.mk b32 0 none).add 2)))) (w' := w15) (wantG rfl rfl rfl hc44) rfl rfl (x_fieldAddr rfl e10 FA_31_2) ?_
            obtain ⟨x45, q45, h⟩ := h
            refine wpR_val (v := (Value.int .i64 x45)) (w' := w15) (wantG rfl rfl rfl hc44) rfl rfl (x_load1 rfl rfl SH_29 q45) ?_
            refine wpR_val (v := (Value.pointer (some ((Addr.mk b39 0 none).add 2)))) (w' := w15) (wantG rfl rfl rfl hc44) rfl rfl (x_fieldAddr rfl e11 FA_31_2) ?_
            obtain ⟨x46, q46, h⟩ := h
            refine wpR_val (v := (Value.int .i64 x46)) (w' := w15) (wantG rfl rfl rfl hc44) rfl rfl (x_load1 rfl rfl SH_29 q46) ?_
            refine wpR_val (v := (Value.bool (!decide (x45 = x46)))) (w' := w15) (wantG rfl rfl rfl hc44) rfl rfl (x_neq rfl rfl rfl) ?_
            refine wpR_val (v := (Value.bool (!decide (x45 = x46)))) (w' := w15) rfl rfl rfl (x_pickF (v := (Value.bool (!decide (x45 = x46)))) rfl rfl hc44 rfl) ?_
            refine wpR_nil ?_
            exact ⟨!decide (x45 = x46), ⟨rfl, e0, e1, e5, e6, e7, e8, trivial⟩, h, rfl⟩
        clear h
        rintro c47 ρ wj ⟨e69, e0, e1, e5, e6, e7, e8, -⟩ ⟨h, rfl⟩
        replace h := hk c47 h
        clear hk
        refine wpR_val (v := (Value.bool c47)) (w' := w15) rfl rfl rfl (x_move (v := (Value.bool c47)) rfl e69) ?_
        obtain ⟨J48, h, hk⟩ := h
        refine wpR_joinJ 6 (fun x ρ => ρ 76 = Value.bool x ∧ ρ 0 = (Sl.v p0) ∧ ρ 1 = (Sl.v p1) ∧ ρ 5 = (Value.bool r1) ∧ ρ 6 = (Value.pointer r6) ∧ ρ 7 = (Value.pointer r7) ∧ ρ 8 = (Value.int .i64 l11) ∧ True) (J48) ?_ ?_
        · clear hk
          rcases Bool.eq_false_or_eq_true (c47) with hc49 | hc49
          · replace h := h.1 hc49
            refine wpR_pass (wantN rfl rfl rfl hc49) rfl rfl ?_
            refine wpR_pass (wantN rfl rfl rfl hc49) rfl rfl ?_
            refine wpR_pass (wantN rfl rfl rfl hc49) rfl rfl ?_
            refine wpR_pass (wantN rfl rfl rfl hc49) rfl rfl ?_
            refine wpR_pass (wantN rfl rfl rfl hc49) rfl rfl ?_
            refine wpR_val (v := (Value.bool true)) (w' := w15) rfl rfl rfl (x_pickT (v := (Value.bool true)) rfl rfl hc49 rfl) ?_
            refine wpR_nil ?_
            exact ⟨true, ⟨rfl, e0, e1, e5, e6, e7, e8, trivial⟩, h⟩
          · replace h := h.2 hc49
            refine wpR_val (v := (Value.pointer r6)) (w' := w15) (wantG rfl rfl rfl hc49) rfl rfl (x_move (v := (Value.pointer r6)) rfl e6) ?_
            refine wpR_enter (wantG rfl rfl rfl hc49) rfl rfl (x_call (vs := [(Value.pointer r6)]) rfl rfl (by rfl) Try.func13 NN_13 NB_13) (Calls.mono h ?_)
            rintro _ w16 ⟨r50, rfl, h⟩
            refine ⟨_, rfl, ?_⟩
            refine wpR_val (v := (Value.pointer r7)) (w' := w16) (wantG rfl rfl rfl hc49) rfl rfl (x_move (v := (Value.pointer r7)) rfl e7) ?_
            refine wpR_enter (wantG rfl rfl rfl hc49) rfl rfl (x_call (vs := [(Value.pointer r7)]) rfl rfl (by rfl) Try.func13 NN_13 NB_13) (Calls.mono h ?_)
            rintro _ w17 ⟨r51, rfl, h⟩
            refine ⟨_, rfl, ?_⟩
            refine wpR_val (v := (Value.bool (!decide (r50 = r51)))) (w' := w17) (wantG rfl rfl rfl hc49) rfl rfl (x_neq rfl rfl rfl) ?_
            refine wpR_val (v := (Value.bool (!decide (r50 = r51)))) (w' := w17) rfl rfl rfl (x_pickF (v := (Value.bool (!decide (r50 = r51)))) rfl rfl hc49 rfl) ?_
            refine wpR_nil ?_
            exact ⟨!decide (r50 = r51), ⟨rfl, e0, e1, e5, e6, e7, e8, trivial⟩, h⟩
        clear h
        rintro c52 ρ w18 ⟨e76, e0, e1, e5, e6, e7, e8, -⟩ h
        replace h := hk c52 w18 h
        clear hk
        refine wpR_val (v := (Value.bool c52)) (w' := w18) rfl rfl rfl (x_move (v := (Value.bool c52)) rfl e76) ?_
        obtain ⟨J53, h, hk⟩ := h
        refine wpR_joinJ 6 (fun x ρ => ρ 83 = Value.bool x ∧ ρ 0 = (Sl.v p0) ∧ ρ 1 = (Sl.v p1) ∧ ρ 5 = (Value.bool r1) ∧ ρ 6 = (Value.pointer r6) ∧ ρ 7 = (Value.pointer r7) ∧ ρ 8 = (Value.int .i64 l11) ∧ True) (J53) ?_ ?_
        · clear hk
          rcases Bool.eq_false_or_eq_true (c52) with hc54 | hc54
          · replace h := h.1 hc54
            refine wpR_pass (wantN rfl rfl rfl hc54) rfl rfl ?_
            refine wpR_pass (wantN rfl rfl rfl hc54) rfl rfl ?_
            refine wpR_pass (wantN rfl rfl rfl hc54) rfl rfl ?_
            refine wpR_pass (wantN rfl rfl rfl hc54) rfl rfl ?_
            refine wpR_pass (wantN rfl rfl rfl hc54) rfl rfl ?_
            refine wpR_val (v := (Value.bool true)) (w' := w18) rfl rfl rfl (x_pickT (v := (Value.bool true)) rfl rfl hc54 rfl) ?_
            refine wpR_nil ?_
            exact ⟨true, ⟨rfl, e0, e1, e5, e6, e7, e8, trivial⟩, h⟩
          · replace h := h.2 hc54
            refine wpR_val (v := (Value.pointer r6)) (w' := w18) (wantG rfl rfl rfl hc54) rfl rfl (x_move (v := (Value.pointer r6)) rfl e6) ?_
            refine wpR_enter (wantG rfl rfl rfl hc54) rfl rfl (x_call (vs := [(Value.pointer r6)]) rfl rfl (by rfl) Try.func14 NN_14 NB_14) (Calls.mono h ?_)
            rintro _ w19 ⟨r55, rfl, h⟩
            refine ⟨_, rfl, ?_⟩
            refine wpR_val (v := (Value.pointer r7)) (w' := w19) (wantG rfl rfl rfl hc54) rfl rfl (x_move (v := (Value.pointer r7)) rfl e7) ?_
            refine wpR_enter (wantG rfl rfl rfl hc54) rfl rfl (x_call (vs := [(Value.pointer r7)]) rfl rfl (by rfl) Try.func14 NN_14 NB_14) (Calls.mono h ?_)
            rintro _ w20 ⟨r56, rfl, h⟩
            refine ⟨_, rfl, ?_⟩
            refine wpR_val (v := (Value.bool (!decide (r55 = r56)))) (w' := w20) (wantG rfl rfl rfl hc54) rfl rfl (x_neq rfl rfl rfl) ?_
            refine wpR_val (v := (Value.bool (!decide (r55 = r56)))) (w' := w20) rfl rfl rfl (x_pickF (v := (Value.bool (!decide (r55 = r56)))) rfl rfl hc54 rfl) ?_
            refine wpR_nil ?_
            exact ⟨!decide (r55 = r56), ⟨rfl, e0, e1, e5, e6, e7, e8, trivial⟩, h⟩
        clear h
        rintro c57 ρ w21 ⟨e83, e0, e1, e5, e6, e7, e8, -⟩ h
        replace h := hk c57 w21 h
        clear hk
        refine wpR_nil ?_
        refine wpC_cond (b := c57) e83 (fun hc58 => ?_) (fun hc58 => ?_)
        · replace h := h.1 hc58
          refine wpC_seq ?_
          refine wpC_region ?_
          refine wpR_val (v := (Value.bool false)) (w' := w21) rfl rfl rfl (x_assign (v := (Value.bool false)) rfl rfl) ?_
          refine wpR_nil ?_
          refine wpC_ret ?_
          exact ⟨.inl rfl, fun a ha => ⟨_, results_rep1 rfl ha rfl, false, rfl, h⟩⟩
        · replace h := h.2 hc58
          refine wpC_skip ?_
          refine wpC_region ?_
          refine wpR_val (v := (Value.int .i64 l11)) (w' := w21) rfl rfl rfl (x_move (v := (Value.int .i64 l11)) rfl e8) ?_
          refine wpR_val (v := (Value.int .i64 (IntKind.i64.wrap (l11 + 1)))) (w' := w21) rfl rfl rfl (x_add rfl rfl rfl) ?_
          refine wpR_val (v := (Value.int .i64 (IntKind.i64.wrap (l11 + 1)))) (w' := w21) rfl rfl rfl (x_assign (v := (Value.int .i64 (IntKind.i64.wrap (l11 + 1)))) rfl rfl) ?_
          refine wpR_nil ?_
          exact ⟨IntKind.i64.wrap (l11 + 1), ⟨rfl, e0, e1, e5, e6, e7, trivial⟩, h⟩
      · replace h := h.2 hc12
        refine wpC_exit ?_
        refine wpC_seq ?_
        refine wpC_cut (fun ρ => ρ 5 = (Value.bool r1) ∧ True) ⟨e5, trivial⟩ ?_
        rintro ρ ⟨e5, -⟩
        refine wpC_region ?_
        refine wpR_val (v := (Value.bool r1)) (w' := w5) rfl rfl rfl (x_move (v := (Value.bool r1)) rfl e5) ?_
        refine wpR_val (v := (Value.bool r1)) (w' := w5) rfl rfl rfl (x_assign (v := (Value.bool r1)) rfl rfl) ?_
        refine wpR_nil ?_
        refine wpC_ret ?_
        exact ⟨.inl rfl, fun a ha => ⟨_, results_rep1 rfl ha rfl, r1, rfl, h⟩⟩

/-- lingualaw05.VaultTells -/
def F3 (p0 : Sl) (w0 : World) (K : Bool → World → Prop) : Prop :=
  callC Try.prog 7 #[] (fun (r : Bool) => (Value.bool r)) w0 fun r1 w1 =>
  callC Try.prog 8 #[(Sl.v p0), (Value.int .i64 60)] (fun (r : Bool) => (Value.bool r)) w1 fun r2 w2 =>
  cnd (!r2)
    (
    K r1 w2
    )
    (
    callC Try.prog 9 #[] (fun (r : (Option Addr)) => (Value.pointer r)) w2 fun r4 w3 =>
    callC Try.prog 10 #[] (fun (r : (Option Addr)) => (Value.pointer r)) w3 fun r5 w4 =>
    cnd (r4.isNone)
      (
      K false w4
      )
      (
      lp (fun (next7 : Int → World → Prop) l7 w5 =>
        cnd (decide (l7 < (p0.len : Int)))
          (
          jn (fun (J10 : Bool → World → Prop) => tk w5 fun w6 =>
            ix p0 l7 4 fun p11 =>
            ld (Value.int .i64) (p11.add 0) w6 fun x12 =>
            ld (Value.int .i64) (p11.add 1) w6 fun x13 =>
            ld (Value.int .i64) (p11.add 2) w6 fun x14 =>
            ld Value.string (p11.add 3) w6 fun x15 =>
            ix p0 l7 4 fun p16 =>
            ld (Value.int .i64) (p16.add 0) w6 fun x17 =>
            ld (Value.int .i64) (p16.add 1) w6 fun x18 =>
            ld (Value.int .i64) (p16.add 2) w6 fun x19 =>
            ld Value.string (p16.add 3) w6 fun x20 =>
            callC Try.prog 11 #[(Value.pointer r4), (Value.agg #[(Value.int .i64 x12), (Value.int .i64 x13), (Value.int .i64 x14), (Value.string x15)])] (fun (r : Int × ByteArray × Int) => (Value.agg #[(Value.int .i64 r.1), (Value.string r.2.1), (Value.int .i64 r.2.2)])) w6 fun r21 w7 =>
            (w7.cell? (p16.add 0) = some (Value.int .i64 x17) ∧ w7.cell? (p16.add 1) = some (Value.int .i64 x18) ∧ w7.cell? (p16.add 2) = some (Value.int .i64 x19) ∧ w7.cell? (p16.add 3) = some (Value.string x20)) ∧
            callC Try.prog 12 #[(Value.pointer r5), (Value.agg #[(Value.int .i64 x17), (Value.int .i64 x18), (Value.int .i64 x19), (Value.string x20)])] (fun (r : Int × ByteArray × Int) => (Value.agg #[(Value.int .i64 r.1), (Value.string r.2.1), (Value.int .i64 r.2.2)])) w7 fun r22 w8 =>
            cnd (!(decide (r21.1 = r22.1) && (beqS r21.2.1 r22.2.1 && (decide (r21.2.2 = r22.2.2) && true))))
              (
              cnd (true)
                (
                J10 true w8
                )
                (
                nn r5 fun a25 =>
                ld Sl.v (a25.add 1) w8 fun x26 =>
                callC Try.prog 14 #[(Value.pointer r4)] (fun (r : Int) => (Value.int .i64 r)) w8 fun r27 w9 =>
                (w9.cell? (a25.add 1) = some (Sl.v x26)) ∧
                J10 (!decide (r27 = (x26.len : Int))) w9
                )
              )
              (
              nn r5 fun a28 =>
              ld Sl.v (a28.add 0) w8 fun x29 =>
              callC Try.prog 13 #[(Value.pointer r4)] (fun (r : Int) => (Value.int .i64 r)) w8 fun r30 w10 =>
              (w10.cell? (a28.add 0) = some (Sl.v x29)) ∧
              cnd (!decide (r30 = (x29.len : Int)))
                (
                J10 true w10
                )
                (
                nn r5 fun a32 =>
                ld Sl.v (a32.add 1) w10 fun x33 =>
                callC Try.prog 14 #[(Value.pointer r4)] (fun (r : Int) => (Value.int .i64 r)) w10 fun r34 w11 =>
                (w11.cell? (a32.add 1) = some (Sl.v x33)) ∧
                (w11.cell? (a28.add 0) = some (Sl.v x29)) ∧
                J10 (!decide (r34 = (x33.len : Int))) w11
                )
              )
          )
          fun l35 w12 =>
          cnd (l35)
            (
            K false w12
            )
            (
            next7 (IntKind.i64.wrap (l7 + 1)) w12
            )
          )
          (
          K r1 w5
          )
      ) 0 w4
      )
    )
set_option maxRecDepth 100000 in
theorem D3 (p0 : Sl) (w0 : World) (K : Bool → World → Prop) (h : F3 p0 w0 K) : callC Try.prog 3 #[(Sl.v p0)] (fun (r : Bool) => (Value.bool r)) w0 K := by
  unfold F3 at h
  refine calls_of_wpC Try.func3 rfl 56 rfl (by simp) ?_
  intro ρ hρ
  have e0 : ρ 0 = (Sl.v p0) := hρ 0
  clear hρ
  refine wpC_seq ?_
  refine wpC_region ?_
  refine wpR_val (v := (Value.bool false)) (w' := w0) rfl rfl rfl (x_assign (v := (Value.bool false)) rfl rfl) ?_
  refine wpR_nil ?_
  refine wpC_seq ?_
  refine wpC_cut (fun ρ => ρ 0 = (Sl.v p0) ∧ True) ⟨e0, trivial⟩ ?_
  rintro ρ ⟨e0, -⟩
  refine wpC_region ?_
  refine wpR_enter rfl rfl rfl (x_call (vs := []) rfl rfl (by rfl) Try.func7 NN_7 NB_7) (Calls.mono h ?_)
  rintro _ w1 ⟨r1, rfl, h⟩
  refine ⟨_, rfl, ?_⟩
  refine wpR_val (v := (Value.bool r1)) (w' := w1) rfl rfl rfl (x_assign (v := (Value.bool r1)) rfl rfl) ?_
  refine wpR_nil ?_
  refine wpC_seq ?_
  refine wpC_seq ?_
  refine wpC_cut (fun ρ => ρ 0 = (Sl.v p0) ∧ ρ 3 = (Value.bool r1) ∧ True) ⟨e0, rfl, trivial⟩ ?_
  rintro ρ ⟨e0, e3, -⟩
  refine wpC_region ?_
  refine wpR_val (v := (Sl.v p0)) (w' := w1) rfl rfl rfl (x_move (v := (Sl.v p0)) rfl e0) ?_
  refine wpR_enter rfl rfl rfl (x_call (vs := [(Sl.v p0), (Value.int .i64 60)]) rfl rfl (by rfl) Try.func8 NN_8 NB_8) (Calls.mono h ?_)
  rintro _ w2 ⟨r2, rfl, h⟩
  refine ⟨_, rfl, ?_⟩
  refine wpR_val (v := (Value.bool (!r2))) (w' := w2) rfl rfl rfl (x_not rfl rfl) ?_
  refine wpR_nil ?_
  refine wpC_cond (b := !r2) rfl (fun hc3 => ?_) (fun hc3 => ?_)
  · replace h := h.1 hc3
    refine wpC_seq ?_
    refine wpC_cut (fun ρ => ρ 3 = (Value.bool r1) ∧ True) ⟨e3, trivial⟩ ?_
    rintro ρ ⟨e3, -⟩
    refine wpC_region ?_
    refine wpR_val (v := (Value.bool r1)) (w' := w2) rfl rfl rfl (x_move (v := (Value.bool r1)) rfl e3) ?_
    refine wpR_val (v := (Value.bool r1)) (w' := w2) rfl rfl rfl (x_assign (v := (Value.bool r1)) rfl rfl) ?_
    refine wpR_nil ?_
    refine wpC_ret ?_
    exact ⟨.inl rfl, fun a ha => ⟨_, results_rep1 rfl ha rfl, r1, rfl, h⟩⟩
  · replace h := h.2 hc3
    refine wpC_skip ?_
    refine wpC_seq ?_
    refine wpC_cut (fun ρ => ρ 0 = (Sl.v p0) ∧ ρ 3 = (Value.bool r1) ∧ True) ⟨e0, e3, trivial⟩ ?_
    rintro ρ ⟨e0, e3, -⟩
    refine wpC_region ?_
    refine wpR_enter rfl rfl rfl (x_call (vs := []) rfl rfl (by rfl) Try.func9 NN_9 NB_9) (Calls.mono h ?_)
    rintro _ w3 ⟨r4, rfl, h⟩
    refine ⟨_, rfl, ?_⟩
    refine wpR_val (v := (Value.pointer r4)) (w' := w3) rfl rfl rfl (x_assign (v := (Value.pointer r4)) rfl rfl) ?_
    refine wpR_nil ?_
    refine wpC_seq ?_
    refine wpC_cut (fun ρ => ρ 0 = (Sl.v p0) ∧ ρ 3 = (Value.bool r1) ∧ ρ 4 = (Value.pointer r4) ∧ True) ⟨e0, e3, rfl, trivial⟩ ?_
    rintro ρ ⟨e0, e3, e4, -⟩
    refine wpC_region ?_
    refine wpR_enter rfl rfl rfl (x_call (vs := []) rfl rfl (by rfl) Try.func10 NN_10 NB_10) (Calls.mono h ?_)
    rintro _ w4 ⟨r5, rfl, h⟩
    refine ⟨_, rfl, ?_⟩
    refine wpR_val (v := (Value.pointer r5)) (w' := w4) rfl rfl rfl (x_assign (v := (Value.pointer r5)) rfl rfl) ?_
    refine wpR_nil ?_
    refine wpC_seq ?_
    refine wpC_seq ?_
    refine wpC_cut (fun ρ => ρ 0 = (Sl.v p0) ∧ ρ 3 = (Value.bool r1) ∧ ρ 4 = (Value.pointer r4) ∧ ρ 5 = (Value.pointer r5) ∧ True) ⟨e0, e3, e4, rfl, trivial⟩ ?_
    rintro ρ ⟨e0, e3, e4, e5, -⟩
    refine wpC_region ?_
    refine wpR_val (v := (Value.pointer r4)) (w' := w4) rfl rfl rfl (x_move (v := (Value.pointer r4)) rfl e4) ?_
    refine wpR_val (v := (Value.bool r4.isNone)) (w' := w4) rfl rfl rfl (x_eqlNil rfl rfl rfl isPtrT_25) ?_
    refine wpR_nil ?_
    refine wpC_cond (b := r4.isNone) rfl (fun hc6 => ?_) (fun hc6 => ?_)
    · replace h := h.1 hc6
      refine wpC_seq ?_
      refine wpC_cut (fun ρ => True) trivial ?_
      rintro ρ -
      refine wpC_region ?_
      refine wpR_val (v := (Value.bool false)) (w' := w4) rfl rfl rfl (x_assign (v := (Value.bool false)) rfl rfl) ?_
      refine wpR_nil ?_
      refine wpC_ret ?_
      exact ⟨.inl rfl, fun a ha => ⟨_, results_rep1 rfl ha rfl, false, rfl, h⟩⟩
    · replace h := h.2 hc6
      refine wpC_skip ?_
      refine wpC_seq ?_
      refine wpC_seq ?_
      refine wpC_cut (fun ρ => ρ 0 = (Sl.v p0) ∧ ρ 3 = (Value.bool r1) ∧ ρ 4 = (Value.pointer r4) ∧ ρ 5 = (Value.pointer r5) ∧ True) ⟨e0, e3, e4, e5, trivial⟩ ?_
      rintro ρ ⟨e0, e3, e4, e5, -⟩
      refine wpC_region ?_
      refine wpR_val (v := (Value.int .i64 0)) (w' := w4) rfl rfl rfl (x_assign (v := (Value.int .i64 0)) rfl rfl) ?_
      refine wpR_nil ?_
      refine wpC_block ?_
      obtain ⟨I7, μ7, hI7, hr7⟩ := h
      refine wpC_loop (fun (x : Int) ρ => ρ 6 = (Value.int .i64 x) ∧ ρ 0 = (Sl.v p0) ∧ ρ 3 = (Value.bool r1) ∧ ρ 4 = (Value.pointer r4) ∧ ρ 5 = (Value.pointer r5) ∧ True) I7 μ7 0 ⟨rfl, e0, e3, e4, e5, trivial⟩ hI7 ?_
      rintro l7 ρ w5 ⟨e6, e0, e3, e4, e5, -⟩ h
      replace h := hr7 l7 w5 h
      clear hr7 hI7
      refine wpC_seq ?_
      refine wpC_seq ?_
      refine wpC_region ?_
      refine wpR_val (v := (Value.int .i64 l7)) (w' := w5) rfl rfl rfl (x_move (v := (Value.int .i64 l7)) rfl e6) ?_
      refine wpR_val (v := (Sl.v p0)) (w' := w5) rfl rfl rfl (x_move (v := (Sl.v p0)) rfl e0) ?_
      refine wpR_val (v := (Value.int .i64 (p0.len : Int))) (w' := w5) rfl rfl rfl (x_lenS (s := p0) rfl rfl isSliceT_22) ?_
      refine wpR_val (v := (Value.bool (decide (l7 < (p0.len : Int))))) (w' := w5) rfl rfl rfl (x_lss rfl rfl rfl) ?_
      refine wpR_nil ?_
      refine wpC_cond (b := decide (l7 < (p0.len : Int))) rfl (fun hc8 => ?_) (fun hc8 => ?_)
      · replace h := h.1 hc8
        refine wpC_skip ?_
        refine wpC_seq ?_
        refine wpC_block ?_
        refine wpC_seq ?_
        refine wpC_cut (fun ρ => ρ 0 = (Sl.v p0) ∧ ρ 3 = (Value.bool r1) ∧ ρ 4 = (Value.pointer r4) ∧ ρ 5 = (Value.pointer r5) ∧ ρ 6 = (Value.int .i64 l7) ∧ True) ⟨e0, e3, e4, e5, e6, trivial⟩ ?_
        rintro ρ ⟨e0, e3, e4, e5, e6, -⟩
        obtain ⟨J10, h, hk⟩ := h
        refine wpC_drawJ (by kernel_rfl) (fun (x : Bool) ρ => ρ 54 = (Value.bool x) ∧ ρ 0 = (Sl.v p0) ∧ ρ 3 = (Value.bool r1) ∧ ρ 4 = (Value.pointer r4) ∧ ρ 5 = (Value.pointer r5) ∧ ρ 6 = (Value.int .i64 l7) ∧ True) J10 ?_ ?_
        · clear hk
          unfold tk at h
          generalize w5.drew = w6 at h ⊢
          refine wpD_take (v := (Value.pointer r4)) 0 (fun _ => True) rfl (by kernel_rfl) (by kernel_rfl) (by kernel_rfl) rfl rfl rfl trivial (fun w _ => (x_move (v := (Value.pointer r4)) rfl e4)) ?_
          refine wpD_take (v := (Sl.v p0)) 1 (fun _ => True) rfl (by kernel_rfl) (by kernel_rfl) (by kernel_rfl) rfl rfl rfl trivial (fun w _ => (x_move (v := (Sl.v p0)) rfl e0)) ?_
          refine wpD_take (v := (Value.int .i64 l7)) 2 (fun _ => True) rfl (by kernel_rfl) (by kernel_rfl) (by kernel_rfl) rfl rfl rfl trivial (fun w _ => (x_move (v := (Value.int .i64 l7)) rfl e6)) ?_
          obtain ⟨q11, z11, r11, h⟩ := h
          generalize hp11 : z11.add ((l7).toNat * 4) = p11 at h
          refine wpD_take (v := (Value.pointer (some p11))) 3 (fun _ => True) rfl (by kernel_rfl) (by kernel_rfl) (by kernel_rfl) rfl rfl rfl trivial (fun w _ => ((x_indexAddr (s := p0) rfl rfl rfl ES_22 q11 r11).trans (by rw [hp11]))) ?_
          obtain ⟨x12, q12, h⟩ := h
          obtain ⟨x13, q13, h⟩ := h
          obtain ⟨x14, q14, h⟩ := h
          obtain ⟨x15, q15, h⟩ := h
          refine wpD_take (v := (Value.agg #[(Value.int .i64 x12), (Value.int .i64 x13), (Value.int .i64 x14), (Value.string x15)])) 4 (fun w => w.cell? (p11.add 0) = some (Value.int .i64 x12) ∧ w.cell? (p11.add 1) = some (Value.int .i64 x13) ∧ w.cell? (p11.add 2) = some (Value.int .i64 x14) ∧ w.cell? (p11.add 3) = some (Value.string x15)) rfl (by kernel_rfl) (by kernel_rfl) (by kernel_rfl) rfl rfl rfl ⟨q12, q13, q14, q15⟩ (fun w ⟨q12, q13, q14, q15⟩ => (x_loadN [(Value.int .i64 x12), (Value.int .i64 x13), (Value.int .i64 x14), (Value.string x15)] rfl rfl SH_34 (CellsAt.out (CellsAt.cons q12 (CellsAt.cons q13 (CellsAt.cons q14 (CellsAt.cons q15 CellsAt.nil))))))) ?_
          refine wpD_take (v := (Value.pointer r5)) 6 (fun _ => True) rfl (by kernel_rfl) (by kernel_rfl) (by kernel_rfl) rfl rfl rfl trivial (fun w _ => (x_move (v := (Value.pointer r5)) rfl e5)) ?_
          refine wpD_take (v := (Sl.v p0)) 7 (fun _ => True) rfl (by kernel_rfl) (by kernel_rfl) (by kernel_rfl) rfl rfl rfl trivial (fun w _ => (x_move (v := (Sl.v p0)) rfl e0)) ?_
          refine wpD_take (v := (Value.int .i64 l7)) 8 (fun _ => True) rfl (by kernel_rfl) (by kernel_rfl) (by kernel_rfl) rfl rfl rfl trivial (fun w _ => (x_move (v := (Value.int .i64 l7)) rfl e6)) ?_
          obtain ⟨q16, z16, r16, h⟩ := h
          generalize hp16 : z16.add ((l7).toNat * 4) = p16 at h
          refine wpD_take (v := (Value.pointer (some p16))) 9 (fun _ => True) rfl (by kernel_rfl) (by kernel_rfl) (by kernel_rfl) rfl rfl rfl trivial (fun w _ => ((x_indexAddr (s := p0) rfl rfl rfl ES_22 q16 r16).trans (by rw [hp16]))) ?_
          obtain ⟨x17, q17, h⟩ := h
          obtain ⟨x18, q18, h⟩ := h
          obtain ⟨x19, q19, h⟩ := h
          obtain ⟨x20, q20, h⟩ := h
          refine wpD_take (v := (Value.agg #[(Value.int .i64 x17), (Value.int .i64 x18), (Value.int .i64 x19), (Value.string x20)])) 10 (fun w => w.cell? (p16.add 0) = some (Value.int .i64 x17) ∧ w.cell? (p16.add 1) = some (Value.int .i64 x18) ∧ w.cell? (p16.add 2) = some (Value.int .i64 x19) ∧ w.cell? (p16.add 3) = some (Value.string x20)) rfl (by kernel_rfl) (by kernel_rfl) (by kernel_rfl) rfl rfl rfl ⟨q17, q18, q19, q20⟩ (fun w ⟨q17, q18, q19, q20⟩ => (x_loadN [(Value.int .i64 x17), (Value.int .i64 x18), (Value.int .i64 x19), (Value.string x20)] rfl rfl SH_34 (CellsAt.out (CellsAt.cons q17 (CellsAt.cons q18 (CellsAt.cons q19 (CellsAt.cons q20 CellsAt.nil))))))) ?_
          refine wpD_all (rs := [5]) (by kernel_rfl) (by simp) (allD_cons ?_ allD_nil)
          refine stepD_enterL (L' := [(10, fun w => w.cell? (p16.add 0) = some (Value.int .i64 x17) ∧ w.cell? (p16.add 1) = some (Value.int .i64 x18) ∧ w.cell? (p16.add 2) = some (Value.int .i64 x19) ∧ w.cell? (p16.add 3) = some (Value.string x20)), (9, fun _ => True), (8, fun _ => True), (7, fun _ => True), (6, fun _ => True), (3, fun _ => True), (2, fun _ => True), (1, fun _ => True)]) rfl rfl rfl rfl (x_call (vs := [(Value.pointer r4), (Value.agg #[(Value.int .i64 x12), (Value.int .i64 x13), (Value.int .i64 x14), (Value.string x15)])]) rfl rfl (by rfl) Try.func11 NN_11 NB_11) (by kernel_rfl) (Calls.mono h ?_)
          rintro _ w7 ⟨r21, rfl, h⟩
          obtain ⟨o10, h⟩ := h
          refine ⟨_, rfl, (held_cons o10 (held_cons trivial (held_cons trivial (held_cons trivial (held_cons trivial (held_cons trivial (held_cons trivial (held_cons trivial held_nil)))))))), ?_⟩
          refine wpD_all (rs := [11]) (by kernel_rfl) (by simp) (allD_cons ?_ allD_nil)
          refine stepD_enterL (L' := [(9, fun _ => True), (8, fun _ => True), (7, fun _ => True), (3, fun _ => True), (2, fun _ => True), (1, fun _ => True)]) rfl rfl rfl rfl (x_call (vs := [(Value.pointer r5), (Value.agg #[(Value.int .i64 x17), (Value.int .i64 x18), (Value.int .i64 x19), (Value.string x20)])]) rfl rfl (by rfl) Try.func12 NN_12 NB_12) (by kernel_rfl) (Calls.mono h ?_)
          rintro _ w8 ⟨r22, rfl, h⟩
          refine ⟨_, rfl, (held_cons trivial (held_cons trivial (held_cons trivial (held_cons trivial (held_cons trivial (held_cons trivial held_nil)))))), ?_⟩
          refine wpD_take (v := (Value.bool (!(decide (r21.1 = r22.1) && (beqS r21.2.1 r22.2.1 && (decide (r21.2.2 = r22.2.2) && true)))))) 12 (fun _ => True) rfl (by kernel_rfl) (by kernel_rfl) (by kernel_rfl) rfl rfl rfl trivial (fun w _ => (x_neqA rfl rfl rfl EQ1_31 EQ2_31 EQ3_31 (EQ_31 r21.1 r21.2.1 r21.2.2 r22.1 r22.2.1 r22.2.2))) ?_
          refine wpD_take (v := (Value.bool (!(decide (r21.1 = r22.1) && (beqS r21.2.1 r22.2.1 && (decide (r21.2.2 = r22.2.2) && true)))))) 13 (fun _ => True) rfl (by kernel_rfl) (by kernel_rfl) (by kernel_rfl) rfl rfl rfl trivial (fun w _ => (x_move (v := (Value.bool (!(decide (r21.1 = r22.1) && (beqS r21.2.1 r22.2.1 && (decide (r21.2.2 = r22.2.2) && true)))))) rfl rfl)) ?_
          rcases Bool.eq_false_or_eq_true (!(decide (r21.1 = r22.1) && (beqS r21.2.1 r22.2.1 && (decide (r21.2.2 = r22.2.2) && true)))) with hc23 | hc23
          · replace h := h.1 hc23
            refine wpD_pass 14 rfl (by kernel_rfl) (by kernel_rfl) (by kernel_rfl) (wantN rfl rfl rfl hc23) rfl rfl ?_
            refine wpD_pass 15 rfl (by kernel_rfl) (by kernel_rfl) (by kernel_rfl) (wantN rfl rfl rfl hc23) rfl rfl ?_
            refine wpD_pass 16 rfl (by kernel_rfl) (by kernel_rfl) (by kernel_rfl) (wantN rfl rfl rfl hc23) rfl rfl ?_
            refine wpD_pass 17 rfl (by kernel_rfl) (by kernel_rfl) (by kernel_rfl) (wantN rfl rfl rfl hc23) rfl rfl ?_
            refine wpD_pass 18 rfl (by kernel_rfl) (by kernel_rfl) (by kernel_rfl) (wantN rfl rfl rfl hc23) rfl rfl ?_
            refine wpD_pass 19 rfl (by kernel_rfl) (by kernel_rfl) (by kernel_rfl) (wantN rfl rfl rfl hc23) rfl rfl ?_
            refine wpD_pass 20 rfl (by kernel_rfl) (by kernel_rfl) (by kernel_rfl) (wantN rfl rfl rfl hc23) rfl rfl ?_
            refine wpD_pass 21 rfl (by kernel_rfl) (by kernel_rfl) (by kernel_rfl) (wantN rfl rfl rfl hc23) rfl rfl ?_
            refine wpD_take (v := (Value.bool true)) 22 (fun _ => True) rfl (by kernel_rfl) (by kernel_rfl) (by kernel_rfl) rfl rfl rfl trivial (fun w _ => (x_pickT (v := (Value.bool true)) rfl rfl hc23 rfl)) ?_
            refine wpD_take (v := (Value.bool true)) 23 (fun _ => True) rfl (by kernel_rfl) (by kernel_rfl) (by kernel_rfl) rfl rfl rfl trivial (fun w _ => (x_move (v := (Value.bool true)) rfl rfl)) ?_
            rcases Bool.eq_false_or_eq_true (true) with hc24 | hc24
            · replace h := h.1 hc24
              refine wpD_pass 24 rfl (by kernel_rfl) (by kernel_rfl) (by kernel_rfl) (wantN rfl rfl rfl hc24) rfl rfl ?_
              refine wpD_pass 25 rfl (by kernel_rfl) (by kernel_rfl) (by kernel_rfl) (wantN rfl rfl rfl hc24) rfl rfl ?_
              refine wpD_pass 26 rfl (by kernel_rfl) (by kernel_rfl) (by kernel_rfl) (wantN rfl rfl rfl hc24) rfl rfl ?_
              refine wpD_pass 27 rfl (by kernel_rfl) (by kernel_rfl) (by kernel_rfl) (wantN rfl rfl rfl hc24) rfl rfl ?_
              refine wpD_pass 28 rfl (by kernel_rfl) (by kernel_rfl) (by kernel_rfl) (wantN rfl rfl rfl hc24) rfl rfl ?_
              refine wpD_pass 29 rfl (by kernel_rfl) (by kernel_rfl) (by kernel_rfl) (wantN rfl rfl rfl hc24) rfl rfl ?_
              refine wpD_pass 30 rfl (by kernel_rfl) (by kernel_rfl) (by kernel_rfl) (wantN rfl rfl rfl hc24) rfl rfl ?_
              refine wpD_pass 31 rfl (by kernel_rfl) (by kernel_rfl) (by kernel_rfl) (wantN rfl rfl rfl hc24) rfl rfl ?_
              refine wpD_take (v := (Value.bool true)) 32 (fun _ => True) rfl (by kernel_rfl) (by kernel_rfl) (by kernel_rfl) rfl rfl rfl trivial (fun w _ => (x_pickT (v := (Value.bool true)) rfl rfl hc24 rfl)) ?_
              exact wpD_done (by kernel_rfl) ⟨true, ⟨rfl, e0, e3, e4, e5, e6, trivial⟩, h⟩
            · replace h := h.2 hc24
              refine wpD_take (v := (Value.pointer r4)) 24 (fun _ => True) rfl (by kernel_rfl) (by kernel_rfl) (by kernel_rfl) (wantG rfl rfl rfl hc24) rfl rfl trivial (fun w _ => (x_move (v := (Value.pointer r4)) rfl e4)) ?_
              refine wpD_take (v := (Value.pointer r5)) 26 (fun _ => True) rfl (by kernel_rfl) (by kernel_rfl) (by kernel_rfl) (wantG rfl rfl rfl hc24) rfl rfl trivial (fun w _ => (x_move (v := (Value.pointer r5)) rfl e5)) ?_
              obtain ⟨a25, q25, h⟩ := h
              refine wpD_take (v := (Value.pointer (some a25))) 27 (fun _ => True) rfl (by kernel_rfl) (by kernel_rfl) (by kernel_rfl) (wantG rfl rfl rfl hc24) rfl rfl trivial (fun w _ => (x_nilCheck rfl rfl q25)) ?_
              refine wpD_take (v := (Value.pointer (some (a25.add 1)))) 28 (fun _ => True) rfl (by kernel_rfl) (by kernel_rfl) (by kernel_rfl) (wantG rfl rfl rfl hc24) rfl rfl trivial (fun w _ => (x_fieldAddr rfl rfl FA_41_1)) ?_
              obtain ⟨x26, q26, h⟩ := h
              refine wpD_take (v := (Sl.v x26)) 29 (fun w => w.cell? (a25.add 1) = some (Sl.v x26)) rfl (by kernel_rfl) (by kernel_rfl) (by kernel_rfl) (wantG rfl rfl rfl hc24) rfl rfl q26 (fun w q26 => (x_load1 rfl rfl SH_38 q26)) ?_
              refine wpD_take (v := (Value.int .i64 (x26.len : Int))) 30 (fun _ => True) rfl (by kernel_rfl) (by kernel_rfl) (by kernel_rfl) (wantG rfl rfl rfl hc24) rfl rfl trivial (fun w _ => (x_lenS (s := x26) rfl rfl isSliceT_38)) ?_
              refine wpD_all (rs := [25]) (by kernel_rfl) (by simp) (allD_cons ?_ allD_nil)
              refine stepD_enterL (L' := [(30, fun _ => True), (29, fun w => w.cell? (a25.add 1) = some (Sl.v x26)), (28, fun _ => True), (27, fun _ => True), (26, fun _ => True), (22, fun _ => True), (21, fun _ => True), (20, fun _ => True), (19, fun _ => True), (18, fun _ => True), (17, fun _ => True), (16, fun _ => True), (15, fun _ => True), (14, fun _ => True), (13, fun _ => True), (12, fun _ => True), (9, fun _ => True), (8, fun _ => True), (7, fun _ => True), (3, fun _ => True), (2, fun _ => True), (1, fun _ => True)]) rfl (wantG rfl rfl rfl hc24) rfl rfl (x_call (vs := [(Value.pointer r4)]) rfl rfl (by rfl) Try.func14 NN_14 NB_14) (by kernel_rfl) (Calls.mono h ?_)
              rintro _ w9 ⟨r27, rfl, h⟩
              obtain ⟨o29, h⟩ := h
              refine ⟨_, rfl, (held_cons trivial (held_cons o29 (held_cons trivial (held_cons trivial (held_cons trivial (held_cons trivial (held_cons trivial (held_cons trivial (held_cons trivial (held_cons trivial (held_cons trivial (held_cons trivial (held_cons trivial (held_cons trivial (held_cons trivial (held_cons trivial (held_cons trivial (held_cons trivial (held_cons trivial (held_cons trivial (held_cons trivial (held_cons trivial held_nil)))))))))))))))))))))), ?_⟩
              refine wpD_take (v := (Value.bool (!decide (r27 = (x26.len : Int))))) 31 (fun _ => True) rfl (by kernel_rfl) (by kernel_rfl) (by kernel_rfl) (wantG rfl rfl rfl hc24) rfl rfl trivial (fun w _ => (x_neq rfl rfl rfl)) ?_
              refine wpD_take (v := (Value.bool (!decide (r27 = (x26.len : Int))))) 32 (fun _ => True) rfl (by kernel_rfl) (by kernel_rfl) (by kernel_rfl) rfl rfl rfl trivial (fun w _ => (x_pickF (v := (Value.bool (!decide (r27 = (x26.len : Int))))) rfl rfl hc24 rfl)) ?_
              exact wpD_done (by kernel_rfl) ⟨!decide (r27 = (x26.len : Int)), ⟨rfl, e0, e3, e4, e5, e6, trivial⟩, h⟩
          · replace h := h.2 hc23
            refine wpD_take (v := (Value.pointer r4)) 14 (fun _ => True) rfl (by kernel_rfl) (by kernel_rfl) (by kernel_rfl) (wantG rfl rfl rfl hc23) rfl rfl trivial (fun w _ => (x_move (v := (Value.pointer r4)) rfl e4)) ?_
            refine wpD_take (v := (Value.pointer r5)) 16 (fun _ => True) rfl (by kernel_rfl) (by kernel_rfl) (by kernel_rfl) (wantG rfl rfl rfl hc23) rfl rfl trivial (fun w _ => (x_move (v := (Value.pointer r5)) rfl e5)) ?_
            obtain ⟨a28, q28, h⟩ := h
            refine wpD_take (v := (Value.pointer (some a28))) 17 (fun _ => True) rfl (by kernel_rfl) (by kernel_rfl) (by kernel_rfl) (wantG rfl rfl rfl hc23) rfl rfl trivial (fun w _ => (x_nilCheck rfl rfl q28)) ?_
            refine wpD_take (v := (Value.pointer (some (a28.add 0)))) 18 (fun _ => True) rfl (by kernel_rfl) (by kernel_rfl) (by kernel_rfl) (wantG rfl rfl rfl hc23) rfl rfl trivial (fun w _ => (x_fieldAddr rfl rfl FA_41_0)) ?_
            obtain ⟨x29, q29, h⟩ := h
            refine wpD_take (v := (Sl.v x29)) 19 (fun w => w.cell? (a28.add 0) = some (Sl.v x29)) rfl (by kernel_rfl) (by kernel_rfl) (by kernel_rfl) (wantG rfl rfl rfl hc23) rfl rfl q29 (fun w q29 => (x_load1 rfl rfl SH_37 q29)) ?_
            refine wpD_take (v := (Value.int .i64 (x29.len : Int))) 20 (fun _ => True) rfl (by kernel_rfl) (by kernel_rfl) (by kernel_rfl) (wantG rfl rfl rfl hc23) rfl rfl trivial (fun w _ => (x_lenS (s := x29) rfl rfl isSliceT_37)) ?_
            refine wpD_all (rs := [15]) (by kernel_rfl) (by simp) (allD_cons ?_ allD_nil)
            refine stepD_enterL (L' := [(20, fun _ => True), (19, fun w => w.cell? (a28.add 0) = some (Sl.v x29)), (18, fun _ => True), (17, fun _ => True), (16, fun _ => True), (12, fun _ => True), (9, fun _ => True), (8, fun _ => True), (7, fun _ => True), (3, fun _ => True), (2, fun _ => True), (1, fun _ => True)]) rfl (wantG rfl rfl rfl hc23) rfl rfl (x_call (vs := [(Value.pointer r4)]) rfl rfl (by rfl) Try.func13 NN_13 NB_13) (by kernel_rfl) (Calls.mono h ?_)
            rintro _ w10 ⟨r30, rfl, h⟩
            obtain ⟨o19, h⟩ := h
            refine ⟨_, rfl, (held_cons trivial (held_cons o19 (held_cons trivial (held_cons trivial (held_cons trivial (held_cons trivial (held_cons trivial (held_cons trivial (held_cons trivial (held_cons trivial (held_cons trivial (held_cons trivial held_nil)))))))))))), ?_⟩
            refine wpD_take (v := (Value.bool (!decide (r30 = (x29.len : Int))))) 21 (fun _ => True) rfl (by kernel_rfl) (by kernel_rfl) (by kernel_rfl) (wantG rfl rfl rfl hc23) rfl rfl trivial (fun w _ => (x_neq rfl rfl rfl)) ?_
            refine wpD_take (v := (Value.bool (!decide (r30 = (x29.len : Int))))) 22 (fun _ => True) rfl (by kernel_rfl) (by kernel_rfl) (by kernel_rfl) rfl rfl rfl trivial (fun w _ => (x_pickF (v := (Value.bool (!decide (r30 = (x29.len : Int))))) rfl rfl hc23 rfl)) ?_
            refine wpD_take (v := (Value.bool (!decide (r30 = (x29.len : Int))))) 23 (fun _ => True) rfl (by kernel_rfl) (by kernel_rfl) (by kernel_rfl) rfl rfl rfl trivial (fun w _ => (x_move (v := (Value.bool (!decide (r30 = (x29.len : Int))))) rfl rfl)) ?_
            rcases Bool.eq_false_or_eq_true (!decide (r30 = (x29.len : Int))) with hc31 | hc31
            · replace h := h.1 hc31
              refine wpD_pass 24 rfl (by kernel_rfl) (by kernel_rfl) (by kernel_rfl) (wantN rfl rfl rfl hc31) rfl rfl ?_
              refine wpD_pass 25 rfl (by kernel_rfl) (by kernel_rfl) (by kernel_rfl) (wantN rfl rfl rfl hc31) rfl rfl ?_
              refine wpD_pass 26 rfl (by kernel_rfl) (by kernel_rfl) (by kernel_rfl) (wantN rfl rfl rfl hc31) rfl rfl ?_
              refine wpD_pass 27 rfl (by kernel_rfl) (by kernel_rfl) (by kernel_rfl) (wantN rfl rfl rfl hc31) rfl rfl ?_
              refine wpD_pass 28 rfl (by kernel_rfl) (by kernel_rfl) (by kernel_rfl) (wantN rfl rfl rfl hc31) rfl rfl ?_
              refine wpD_pass 29 rfl (by kernel_rfl) (by kernel_rfl) (by kernel_rfl) (wantN rfl rfl rfl hc31) rfl rfl ?_
              refine wpD_pass 30 rfl (by kernel_rfl) (by kernel_rfl) (by kernel_rfl) (wantN rfl rfl rfl hc31) rfl rfl ?_
              refine wpD_pass 31 rfl (by kernel_rfl) (by kernel_rfl) (by kernel_rfl) (wantN rfl rfl rfl hc31) rfl rfl ?_
              refine wpD_take (v := (Value.bool true)) 32 (fun _ => True) rfl (by kernel_rfl) (by kernel_rfl) (by kernel_rfl) rfl rfl rfl trivial (fun w _ => (x_pickT (v := (Value.bool true)) rfl rfl hc31 rfl)) ?_
              exact wpD_done (by kernel_rfl) ⟨true, ⟨rfl, e0, e3, e4, e5, e6, trivial⟩, h⟩
            · replace h := h.2 hc31
              refine wpD_take (v := (Value.pointer r4)) 24 (fun _ => True) rfl (by kernel_rfl) (by kernel_rfl) (by kernel_rfl) (wantG rfl rfl rfl hc31) rfl rfl trivial (fun w _ => (x_move (v := (Value.pointer r4)) rfl e4)) ?_
              refine wpD_take (v := (Value.pointer r5)) 26 (fun _ => True) rfl (by kernel_rfl) (by kernel_rfl) (by kernel_rfl) (wantG rfl rfl rfl hc31) rfl rfl trivial (fun w _ => (x_move (v := (Value.pointer r5)) rfl e5)) ?_
              obtain ⟨a32, q32, h⟩ := h
              refine wpD_take (v := (Value.pointer (some a32))) 27 (fun _ => True) rfl (by kernel_rfl) (by kernel_rfl) (by kernel_rfl) (wantG rfl rfl rfl hc31) rfl rfl trivial (fun w _ => (x_nilCheck rfl rfl q32)) ?_
              refine wpD_take (v := (Value.pointer (some (a32.add 1)))) 28 (fun _ => True) rfl (by kernel_rfl) (by kernel_rfl) (by kernel_rfl) (wantG rfl rfl rfl hc31) rfl rfl trivial (fun w _ => (x_fieldAddr rfl rfl FA_41_1)) ?_
              obtain ⟨x33, q33, h⟩ := h
              refine wpD_take (v := (Sl.v x33)) 29 (fun w => w.cell? (a32.add 1) = some (Sl.v x33)) rfl (by kernel_rfl) (by kernel_rfl) (by kernel_rfl) (wantG rfl rfl rfl hc31) rfl rfl q33 (fun w q33 => (x_load1 rfl rfl SH_38 q33)) ?_
              refine wpD_take (v := (Value.int .i64 (x33.len : Int))) 30 (fun _ => True) rfl (by kernel_rfl) (by kernel_rfl) (by kernel_rfl) (wantG rfl rfl rfl hc31) rfl rfl trivial (fun w _ => (x_lenS (s := x33) rfl rfl isSliceT_38)) ?_
              refine wpD_all (rs := [25]) (by kernel_rfl) (by simp) (allD_cons ?_ allD_nil)
              refine stepD_enterL (L' := [(30, fun _ => True), (29, fun w => w.cell? (a32.add 1) = some (Sl.v x33)), (28, fun _ => True), (27, fun _ => True), (26, fun _ => True), (22, fun _ => True), (21, fun _ => True), (20, fun _ => True), (19, fun w => w.cell? (a28.add 0) = some (Sl.v x29)), (18, fun _ => True), (17, fun _ => True), (16, fun _ => True), (12, fun _ => True), (9, fun _ => True), (8, fun _ => True), (7, fun _ => True), (3, fun _ => True), (2, fun _ => True), (1, fun _ => True)]) rfl (wantG rfl rfl rfl hc31) rfl rfl (x_call (vs := [(Value.pointer r4)]) rfl rfl (by rfl) Try.func14 NN_14 NB_14) (by kernel_rfl) (Calls.mono h ?_)
              rintro _ w11 ⟨r34, rfl, h⟩
              obtain ⟨o29, h⟩ := h
              obtain ⟨o19, h⟩ := h
              refine ⟨_, rfl, (held_cons trivial (held_cons o29 (held_cons trivial (held_cons trivial (held_cons trivial (held_cons trivial (held_cons trivial (held_cons trivial (held_cons o19 (held_cons trivial (held_cons trivial (held_cons trivial (held_cons trivial (held_cons trivial (held_cons trivial (held_cons trivial (held_cons trivial (held_cons trivial (held_cons trivial held_nil))))))))))))))))))), ?_⟩
              refine wpD_take (v := (Value.bool (!decide (r34 = (x33.len : Int))))) 31 (fun _ => True) rfl (by kernel_rfl) (by kernel_rfl) (by kernel_rfl) (wantG rfl rfl rfl hc31) rfl rfl trivial (fun w _ => (x_neq rfl rfl rfl)) ?_
              refine wpD_take (v := (Value.bool (!decide (r34 = (x33.len : Int))))) 32 (fun _ => True) rfl (by kernel_rfl) (by kernel_rfl) (by kernel_rfl) rfl rfl rfl trivial (fun w _ => (x_pickF (v := (Value.bool (!decide (r34 = (x33.len : Int))))) rfl rfl hc31 rfl)) ?_
              exact wpD_done (by kernel_rfl) ⟨!decide (r34 = (x33.len : Int)), ⟨rfl, e0, e3, e4, e5, e6, trivial⟩, h⟩
        clear h
        rintro l35 ρ w12 ⟨e54, e0, e3, e4, e5, e6, -⟩ h
        replace h := hk l35 w12 h
        clear hk
        refine wpC_cond (b := l35) e54 (fun hc36 => ?_) (fun hc36 => ?_)
        · replace h := h.1 hc36
          refine wpC_seq ?_
          refine wpC_region ?_
          refine wpR_val (v := (Value.bool false)) (w' := w12) rfl rfl rfl (x_assign (v := (Value.bool false)) rfl rfl) ?_
          refine wpR_nil ?_
          refine wpC_ret ?_
          exact ⟨.inl rfl, fun a ha => ⟨_, results_rep1 rfl ha rfl, false, rfl, h⟩⟩
        · replace h := h.2 hc36
          refine wpC_skip ?_
          refine wpC_region ?_
          refine wpR_val (v := (Value.int .i64 l7)) (w' := w12) rfl rfl rfl (x_move (v := (Value.int .i64 l7)) rfl e6) ?_
          refine wpR_val (v := (Value.int .i64 (IntKind.i64.wrap (l7 + 1)))) (w' := w12) rfl rfl rfl (x_add rfl rfl rfl) ?_
          refine wpR_val (v := (Value.int .i64 (IntKind.i64.wrap (l7 + 1)))) (w' := w12) rfl rfl rfl (x_assign (v := (Value.int .i64 (IntKind.i64.wrap (l7 + 1)))) rfl rfl) ?_
          refine wpR_nil ?_
          exact ⟨IntKind.i64.wrap (l7 + 1), ⟨rfl, e0, e3, e4, e5, trivial⟩, h⟩
      · replace h := h.2 hc8
        refine wpC_exit ?_
        refine wpC_seq ?_
        refine wpC_cut (fun ρ => ρ 3 = (Value.bool r1) ∧ True) ⟨e3, trivial⟩ ?_
        rintro ρ ⟨e3, -⟩
        refine wpC_region ?_
        refine wpR_val (v := (Value.bool r1)) (w' := w5) rfl rfl rfl (x_move (v := (Value.bool r1)) rfl e3) ?_
        refine wpR_val (v := (Value.bool r1)) (w' := w5) rfl rfl rfl (x_assign (v := (Value.bool r1)) rfl rfl) ?_
        refine wpR_nil ?_
        refine wpC_ret ?_
        exact ⟨.inl rfl, fun a ha => ⟨_, results_rep1 rfl ha rfl, r1, rfl, h⟩⟩

/-- lingualaw05.VaultOpens -/
def F5 (p0 : Sl) (w0 : World) (K : Bool → World → Prop) : Prop :=
  callC Try.prog 7 #[] (fun (r : Bool) => (Value.bool r)) w0 fun r1 w1 =>
  callC Try.prog 8 #[(Sl.v p0), (Value.int .i64 60)] (fun (r : Bool) => (Value.bool r)) w1 fun r2 w2 =>
  cnd (!r2)
    (
    K r1 w2
    )
    (
    callC Try.prog 9 #[] (fun (r : (Option Addr)) => (Value.pointer r)) w2 fun r4 w3 =>
    cnd (r4.isNone)
      (
      K false w3
      )
      (
      lp (fun (next6 : (Sl × Sl × Sl × Int) → World → Prop) l6 w4 =>
        cnd (decide (l6.2.2.2 < (p0.len : Int)))
          (
          jn (fun (J8 : (Sl × Sl × Sl) → World → Prop) =>
            ix p0 l6.2.2.2 4 fun p10 =>
            ld (Value.int .i64) (p10.add 0) w4 fun x11 =>
            ld (Value.int .i64) (p10.add 1) w4 fun x12 =>
            ld (Value.int .i64) (p10.add 2) w4 fun x13 =>
            ld Value.string (p10.add 3) w4 fun x14 =>
            callC Try.prog 11 #[(Value.pointer r4), (Value.agg #[(Value.int .i64 x11), (Value.int .i64 x12), (Value.int .i64 x13), (Value.string x14)])] (fun (r : Int × ByteArray × Int) => (Value.agg #[(Value.int .i64 r.1), (Value.string r.2.1), (Value.int .i64 r.2.2)])) w4 fun r15 w6 =>
            nw 31 #[(Value.int .i64 0), (Value.string (ByteArray.mk #[])), (Value.int .i64 0)] w6 fun b16 w7 =>
            st (Addr.mk b16 0 none) [(Value.int .i64 r15.1), (Value.string r15.2.1), (Value.int .i64 r15.2.2)] w7 fun w8 =>
            jn (fun (J18 : (Sl × Sl) → World → Prop) =>
              ix p0 l6.2.2.2 4 fun p20 =>
              ld (Value.int .i64) (p20.add 0) w8 fun x21 =>
              jp (fun J22 => cnd (decide (x21 = 1))
                (
                ld (Value.int .i64) ((Addr.mk b16 0 none).add 2) w8 fun x24 =>
                J22 (decide (x24 = 0))
                )
                (
                J22 false
                ))
              fun c25 =>
              cnd (c25)
                (
                ld (Value.int .i64) ((Addr.mk b16 0 none).add 0) w8 fun x27 =>
                cnd (!decide (x27 = (l6.1.len : Int)))
                  (
                  K false w8
                  )
                  (
                  ix p0 l6.2.2.2 4 fun p29 =>
                  ld (Value.int .i64) (p29.add 1) w8 fun x30 =>
                  nw 3 #[(Value.int .i64 x30)] w8 fun b31 w10 =>
                  rn Try.prog (Builtin.append_ #[38, 38] 38 #[Sl.v l6.1, Sl.v (⟨some ⟨b31, 0, none⟩, 1, 1⟩ : Sl)]) Sl.v w10 fun r32 w11 =>
                  ix p0 l6.2.2.2 4 fun p33 =>
                  ld Value.string (p33.add 3) w11 fun x34 =>
                  nw 9 #[(Value.string x34)] w11 fun b35 w12 =>
                  rn Try.prog (Builtin.append_ #[39, 39] 39 #[Sl.v l6.2.1, Sl.v (⟨some ⟨b35, 0, none⟩, 1, 1⟩ : Sl)]) Sl.v w12 fun r36 w13 =>
                  J18 (r32, r36) w13
                  )
                )
                (
                J18 (l6.1, l6.2.1) w8
                )
            )
            fun l19 w9 =>
            ix p0 l6.2.2.2 4 fun p37 =>
            ld (Value.int .i64) (p37.add 0) w9 fun x38 =>
            jp (fun J39 => cnd (decide (x38 = 3))
              (
              ld (Value.int .i64) ((Addr.mk b16 0 none).add 2) w9 fun x41 =>
              J39 (decide (x41 = 0))
              )
              (
              J39 false
              ))
            fun c42 =>
            cnd (c42)
              (
              ix p0 l6.2.2.2 4 fun p44 =>
              ld (Value.int .i64) (p44.add 1) w9 fun x45 =>
              nw 3 #[(Value.int .i64 x45)] w9 fun b46 w14 =>
              rn Try.prog (Builtin.append_ #[38, 38] 38 #[Sl.v l6.2.2.1, Sl.v (⟨some ⟨b46, 0, none⟩, 1, 1⟩ : Sl)]) Sl.v w14 fun r47 w15 =>
              J8 (l19.1, l19.2, r47) w15
              )
              (
              J8 (l19.1, l19.2, l6.2.2.1) w9
              )
          )
          fun l9 w5 =>
          next6 (l9.1, l9.2.1, l9.2.2, IntKind.i64.wrap (l6.2.2.2 + 1)) w5
          )
          (
          lp (fun (next48 : Int → World → Prop) l48 w16 =>
            cnd (decide (l48 < (l6.1.len : Int)))
              (
              lp (fun (next50 : (Bool × Int) → World → Prop) l50 w17 =>
                cnd (decide (l50.2 < (l6.2.2.1.len : Int)))
                  (
                  jn (fun (J53 : Bool → World → Prop) => tk w17 fun w18 =>
                    cnd (l50.1)
                      (
                      J53 true w18
                      )
                      (
                      ix l6.2.2.1 l50.2 1 fun p55 =>
                      ld (Value.int .i64) p55 w18 fun x56 =>
                      ix l6.1 l48 1 fun p57 =>
                      ld (Value.int .i64) p57 w18 fun x58 =>
                      J53 (decide (x56 = x58)) w18
                      )
                  )
                  fun l59 w19 =>
                  next50 (l59, IntKind.i64.wrap (l50.2 + 1)) w19
                  )
                  (
                  lp (fun (next60 : Int → World → Prop) l60 w20 =>
                    callC Try.prog 13 #[(Value.pointer r4)] (fun (r : Int) => (Value.int .i64 r)) w20 fun r61 w21 =>
                    cnd ((decide (l60 ≤ r61)) && (decide (l60 < 64)))
                      (
                      jn (fun (J65 : Unit → World → Prop) =>
                        callC Try.prog 15 #[(Value.pointer r4), (Value.int .i64 l60), (Value.int .i64 l48)] (fun (r : ByteArray × Int) => (Value.tuple #[(Value.string r.1), (Value.int .i64 r.2)])) w21 fun r67 w23 =>
                        ix l6.1 l48 1 fun p68 =>
                        ld (Value.int .i64) p68 w23 fun x69 =>
                        cnd ((decide (l60 = x69)) && (!l50.1))
                          (
                          jp (fun J73 => cnd (!decide (r67.2 = 0))
                            (
                            J73 true
                            )
                            (
                            ix l6.2.1 l48 1 fun p75 =>
                            ld Value.string p75 w23 fun x76 =>
                            J73 (!beqS r67.1 x76)
                            ))
                          fun c77 =>
                          cnd (c77)
                            (
                            K false w23
                            )
                            (
                            J65 () w23
                            )
                          )
                          (
                          cnd ((!decide (r67.2 = 13)) || (!beqS r67.1 (ByteArray.mk #[])))
                            (
                            K false w23
                            )
                            (
                            J65 () w23
                            )
                          )
                      )
                      fun _l66 w22 =>
                      next60 (IntKind.i64.wrap (l60 + 1)) w22
                      )
                      (
                      next48 (IntKind.i64.wrap (l48 + 1)) w21
                      )
                  ) (-1) w17
                  )
              ) (false, 0) w16
              )
              (
              K r1 w16
              )
          ) 0 w4
          )
      ) (Sl.nil, Sl.nil, Sl.nil, 0) w3
      )
    )
set_option maxRecDepth 100000 in
theorem D5 (p0 : Sl) (w0 : World) (K : Bool → World → Prop) (h : F5 p0 w0 K) : callC Try.prog 5 #[(Sl.v p0)] (fun (r : Bool) => (Value.bool r)) w0 K := by
  unfold F5 at h
  refine calls_of_wpC Try.func5 rfl 155 rfl (by simp) ?_
  intro ρ hρ
  have e0 : ρ 0 = (Sl.v p0) := hρ 0
  clear hρ
  refine wpC_seq ?_
  refine wpC_region ?_
  refine wpR_val (v := (Value.bool false)) (w' := w0) rfl rfl rfl (x_assign (v := (Value.bool false)) rfl rfl) ?_
  refine wpR_nil ?_
  refine wpC_seq ?_
  refine wpC_cut (fun ρ => ρ 0 = (Sl.v p0) ∧ True) ⟨e0, trivial⟩ ?_
  rintro ρ ⟨e0, -⟩
  refine wpC_region ?_
  refine wpR_enter rfl rfl rfl (x_call (vs := []) rfl rfl (by rfl) Try.func7 NN_7 NB_7) (Calls.mono h ?_)
  rintro _ w1 ⟨r1, rfl, h⟩
  refine ⟨_, rfl, ?_⟩
  refine wpR_val (v := (Value.bool r1)) (w' := w1) rfl rfl rfl (x_assign (v := (Value.bool r1)) rfl rfl) ?_
  refine wpR_nil ?_
  refine wpC_seq ?_
  refine wpC_seq ?_
  refine wpC_cut (fun ρ => ρ 0 = (Sl.v p0) ∧ ρ 3 = (Value.bool r1) ∧ True) ⟨e0, rfl, trivial⟩ ?_
  rintro ρ ⟨e0, e3, -⟩
  refine wpC_region ?_
  refine wpR_val (v := (Sl.v p0)) (w' := w1) rfl rfl rfl (x_move (v := (Sl.v p0)) rfl e0) ?_
  refine wpR_enter rfl rfl rfl (x_call (vs := [(Sl.v p0), (Value.int .i64 60)]) rfl rfl (by rfl) Try.func8 NN_8 NB_8) (Calls.mono h ?_)
  rintro _ w2 ⟨r2, rfl, h⟩
  refine ⟨_, rfl, ?_⟩
  refine wpR_val (v := (Value.bool (!r2))) (w' := w2) rfl rfl rfl (x_not rfl rfl) ?_
  refine wpR_nil ?_
  refine wpC_cond (b := !r2) rfl (fun hc3 => ?_) (fun hc3 => ?_)
  · replace h := h.1 hc3
    refine wpC_seq ?_
    refine wpC_cut (fun ρ => ρ 3 = (Value.bool r1) ∧ True) ⟨e3, trivial⟩ ?_
    rintro ρ ⟨e3, -⟩
    refine wpC_region ?_
    refine wpR_val (v := (Value.bool r1)) (w' := w2) rfl rfl rfl (x_move (v := (Value.bool r1)) rfl e3) ?_
    refine wpR_val (v := (Value.bool r1)) (w' := w2) rfl rfl rfl (x_assign (v := (Value.bool r1)) rfl rfl) ?_
    refine wpR_nil ?_
    refine wpC_ret ?_
    exact ⟨.inl rfl, fun a ha => ⟨_, results_rep1 rfl ha rfl, r1, rfl, h⟩⟩
  · replace h := h.2 hc3
    refine wpC_skip ?_
    refine wpC_seq ?_
    refine wpC_cut (fun ρ => ρ 0 = (Sl.v p0) ∧ ρ 3 = (Value.bool r1) ∧ True) ⟨e0, e3, trivial⟩ ?_
    rintro ρ ⟨e0, e3, -⟩
    refine wpC_region ?_
    refine wpR_enter rfl rfl rfl (x_call (vs := []) rfl rfl (by rfl) Try.func9 NN_9 NB_9) (Calls.mono h ?_)
    rintro _ w3 ⟨r4, rfl, h⟩
    refine ⟨_, rfl, ?_⟩
    refine wpR_val (v := (Value.pointer r4)) (w' := w3) rfl rfl rfl (x_assign (v := (Value.pointer r4)) rfl rfl) ?_
    refine wpR_nil ?_
    refine wpC_seq ?_
    refine wpC_seq ?_
    refine wpC_cut (fun ρ => ρ 0 = (Sl.v p0) ∧ ρ 3 = (Value.bool r1) ∧ ρ 4 = (Value.pointer r4) ∧ True) ⟨e0, e3, rfl, trivial⟩ ?_
    rintro ρ ⟨e0, e3, e4, -⟩
    refine wpC_region ?_
    refine wpR_val (v := (Value.pointer r4)) (w' := w3) rfl rfl rfl (x_move (v := (Value.pointer r4)) rfl e4) ?_
    refine wpR_val (v := (Value.bool r4.isNone)) (w' := w3) rfl rfl rfl (x_eqlNil rfl rfl rfl isPtrT_25) ?_
    refine wpR_nil ?_
    refine wpC_cond (b := r4.isNone) rfl (fun hc5 => ?_) (fun hc5 => ?_)
    · replace h := h.1 hc5
      refine wpC_seq ?_
      refine wpC_cut (fun ρ => True) trivial ?_
      rintro ρ -
      refine wpC_region ?_
      refine wpR_val (v := (Value.bool false)) (w' := w3) rfl rfl rfl (x_assign (v := (Value.bool false)) rfl rfl) ?_
      refine wpR_nil ?_
      refine wpC_ret ?_
      exact ⟨.inl rfl, fun a ha => ⟨_, results_rep1 rfl ha rfl, false, rfl, h⟩⟩
    · replace h := h.2 hc5
      refine wpC_skip ?_
      refine wpC_seq ?_
      refine wpC_cut (fun ρ => ρ 0 = (Sl.v p0) ∧ ρ 3 = (Value.bool r1) ∧ ρ 4 = (Value.pointer r4) ∧ True) ⟨e0, e3, e4, trivial⟩ ?_
      rintro ρ ⟨e0, e3, e4, -⟩
      refine wpC_region ?_
      refine wpR_val (v := (Sl.v Sl.nil)) (w' := w3) rfl rfl rfl (x_assign (v := (Sl.v Sl.nil)) rfl rfl) ?_
      refine wpR_nil ?_
      refine wpC_seq ?_
      refine wpC_cut (fun ρ => ρ 0 = (Sl.v p0) ∧ ρ 3 = (Value.bool r1) ∧ ρ 4 = (Value.pointer r4) ∧ ρ 5 = (Sl.v Sl.nil) ∧ True) ⟨e0, e3, e4, rfl, trivial⟩ ?_
      rintro ρ ⟨e0, e3, e4, e5, -⟩
      refine wpC_region ?_
      refine wpR_val (v := (Sl.v Sl.nil)) (w' := w3) rfl rfl rfl (x_assign (v := (Sl.v Sl.nil)) rfl rfl) ?_
      refine wpR_nil ?_
      refine wpC_seq ?_
      refine wpC_cut (fun ρ => ρ 0 = (Sl.v p0) ∧ ρ 3 = (Value.bool r1) ∧ ρ 4 = (Value.pointer r4) ∧ ρ 5 = (Sl.v Sl.nil) ∧ ρ 6 = (Sl.v Sl.nil) ∧ True) ⟨e0, e3, e4, e5, rfl, trivial⟩ ?_
      rintro ρ ⟨e0, e3, e4, e5, e6, -⟩
      refine wpC_region ?_
      refine wpR_val (v := (Sl.v Sl.nil)) (w' := w3) rfl rfl rfl (x_assign (v := (Sl.v Sl.nil)) rfl rfl) ?_
      refine wpR_nil ?_
      refine wpC_seq ?_
      refine wpC_seq ?_
      refine wpC_cut (fun ρ => ρ 0 = (Sl.v p0) ∧ ρ 3 = (Value.bool r1) ∧ ρ 4 = (Value.pointer r4) ∧ ρ 5 = (Sl.v Sl.nil) ∧ ρ 6 = (Sl.v Sl.nil) ∧ ρ 7 = (Sl.v Sl.nil) ∧ True) ⟨e0, e3, e4, e5, e6, rfl, trivial⟩ ?_
      rintro ρ ⟨e0, e3, e4, e5, e6, e7, -⟩
      refine wpC_region ?_
      refine wpR_val (v := (Value.int .i64 0)) (w' := w3) rfl rfl rfl (x_assign (v := (Value.int .i64 0)) rfl rfl) ?_
      refine wpR_nil ?_
      refine wpC_block ?_
      obtain ⟨I6, μ6, hI6, hr6⟩ := h
      refine wpC_loop (fun (x : Sl × Sl × Sl × Int) ρ => ρ 5 = (Sl.v x.1) ∧ ρ 6 = (Sl.v x.2.1) ∧ ρ 7 = (Sl.v x.2.2.1) ∧ ρ 8 = (Value.int .i64 x.2.2.2) ∧ ρ 0 = (Sl.v p0) ∧ ρ 3 = (Value.bool r1) ∧ ρ 4 = (Value.pointer r4) ∧ True) I6 μ6 (Sl.nil, Sl.nil, Sl.nil, 0) ⟨e5, e6, e7, rfl, e0, e3, e4, trivial⟩ hI6 ?_
      rintro l6 ρ w4 ⟨e5, e6, e7, e8, e0, e3, e4, -⟩ h
      replace h := hr6 l6 w4 h
      clear hr6 hI6
      refine wpC_seq ?_
      refine wpC_seq ?_
      refine wpC_region ?_
      refine wpR_val (v := (Value.int .i64 l6.2.2.2)) (w' := w4) rfl rfl rfl (x_move (v := (Value.int .i64 l6.2.2.2)) rfl e8) ?_
      refine wpR_val (v := (Sl.v p0)) (w' := w4) rfl rfl rfl (x_move (v := (Sl.v p0)) rfl e0) ?_
      refine wpR_val (v := (Value.int .i64 (p0.len : Int))) (w' := w4) rfl rfl rfl (x_lenS (s := p0) rfl rfl isSliceT_22) ?_
      refine wpR_val (v := (Value.bool (decide (l6.2.2.2 < (p0.len : Int))))) (w' := w4) rfl rfl rfl (x_lss rfl rfl rfl) ?_
      refine wpR_nil ?_
      refine wpC_cond (b := decide (l6.2.2.2 < (p0.len : Int))) rfl (fun hc7 => ?_) (fun hc7 => ?_)
      · replace h := h.1 hc7
        refine wpC_skip ?_
        obtain ⟨J8, h, hk⟩ := h
        refine wpC_seqJ (fun (x : Sl × Sl × Sl) ρ => ρ 5 = (Sl.v x.1) ∧ ρ 6 = (Sl.v x.2.1) ∧ ρ 7 = (Sl.v x.2.2) ∧ ρ 0 = (Sl.v p0) ∧ ρ 3 = (Value.bool r1) ∧ ρ 4 = (Value.pointer r4) ∧ ρ 8 = (Value.int .i64 l6.2.2.2) ∧ True) J8 ?_ ?_
        · clear hk
          refine wpC_block ?_
          refine wpC_seq ?_
          refine wpC_cut (fun ρ => ρ 0 = (Sl.v p0) ∧ ρ 3 = (Value.bool r1) ∧ ρ 4 = (Value.pointer r4) ∧ ρ 5 = (Sl.v l6.1) ∧ ρ 6 = (Sl.v l6.2.1) ∧ ρ 7 = (Sl.v l6.2.2.1) ∧ ρ 8 = (Value.int .i64 l6.2.2.2) ∧ True) ⟨e0, e3, e4, e5, e6, e7, e8, trivial⟩ ?_
          rintro ρ ⟨e0, e3, e4, e5, e6, e7, e8, -⟩
          refine wpC_region ?_
          refine wpR_val (v := (Value.pointer r4)) (w' := w4) rfl rfl rfl (x_move (v := (Value.pointer r4)) rfl e4) ?_
          refine wpR_val (v := (Sl.v p0)) (w' := w4) rfl rfl rfl (x_move (v := (Sl.v p0)) rfl e0) ?_
          refine wpR_val (v := (Value.int .i64 l6.2.2.2)) (w' := w4) rfl rfl rfl (x_move (v := (Value.int .i64 l6.2.2.2)) rfl e8) ?_
          obtain ⟨q10, z10, r10, h⟩ := h
          generalize hp10 : z10.add ((l6.2.2.2).toNat * 4) = p10 at h
          refine wpR_val (v := (Value.pointer (some p10))) (w' := w4) rfl rfl rfl ((x_indexAddr (s := p0) rfl rfl rfl ES_22 q10 r10).trans (by rw [hp10])) ?_
          obtain ⟨x11, q11, h⟩ := h
          obtain ⟨x12, q12, h⟩ := h
          obtain ⟨x13, q13, h⟩ := h
          obtain ⟨x14, q14, h⟩ := h
          refine wpR_val (v := (Value.agg #[(Value.int .i64 x11), (Value.int .i64 x12), (Value.int .i64 x13), (Value.string x14)])) (w' := w4) rfl rfl rfl (x_loadN [(Value.int .i64 x11), (Value.int .i64 x12), (Value.int .i64 x13), (Value.string x14)] rfl rfl SH_34 (CellsAt.out (CellsAt.cons q11 (CellsAt.cons q12 (CellsAt.cons q13 (CellsAt.cons q14 CellsAt.nil)))))) ?_
          refine wpR_enter rfl rfl rfl (x_call (vs := [(Value.pointer r4), (Value.agg #[(Value.int .i64 x11), (Value.int .i64 x12), (Value.int .i64 x13), (Value.string x14)])]) rfl rfl (by rfl) Try.func11 NN_11 NB_11) (Calls.mono h ?_)
          rintro _ w6 ⟨r15, rfl, h⟩
          refine ⟨_, rfl, ?_⟩
          obtain ⟨b16, hb16⟩ : ∃ u, u = w6.heap.size := ⟨_, rfl⟩
          obtain ⟨w7, hw16⟩ : ∃ u, u = w6.alloc (.cells #[(Value.int .i64 0), (Value.string (ByteArray.mk #[])), (Value.int .i64 0)] 31) := ⟨_, rfl⟩
          replace h := h b16 w7 hb16 hw16
          refine wpR_val (v := (Value.pointer (some (Addr.mk b16 0 none)))) (w' := w7) rfl rfl rfl ((x_alloc rfl ZV_31).trans (by rw [hb16, hw16]; rfl)) ?_
          obtain ⟨q17, h⟩ := h
          obtain ⟨w8, hw17⟩ : ∃ u, u = setAll w7 (Addr.mk b16 0 none) [(Value.int .i64 r15.1), (Value.string r15.2.1), (Value.int .i64 r15.2.2)] 0 := ⟨_, rfl⟩
          replace h := h w8 hw17
          refine wpR_skp (w' := w8) rfl rfl ((x_store (v := (Value.agg #[(Value.int .i64 r15.1), (Value.string r15.2.1), (Value.int .i64 r15.2.2)])) rfl rfl rfl SZ_31 (ones (by rfl)) q17).trans (by rw [hw17]; rfl)) ?_
          refine wpR_nil ?_
          obtain ⟨J18, h, hk⟩ := h
          refine wpC_seqJ (fun (x : Sl × Sl) ρ => ρ 5 = (Sl.v x.1) ∧ ρ 6 = (Sl.v x.2) ∧ ρ 0 = (Sl.v p0) ∧ ρ 3 = (Value.bool r1) ∧ ρ 4 = (Value.pointer r4) ∧ ρ 7 = (Sl.v l6.2.2.1) ∧ ρ 8 = (Value.int .i64 l6.2.2.2) ∧ ρ 9 = (Value.pointer (some (Addr.mk b16 0 none))) ∧ True) J18 ?_ ?_
          · clear hk
            refine wpC_seq ?_
            refine wpC_cut (fun ρ => ρ 0 = (Sl.v p0) ∧ ρ 3 = (Value.bool r1) ∧ ρ 4 = (Value.pointer r4) ∧ ρ 5 = (Sl.v l6.1) ∧ ρ 6 = (Sl.v l6.2.1) ∧ ρ 7 = (Sl.v l6.2.2.1) ∧ ρ 8 = (Value.int .i64 l6.2.2.2) ∧ ρ 9 = (Value.pointer (some (Addr.mk b16 0 none))) ∧ True) ⟨e0, e3, e4, e5, e6, e7, e8, rfl, trivial⟩ ?_
            rintro ρ ⟨e0, e3, e4, e5, e6, e7, e8, e9, -⟩
            refine wpC_region ?_
            refine wpR_val (v := (Sl.v p0)) (w' := w8) rfl rfl rfl (x_move (v := (Sl.v p0)) rfl e0) ?_
            refine wpR_val (v := (Value.int .i64 l6.2.2.2)) (w' := w8) rfl rfl rfl (x_move (v := (Value.int .i64 l6.2.2.2)) rfl e8) ?_
            obtain ⟨q20, z20, r20, h⟩ := h
            generalize hp20 : z20.add ((l6.2.2.2).toNat * 4) = p20 at h
            refine wpR_val (v := (Value.pointer (some p20))) (w' := w8) rfl rfl rfl ((x_indexAddr (s := p0) rfl rfl rfl ES_22 q20 r20).trans (by rw [hp20])) ?_
            refine wpR_val (v := (Value.pointer (some (p20.add 0)))) (w' := w8) rfl rfl rfl (x_fieldAddr rfl rfl FA_34_0) ?_
            obtain ⟨x21, q21, h⟩ := h
            refine wpR_val (v := (Value.int .i64 x21)) (w' := w8) rfl rfl rfl (x_load1 rfl rfl SH_3 q21) ?_
            refine wpR_val (v := (Value.bool (decide (x21 = 1)))) (w' := w8) rfl rfl rfl (x_eql rfl rfl rfl) ?_
            refine wpR_val (v := (Value.bool (decide (x21 = 1)))) (w' := w8) rfl rfl rfl (x_move (v := (Value.bool (decide (x21 = 1)))) rfl rfl) ?_
            obtain ⟨J22, h, hk⟩ := h
            refine wpR_joinJ 4 (fun x ρ => ρ 46 = Value.bool x ∧ ρ 0 = (Sl.v p0) ∧ ρ 3 = (Value.bool r1) ∧ ρ 4 = (Value.pointer r4) ∧ ρ 5 = (Sl.v l6.1) ∧ ρ 6 = (Sl.v l6.2.1) ∧ ρ 7 = (Sl.v l6.2.2.1) ∧ ρ 8 = (Value.int .i64 l6.2.2.2) ∧ ρ 9 = (Value.pointer (some (Addr.mk b16 0 none))) ∧ True) (fun x w => J22 x ∧ w8 = w) ?_ ?_
            · clear hk
              rcases Bool.eq_false_or_eq_true (decide (x21 = 1)) with hc23 | hc23
              · replace h := h.1 hc23
                refine wpR_val (v := (Value.pointer (some ((Addr.mk b16 0 none).add 2)))) (w' := w8) (wantG rfl rfl rfl hc23) rfl rfl (x_fieldAddr rfl e9 FA_31_2) ?_
                obtain ⟨x24, q24, h⟩ := h
                refine wpR_val (v := (Value.int .i64 x24)) (w' := w8) (wantG rfl rfl rfl hc23) rfl rfl (x_load1 rfl rfl SH_29 q24) ?_
                refine wpR_val (v := (Value.bool (decide (x24 = 0)))) (w' := w8) (wantG rfl rfl rfl hc23) rfl rfl (x_eql rfl rfl rfl) ?_
                refine wpR_val (v := (Value.bool (decide (x24 = 0)))) (w' := w8) rfl rfl rfl (x_pickT (v := (Value.bool (decide (x24 = 0)))) rfl rfl hc23 rfl) ?_
                refine wpR_nil ?_
                exact ⟨decide (x24 = 0), ⟨rfl, e0, e3, e4, e5, e6, e7, e8, e9, trivial⟩, h, rfl⟩
              · replace h := h.2 hc23
                refine wpR_pass (wantN rfl rfl rfl hc23) rfl rfl ?_
                refine wpR_pass (wantN rfl rfl rfl hc23) rfl rfl ?_
                refine wpR_pass (wantN rfl rfl rfl hc23) rfl rfl ?_
                refine wpR_val (v := (Value.bool false)) (w' := w8) rfl rfl rfl (x_pickF (v := (Value.bool false)) rfl rfl hc23 rfl) ?_
                refine wpR_nil ?_
                exact ⟨false, ⟨rfl, e0, e3, e4, e5, e6, e7, e8, e9, trivial⟩, h, rfl⟩
            clear h
            rintro c25 ρ wj ⟨e46, e0, e3, e4, e5, e6, e7, e8, e9, -⟩ ⟨h, rfl⟩
            replace h := hk c25 h
            clear hk
            refine wpR_nil ?_
            refine wpC_cond (b := c25) e46 (fun hc26 => ?_) (fun hc26 => ?_)
            · replace h := h.1 hc26
              refine wpC_seq ?_
              refine wpC_seq ?_
              refine wpC_region ?_
              refine wpR_val (v := (Value.pointer (some ((Addr.mk b16 0 none).add 0)))) (w' := w8) rfl rfl rfl (x_fieldAddr rfl e9 FA_31_0) ?_
              obtain ⟨x27, q27, h⟩ := h
              refine wpR_val (v := (Value.int .i64 x27)) (w' := w8) rfl rfl rfl (x_load1 rfl rfl SH_3 q27) ?_
              refine wpR_val (v := (Sl.v l6.1)) (w' := w8) rfl rfl rfl (x_move (v := (Sl.v l6.1)) rfl e5) ?_
              refine wpR_val (v := (Value.int .i64 (l6.1.len : Int))) (w' := w8) rfl rfl rfl (x_lenS (s := l6.1) rfl rfl isSliceT_38) ?_
              refine wpR_val (v := (Value.bool (!decide (x27 = (l6.1.len : Int))))) (w' := w8) rfl rfl rfl (x_neq rfl rfl rfl) ?_
              refine wpR_nil ?_
              refine wpC_cond (b := !decide (x27 = (l6.1.len : Int))) rfl (fun hc28 => ?_) (fun hc28 => ?_)
              · replace h := h.1 hc28
                refine wpC_seq ?_
                refine wpC_cut (fun ρ => True) trivial ?_
                rintro ρ -
                refine wpC_region ?_
                refine wpR_val (v := (Value.bool false)) (w' := w8) rfl rfl rfl (x_assign (v := (Value.bool false)) rfl rfl) ?_
                refine wpR_nil ?_
                refine wpC_ret ?_
                exact ⟨.inl rfl, fun a ha => ⟨_, results_rep1 rfl ha rfl, false, rfl, h⟩⟩
              · replace h := h.2 hc28
                refine wpC_skip ?_
                refine wpC_seq ?_
                refine wpC_cut (fun ρ => ρ 0 = (Sl.v p0) ∧ ρ 3 = (Value.bool r1) ∧ ρ 4 = (Value.pointer r4) ∧ ρ 5 = (Sl.v l6.1) ∧ ρ 6 = (Sl.v l6.2.1) ∧ ρ 7 = (Sl.v l6.2.2.1) ∧ ρ 8 = (Value.int .i64 l6.2.2.2) ∧ ρ 9 = (Value.pointer (some (Addr.mk b16 0 none))) ∧ True) ⟨e0, e3, e4, e5, e6, e7, e8, e9, trivial⟩ ?_
                rintro ρ ⟨e0, e3, e4, e5, e6, e7, e8, e9, -⟩
                refine wpC_region ?_
                refine wpR_val (v := (Sl.v l6.1)) (w' := w8) rfl rfl rfl (x_move (v := (Sl.v l6.1)) rfl e5) ?_
                refine wpR_val (v := (Sl.v p0)) (w' := w8) rfl rfl rfl (x_move (v := (Sl.v p0)) rfl e0) ?_
                refine wpR_val (v := (Value.int .i64 l6.2.2.2)) (w' := w8) rfl rfl rfl (x_move (v := (Value.int .i64 l6.2.2.2)) rfl e8) ?_
                obtain ⟨q29, z29, r29, h⟩ := h
                generalize hp29 : z29.add ((l6.2.2.2).toNat * 4) = p29 at h
                refine wpR_val (v := (Value.pointer (some p29))) (w' := w8) rfl rfl rfl ((x_indexAddr (s := p0) rfl rfl rfl ES_22 q29 r29).trans (by rw [hp29])) ?_
                refine wpR_val (v := (Value.pointer (some (p29.add 1)))) (w' := w8) rfl rfl rfl (x_fieldAddr rfl rfl FA_34_1) ?_
                obtain ⟨x30, q30, h⟩ := h
                refine wpR_val (v := (Value.int .i64 x30)) (w' := w8) rfl rfl rfl (x_load1 rfl rfl SH_3 q30) ?_
                obtain ⟨b31, hb31⟩ : ∃ u, u = w8.heap.size := ⟨_, rfl⟩
                obtain ⟨w10, hw31⟩ : ∃ u, u = w8.alloc (.cells #[(Value.int .i64 x30)] 3) := ⟨_, rfl⟩
                replace h := h b31 w10 hb31 hw31
                refine wpR_val (v := (Sl.v (⟨some ⟨b31, 0, none⟩, 1, 1⟩ : Sl))) (w' := w10) rfl rfl rfl ((x_buildSlice (qs := [(0, (Value.int .i64 x30))]) rfl (by rfl) (BS_38_1_0 x30)).trans (by rw [← hb31, ← hw31])) ?_
                obtain ⟨r32, w11, q32, h⟩ := h
                refine wpR_val (v := (Sl.v r32)) (w' := w11) rfl rfl rfl (x_append (s := l6.1) (u := (⟨some ⟨b31, 0, none⟩, 1, 1⟩ : Sl)) rfl rfl rfl rfl q32) ?_
                refine wpR_val (v := (Sl.v r32)) (w' := w11) rfl rfl rfl (x_assign (v := (Sl.v r32)) rfl rfl) ?_
                refine wpR_nil ?_
                refine wpC_cut (fun ρ => ρ 0 = (Sl.v p0) ∧ ρ 3 = (Value.bool r1) ∧ ρ 4 = (Value.pointer r4) ∧ ρ 5 = (Sl.v r32) ∧ ρ 6 = (Sl.v l6.2.1) ∧ ρ 7 = (Sl.v l6.2.2.1) ∧ ρ 8 = (Value.int .i64 l6.2.2.2) ∧ ρ 9 = (Value.pointer (some (Addr.mk b16 0 none))) ∧ True) ⟨e0, e3, e4, rfl, e6, e7, e8, e9, trivial⟩ ?_
                rintro ρ ⟨e0, e3, e4, e5, e6, e7, e8, e9, -⟩
                refine wpC_region ?_
                refine wpR_val (v := (Sl.v l6.2.1)) (w' := w11) rfl rfl rfl (x_move (v := (Sl.v l6.2.1)) rfl e6) ?_
                refine wpR_val (v := (Sl.v p0)) (w' := w11) rfl rfl rfl (x_move (v := (Sl.v p0)) rfl e0) ?_
                refine wpR_val (v := (Value.int .i64 l6.2.2.2)) (w' := w11) rfl rfl rfl (x_move (v := (Value.int .i64 l6.2.2.2)) rfl e8) ?_
                obtain ⟨q33, z33, r33, h⟩ := h
                generalize hp33 : z33.add ((l6.2.2.2).toNat * 4) = p33 at h
                refine wpR_val (v := (Value.pointer (some p33))) (w' := w11) rfl rfl rfl ((x_indexAddr (s := p0) rfl rfl rfl ES_22 q33 r33).trans (by rw [hp33])) ?_
                refine wpR_val (v := (Value.pointer (some (p33.add 3)))) (w' := w11) rfl rfl rfl (x_fieldAddr rfl rfl FA_34_3) ?_
                obtain ⟨x34, q34, h⟩ := h
                refine wpR_val (v := (Value.string x34)) (w' := w11) rfl rfl rfl (x_load1 rfl rfl SH_9 q34) ?_
                obtain ⟨b35, hb35⟩ : ∃ u, u = w11.heap.size := ⟨_, rfl⟩
                obtain ⟨w12, hw35⟩ : ∃ u, u = w11.alloc (.cells #[(Value.string x34)] 9) := ⟨_, rfl⟩
                replace h := h b35 w12 hb35 hw35
                refine wpR_val (v := (Sl.v (⟨some ⟨b35, 0, none⟩, 1, 1⟩ : Sl))) (w' := w12) rfl rfl rfl ((x_buildSlice (qs := [(0, (Value.string x34))]) rfl (by rfl) (BS_39_1_0 x34)).trans (by rw [← hb35, ← hw35])) ?_
                obtain ⟨r36, w13, q36, h⟩ := h
                refine wpR_val (v := (Sl.v r36)) (w' := w13) rfl rfl rfl (x_append (s := l6.2.1) (u := (⟨some ⟨b35, 0, none⟩, 1, 1⟩ : Sl)) rfl rfl rfl rfl q36) ?_
                refine wpR_val (v := (Sl.v r36)) (w' := w13) rfl rfl rfl (x_assign (v := (Sl.v r36)) rfl rfl) ?_
                refine wpR_nil ?_
                exact ⟨(r32, r36), ⟨e5, rfl, e0, e3, e4, e7, e8, e9, trivial⟩, h⟩
            · replace h := h.2 hc26
              refine wpC_skip ?_
              exact ⟨(l6.1, l6.2.1), ⟨e5, e6, e0, e3, e4, e7, e8, e9, trivial⟩, h⟩
          clear h
          rintro l19 ρ w9 ⟨e5, e6, e0, e3, e4, e7, e8, e9, -⟩ h
          replace h := hk l19 w9 h
          clear hk
          refine wpC_seq ?_
          refine wpC_region ?_
          refine wpR_val (v := (Sl.v p0)) (w' := w9) rfl rfl rfl (x_move (v := (Sl.v p0)) rfl e0) ?_
          refine wpR_val (v := (Value.int .i64 l6.2.2.2)) (w' := w9) rfl rfl rfl (x_move (v := (Value.int .i64 l6.2.2.2)) rfl e8) ?_
          obtain ⟨q37, z37, r37, h⟩ := h
          generalize hp37 : z37.add ((l6.2.2.2).toNat * 4) = p37 at h
          refine wpR_val (v := (Value.pointer (some p37))) (w' := w9) rfl rfl rfl ((x_indexAddr (s := p0) rfl rfl rfl ES_22 q37 r37).trans (by rw [hp37])) ?_
          refine wpR_val (v := (Value.pointer (some (p37.add 0)))) (w' := w9) rfl rfl rfl (x_fieldAddr rfl rfl FA_34_0) ?_
          obtain ⟨x38, q38, h⟩ := h
          refine wpR_val (v := (Value.int .i64 x38)) (w' := w9) rfl rfl rfl (x_load1 rfl rfl SH_3 q38) ?_
          refine wpR_val (v := (Value.bool (decide (x38 = 3)))) (w' := w9) rfl rfl rfl (x_eql rfl rfl rfl) ?_
          refine wpR_val (v := (Value.bool (decide (x38 = 3)))) (w' := w9) rfl rfl rfl (x_move (v := (Value.bool (decide (x38 = 3)))) rfl rfl) ?_
          obtain ⟨J39, h, hk⟩ := h
          refine wpR_joinJ 4 (fun x ρ => ρ 78 = Value.bool x ∧ ρ 0 = (Sl.v p0) ∧ ρ 3 = (Value.bool r1) ∧ ρ 4 = (Value.pointer r4) ∧ ρ 5 = (Sl.v l19.1) ∧ ρ 6 = (Sl.v l19.2) ∧ ρ 7 = (Sl.v l6.2.2.1) ∧ ρ 8 = (Value.int .i64 l6.2.2.2) ∧ True) (fun x w => J39 x ∧ w9 = w) ?_ ?_
          · clear hk
            rcases Bool.eq_false_or_eq_true (decide (x38 = 3)) with hc40 | hc40
            · replace h := h.1 hc40
              refine wpR_val (v := (Value.pointer (some ((Addr.mk b16 0 none).add 2)))) (w' := w9) (wantG rfl rfl rfl hc40) rfl rfl (x_fieldAddr rfl e9 FA_31_2) ?_
              obtain ⟨x41, q41, h⟩ := h
              refine wpR_val (v := (Value.int .i64 x41)) (w' := w9) (wantG rfl rfl rfl hc40) rfl rfl (x_load1 rfl rfl SH_29 q41) ?_
              refine wpR_val (v := (Value.bool (decide (x41 = 0)))) (w' := w9) (wantG rfl rfl rfl hc40) rfl rfl (x_eql rfl rfl rfl) ?_
              refine wpR_val (v := (Value.bool (decide (x41 = 0)))) (w' := w9) rfl rfl rfl (x_pickT (v := (Value.bool (decide (x41 = 0)))) rfl rfl hc40 rfl) ?_
              refine wpR_nil ?_
              exact ⟨decide (x41 = 0), ⟨rfl, e0, e3, e4, e5, e6, e7, e8, trivial⟩, h, rfl⟩
            · replace h := h.2 hc40
              refine wpR_pass (wantN rfl rfl rfl hc40) rfl rfl ?_
              refine wpR_pass (wantN rfl rfl rfl hc40) rfl rfl ?_
              refine wpR_pass (wantN rfl rfl rfl hc40) rfl rfl ?_
              refine wpR_val (v := (Value.bool false)) (w' := w9) rfl rfl rfl (x_pickF (v := (Value.bool false)) rfl rfl hc40 rfl) ?_
              refine wpR_nil ?_
              exact ⟨false, ⟨rfl, e0, e3, e4, e5, e6, e7, e8, trivial⟩, h, rfl⟩
          clear h
          rintro c42 ρ wj ⟨e78, e0, e3, e4, e5, e6, e7, e8, -⟩ ⟨h, rfl⟩
          replace h := hk c42 h
          clear hk
          refine wpR_nil ?_
          refine wpC_cond (b := c42) e78 (fun hc43 => ?_) (fun hc43 => ?_)
          · replace h := h.1 hc43
            refine wpC_region ?_
            refine wpR_val (v := (Sl.v l6.2.2.1)) (w' := w9) rfl rfl rfl (x_move (v := (Sl.v l6.2.2.1)) rfl e7) ?_
            refine wpR_val (v := (Sl.v p0)) (w' := w9) rfl rfl rfl (x_move (v := (Sl.v p0)) rfl e0) ?_
            refine wpR_val (v := (Value.int .i64 l6.2.2.2)) (w' := w9) rfl rfl rfl (x_move (v := (Value.int .i64 l6.2.2.2)) rfl e8) ?_
            obtain ⟨q44, z44, r44, h⟩ := h
            generalize hp44 : z44.add ((l6.2.2.2).toNat * 4) = p44 at h
            refine wpR_val (v := (Value.pointer (some p44))) (w' := w9) rfl rfl rfl ((x_indexAddr (s := p0) rfl rfl rfl ES_22 q44 r44).trans (by rw [hp44])) ?_
            refine wpR_val (v := (Value.pointer (some (p44.add 1)))) (w' := w9) rfl rfl rfl (x_fieldAddr rfl rfl FA_34_1) ?_
            obtain ⟨x45, q45, h⟩ := h
            refine wpR_val (v := (Value.int .i64 x45)) (w' := w9) rfl rfl rfl (x_load1 rfl rfl SH_3 q45) ?_
            obtain ⟨b46, hb46⟩ : ∃ u, u = w9.heap.size := ⟨_, rfl⟩
            obtain ⟨w14, hw46⟩ : ∃ u, u = w9.alloc (.cells #[(Value.int .i64 x45)] 3) := ⟨_, rfl⟩
            replace h := h b46 w14 hb46 hw46
            refine wpR_val (v := (Sl.v (⟨some ⟨b46, 0, none⟩, 1, 1⟩ : Sl))) (w' := w14) rfl rfl rfl ((x_buildSlice (qs := [(0, (Value.int .i64 x45))]) rfl (by rfl) (BS_38_1_0 x45)).trans (by rw [← hb46, ← hw46])) ?_
            obtain ⟨r47, w15, q47, h⟩ := h
            refine wpR_val (v := (Sl.v r47)) (w' := w15) rfl rfl rfl (x_append (s := l6.2.2.1) (u := (⟨some ⟨b46, 0, none⟩, 1, 1⟩ : Sl)) rfl rfl rfl rfl q47) ?_
            refine wpR_val (v := (Sl.v r47)) (w' := w15) rfl rfl rfl (x_assign (v := (Sl.v r47)) rfl rfl) ?_
            refine wpR_nil ?_
            exact ⟨(l19.1, l19.2, r47), ⟨e5, e6, rfl, e0, e3, e4, e8, trivial⟩, h⟩
          · replace h := h.2 hc43
            refine wpC_skip ?_
            exact ⟨(l19.1, l19.2, l6.2.2.1), ⟨e5, e6, e7, e0, e3, e4, e8, trivial⟩, h⟩
        clear h
        rintro l9 ρ w5 ⟨e5, e6, e7, e0, e3, e4, e8, -⟩ h
        replace h := hk l9 w5 h
        clear hk
        refine wpC_region ?_
        refine wpR_val (v := (Value.int .i64 l6.2.2.2)) (w' := w5) rfl rfl rfl (x_move (v := (Value.int .i64 l6.2.2.2)) rfl e8) ?_
        refine wpR_val (v := (Value.int .i64 (IntKind.i64.wrap (l6.2.2.2 + 1)))) (w' := w5) rfl rfl rfl (x_add rfl rfl rfl) ?_
        refine wpR_val (v := (Value.int .i64 (IntKind.i64.wrap (l6.2.2.2 + 1)))) (w' := w5) rfl rfl rfl (x_assign (v := (Value.int .i64 (IntKind.i64.wrap (l6.2.2.2 + 1)))) rfl rfl) ?_
        refine wpR_nil ?_
        exact ⟨(l9.1, l9.2.1, l9.2.2, IntKind.i64.wrap (l6.2.2.2 + 1)), ⟨e5, e6, e7, rfl, e0, e3, e4, trivial⟩, h⟩
      · replace h := h.2 hc7
        refine wpC_exit ?_
        refine wpC_seq ?_
        refine wpC_seq ?_
        refine wpC_cut (fun ρ => ρ 3 = (Value.bool r1) ∧ ρ 4 = (Value.pointer r4) ∧ ρ 5 = (Sl.v l6.1) ∧ ρ 6 = (Sl.v l6.2.1) ∧ ρ 7 = (Sl.v l6.2.2.1) ∧ True) ⟨e3, e4, e5, e6, e7, trivial⟩ ?_
        rintro ρ ⟨e3, e4, e5, e6, e7, -⟩
        refine wpC_region ?_
        refine wpR_val (v := (Value.int .i64 0)) (w' := w4) rfl rfl rfl (x_assign (v := (Value.int .i64 0)) rfl rfl) ?_
        refine wpR_nil ?_
        refine wpC_block ?_
        obtain ⟨I48, μ48, hI48, hr48⟩ := h
        refine wpC_loop (fun (x : Int) ρ => ρ 10 = (Value.int .i64 x) ∧ ρ 3 = (Value.bool r1) ∧ ρ 4 = (Value.pointer r4) ∧ ρ 5 = (Sl.v l6.1) ∧ ρ 6 = (Sl.v l6.2.1) ∧ ρ 7 = (Sl.v l6.2.2.1) ∧ True) I48 μ48 0 ⟨rfl, e3, e4, e5, e6, e7, trivial⟩ hI48 ?_
        rintro l48 ρ w16 ⟨e10, e3, e4, e5, e6, e7, -⟩ h
        replace h := hr48 l48 w16 h
        clear hr48 hI48
        refine wpC_seq ?_
        refine wpC_seq ?_
        refine wpC_region ?_
        refine wpR_val (v := (Value.int .i64 l48)) (w' := w16) rfl rfl rfl (x_move (v := (Value.int .i64 l48)) rfl e10) ?_
        refine wpR_val (v := (Sl.v l6.1)) (w' := w16) rfl rfl rfl (x_move (v := (Sl.v l6.1)) rfl e5) ?_
        refine wpR_val (v := (Value.int .i64 (l6.1.len : Int))) (w' := w16) rfl rfl rfl (x_lenS (s := l6.1) rfl rfl isSliceT_38) ?_
        refine wpR_val (v := (Value.bool (decide (l48 < (l6.1.len : Int))))) (w' := w16) rfl rfl rfl (x_lss rfl rfl rfl) ?_
        refine wpR_nil ?_
        refine wpC_cond (b := decide (l48 < (l6.1.len : Int))) rfl (fun hc49 => ?_) (fun hc49 => ?_)
        · replace h := h.1 hc49
          refine wpC_skip ?_
          refine wpC_seq ?_
          refine wpC_block ?_
          refine wpC_seq ?_
          refine wpC_cut (fun ρ => ρ 3 = (Value.bool r1) ∧ ρ 4 = (Value.pointer r4) ∧ ρ 5 = (Sl.v l6.1) ∧ ρ 6 = (Sl.v l6.2.1) ∧ ρ 7 = (Sl.v l6.2.2.1) ∧ ρ 10 = (Value.int .i64 l48) ∧ True) ⟨e3, e4, e5, e6, e7, e10, trivial⟩ ?_
          rintro ρ ⟨e3, e4, e5, e6, e7, e10, -⟩
          refine wpC_region ?_
          refine wpR_val (v := (Value.bool false)) (w' := w16) rfl rfl rfl (x_assign (v := (Value.bool false)) rfl rfl) ?_
          refine wpR_nil ?_
          refine wpC_seq ?_
          refine wpC_seq ?_
          refine wpC_cut (fun ρ => ρ 3 = (Value.bool r1) ∧ ρ 4 = (Value.pointer r4) ∧ ρ 5 = (Sl.v l6.1) ∧ ρ 6 = (Sl.v l6.2.1) ∧ ρ 7 = (Sl.v l6.2.2.1) ∧ ρ 10 = (Value.int .i64 l48) ∧ ρ 11 = (Value.bool false) ∧ True) ⟨e3, e4, e5, e6, e7, e10, rfl, trivial⟩ ?_
          rintro ρ ⟨e3, e4, e5, e6, e7, e10, e11, -⟩
          refine wpC_region ?_
          refine wpR_val (v := (Value.int .i64 0)) (w' := w16) rfl rfl rfl (x_assign (v := (Value.int .i64 0)) rfl rfl) ?_
          refine wpR_nil ?_
          refine wpC_block ?_
          obtain ⟨I50, μ50, hI50, hr50⟩ := h
          refine wpC_loop (fun (x : Bool × Int) ρ => ρ 11 = (Value.bool x.1) ∧ ρ 12 = (Value.int .i64 x.2) ∧ ρ 3 = (Value.bool r1) ∧ ρ 4 = (Value.pointer r4) ∧ ρ 5 = (Sl.v l6.1) ∧ ρ 6 = (Sl.v l6.2.1) ∧ ρ 7 = (Sl.v l6.2.2.1) ∧ ρ 10 = (Value.int .i64 l48) ∧ True) I50 μ50 (false, 0) ⟨e11, rfl, e3, e4, e5, e6, e7, e10, trivial⟩ hI50 ?_
          rintro l50 ρ w17 ⟨e11, e12, e3, e4, e5, e6, e7, e10, -⟩ h
          replace h := hr50 l50 w17 h
          clear hr50 hI50
          refine wpC_seq ?_
          refine wpC_seq ?_
          refine wpC_region ?_
          refine wpR_val (v := (Value.int .i64 l50.2)) (w' := w17) rfl rfl rfl (x_move (v := (Value.int .i64 l50.2)) rfl e12) ?_
          refine wpR_val (v := (Sl.v l6.2.2.1)) (w' := w17) rfl rfl rfl (x_move (v := (Sl.v l6.2.2.1)) rfl e7) ?_
          refine wpR_val (v := (Value.int .i64 (l6.2.2.1.len : Int))) (w' := w17) rfl rfl rfl (x_lenS (s := l6.2.2.1) rfl rfl isSliceT_38) ?_
          refine wpR_val (v := (Value.bool (decide (l50.2 < (l6.2.2.1.len : Int))))) (w' := w17) rfl rfl rfl (x_lss rfl rfl rfl) ?_
          refine wpR_nil ?_
          refine wpC_cond (b := decide (l50.2 < (l6.2.2.1.len : Int))) rfl (fun hc51 => ?_) (fun hc51 => ?_)
          · replace h := h.1 hc51
            refine wpC_skip ?_
            refine wpC_seq ?_
            refine wpC_block ?_
            refine wpC_cut (fun ρ => ρ 3 = (Value.bool r1) ∧ ρ 4 = (Value.pointer r4) ∧ ρ 5 = (Sl.v l6.1) ∧ ρ 6 = (Sl.v l6.2.1) ∧ ρ 7 = (Sl.v l6.2.2.1) ∧ ρ 10 = (Value.int .i64 l48) ∧ ρ 11 = (Value.bool l50.1) ∧ ρ 12 = (Value.int .i64 l50.2) ∧ True) ⟨e3, e4, e5, e6, e7, e10, e11, e12, trivial⟩ ?_
            rintro ρ ⟨e3, e4, e5, e6, e7, e10, e11, e12, -⟩
            obtain ⟨J53, h, hk⟩ := h
            refine wpC_drawJ (by kernel_rfl) (fun (x : Bool) ρ => ρ 11 = (Value.bool x) ∧ ρ 3 = (Value.bool r1) ∧ ρ 4 = (Value.pointer r4) ∧ ρ 5 = (Sl.v l6.1) ∧ ρ 6 = (Sl.v l6.2.1) ∧ ρ 7 = (Sl.v l6.2.2.1) ∧ ρ 10 = (Value.int .i64 l48) ∧ ρ 12 = (Value.int .i64 l50.2) ∧ True) J53 ?_ ?_
            · clear hk
              unfold tk at h
              generalize w17.drew = w18 at h ⊢
              refine wpD_take (v := (Value.bool l50.1)) 0 (fun _ => True) rfl (by kernel_rfl) (by kernel_rfl) (by kernel_rfl) rfl rfl rfl trivial (fun w _ => (x_move (v := (Value.bool l50.1)) rfl e11)) ?_
              refine wpD_take (v := (Value.bool l50.1)) 1 (fun _ => True) rfl (by kernel_rfl) (by kernel_rfl) (by kernel_rfl) rfl rfl rfl trivial (fun w _ => (x_move (v := (Value.bool l50.1)) rfl rfl)) ?_
              rcases Bool.eq_false_or_eq_true (l50.1) with hc54 | hc54
              · replace h := h.1 hc54
                refine wpD_pass 2 rfl (by kernel_rfl) (by kernel_rfl) (by kernel_rfl) (wantN rfl rfl rfl hc54) rfl rfl ?_
                refine wpD_pass 3 rfl (by kernel_rfl) (by kernel_rfl) (by kernel_rfl) (wantN rfl rfl rfl hc54) rfl rfl ?_
                refine wpD_pass 4 rfl (by kernel_rfl) (by kernel_rfl) (by kernel_rfl) (wantN rfl rfl rfl hc54) rfl rfl ?_
                refine wpD_pass 5 rfl (by kernel_rfl) (by kernel_rfl) (by kernel_rfl) (wantN rfl rfl rfl hc54) rfl rfl ?_
                refine wpD_pass 6 rfl (by kernel_rfl) (by kernel_rfl) (by kernel_rfl) (wantN rfl rfl rfl hc54) rfl rfl ?_
                refine wpD_pass 7 rfl (by kernel_rfl) (by kernel_rfl) (by kernel_rfl) (wantN rfl rfl rfl hc54) rfl rfl ?_
                refine wpD_pass 8 rfl (by kernel_rfl) (by kernel_rfl) (by kernel_rfl) (wantN rfl rfl rfl hc54) rfl rfl ?_
                refine wpD_pass 9 rfl (by kernel_rfl) (by kernel_rfl) (by kernel_rfl) (wantN rfl rfl rfl hc54) rfl rfl ?_
                refine wpD_pass 10 rfl (by kernel_rfl) (by kernel_rfl) (by kernel_rfl) (wantN rfl rfl rfl hc54) rfl rfl ?_
                refine wpD_take (v := (Value.bool true)) 11 (fun _ => True) rfl (by kernel_rfl) (by kernel_rfl) (by kernel_rfl) rfl rfl rfl trivial (fun w _ => (x_pickT (v := (Value.bool true)) rfl rfl hc54 rfl)) ?_
                refine wpD_take (v := (Value.bool true)) 12 (fun _ => True) rfl (by kernel_rfl) (by kernel_rfl) (by kernel_rfl) rfl rfl rfl trivial (fun w _ => (x_assign (v := (Value.bool true)) rfl rfl)) ?_
                exact wpD_done (by kernel_rfl) ⟨true, ⟨rfl, e3, e4, e5, e6, e7, e10, e12, trivial⟩, h⟩
              · replace h := h.2 hc54
                refine wpD_take (v := (Sl.v l6.2.2.1)) 2 (fun _ => True) rfl (by kernel_rfl) (by kernel_rfl) (by kernel_rfl) (wantG rfl rfl rfl hc54) rfl rfl trivial (fun w _ => (x_move (v := (Sl.v l6.2.2.1)) rfl e7)) ?_
                refine wpD_take (v := (Value.int .i64 l50.2)) 3 (fun _ => True) rfl (by kernel_rfl) (by kernel_rfl) (by kernel_rfl) (wantG rfl rfl rfl hc54) rfl rfl trivial (fun w _ => (x_move (v := (Value.int .i64 l50.2)) rfl e12)) ?_
                obtain ⟨q55, z55, r55, h⟩ := h
                generalize hp55 : z55.add ((l50.2).toNat * 1) = p55 at h
                refine wpD_take (v := (Value.pointer (some p55))) 4 (fun _ => True) rfl (by kernel_rfl) (by kernel_rfl) (by kernel_rfl) (wantG rfl rfl rfl hc54) rfl rfl trivial (fun w _ => ((x_indexAddr (s := l6.2.2.1) rfl rfl rfl ES_38 q55 r55).trans (by rw [hp55]))) ?_
                obtain ⟨x56, q56, h⟩ := h
                refine wpD_take (v := (Value.int .i64 x56)) 5 (fun w => w.cell? p55 = some (Value.int .i64 x56)) rfl (by kernel_rfl) (by kernel_rfl) (by kernel_rfl) (wantG rfl rfl rfl hc54) rfl rfl q56 (fun w q56 => (x_load1 rfl rfl SH_3 q56)) ?_
                refine wpD_take (v := (Sl.v l6.1)) 6 (fun _ => True) rfl (by kernel_rfl) (by kernel_rfl) (by kernel_rfl) (wantG rfl rfl rfl hc54) rfl rfl trivial (fun w _ => (x_move (v := (Sl.v l6.1)) rfl e5)) ?_
                refine wpD_take (v := (Value.int .i64 l48)) 7 (fun _ => True) rfl (by kernel_rfl) (by kernel_rfl) (by kernel_rfl) (wantG rfl rfl rfl hc54) rfl rfl trivial (fun w _ => (x_move (v := (Value.int .i64 l48)) rfl e10)) ?_
                obtain ⟨q57, z57, r57, h⟩ := h
                generalize hp57 : z57.add ((l48).toNat * 1) = p57 at h
                refine wpD_take (v := (Value.pointer (some p57))) 8 (fun _ => True) rfl (by kernel_rfl) (by kernel_rfl) (by kernel_rfl) (wantG rfl rfl rfl hc54) rfl rfl trivial (fun w _ => ((x_indexAddr (s := l6.1) rfl rfl rfl ES_38 q57 r57).trans (by rw [hp57]))) ?_
                obtain ⟨x58, q58, h⟩ := h
                refine wpD_take (v := (Value.int .i64 x58)) 9 (fun w => w.cell? p57 = some (Value.int .i64 x58)) rfl (by kernel_rfl) (by kernel_rfl) (by kernel_rfl) (wantG rfl rfl rfl hc54) rfl rfl q58 (fun w q58 => (x_load1 rfl rfl SH_3 q58)) ?_
                refine wpD_take (v := (Value.bool (decide (x56 = x58)))) 10 (fun _ => True) rfl (by kernel_rfl) (by kernel_rfl) (by kernel_rfl) (wantG rfl rfl rfl hc54) rfl rfl trivial (fun w _ => (x_eql rfl rfl rfl)) ?_
                refine wpD_take (v := (Value.bool (decide (x56 = x58)))) 11 (fun _ => True) rfl (by kernel_rfl) (by kernel_rfl) (by kernel_rfl) rfl rfl rfl trivial (fun w _ => (x_pickF (v := (Value.bool (decide (x56 = x58)))) rfl rfl hc54 rfl)) ?_
                refine wpD_take (v := (Value.bool (decide (x56 = x58)))) 12 (fun _ => True) rfl (by kernel_rfl) (by kernel_rfl) (by kernel_rfl) rfl rfl rfl trivial (fun w _ => (x_assign (v := (Value.bool (decide (x56 = x58)))) rfl rfl)) ?_
                exact wpD_done (by kernel_rfl) ⟨decide (x56 = x58), ⟨rfl, e3, e4, e5, e6, e7, e10, e12, trivial⟩, h⟩
            clear h
            rintro l59 ρ w19 ⟨e11, e3, e4, e5, e6, e7, e10, e12, -⟩ h
            replace h := hk l59 w19 h
            clear hk
            refine wpC_region ?_
            refine wpR_val (v := (Value.int .i64 l50.2)) (w' := w19) rfl rfl rfl (x_move (v := (Value.int .i64 l50.2)) rfl e12) ?_
            refine wpR_val (v := (Value.int .i64 (IntKind.i64.wrap (l50.2 + 1)))) (w' := w19) rfl rfl rfl (x_add rfl rfl rfl) ?_
            refine wpR_val (v := (Value.int .i64 (IntKind.i64.wrap (l50.2 + 1)))) (w' := w19) rfl rfl rfl (x_assign (v := (Value.int .i64 (IntKind.i64.wrap (l50.2 + 1)))) rfl rfl) ?_
            refine wpR_nil ?_
            exact ⟨(l59, IntKind.i64.wrap (l50.2 + 1)), ⟨e11, rfl, e3, e4, e5, e6, e7, e10, trivial⟩, h⟩
          · replace h := h.2 hc51
            refine wpC_exit ?_
            refine wpC_seq ?_
            refine wpC_cut (fun ρ => ρ 3 = (Value.bool r1) ∧ ρ 4 = (Value.pointer r4) ∧ ρ 5 = (Sl.v l6.1) ∧ ρ 6 = (Sl.v l6.2.1) ∧ ρ 7 = (Sl.v l6.2.2.1) ∧ ρ 10 = (Value.int .i64 l48) ∧ ρ 11 = (Value.bool l50.1) ∧ True) ⟨e3, e4, e5, e6, e7, e10, e11, trivial⟩ ?_
            rintro ρ ⟨e3, e4, e5, e6, e7, e10, e11, -⟩
            refine wpC_region ?_
            refine wpR_val (v := (Value.int .i64 (-1))) (w' := w17) rfl rfl rfl (x_assign (v := (Value.int .i64 (-1))) rfl rfl) ?_
            refine wpR_nil ?_
            refine wpC_block ?_
            obtain ⟨I60, μ60, hI60, hr60⟩ := h
            refine wpC_loop (fun (x : Int) ρ => ρ 13 = (Value.int .i64 x) ∧ ρ 3 = (Value.bool r1) ∧ ρ 4 = (Value.pointer r4) ∧ ρ 5 = (Sl.v l6.1) ∧ ρ 6 = (Sl.v l6.2.1) ∧ ρ 7 = (Sl.v l6.2.2.1) ∧ ρ 10 = (Value.int .i64 l48) ∧ ρ 11 = (Value.bool l50.1) ∧ True) I60 μ60 (-1) ⟨rfl, e3, e4, e5, e6, e7, e10, e11, trivial⟩ hI60 ?_
            rintro l60 ρ w20 ⟨e13, e3, e4, e5, e6, e7, e10, e11, -⟩ h
            replace h := hr60 l60 w20 h
            clear hr60 hI60
            refine wpC_seq ?_
            refine wpC_seq ?_
            refine wpC_region ?_
            refine wpR_val (v := (Value.int .i64 l60)) (w' := w20) rfl rfl rfl (x_move (v := (Value.int .i64 l60)) rfl e13) ?_
            refine wpR_val (v := (Value.pointer r4)) (w' := w20) rfl rfl rfl (x_move (v := (Value.pointer r4)) rfl e4) ?_
            refine wpR_enter rfl rfl rfl (x_call (vs := [(Value.pointer r4)]) rfl rfl (by rfl) Try.func13 NN_13 NB_13) (Calls.mono h ?_)
            rintro _ w21 ⟨r61, rfl, h⟩
            refine ⟨_, rfl, ?_⟩
            refine wpR_val (v := (Value.bool (decide (l60 ≤ r61)))) (w' := w21) rfl rfl rfl (x_leq rfl rfl rfl) ?_
            refine wpR_val (v := (Value.bool (decide (l60 ≤ r61)))) (w' := w21) rfl rfl rfl (x_move (v := (Value.bool (decide (l60 ≤ r61)))) rfl rfl) ?_
            refine wpR_joinJ 3 (fun (_ : Unit) ρ => ρ 118 = Value.bool ((decide (l60 ≤ r61)) && (decide (l60 < 64))) ∧ ρ 3 = (Value.bool r1) ∧ ρ 4 = (Value.pointer r4) ∧ ρ 5 = (Sl.v l6.1) ∧ ρ 6 = (Sl.v l6.2.1) ∧ ρ 7 = (Sl.v l6.2.2.1) ∧ ρ 10 = (Value.int .i64 l48) ∧ ρ 11 = (Value.bool l50.1) ∧ ρ 13 = (Value.int .i64 l60) ∧ True) (fun _ w => w21 = w) ?_ ?_
            · clear h
              rcases Bool.eq_false_or_eq_true (decide (l60 ≤ r61)) with hc63 | hc63
              · skip
                refine wpR_val (v := (Value.int .i64 l60)) (w' := w21) (wantG rfl rfl rfl hc63) rfl rfl (x_move (v := (Value.int .i64 l60)) rfl e13) ?_
                refine wpR_val (v := (Value.bool (decide (l60 < 64)))) (w' := w21) (wantG rfl rfl rfl hc63) rfl rfl (x_lss rfl rfl rfl) ?_
                refine wpR_val (v := (Value.bool (decide (l60 < 64)))) (w' := w21) rfl rfl rfl (x_pickT (v := (Value.bool (decide (l60 < 64)))) rfl rfl hc63 rfl) ?_
                refine wpR_nil ?_
                exact ⟨(), ⟨(by rw [hc63]; rfl), e3, e4, e5, e6, e7, e10, e11, e13, trivial⟩, rfl⟩
              · skip
                refine wpR_pass (wantN rfl rfl rfl hc63) rfl rfl ?_
                refine wpR_pass (wantN rfl rfl rfl hc63) rfl rfl ?_
                refine wpR_val (v := (Value.bool false)) (w' := w21) rfl rfl rfl (x_pickF (v := (Value.bool false)) rfl rfl hc63 rfl) ?_
                refine wpR_nil ?_
                exact ⟨(), ⟨(by rw [hc63]; rfl), e3, e4, e5, e6, e7, e10, e11, e13, trivial⟩, rfl⟩
            rintro _ ρ wj ⟨e118, e3, e4, e5, e6, e7, e10, e11, e13, -⟩ rfl
            refine wpR_nil ?_
            refine wpC_cond (b := (decide (l60 ≤ r61)) && (decide (l60 < 64))) e118 (fun hc64 => ?_) (fun hc64 => ?_)
            · replace h := h.1 hc64
              refine wpC_skip ?_
              obtain ⟨J65, h, hk⟩ := h
              refine wpC_seqJ (fun (x : Unit) ρ => ρ 3 = (Value.bool r1) ∧ ρ 4 = (Value.pointer r4) ∧ ρ 5 = (Sl.v l6.1) ∧ ρ 6 = (Sl.v l6.2.1) ∧ ρ 7 = (Sl.v l6.2.2.1) ∧ ρ 10 = (Value.int .i64 l48) ∧ ρ 11 = (Value.bool l50.1) ∧ ρ 13 = (Value.int .i64 l60) ∧ True) J65 ?_ ?_
              · clear hk
                refine wpC_block ?_
                refine wpC_seq ?_
                refine wpC_region ?_
                refine wpR_val (v := (Value.pointer r4)) (w' := w21) rfl rfl rfl (x_move (v := (Value.pointer r4)) rfl e4) ?_
                refine wpR_val (v := (Value.int .i64 l60)) (w' := w21) rfl rfl rfl (x_move (v := (Value.int .i64 l60)) rfl e13) ?_
                refine wpR_val (v := (Value.int .i64 l48)) (w' := w21) rfl rfl rfl (x_move (v := (Value.int .i64 l48)) rfl e10) ?_
                refine wpR_enter rfl rfl rfl (x_call (vs := [(Value.pointer r4), (Value.int .i64 l60), (Value.int .i64 l48)]) rfl rfl (by rfl) Try.func15 NN_15 NB_15) (Calls.mono h ?_)
                rintro _ w23 ⟨r67, rfl, h⟩
                refine ⟨_, rfl, ?_⟩
                refine wpR_val (v := (Value.tuple #[(Value.string r67.1), (Value.int .i64 r67.2)])) (w' := w23) rfl rfl rfl (x_move (v := (Value.tuple #[(Value.string r67.1), (Value.int .i64 r67.2)])) rfl rfl) ?_
                refine wpR_val (v := (Value.string r67.1)) (w' := w23) rfl rfl rfl (x_extract rfl rfl rfl) ?_
                refine wpR_val (v := (Value.int .i64 r67.2)) (w' := w23) rfl rfl rfl (x_extract rfl rfl rfl) ?_
                refine wpR_val (v := (Value.string r67.1)) (w' := w23) rfl rfl rfl (x_assign (v := (Value.string r67.1)) rfl rfl) ?_
                refine wpR_val (v := (Value.int .i64 r67.2)) (w' := w23) rfl rfl rfl (x_assign (v := (Value.int .i64 r67.2)) rfl rfl) ?_
                refine wpR_nil ?_
                refine wpC_seq ?_
                refine wpC_cut (fun ρ => ρ 3 = (Value.bool r1) ∧ ρ 4 = (Value.pointer r4) ∧ ρ 5 = (Sl.v l6.1) ∧ ρ 6 = (Sl.v l6.2.1) ∧ ρ 7 = (Sl.v l6.2.2.1) ∧ ρ 10 = (Value.int .i64 l48) ∧ ρ 11 = (Value.bool l50.1) ∧ ρ 13 = (Value.int .i64 l60) ∧ ρ 14 = (Value.string r67.1) ∧ ρ 15 = (Value.int .i64 r67.2) ∧ True) ⟨e3, e4, e5, e6, e7, e10, e11, e13, rfl, rfl, trivial⟩ ?_
                rintro ρ ⟨e3, e4, e5, e6, e7, e10, e11, e13, e14, e15, -⟩
                refine wpC_region ?_
                refine wpR_val (v := (Value.int .i64 l60)) (w' := w23) rfl rfl rfl (x_move (v := (Value.int .i64 l60)) rfl e13) ?_
                refine wpR_val (v := (Sl.v l6.1)) (w' := w23) rfl rfl rfl (x_move (v := (Sl.v l6.1)) rfl e5) ?_
                refine wpR_val (v := (Value.int .i64 l48)) (w' := w23) rfl rfl rfl (x_move (v := (Value.int .i64 l48)) rfl e10) ?_
                obtain ⟨q68, z68, r68, h⟩ := h
                generalize hp68 : z68.add ((l48).toNat * 1) = p68 at h
                refine wpR_val (v := (Value.pointer (some p68))) (w' := w23) rfl rfl rfl ((x_indexAddr (s := l6.1) rfl rfl rfl ES_38 q68 r68).trans (by rw [hp68])) ?_
                obtain ⟨x69, q69, h⟩ := h
                refine wpR_val (v := (Value.int .i64 x69)) (w' := w23) rfl rfl rfl (x_load1 rfl rfl SH_3 q69) ?_
                refine wpR_val (v := (Value.bool (decide (l60 = x69)))) (w' := w23) rfl rfl rfl (x_eql rfl rfl rfl) ?_
                refine wpR_val (v := (Value.bool (decide (l60 = x69)))) (w' := w23) rfl rfl rfl (x_move (v := (Value.bool (decide (l60 = x69)))) rfl rfl) ?_
                refine wpR_joinJ 3 (fun (_ : Unit) ρ => ρ 137 = Value.bool ((decide (l60 = x69)) && (!l50.1)) ∧ ρ 3 = (Value.bool r1) ∧ ρ 4 = (Value.pointer r4) ∧ ρ 5 = (Sl.v l6.1) ∧ ρ 6 = (Sl.v l6.2.1) ∧ ρ 7 = (Sl.v l6.2.2.1) ∧ ρ 10 = (Value.int .i64 l48) ∧ ρ 11 = (Value.bool l50.1) ∧ ρ 13 = (Value.int .i64 l60) ∧ ρ 14 = (Value.string r67.1) ∧ ρ 15 = (Value.int .i64 r67.2) ∧ True) (fun _ w => w23 = w) ?_ ?_
                · clear h
                  rcases Bool.eq_false_or_eq_true (decide (l60 = x69)) with hc71 | hc71
                  · skip
                    refine wpR_val (v := (Value.bool l50.1)) (w' := w23) (wantG rfl rfl rfl hc71) rfl rfl (x_move (v := (Value.bool l50.1)) rfl e11) ?_
                    refine wpR_val (v := (Value.bool (!l50.1))) (w' := w23) (wantG rfl rfl rfl hc71) rfl rfl (x_not rfl rfl) ?_
                    refine wpR_val (v := (Value.bool (!l50.1))) (w' := w23) rfl rfl rfl (x_pickT (v := (Value.bool (!l50.1))) rfl rfl hc71 rfl) ?_
                    refine wpR_nil ?_
                    exact ⟨(), ⟨(by rw [hc71]; rfl), e3, e4, e5, e6, e7, e10, e11, e13, e14, e15, trivial⟩, rfl⟩
                  · skip
                    refine wpR_pass (wantN rfl rfl rfl hc71) rfl rfl ?_
                    refine wpR_pass (wantN rfl rfl rfl hc71) rfl rfl ?_
                    refine wpR_val (v := (Value.bool false)) (w' := w23) rfl rfl rfl (x_pickF (v := (Value.bool false)) rfl rfl hc71 rfl) ?_
                    refine wpR_nil ?_
                    exact ⟨(), ⟨(by rw [hc71]; rfl), e3, e4, e5, e6, e7, e10, e11, e13, e14, e15, trivial⟩, rfl⟩
                rintro _ ρ wj ⟨e137, e3, e4, e5, e6, e7, e10, e11, e13, e14, e15, -⟩ rfl
                refine wpR_nil ?_
                refine wpC_cond (b := (decide (l60 = x69)) && (!l50.1)) e137 (fun hc72 => ?_) (fun hc72 => ?_)
                · replace h := h.1 hc72
                  refine wpC_seq ?_
                  refine wpC_region ?_
                  refine wpR_val (v := (Value.int .i64 r67.2)) (w' := w23) rfl rfl rfl (x_move (v := (Value.int .i64 r67.2)) rfl e15) ?_
                  refine wpR_val (v := (Value.bool (!decide (r67.2 = 0)))) (w' := w23) rfl rfl rfl (x_neq rfl rfl rfl) ?_
                  refine wpR_val (v := (Value.bool (!decide (r67.2 = 0)))) (w' := w23) rfl rfl rfl (x_move (v := (Value.bool (!decide (r67.2 = 0)))) rfl rfl) ?_
                  obtain ⟨J73, h, hk⟩ := h
                  refine wpR_joinJ 7 (fun x ρ => ρ 147 = Value.bool x ∧ ρ 3 = (Value.bool r1) ∧ ρ 4 = (Value.pointer r4) ∧ ρ 5 = (Sl.v l6.1) ∧ ρ 6 = (Sl.v l6.2.1) ∧ ρ 7 = (Sl.v l6.2.2.1) ∧ ρ 10 = (Value.int .i64 l48) ∧ ρ 11 = (Value.bool l50.1) ∧ ρ 13 = (Value.int .i64 l60) ∧ True) (fun x w => J73 x ∧ w23 = w) ?_ ?_
                  · clear hk
                    rcases Bool.eq_false_or_eq_true (!decide (r67.2 = 0)) with hc74 | hc74
                    · replace h := h.1 hc74
                      refine wpR_pass (wantN rfl rfl rfl hc74) rfl rfl ?_
                      refine wpR_pass (wantN rfl rfl rfl hc74) rfl rfl ?_
                      refine wpR_pass (wantN rfl rfl rfl hc74) rfl rfl ?_
                      refine wpR_pass (wantN rfl rfl rfl hc74) rfl rfl ?_
                      refine wpR_pass (wantN rfl rfl rfl hc74) rfl rfl ?_
                      refine wpR_pass (wantN rfl rfl rfl hc74) rfl rfl ?_
                      refine wpR_val (v := (Value.bool true)) (w' := w23) rfl rfl rfl (x_pickT (v := (Value.bool true)) rfl rfl hc74 rfl) ?_
                      refine wpR_nil ?_
                      exact ⟨true, ⟨rfl, e3, e4, e5, e6, e7, e10, e11, e13, trivial⟩, h, rfl⟩
                    · replace h := h.2 hc74
                      refine wpR_val (v := (Value.string r67.1)) (w' := w23) (wantG rfl rfl rfl hc74) rfl rfl (x_move (v := (Value.string r67.1)) rfl e14) ?_
                      refine wpR_val (v := (Sl.v l6.2.1)) (w' := w23) (wantG rfl rfl rfl hc74) rfl rfl (x_move (v := (Sl.v l6.2.1)) rfl e6) ?_
                      refine wpR_val (v := (Value.int .i64 l48)) (w' := w23) (wantG rfl rfl rfl hc74) rfl rfl (x_move (v := (Value.int .i64 l48)) rfl e10) ?_
                      obtain ⟨q75, z75, r75, h⟩ := h
                      generalize hp75 : z75.add ((l48).toNat * 1) = p75 at h
                      refine wpR_val (v := (Value.pointer (some p75))) (w' := w23) (wantG rfl rfl rfl hc74) rfl rfl ((x_indexAddr (s := l6.2.1) rfl rfl rfl ES_39 q75 r75).trans (by rw [hp75])) ?_
                      obtain ⟨x76, q76, h⟩ := h
                      refine wpR_val (v := (Value.string x76)) (w' := w23) (wantG rfl rfl rfl hc74) rfl rfl (x_load1 rfl rfl SH_9 q76) ?_
                      refine wpR_val (v := (Value.bool (!beqS r67.1 x76))) (w' := w23) (wantG rfl rfl rfl hc74) rfl rfl (x_neqS rfl rfl rfl) ?_
                      refine wpR_val (v := (Value.bool (!beqS r67.1 x76))) (w' := w23) rfl rfl rfl (x_pickF (v := (Value.bool (!beqS r67.1 x76))) rfl rfl hc74 rfl) ?_
                      refine wpR_nil ?_
                      exact ⟨!beqS r67.1 x76, ⟨rfl, e3, e4, e5, e6, e7, e10, e11, e13, trivial⟩, h, rfl⟩
                  clear h
                  rintro c77 ρ wj ⟨e147, e3, e4, e5, e6, e7, e10, e11, e13, -⟩ ⟨h, rfl⟩
                  replace h := hk c77 h
                  clear hk
                  refine wpR_nil ?_
                  refine wpC_cond (b := c77) e147 (fun hc78 => ?_) (fun hc78 => ?_)
                  · replace h := h.1 hc78
                    refine wpC_seq ?_
                    refine wpC_region ?_
                    refine wpR_val (v := (Value.bool false)) (w' := w23) rfl rfl rfl (x_assign (v := (Value.bool false)) rfl rfl) ?_
                    refine wpR_nil ?_
                    refine wpC_ret ?_
                    exact ⟨.inl rfl, fun a ha => ⟨_, results_rep1 rfl ha rfl, false, rfl, h⟩⟩
                  · replace h := h.2 hc78
                    refine wpC_skip ?_
                    exact ⟨(), ⟨e3, e4, e5, e6, e7, e10, e11, e13, trivial⟩, h⟩
                · replace h := h.2 hc72
                  refine wpC_seq ?_
                  refine wpC_region ?_
                  refine wpR_val (v := (Value.int .i64 r67.2)) (w' := w23) rfl rfl rfl (x_move (v := (Value.int .i64 r67.2)) rfl e15) ?_
                  refine wpR_val (v := (Value.bool (!decide (r67.2 = 13)))) (w' := w23) rfl rfl rfl (x_neq rfl rfl rfl) ?_
                  refine wpR_val (v := (Value.bool (!decide (r67.2 = 13)))) (w' := w23) rfl rfl rfl (x_move (v := (Value.bool (!decide (r67.2 = 13)))) rfl rfl) ?_
                  refine wpR_joinJ 3 (fun (_ : Unit) ρ => ρ 153 = Value.bool ((!decide (r67.2 = 13)) || (!beqS r67.1 (ByteArray.mk #[]))) ∧ ρ 3 = (Value.bool r1) ∧ ρ 4 = (Value.pointer r4) ∧ ρ 5 = (Sl.v l6.1) ∧ ρ 6 = (Sl.v l6.2.1) ∧ ρ 7 = (Sl.v l6.2.2.1) ∧ ρ 10 = (Value.int .i64 l48) ∧ ρ 11 = (Value.bool l50.1) ∧ ρ 13 = (Value.int .i64 l60) ∧ True) (fun _ w => w23 = w) ?_ ?_
                  · clear h
                    rcases Bool.eq_false_or_eq_true (!decide (r67.2 = 13)) with hc80 | hc80
                    · skip
                      refine wpR_pass (wantN rfl rfl rfl hc80) rfl rfl ?_
                      refine wpR_pass (wantN rfl rfl rfl hc80) rfl rfl ?_
                      refine wpR_val (v := (Value.bool true)) (w' := w23) rfl rfl rfl (x_pickT (v := (Value.bool true)) rfl rfl hc80 rfl) ?_
                      refine wpR_nil ?_
                      exact ⟨(), ⟨(by rw [hc80]; rfl), e3, e4, e5, e6, e7, e10, e11, e13, trivial⟩, rfl⟩
                    · skip
                      refine wpR_val (v := (Value.string r67.1)) (w' := w23) (wantG rfl rfl rfl hc80) rfl rfl (x_move (v := (Value.string r67.1)) rfl e14) ?_
                      refine wpR_val (v := (Value.bool (!beqS r67.1 (ByteArray.mk #[])))) (w' := w23) (wantG rfl rfl rfl hc80) rfl rfl (x_neqS rfl rfl rfl) ?_
                      refine wpR_val (v := (Value.bool (!beqS r67.1 (ByteArray.mk #[])))) (w' := w23) rfl rfl rfl (x_pickF (v := (Value.bool (!beqS r67.1 (ByteArray.mk #[])))) rfl rfl hc80 rfl) ?_
                      refine wpR_nil ?_
                      exact ⟨(), ⟨(by rw [hc80]; rfl), e3, e4, e5, e6, e7, e10, e11, e13, trivial⟩, rfl⟩
                  rintro _ ρ wj ⟨e153, e3, e4, e5, e6, e7, e10, e11, e13, -⟩ rfl
                  refine wpR_nil ?_
                  refine wpC_cond (b := (!decide (r67.2 = 13)) || (!beqS r67.1 (ByteArray.mk #[]))) e153 (fun hc81 => ?_) (fun hc81 => ?_)
                  · replace h := h.1 hc81
                    refine wpC_seq ?_
                    refine wpC_region ?_
                    refine wpR_val (v := (Value.bool false)) (w' := w23) rfl rfl rfl (x_assign (v := (Value.bool false)) rfl rfl) ?_
                    refine wpR_nil ?_
                    refine wpC_ret ?_
                    exact ⟨.inl rfl, fun a ha => ⟨_, results_rep1 rfl ha rfl, false, rfl, h⟩⟩
                  · replace h := h.2 hc81
                    refine wpC_skip ?_
                    exact ⟨(), ⟨e3, e4, e5, e6, e7, e10, e11, e13, trivial⟩, h⟩
              clear h
              rintro l66 ρ w22 ⟨e3, e4, e5, e6, e7, e10, e11, e13, -⟩ h
              replace h := hk l66 w22 h
              clear hk
              refine wpC_region ?_
              refine wpR_val (v := (Value.int .i64 l60)) (w' := w22) rfl rfl rfl (x_move (v := (Value.int .i64 l60)) rfl e13) ?_
              refine wpR_val (v := (Value.int .i64 (IntKind.i64.wrap (l60 + 1)))) (w' := w22) rfl rfl rfl (x_add rfl rfl rfl) ?_
              refine wpR_val (v := (Value.int .i64 (IntKind.i64.wrap (l60 + 1)))) (w' := w22) rfl rfl rfl (x_assign (v := (Value.int .i64 (IntKind.i64.wrap (l60 + 1)))) rfl rfl) ?_
              refine wpR_nil ?_
              exact ⟨IntKind.i64.wrap (l60 + 1), ⟨rfl, e3, e4, e5, e6, e7, e10, e11, trivial⟩, h⟩
            · replace h := h.2 hc64
              refine wpC_exit ?_
              refine wpC_region ?_
              refine wpR_val (v := (Value.int .i64 l48)) (w' := w21) rfl rfl rfl (x_move (v := (Value.int .i64 l48)) rfl e10) ?_
              refine wpR_val (v := (Value.int .i64 (IntKind.i64.wrap (l48 + 1)))) (w' := w21) rfl rfl rfl (x_add rfl rfl rfl) ?_
              refine wpR_val (v := (Value.int .i64 (IntKind.i64.wrap (l48 + 1)))) (w' := w21) rfl rfl rfl (x_assign (v := (Value.int .i64 (IntKind.i64.wrap (l48 + 1)))) rfl rfl) ?_
              refine wpR_nil ?_
              exact ⟨IntKind.i64.wrap (l48 + 1), ⟨rfl, e3, e4, e5, e6, e7, trivial⟩, h⟩
        · replace h := h.2 hc49
          refine wpC_exit ?_
          refine wpC_seq ?_
          refine wpC_cut (fun ρ => ρ 3 = (Value.bool r1) ∧ True) ⟨e3, trivial⟩ ?_
          rintro ρ ⟨e3, -⟩
          refine wpC_region ?_
          refine wpR_val (v := (Value.bool r1)) (w' := w16) rfl rfl rfl (x_move (v := (Value.bool r1)) rfl e3) ?_
          refine wpR_val (v := (Value.bool r1)) (w' := w16) rfl rfl rfl (x_assign (v := (Value.bool r1)) rfl rfl) ?_
          refine wpR_nil ?_
          refine wpC_ret ?_
          exact ⟨.inl rfl, fun a ha => ⟨_, results_rep1 rfl ha rfl, r1, rfl, h⟩⟩


end Go.Proofs.Ytfmimbcljhjflaa
