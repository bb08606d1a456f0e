import Derived.Test.YtaogjbmgobfdoaaRows
import Derived.Test.YtaogjbmgobfdoaaFs1
import Derived.Test.YtaogjbmgobfdoaaDecRaw
namespace Go.Proofs.Ytaogjbmgobfdoaa
open Go.Dec
set_option maxHeartbeats 400000

/-- lingualaw31.small -/
def F7  (w0 : World) (K : Bool → World → Prop) : Prop :=
  callC Try.prog 8 #[(Value.int .i64 2)] (fun (r : (Option Addr) × Int) => (Value.tuple #[(Value.pointer r.1), (Value.int .i64 r.2)])) w0 fun r1 w1 =>
  callC Try.prog 10 #[(Value.int .i64 2)] (fun (r : (Option Addr) × Int) => (Value.tuple #[(Value.pointer r.1), (Value.int .i64 r.2)])) w1 fun r2 w2 =>
  callC Try.prog 10 #[(Value.int .i64 2)] (fun (r : (Option Addr) × Int) => (Value.tuple #[(Value.pointer r.1), (Value.int .i64 r.2)])) w2 fun r3 w3 =>
  cnd ((((r1.1.isNone || r2.1.isNone) || r3.1.isNone) || (!decide (r1.2 = 0))) || (!decide (r2.2 = 0)))
    (
    K false w3
    )
    (
    lp (fun (next13 : Int → World → Prop) l13 w4 =>
      cnd (decide (l13 < 3))
        (
        callC Try.prog 12 #[(Value.pointer r1.1)] (fun (r : Int × Int) => (Value.tuple #[(Value.int .i64 r.1), (Value.int .i64 r.2)])) w4 fun _r15 w5 =>
        next13 (IntKind.i64.wrap (l13 + 1)) w5
        )
        (
        callC Try.prog 17 #[(Value.pointer r1.1)] (fun (r : Sl) => (Sl.v r)) w4 fun r16 w6 =>
        callC Try.prog 20 #[(Value.pointer r2.1), (Value.int .i64 1)] (fun (r : Sl × Int) => (Value.tuple #[(Sl.v r.1), (Value.int .i64 r.2)])) w6 fun r17 w7 =>
        callC Try.prog 20 #[(Value.pointer r2.1), (Value.int .i64 0)] (fun (r : Sl × Int) => (Value.tuple #[(Sl.v r.1), (Value.int .i64 r.2)])) w7 fun r18 w8 =>
        callC Try.prog 20 #[(Value.pointer r2.1), (Value.int .i64 1)] (fun (r : Sl × Int) => (Value.tuple #[(Sl.v r.1), (Value.int .i64 r.2)])) w8 fun r19 w9 =>
        callC Try.prog 20 #[(Value.pointer r2.1), (Value.int .i64 2)] (fun (r : Sl × Int) => (Value.tuple #[(Sl.v r.1), (Value.int .i64 r.2)])) w9 fun r20 w10 =>
        nw 3 #[(Value.int .i64 0), (Value.int .i64 1)] w10 fun b21 w11 =>
        callC Try.prog 16 #[(Sl.v r16), (Sl.v (⟨some ⟨b21, 0, none⟩, 2, 2⟩ : Sl))] (fun (r : Bool) => (Value.bool r)) w11 fun r22 w12 =>
        jn (fun J27 => cnd ((r22 && (decide ((r17.1.len : Int) = 0))) && (decide (r17.2 = 0)))
          (
          nw 3 #[(Value.int .i64 0), (Value.int .i64 1)] w12 fun b29 w13 =>
          callC Try.prog 16 #[(Sl.v r18.1), (Sl.v (⟨some ⟨b29, 0, none⟩, 2, 2⟩ : Sl))] (fun (r : Bool) => (Value.bool r)) w13 fun r30 w14 =>
          J27 r30 w14
          )
          (
          J27 false w12
          ))
        fun c31 w15 =>
        jn (fun J38 => cnd (((c31 && (decide (r18.2 = 2))) && (decide ((r19.1.len : Int) = 0))) && (decide (r19.2 = 2)))
          (
          nw 3 #[(Value.int .i64 2)] w15 fun b40 w16 =>
          callC Try.prog 16 #[(Sl.v r20.1), (Sl.v (⟨some ⟨b40, 0, none⟩, 1, 1⟩ : Sl))] (fun (r : Bool) => (Value.bool r)) w16 fun r41 w17 =>
          J38 r41 w17
          )
          (
          J38 false w15
          ))
        fun c42 w18 =>
        callC Try.prog 14 #[(Value.pointer r1.1), (Value.int .i64 2)] (fun (r : Int) => (Value.int .i64 r)) w18 fun r45 w19 =>
        callC Try.prog 17 #[(Value.pointer r1.1)] (fun (r : Sl) => (Sl.v r)) w19 fun r46 w20 =>
        callC Try.prog 14 #[(Value.pointer r1.1), (Value.int .i64 1)] (fun (r : Int) => (Value.int .i64 r)) w20 fun r47 w21 =>
        callC Try.prog 20 #[(Value.pointer r3.1), (Value.int .i64 9)] (fun (r : Sl × Int) => (Value.tuple #[(Sl.v r.1), (Value.int .i64 r.2)])) w21 fun r48 w22 =>
        jn (fun J51 => cnd ((c42 && (decide (r20.2 = 3))) && (decide (r45 = 0)))
          (
          nw 3 #[(Value.int .i64 2)] w22 fun b53 w23 =>
          callC Try.prog 16 #[(Sl.v r46), (Sl.v (⟨some ⟨b53, 0, none⟩, 1, 1⟩ : Sl))] (fun (r : Bool) => (Value.bool r)) w23 fun r54 w24 =>
          J51 r54 w24
          )
          (
          J51 false w22
          ))
        fun c55 w25 =>
        jn (fun J58 => cnd (c55 && (decide (r47 = 0)))
          (
          callC Try.prog 19 #[(Value.pointer r1.1)] (fun (r : Int) => (Value.int .i64 r)) w25 fun r60 w26 =>
          J58 (decide (r60 = 1)) w26
          )
          (
          J58 false w25
          ))
        fun c61 w27 =>
        jn (fun J62 => cnd (c61)
          (
          callC Try.prog 14 #[(Value.pointer r1.1), (Value.int .i64 4)] (fun (r : Int) => (Value.int .i64 r)) w27 fun r64 w28 =>
          J62 (decide (r64 = 1)) w28
          )
          (
          J62 false w27
          ))
        fun c65 w29 =>
        jn (fun J66 => cnd (c65)
          (
          callC Try.prog 14 #[(Value.pointer r1.1), (Value.int .i64 (-1))] (fun (r : Int) => (Value.int .i64 r)) w29 fun r68 w30 =>
          J66 (decide (r68 = 1)) w30
          )
          (
          J66 false w29
          ))
        fun c69 w31 =>
        K ((c69 && (decide ((r48.1.len : Int) = 0))) && (decide (r48.2 = 0))) w31
        )
    ) 0 w3
    )
set_option maxRecDepth 100000 in
theorem D7  (w0 : World) (K : Bool → World → Prop) (h : F7  w0 K) : callC Try.prog 7 #[] (fun (r : Bool) => (Value.bool r)) w0 K := by
  unfold F7 at h
  refine calls_of_wpC Try.func7 rfl 169 rfl (by simp) ?_
  intro ρ hρ
  clear hρ
  refine wpC_seq ?_
  refine wpC_region ?_
  refine wpR_val (v := (Value.bool false)) (w' := w0) rfl rfl rfl (x_assign (v := (Value.bool false)) rfl rfl) ?_
  refine wpR_nil ?_
  refine wpC_seq ?_
  refine wpC_cut (fun ρ => True) trivial ?_
  rintro ρ -
  refine wpC_region ?_
  refine wpR_enter rfl rfl rfl (x_call (vs := [(Value.int .i64 2)]) rfl rfl (mapl_cons rfl mapl_nil) Try.func8 NN_8 NB_8) (Calls.mono h ?_)
  rintro _ w1 ⟨r1, rfl, h⟩
  refine ⟨_, rfl, ?_⟩
  refine wpR_val (v := (Value.tuple #[(Value.pointer r1.1), (Value.int .i64 r1.2)])) (w' := w1) rfl rfl rfl (x_move (v := (Value.tuple #[(Value.pointer r1.1), (Value.int .i64 r1.2)])) rfl rfl) ?_
  refine wpR_val (v := (Value.pointer r1.1)) (w' := w1) rfl rfl rfl (x_extract rfl rfl rfl) ?_
  refine wpR_val (v := (Value.int .i64 r1.2)) (w' := w1) rfl rfl rfl (x_extract rfl rfl rfl) ?_
  refine wpR_val (v := (Value.pointer r1.1)) (w' := w1) rfl rfl rfl (x_assign (v := (Value.pointer r1.1)) rfl rfl) ?_
  refine wpR_val (v := (Value.int .i64 r1.2)) (w' := w1) rfl rfl rfl (x_assign (v := (Value.int .i64 r1.2)) rfl rfl) ?_
  refine wpR_nil ?_
  refine wpC_seq ?_
  refine wpC_cut (fun ρ => ρ 1 = (Value.pointer r1.1) ∧ ρ 2 = (Value.int .i64 r1.2) ∧ True) ⟨rfl, rfl, trivial⟩ ?_
  rintro ρ ⟨e1, e2, -⟩
  refine wpC_region ?_
  refine wpR_enter rfl rfl rfl (x_call (vs := [(Value.int .i64 2)]) rfl rfl (mapl_cons rfl mapl_nil) Try.func10 NN_10 NB_10) (Calls.mono h ?_)
  rintro _ w2 ⟨r2, rfl, h⟩
  refine ⟨_, rfl, ?_⟩
  refine wpR_val (v := (Value.tuple #[(Value.pointer r2.1), (Value.int .i64 r2.2)])) (w' := w2) rfl rfl rfl (x_move (v := (Value.tuple #[(Value.pointer r2.1), (Value.int .i64 r2.2)])) rfl rfl) ?_
  refine wpR_val (v := (Value.pointer r2.1)) (w' := w2) rfl rfl rfl (x_extract rfl rfl rfl) ?_
  refine wpR_val (v := (Value.int .i64 r2.2)) (w' := w2) rfl rfl rfl (x_extract rfl rfl rfl) ?_
  refine wpR_val (v := (Value.pointer r2.1)) (w' := w2) rfl rfl rfl (x_assign (v := (Value.pointer r2.1)) rfl rfl) ?_
  refine wpR_val (v := (Value.int .i64 r2.2)) (w' := w2) rfl rfl rfl (x_assign (v := (Value.int .i64 r2.2)) rfl rfl) ?_
  refine wpR_nil ?_
  refine wpC_seq ?_
  refine wpC_cut (fun ρ => ρ 1 = (Value.pointer r1.1) ∧ ρ 2 = (Value.int .i64 r1.2) ∧ ρ 3 = (Value.pointer r2.1) ∧ ρ 4 = (Value.int .i64 r2.2) ∧ True) ⟨e1, e2, rfl, rfl, trivial⟩ ?_
  rintro ρ ⟨e1, e2, e3, e4, -⟩
  refine wpC_region ?_
  refine wpR_enter rfl rfl rfl (x_call (vs := [(Value.int .i64 2)]) rfl rfl (mapl_cons rfl mapl_nil) Try.func10 NN_10 NB_10) (Calls.mono h ?_)
  rintro _ w3 ⟨r3, rfl, h⟩
  refine ⟨_, rfl, ?_⟩
  refine wpR_val (v := (Value.tuple #[(Value.pointer r3.1), (Value.int .i64 r3.2)])) (w' := w3) rfl rfl rfl (x_move (v := (Value.tuple #[(Value.pointer r3.1), (Value.int .i64 r3.2)])) rfl rfl) ?_
  refine wpR_val (v := (Value.pointer r3.1)) (w' := w3) rfl rfl rfl (x_extract rfl rfl rfl) ?_
  refine wpR_val (v := (Value.int .i64 r3.2)) (w' := w3) rfl rfl rfl (x_extract rfl rfl rfl) ?_
  refine wpR_val (v := (Value.pointer r3.1)) (w' := w3) rfl rfl rfl (x_assign (v := (Value.pointer r3.1)) rfl rfl) ?_
  refine wpR_val (v := (Value.int .i64 r3.2)) (w' := w3) rfl rfl rfl (x_assign (v := (Value.int .i64 r3.2)) rfl rfl) ?_
  refine wpR_nil ?_
  refine wpC_seq ?_
  refine wpC_seq ?_
  refine wpC_cut (fun ρ => ρ 1 = (Value.pointer r1.1) ∧ ρ 2 = (Value.int .i64 r1.2) ∧ ρ 3 = (Value.pointer r2.1) ∧ ρ 4 = (Value.int .i64 r2.2) ∧ ρ 5 = (Value.pointer r3.1) ∧ True) ⟨e1, e2, e3, e4, rfl, trivial⟩ ?_
  rintro ρ ⟨e1, e2, e3, e4, e5, -⟩
  refine wpC_region ?_
  refine wpR_val (v := (Value.pointer r1.1)) (w' := w3) rfl rfl rfl (x_move (v := (Value.pointer r1.1)) rfl e1) ?_
  refine wpR_val (v := (Value.bool r1.1.isNone)) (w' := w3) rfl rfl rfl (x_eqlNil rfl rfl rfl isPtrT_24) ?_
  refine wpR_val (v := (Value.bool r1.1.isNone)) (w' := w3) rfl rfl rfl (x_move (v := (Value.bool r1.1.isNone)) rfl rfl) ?_
  refine wpR_joinJ 3 (fun (_ : Unit) ρ => ρ 40 = Value.bool (r1.1.isNone || r2.1.isNone) ∧ ρ 1 = (Value.pointer r1.1) ∧ ρ 2 = (Value.int .i64 r1.2) ∧ ρ 3 = (Value.pointer r2.1) ∧ ρ 4 = (Value.int .i64 r2.2) ∧ ρ 5 = (Value.pointer r3.1) ∧ True) (fun _ w => w3 = w) ?_ ?_
  · clear h
    rcases Bool.eq_false_or_eq_true (r1.1.isNone) with hc5 | hc5
    · skip
      refine wpR_pass (wantN rfl rfl rfl hc5) rfl rfl ?_
      refine wpR_pass (wantN rfl rfl rfl hc5) rfl rfl ?_
      refine wpR_val (v := (Value.bool true)) (w' := w3) rfl rfl rfl (x_pickT (v := (Value.bool true)) rfl rfl hc5 rfl) ?_
      refine wpR_nil ?_
      exact ⟨(), ⟨(by rw [hc5]; rfl), e1, e2, e3, e4, e5, trivial⟩, rfl⟩
    · skip
      refine wpR_val (v := (Value.pointer r2.1)) (w' := w3) (wantG rfl rfl rfl hc5) rfl rfl (x_move (v := (Value.pointer r2.1)) rfl e3) ?_
      refine wpR_val (v := (Value.bool r2.1.isNone)) (w' := w3) (wantG rfl rfl rfl hc5) rfl rfl (x_eqlNil rfl rfl rfl isPtrT_31) ?_
      refine wpR_val (v := (Value.bool r2.1.isNone)) (w' := w3) rfl rfl rfl (x_pickF (v := (Value.bool r2.1.isNone)) rfl rfl hc5 rfl) ?_
      refine wpR_nil ?_
      exact ⟨(), ⟨(by rw [hc5]; rfl), e1, e2, e3, e4, e5, trivial⟩, rfl⟩
  rintro _ ρ wj ⟨e40, e1, e2, e3, e4, e5, -⟩ rfl
  refine wpR_val (v := (Value.bool (r1.1.isNone || r2.1.isNone))) (w' := w3) rfl rfl rfl (x_move (v := (Value.bool (r1.1.isNone || r2.1.isNone))) rfl e40) ?_
  refine wpR_joinJ 3 (fun (_ : Unit) ρ => ρ 44 = Value.bool ((r1.1.isNone || r2.1.isNone) || r3.1.isNone) ∧ ρ 1 = (Value.pointer r1.1) ∧ ρ 2 = (Value.int .i64 r1.2) ∧ ρ 3 = (Value.pointer r2.1) ∧ ρ 4 = (Value.int .i64 r2.2) ∧ ρ 5 = (Value.pointer r3.1) ∧ True) (fun _ w => w3 = w) ?_ ?_
  · clear h
    rcases Bool.eq_false_or_eq_true (r1.1.isNone || r2.1.isNone) with hc7 | hc7
    · skip
      refine wpR_pass (wantN rfl rfl rfl hc7) rfl rfl ?_
      refine wpR_pass (wantN rfl rfl rfl hc7) rfl rfl ?_
      refine wpR_val (v := (Value.bool true)) (w' := w3) rfl rfl rfl (x_pickT (v := (Value.bool true)) rfl rfl hc7 rfl) ?_
      refine wpR_nil ?_
      exact ⟨(), ⟨(by rw [hc7]; rfl), e1, e2, e3, e4, e5, trivial⟩, rfl⟩
    · skip
      refine wpR_val (v := (Value.pointer r3.1)) (w' := w3) (wantG rfl rfl rfl hc7) rfl rfl (x_move (v := (Value.pointer r3.1)) rfl e5) ?_
      refine wpR_val (v := (Value.bool r3.1.isNone)) (w' := w3) (wantG rfl rfl rfl hc7) rfl rfl (x_eqlNil rfl rfl rfl isPtrT_31) ?_
      refine wpR_val (v := (Value.bool r3.1.isNone)) (w' := w3) rfl rfl rfl (x_pickF (v := (Value.bool r3.1.isNone)) rfl rfl hc7 rfl) ?_
      refine wpR_nil ?_
      exact ⟨(), ⟨(by rw [hc7]; rfl), e1, e2, e3, e4, e5, trivial⟩, rfl⟩
  rintro _ ρ wj ⟨e44, e1, e2, e3, e4, e5, -⟩ rfl
  refine wpR_val (v := (Value.bool ((r1.1.isNone || r2.1.isNone) || r3.1.isNone))) (w' := w3) rfl rfl rfl (x_move (v := (Value.bool ((r1.1.isNone || r2.1.isNone) || r3.1.isNone))) rfl e44) ?_
  refine wpR_joinJ 3 (fun (_ : Unit) ρ => ρ 48 = Value.bool (((r1.1.isNone || r2.1.isNone) || r3.1.isNone) || (!decide (r1.2 = 0))) ∧ ρ 1 = (Value.pointer r1.1) ∧ ρ 3 = (Value.pointer r2.1) ∧ ρ 4 = (Value.int .i64 r2.2) ∧ ρ 5 = (Value.pointer r3.1) ∧ True) (fun _ w => w3 = w) ?_ ?_
  · clear h
    rcases Bool.eq_false_or_eq_true ((r1.1.isNone || r2.1.isNone) || r3.1.isNone) with hc9 | hc9
    · skip
      refine wpR_pass (wantN rfl rfl rfl hc9) rfl rfl ?_
      refine wpR_pass (wantN rfl rfl rfl hc9) rfl rfl ?_
      refine wpR_val (v := (Value.bool true)) (w' := w3) rfl rfl rfl (x_pickT (v := (Value.bool true)) rfl rfl hc9 rfl) ?_
      refine wpR_nil ?_
      exact ⟨(), ⟨(by rw [hc9]; rfl), e1, e3, e4, e5, trivial⟩, rfl⟩
    · skip
      refine wpR_val (v := (Value.int .i64 r1.2)) (w' := w3) (wantG rfl rfl rfl hc9) rfl rfl (x_move (v := (Value.int .i64 r1.2)) rfl e2) ?_
      refine wpR_val (v := (Value.bool (!decide (r1.2 = 0)))) (w' := w3) (wantG rfl rfl rfl hc9) rfl rfl (x_neq rfl rfl rfl) ?_
      refine wpR_val (v := (Value.bool (!decide (r1.2 = 0)))) (w' := w3) rfl rfl rfl (x_pickF (v := (Value.bool (!decide (r1.2 = 0)))) rfl rfl hc9 rfl) ?_
      refine wpR_nil ?_
      exact ⟨(), ⟨(by rw [hc9]; rfl), e1, e3, e4, e5, trivial⟩, rfl⟩
  rintro _ ρ wj ⟨e48, e1, e3, e4, e5, -⟩ rfl
  refine wpR_val (v := (Value.bool (((r1.1.isNone || r2.1.isNone) || r3.1.isNone) || (!decide (r1.2 = 0))))) (w' := w3) rfl rfl rfl (x_move (v := (Value.bool (((r1.1.isNone || r2.1.isNone) || r3.1.isNone) || (!decide (r1.2 = 0))))) rfl e48) ?_
  refine wpR_joinJ 3 (fun (_ : Unit) ρ => ρ 52 = Value.bool ((((r1.1.isNone || r2.1.isNone) || r3.1.isNone) || (!decide (r1.2 = 0))) || (!decide (r2.2 = 0))) ∧ ρ 1 = (Value.pointer r1.1) ∧ ρ 3 = (Value.pointer r2.1) ∧ ρ 5 = (Value.pointer r3.1) ∧ True) (fun _ w => w3 = w) ?_ ?_
  · clear h
    rcases Bool.eq_false_or_eq_true (((r1.1.isNone || r2.1.isNone) || r3.1.isNone) || (!decide (r1.2 = 0))) with hc11 | hc11
    · skip
      refine wpR_pass (wantN rfl rfl rfl hc11) rfl rfl ?_
      refine wpR_pass (wantN rfl rfl rfl hc11) rfl rfl ?_
      refine wpR_val (v := (Value.bool true)) (w' := w3) rfl rfl rfl (x_pickT (v := (Value.bool true)) rfl rfl hc11 rfl) ?_
      refine wpR_nil ?_
      exact ⟨(), ⟨(by rw [hc11]; rfl), e1, e3, e5, trivial⟩, rfl⟩
    · skip
      refine wpR_val (v := (Value.int .i64 r2.2)) (w' := w3) (wantG rfl rfl rfl hc11) rfl rfl (x_move (v := (Value.int .i64 r2.2)) rfl e4) ?_
      refine wpR_val (v := (Value.bool (!decide (r2.2 = 0)))) (w' := w3) (wantG rfl rfl rfl hc11) rfl rfl (x_neq rfl rfl rfl) ?_
      refine wpR_val (v := (Value.bool (!decide (r2.2 = 0)))) (w' := w3) rfl rfl rfl (x_pickF (v := (Value.bool (!decide (r2.2 = 0)))) rfl rfl hc11 rfl) ?_
      refine wpR_nil ?_
      exact ⟨(), ⟨(by rw [hc11]; rfl), e1, e3, e5, trivial⟩, rfl⟩
  rintro _ ρ wj ⟨e52, e1, e3, e5, -⟩ rfl
  refine wpR_nil ?_
  refine wpC_cond (b := (((r1.1.isNone || r2.1.isNone) || r3.1.isNone) || (!decide (r1.2 = 0))) || (!decide (r2.2 = 0))) e52 (fun hc12 => ?_) (fun hc12 => ?_)
  · replace h := h.1 hc12
    refine wpC_seq ?_
    refine wpC_region ?_
    refine wpR_val (v := (Value.bool false)) (w' := w3) rfl rfl rfl (x_assign (v := (Value.bool false)) rfl rfl) ?_
    refine wpR_nil ?_
    refine wpC_ret ?_
    exact ⟨.inl rfl, fun a ha => ⟨_, results_rep1 rfl ha rfl, false, rfl, h⟩⟩
  · replace h := h.2 hc12
    refine wpC_skip ?_
    refine wpC_seq ?_
    refine wpC_seq ?_
    refine wpC_region ?_
    refine wpR_val (v := (Value.int .i64 0)) (w' := w3) rfl rfl rfl (x_assign (v := (Value.int .i64 0)) rfl rfl) ?_
    refine wpR_nil ?_
    refine wpC_block ?_
    obtain ⟨I13, μ13, hI13, hr13⟩ := h
    refine wpC_loop (fun (x : Int) ρ => ρ 7 = (Value.int .i64 x) ∧ ρ 1 = (Value.pointer r1.1) ∧ ρ 3 = (Value.pointer r2.1) ∧ ρ 5 = (Value.pointer r3.1) ∧ True) I13 μ13 0 ⟨rfl, e1, e3, e5, trivial⟩ hI13 ?_
    rintro l13 ρ w4 ⟨e7, e1, e3, e5, -⟩ h
    replace h := hr13 l13 w4 h
    clear hr13 hI13
    refine wpC_seq ?_
    refine wpC_seq ?_
    refine wpC_region ?_
    refine wpR_val (v := (Value.int .i64 l13)) (w' := w4) rfl rfl rfl (x_move (v := (Value.int .i64 l13)) rfl e7) ?_
    refine wpR_val (v := (Value.bool (decide (l13 < 3)))) (w' := w4) rfl rfl rfl (x_lss rfl rfl rfl) ?_
    refine wpR_nil ?_
    refine wpC_cond (b := decide (l13 < 3)) rfl (fun hc14 => ?_) (fun hc14 => ?_)
    · replace h := h.1 hc14
      refine wpC_skip ?_
      refine wpC_seq ?_
      refine wpC_block ?_
      refine wpC_cut (fun ρ => ρ 1 = (Value.pointer r1.1) ∧ ρ 3 = (Value.pointer r2.1) ∧ ρ 5 = (Value.pointer r3.1) ∧ ρ 7 = (Value.int .i64 l13) ∧ True) ⟨e1, e3, e5, e7, trivial⟩ ?_
      rintro ρ ⟨e1, e3, e5, e7, -⟩
      refine wpC_region ?_
      refine wpR_val (v := (Value.pointer r1.1)) (w' := w4) rfl rfl rfl (x_move (v := (Value.pointer r1.1)) rfl e1) ?_
      refine wpR_enter rfl rfl rfl (x_call (vs := [(Value.pointer r1.1)]) rfl rfl (mapl_cons rfl mapl_nil) Try.func12 NN_12 NB_12) (Calls.mono h ?_)
      rintro _ w5 ⟨r15, rfl, h⟩
      refine ⟨_, rfl, ?_⟩
      refine wpR_nil ?_
      refine wpC_cut (fun ρ => ρ 1 = (Value.pointer r1.1) ∧ ρ 3 = (Value.pointer r2.1) ∧ ρ 5 = (Value.pointer r3.1) ∧ ρ 7 = (Value.int .i64 l13) ∧ True) ⟨e1, e3, e5, e7, trivial⟩ ?_
      rintro ρ ⟨e1, e3, e5, e7, -⟩
      refine wpC_region ?_
      refine wpR_val (v := (Value.int .i64 l13)) (w' := w5) rfl rfl rfl (x_move (v := (Value.int .i64 l13)) rfl e7) ?_
      refine wpR_val (v := (Value.int .i64 (IntKind.i64.wrap (l13 + 1)))) (w' := w5) rfl rfl rfl (x_add rfl rfl rfl) ?_
      refine wpR_val (v := (Value.int .i64 (IntKind.i64.wrap (l13 + 1)))) (w' := w5) rfl rfl rfl (x_assign (v := (Value.int .i64 (IntKind.i64.wrap (l13 + 1)))) rfl rfl) ?_
      refine wpR_nil ?_
      exact ⟨IntKind.i64.wrap (l13 + 1), ⟨rfl, e1, e3, e5, trivial⟩, h⟩
    · replace h := h.2 hc14
      refine wpC_exit ?_
      refine wpC_seq ?_
      refine wpC_cut (fun ρ => ρ 1 = (Value.pointer r1.1) ∧ ρ 3 = (Value.pointer r2.1) ∧ ρ 5 = (Value.pointer r3.1) ∧ True) ⟨e1, e3, e5, trivial⟩ ?_
      rintro ρ ⟨e1, e3, e5, -⟩
      refine wpC_region ?_
      refine wpR_val (v := (Value.pointer r1.1)) (w' := w4) rfl rfl rfl (x_move (v := (Value.pointer r1.1)) rfl e1) ?_
      refine wpR_enter rfl rfl rfl (x_call (vs := [(Value.pointer r1.1)]) rfl rfl (mapl_cons rfl mapl_nil) Try.func17 NN_17 NB_17) (Calls.mono h ?_)
      rintro _ w6 ⟨r16, rfl, h⟩
      refine ⟨_, rfl, ?_⟩
      refine wpR_val (v := (Sl.v r16)) (w' := w6) rfl rfl rfl (x_assign (v := (Sl.v r16)) rfl rfl) ?_
      refine wpR_nil ?_
      refine wpC_seq ?_
      refine wpC_cut (fun ρ => ρ 1 = (Value.pointer r1.1) ∧ ρ 3 = (Value.pointer r2.1) ∧ ρ 5 = (Value.pointer r3.1) ∧ ρ 8 = (Sl.v r16) ∧ True) ⟨e1, e3, e5, rfl, trivial⟩ ?_
      rintro ρ ⟨e1, e3, e5, e8, -⟩
      refine wpC_region ?_
      refine wpR_val (v := (Value.pointer r2.1)) (w' := w6) rfl rfl rfl (x_move (v := (Value.pointer r2.1)) rfl e3) ?_
      refine wpR_enter rfl rfl rfl (x_call (vs := [(Value.pointer r2.1), (Value.int .i64 1)]) rfl rfl (mapl_cons rfl (mapl_cons rfl mapl_nil)) Try.func20 NN_20 NB_20) (Calls.mono h ?_)
      rintro _ w7 ⟨r17, rfl, h⟩
      refine ⟨_, rfl, ?_⟩
      refine wpR_val (v := (Value.tuple #[(Sl.v r17.1), (Value.int .i64 r17.2)])) (w' := w7) rfl rfl rfl (x_move (v := (Value.tuple #[(Sl.v r17.1), (Value.int .i64 r17.2)])) rfl rfl) ?_
      refine wpR_val (v := (Sl.v r17.1)) (w' := w7) rfl rfl rfl (x_extract rfl rfl rfl) ?_
      refine wpR_val (v := (Value.int .i64 r17.2)) (w' := w7) rfl rfl rfl (x_extract rfl rfl rfl) ?_
      refine wpR_val (v := (Sl.v r17.1)) (w' := w7) rfl rfl rfl (x_assign (v := (Sl.v r17.1)) rfl rfl) ?_
      refine wpR_val (v := (Value.int .i64 r17.2)) (w' := w7) rfl rfl rfl (x_assign (v := (Value.int .i64 r17.2)) rfl rfl) ?_
      refine wpR_nil ?_
      refine wpC_seq ?_
      refine wpC_cut (fun ρ => ρ 1 = (Value.pointer r1.1) ∧ ρ 3 = (Value.pointer r2.1) ∧ ρ 5 = (Value.pointer r3.1) ∧ ρ 8 = (Sl.v r16) ∧ ρ 9 = (Sl.v r17.1) ∧ ρ 10 = (Value.int .i64 r17.2) ∧ True) ⟨e1, e3, e5, e8, rfl, rfl, trivial⟩ ?_
      rintro ρ ⟨e1, e3, e5, e8, e9, e10, -⟩
      refine wpC_region ?_
      refine wpR_val (v := (Value.pointer r2.1)) (w' := w7) rfl rfl rfl (x_move (v := (Value.pointer r2.1)) rfl e3) ?_
      refine wpR_enter rfl rfl rfl (x_call (vs := [(Value.pointer r2.1), (Value.int .i64 0)]) rfl rfl (mapl_cons rfl (mapl_cons rfl mapl_nil)) Try.func20 NN_20 NB_20) (Calls.mono h ?_)
      rintro _ w8 ⟨r18, rfl, h⟩
      refine ⟨_, rfl, ?_⟩
      refine wpR_val (v := (Value.tuple #[(Sl.v r18.1), (Value.int .i64 r18.2)])) (w' := w8) rfl rfl rfl (x_move (v := (Value.tuple #[(Sl.v r18.1), (Value.int .i64 r18.2)])) rfl rfl) ?_
      refine wpR_val (v := (Sl.v r18.1)) (w' := w8) rfl rfl rfl (x_extract rfl rfl rfl) ?_
      refine wpR_val (v := (Value.int .i64 r18.2)) (w' := w8) rfl rfl rfl (x_extract rfl rfl rfl) ?_
      refine wpR_val (v := (Sl.v r18.1)) (w' := w8) rfl rfl rfl (x_assign (v := (Sl.v r18.1)) rfl rfl) ?_
      refine wpR_val (v := (Value.int .i64 r18.2)) (w' := w8) rfl rfl rfl (x_assign (v := (Value.int .i64 r18.2)) rfl rfl) ?_
      refine wpR_nil ?_
      refine wpC_seq ?_
      refine wpC_cut (fun ρ => ρ 1 = (Value.pointer r1.1) ∧ ρ 3 = (Value.pointer r2.1) ∧ ρ 5 = (Value.pointer r3.1) ∧ ρ 8 = (Sl.v r16) ∧ ρ 9 = (Sl.v r17.1) ∧ ρ 10 = (Value.int .i64 r17.2) ∧ ρ 11 = (Sl.v r18.1) ∧ ρ 12 = (Value.int .i64 r18.2) ∧ True) ⟨e1, e3, e5, e8, e9, e10, rfl, rfl, trivial⟩ ?_
      rintro ρ ⟨e1, e3, e5, e8, e9, e10, e11, e12, -⟩
      refine wpC_region ?_
      refine wpR_val (v := (Value.pointer r2.1)) (w' := w8) rfl rfl rfl (x_move (v := (Value.pointer r2.1)) rfl e3) ?_
      refine wpR_enter rfl rfl rfl (x_call (vs := [(Value.pointer r2.1), (Value.int .i64 1)]) rfl rfl (mapl_cons rfl (mapl_cons rfl mapl_nil)) Try.func20 NN_20 NB_20) (Calls.mono h ?_)
      rintro _ w9 ⟨r19, rfl, h⟩
      refine ⟨_, rfl, ?_⟩
      refine wpR_val (v := (Value.tuple #[(Sl.v r19.1), (Value.int .i64 r19.2)])) (w' := w9) rfl rfl rfl (x_move (v := (Value.tuple #[(Sl.v r19.1), (Value.int .i64 r19.2)])) rfl rfl) ?_
      refine wpR_val (v := (Sl.v r19.1)) (w' := w9) rfl rfl rfl (x_extract rfl rfl rfl) ?_
      refine wpR_val (v := (Value.int .i64 r19.2)) (w' := w9) rfl rfl rfl (x_extract rfl rfl rfl) ?_
      refine wpR_val (v := (Sl.v r19.1)) (w' := w9) rfl rfl rfl (x_assign (v := (Sl.v r19.1)) rfl rfl) ?_
      refine wpR_val (v := (Value.int .i64 r19.2)) (w' := w9) rfl rfl rfl (x_assign (v := (Value.int .i64 r19.2)) rfl rfl) ?_
      refine wpR_nil ?_
      refine wpC_seq ?_
      refine wpC_cut (fun ρ => ρ 1 = (Value.pointer r1.1) ∧ ρ 3 = (Value.pointer r2.1) ∧ ρ 5 = (Value.pointer r3.1) ∧ ρ 8 = (Sl.v r16) ∧ ρ 9 = (Sl.v r17.1) ∧ ρ 10 = (Value.int .i64 r17.2) ∧ ρ 11 = (Sl.v r18.1) ∧ ρ 12 = (Value.int .i64 r18.2) ∧ ρ 13 = (Sl.v r19.1) ∧ ρ 14 = (Value.int .i64 r19.2) ∧ True) ⟨e1, e3, e5, e8, e9, e10, e11, e12, rfl, rfl, trivial⟩ ?_
      rintro ρ ⟨e1, e3, e5, e8, e9, e10, e11, e12, e13, e14, -⟩
      refine wpC_region ?_
      refine wpR_val (v := (Value.pointer r2.1)) (w' := w9) rfl rfl rfl (x_move (v := (Value.pointer r2.1)) rfl e3) ?_
      refine wpR_enter rfl rfl rfl (x_call (vs := [(Value.pointer r2.1), (Value.int .i64 2)]) rfl rfl (mapl_cons rfl (mapl_cons rfl mapl_nil)) Try.func20 NN_20 NB_20) (Calls.mono h ?_)
      rintro _ w10 ⟨r20, rfl, h⟩
      refine ⟨_, rfl, ?_⟩
      refine wpR_val (v := (Value.tuple #[(Sl.v r20.1), (Value.int .i64 r20.2)])) (w' := w10) rfl rfl rfl (x_move (v := (Value.tuple #[(Sl.v r20.1), (Value.int .i64 r20.2)])) rfl rfl) ?_
      refine wpR_val (v := (Sl.v r20.1)) (w' := w10) rfl rfl rfl (x_extract rfl rfl rfl) ?_
      refine wpR_val (v := (Value.int .i64 r20.2)) (w' := w10) rfl rfl rfl (x_extract rfl rfl rfl) ?_
      refine wpR_val (v := (Sl.v r20.1)) (w' := w10) rfl rfl rfl (x_assign (v := (Sl.v r20.1)) rfl rfl) ?_
      refine wpR_val (v := (Value.int .i64 r20.2)) (w' := w10) rfl rfl rfl (x_assign (v := (Value.int .i64 r20.2)) rfl rfl) ?_
      refine wpR_nil ?_
      refine wpC_seq ?_
      refine wpC_cut (fun ρ => ρ 1 = (Value.pointer r1.1) ∧ ρ 5 = (Value.pointer r3.1) ∧ ρ 8 = (Sl.v r16) ∧ ρ 9 = (Sl.v r17.1) ∧ ρ 10 = (Value.int .i64 r17.2) ∧ ρ 11 = (Sl.v r18.1) ∧ ρ 12 = (Value.int .i64 r18.2) ∧ ρ 13 = (Sl.v r19.1) ∧ ρ 14 = (Value.int .i64 r19.2) ∧ ρ 15 = (Sl.v r20.1) ∧ ρ 16 = (Value.int .i64 r20.2) ∧ True) ⟨e1, e5, e8, e9, e10, e11, e12, e13, e14, rfl, rfl, trivial⟩ ?_
      rintro ρ ⟨e1, e5, e8, e9, e10, e11, e12, e13, e14, e15, e16, -⟩
      refine wpC_region ?_
      refine wpR_val (v := (Sl.v r16)) (w' := w10) rfl rfl rfl (x_move (v := (Sl.v r16)) rfl e8) ?_
      obtain ⟨b21, hb21⟩ : ∃ u, u = w10.heap.size := ⟨_, rfl⟩
      obtain ⟨w11, hw21⟩ : ∃ u, u = w10.alloc (.cells #[(Value.int .i64 0), (Value.int .i64 1)] 3) := ⟨_, rfl⟩
      replace h := h b21 w11 hb21 hw21
      refine wpR_val (v := (Sl.v (⟨some ⟨b21, 0, none⟩, 2, 2⟩ : Sl))) (w' := w11) rfl rfl rfl ((x_buildSlice (qs := [(0, (Value.int .i64 0)), (1, (Value.int .i64 1))]) rfl (by rfl) (BS_22_2_0_1 0 1)).trans (by rw [← hb21, ← hw21])) ?_
      refine wpR_enter rfl rfl rfl (x_call (vs := [(Sl.v r16), (Sl.v (⟨some ⟨b21, 0, none⟩, 2, 2⟩ : Sl))]) rfl rfl (mapl_cons rfl (mapl_cons rfl mapl_nil)) Try.func16 NN_16 NB_16) (Calls.mono h ?_)
      rintro _ w12 ⟨r22, rfl, h⟩
      refine ⟨_, rfl, ?_⟩
      refine wpR_val (v := (Value.bool r22)) (w' := w12) rfl rfl rfl (x_move (v := (Value.bool r22)) rfl rfl) ?_
      refine wpR_joinJ 4 (fun (_ : Unit) ρ => ρ 88 = Value.bool (r22 && (decide ((r17.1.len : Int) = 0))) ∧ ρ 1 = (Value.pointer r1.1) ∧ ρ 5 = (Value.pointer r3.1) ∧ ρ 10 = (Value.int .i64 r17.2) ∧ ρ 11 = (Sl.v r18.1) ∧ ρ 12 = (Value.int .i64 r18.2) ∧ ρ 13 = (Sl.v r19.1) ∧ ρ 14 = (Value.int .i64 r19.2) ∧ ρ 15 = (Sl.v r20.1) ∧ ρ 16 = (Value.int .i64 r20.2) ∧ True) (fun _ w => w12 = w) ?_ ?_
      · clear h
        rcases Bool.eq_false_or_eq_true (r22) with hc24 | hc24
        · skip
          refine wpR_val (v := (Sl.v r17.1)) (w' := w12) (wantG rfl rfl rfl hc24) rfl rfl (x_move (v := (Sl.v r17.1)) rfl e9) ?_
          refine wpR_val (v := (Value.int .i64 (r17.1.len : Int))) (w' := w12) (wantG rfl rfl rfl hc24) rfl rfl (x_lenS (s := r17.1) rfl rfl isSliceT_22) ?_
          refine wpR_val (v := (Value.bool (decide ((r17.1.len : Int) = 0)))) (w' := w12) (wantG rfl rfl rfl hc24) rfl rfl (x_eql rfl rfl rfl) ?_
          refine wpR_val (v := (Value.bool (decide ((r17.1.len : Int) = 0)))) (w' := w12) rfl rfl rfl (x_pickT (v := (Value.bool (decide ((r17.1.len : Int) = 0)))) rfl rfl hc24 rfl) ?_
          refine wpR_nil ?_
          exact ⟨(), ⟨(by rw [hc24]; rfl), e1, e5, e10, e11, e12, e13, e14, e15, e16, trivial⟩, rfl⟩
        · skip
          refine wpR_pass (wantN rfl rfl rfl hc24) rfl rfl ?_
          refine wpR_pass (wantN rfl rfl rfl hc24) rfl rfl ?_
          refine wpR_pass (wantN rfl rfl rfl hc24) rfl rfl ?_
          refine wpR_val (v := (Value.bool false)) (w' := w12) rfl rfl rfl (x_pickF (v := (Value.bool false)) rfl rfl hc24 rfl) ?_
          refine wpR_nil ?_
          exact ⟨(), ⟨(by rw [hc24]; rfl), e1, e5, e10, e11, e12, e13, e14, e15, e16, trivial⟩, rfl⟩
      rintro _ ρ wj ⟨e88, e1, e5, e10, e11, e12, e13, e14, e15, e16, -⟩ rfl
      refine wpR_val (v := (Value.bool (r22 && (decide ((r17.1.len : Int) = 0))))) (w' := w12) rfl rfl rfl (x_move (v := (Value.bool (r22 && (decide ((r17.1.len : Int) = 0))))) rfl e88) ?_
      refine wpR_joinJ 3 (fun (_ : Unit) ρ => ρ 92 = Value.bool ((r22 && (decide ((r17.1.len : Int) = 0))) && (decide (r17.2 = 0))) ∧ ρ 1 = (Value.pointer r1.1) ∧ ρ 5 = (Value.pointer r3.1) ∧ ρ 11 = (Sl.v r18.1) ∧ ρ 12 = (Value.int .i64 r18.2) ∧ ρ 13 = (Sl.v r19.1) ∧ ρ 14 = (Value.int .i64 r19.2) ∧ ρ 15 = (Sl.v r20.1) ∧ ρ 16 = (Value.int .i64 r20.2) ∧ True) (fun _ w => w12 = w) ?_ ?_
      · clear h
        rcases Bool.eq_false_or_eq_true (r22 && (decide ((r17.1.len : Int) = 0))) with hc26 | hc26
        · skip
          refine wpR_val (v := (Value.int .i64 r17.2)) (w' := w12) (wantG rfl rfl rfl hc26) rfl rfl (x_move (v := (Value.int .i64 r17.2)) rfl e10) ?_
          refine wpR_val (v := (Value.bool (decide (r17.2 = 0)))) (w' := w12) (wantG rfl rfl rfl hc26) rfl rfl (x_eql rfl rfl rfl) ?_
          refine wpR_val (v := (Value.bool (decide (r17.2 = 0)))) (w' := w12) rfl rfl rfl (x_pickT (v := (Value.bool (decide (r17.2 = 0)))) rfl rfl hc26 rfl) ?_
          refine wpR_nil ?_
          exact ⟨(), ⟨(by rw [hc26]; rfl), e1, e5, e11, e12, e13, e14, e15, e16, trivial⟩, rfl⟩
        · skip
          refine wpR_pass (wantN rfl rfl rfl hc26) rfl rfl ?_
          refine wpR_pass (wantN rfl rfl rfl hc26) rfl rfl ?_
          refine wpR_val (v := (Value.bool false)) (w' := w12) rfl rfl rfl (x_pickF (v := (Value.bool false)) rfl rfl hc26 rfl) ?_
          refine wpR_nil ?_
          exact ⟨(), ⟨(by rw [hc26]; rfl), e1, e5, e11, e12, e13, e14, e15, e16, trivial⟩, rfl⟩
      rintro _ ρ wj ⟨e92, e1, e5, e11, e12, e13, e14, e15, e16, -⟩ rfl
      refine wpR_val (v := (Value.bool ((r22 && (decide ((r17.1.len : Int) = 0))) && (decide (r17.2 = 0))))) (w' := w12) rfl rfl rfl (x_move (v := (Value.bool ((r22 && (decide ((r17.1.len : Int) = 0))) && (decide (r17.2 = 0))))) rfl e92) ?_
      obtain ⟨J27, h, hk⟩ := h
      refine wpR_joinJ 4 (fun x ρ => ρ 97 = Value.bool x ∧ ρ 1 = (Value.pointer r1.1) ∧ ρ 5 = (Value.pointer r3.1) ∧ ρ 12 = (Value.int .i64 r18.2) ∧ ρ 13 = (Sl.v r19.1) ∧ ρ 14 = (Value.int .i64 r19.2) ∧ ρ 15 = (Sl.v r20.1) ∧ ρ 16 = (Value.int .i64 r20.2) ∧ True) (J27) ?_ ?_
      · clear hk
        rcases Bool.eq_false_or_eq_true ((r22 && (decide ((r17.1.len : Int) = 0))) && (decide (r17.2 = 0))) with hc28 | hc28
        · replace h := h.1 hc28
          refine wpR_val (v := (Sl.v r18.1)) (w' := w12) (wantG rfl rfl rfl hc28) rfl rfl (x_move (v := (Sl.v r18.1)) rfl e11) ?_
          obtain ⟨b29, hb29⟩ : ∃ u, u = w12.heap.size := ⟨_, rfl⟩
          obtain ⟨w13, hw29⟩ : ∃ u, u = w12.alloc (.cells #[(Value.int .i64 0), (Value.int .i64 1)] 3) := ⟨_, rfl⟩
          replace h := h b29 w13 hb29 hw29
          refine wpR_val (v := (Sl.v (⟨some ⟨b29, 0, none⟩, 2, 2⟩ : Sl))) (w' := w13) (wantG rfl rfl rfl hc28) rfl rfl ((x_buildSlice (qs := [(0, (Value.int .i64 0)), (1, (Value.int .i64 1))]) rfl (by rfl) (BS_22_2_0_1 0 1)).trans (by rw [← hb29, ← hw29])) ?_
          refine wpR_enter (wantG rfl rfl rfl hc28) rfl rfl (x_call (vs := [(Sl.v r18.1), (Sl.v (⟨some ⟨b29, 0, none⟩, 2, 2⟩ : Sl))]) rfl rfl (mapl_cons rfl (mapl_cons rfl mapl_nil)) Try.func16 NN_16 NB_16) (Calls.mono h ?_)
          rintro _ w14 ⟨r30, rfl, h⟩
          refine ⟨_, rfl, ?_⟩
          refine wpR_val (v := (Value.bool r30)) (w' := w14) rfl rfl rfl (x_pickT (v := (Value.bool r30)) rfl rfl hc28 rfl) ?_
          refine wpR_nil ?_
          exact ⟨r30, ⟨rfl, e1, e5, e12, e13, e14, e15, e16, trivial⟩, h⟩
        · replace h := h.2 hc28
          refine wpR_pass (wantN rfl rfl rfl hc28) rfl rfl ?_
          refine wpR_pass (wantN rfl rfl rfl hc28) rfl rfl ?_
          refine wpR_pass (wantN rfl rfl rfl hc28) rfl rfl ?_
          refine wpR_val (v := (Value.bool false)) (w' := w12) rfl rfl rfl (x_pickF (v := (Value.bool false)) rfl rfl hc28 rfl) ?_
          refine wpR_nil ?_
          exact ⟨false, ⟨rfl, e1, e5, e12, e13, e14, e15, e16, trivial⟩, h⟩
      clear h
      rintro c31 ρ w15 ⟨e97, e1, e5, e12, e13, e14, e15, e16, -⟩ h
      replace h := hk c31 w15 h
      clear hk
      refine wpR_val (v := (Value.bool c31)) (w' := w15) rfl rfl rfl (x_move (v := (Value.bool c31)) rfl e97) ?_
      refine wpR_joinJ 3 (fun (_ : Unit) ρ => ρ 101 = Value.bool (c31 && (decide (r18.2 = 2))) ∧ ρ 1 = (Value.pointer r1.1) ∧ ρ 5 = (Value.pointer r3.1) ∧ ρ 13 = (Sl.v r19.1) ∧ ρ 14 = (Value.int .i64 r19.2) ∧ ρ 15 = (Sl.v r20.1) ∧ ρ 16 = (Value.int .i64 r20.2) ∧ True) (fun _ w => w15 = w) ?_ ?_
      · clear h
        rcases Bool.eq_false_or_eq_true (c31) with hc33 | hc33
        · skip
          refine wpR_val (v := (Value.int .i64 r18.2)) (w' := w15) (wantG rfl rfl rfl hc33) rfl rfl (x_move (v := (Value.int .i64 r18.2)) rfl e12) ?_
          refine wpR_val (v := (Value.bool (decide (r18.2 = 2)))) (w' := w15) (wantG rfl rfl rfl hc33) rfl rfl (x_eql rfl rfl rfl) ?_
          refine wpR_val (v := (Value.bool (decide (r18.2 = 2)))) (w' := w15) rfl rfl rfl (x_pickT (v := (Value.bool (decide (r18.2 = 2)))) rfl rfl hc33 rfl) ?_
          refine wpR_nil ?_
          exact ⟨(), ⟨(by rw [hc33]; rfl), e1, e5, e13, e14, e15, e16, trivial⟩, rfl⟩
        · skip
          refine wpR_pass (wantN rfl rfl rfl hc33) rfl rfl ?_
          refine wpR_pass (wantN rfl rfl rfl hc33) rfl rfl ?_
          refine wpR_val (v := (Value.bool false)) (w' := w15) rfl rfl rfl (x_pickF (v := (Value.bool false)) rfl rfl hc33 rfl) ?_
          refine wpR_nil ?_
          exact ⟨(), ⟨(by rw [hc33]; rfl), e1, e5, e13, e14, e15, e16, trivial⟩, rfl⟩
      rintro _ ρ wj ⟨e101, e1, e5, e13, e14, e15, e16, -⟩ rfl
      refine wpR_val (v := (Value.bool (c31 && (decide (r18.2 = 2))))) (w' := w15) rfl rfl rfl (x_move (v := (Value.bool (c31 && (decide (r18.2 = 2))))) rfl e101) ?_
      refine wpR_joinJ 4 (fun (_ : Unit) ρ => ρ 106 = Value.bool ((c31 && (decide (r18.2 = 2))) && (decide ((r19.1.len : Int) = 0))) ∧ ρ 1 = (Value.pointer r1.1) ∧ ρ 5 = (Value.pointer r3.1) ∧ ρ 14 = (Value.int .i64 r19.2) ∧ ρ 15 = (Sl.v r20.1) ∧ ρ 16 = (Value.int .i64 r20.2) ∧ True) (fun _ w => w15 = w) ?_ ?_
      · clear h
        rcases Bool.eq_false_or_eq_true (c31 && (decide (r18.2 = 2))) with hc35 | hc35
        · skip
          refine wpR_val (v := (Sl.v r19.1)) (w' := w15) (wantG rfl rfl rfl hc35) rfl rfl (x_move (v := (Sl.v r19.1)) rfl e13) ?_
          refine wpR_val (v := (Value.int .i64 (r19.1.len : Int))) (w' := w15) (wantG rfl rfl rfl hc35) rfl rfl (x_lenS (s := r19.1) rfl rfl isSliceT_22) ?_
          refine wpR_val (v := (Value.bool (decide ((r19.1.len : Int) = 0)))) (w' := w15) (wantG rfl rfl rfl hc35) rfl rfl (x_eql rfl rfl rfl) ?_
          refine wpR_val (v := (Value.bool (decide ((r19.1.len : Int) = 0)))) (w' := w15) rfl rfl rfl (x_pickT (v := (Value.bool (decide ((r19.1.len : Int) = 0)))) rfl rfl hc35 rfl) ?_
          refine wpR_nil ?_
          exact ⟨(), ⟨(by rw [hc35]; rfl), e1, e5, e14, e15, e16, trivial⟩, rfl⟩
        · skip
          refine wpR_pass (wantN rfl rfl rfl hc35) rfl rfl ?_
          refine wpR_pass (wantN rfl rfl rfl hc35) rfl rfl ?_
          refine wpR_pass (wantN rfl rfl rfl hc35) rfl rfl ?_
          refine wpR_val (v := (Value.bool false)) (w' := w15) rfl rfl rfl (x_pickF (v := (Value.bool false)) rfl rfl hc35 rfl) ?_
          refine wpR_nil ?_
          exact ⟨(), ⟨(by rw [hc35]; rfl), e1, e5, e14, e15, e16, trivial⟩, rfl⟩
      rintro _ ρ wj ⟨e106, e1, e5, e14, e15, e16, -⟩ rfl
      refine wpR_val (v := (Value.bool ((c31 && (decide (r18.2 = 2))) && (decide ((r19.1.len : Int) = 0))))) (w' := w15) rfl rfl rfl (x_move (v := (Value.bool ((c31 && (decide (r18.2 = 2))) && (decide ((r19.1.len : Int) = 0))))) rfl e106) ?_
      refine wpR_joinJ 3 (fun (_ : Unit) ρ => ρ 110 = Value.bool (((c31 && (decide (r18.2 = 2))) && (decide ((r19.1.len : Int) = 0))) && (decide (r19.2 = 2))) ∧ ρ 1 = (Value.pointer r1.1) ∧ ρ 5 = (Value.pointer r3.1) ∧ ρ 15 = (Sl.v r20.1) ∧ ρ 16 = (Value.int .i64 r20.2) ∧ True) (fun _ w => w15 = w) ?_ ?_
      · clear h
        rcases Bool.eq_false_or_eq_true ((c31 && (decide (r18.2 = 2))) && (decide ((r19.1.len : Int) = 0))) with hc37 | hc37
        · skip
          refine wpR_val (v := (Value.int .i64 r19.2)) (w' := w15) (wantG rfl rfl rfl hc37) rfl rfl (x_move (v := (Value.int .i64 r19.2)) rfl e14) ?_
          refine wpR_val (v := (Value.bool (decide (r19.2 = 2)))) (w' := w15) (wantG rfl rfl rfl hc37) rfl rfl (x_eql rfl rfl rfl) ?_
          refine wpR_val (v := (Value.bool (decide (r19.2 = 2)))) (w' := w15) rfl rfl rfl (x_pickT (v := (Value.bool (decide (r19.2 = 2)))) rfl rfl hc37 rfl) ?_
          refine wpR_nil ?_
          exact ⟨(), ⟨(by rw [hc37]; rfl), e1, e5, e15, e16, trivial⟩, rfl⟩
        · skip
          refine wpR_pass (wantN rfl rfl rfl hc37) rfl rfl ?_
          refine wpR_pass (wantN rfl rfl rfl hc37) rfl rfl ?_
          refine wpR_val (v := (Value.bool false)) (w' := w15) rfl rfl rfl (x_pickF (v := (Value.bool false)) rfl rfl hc37 rfl) ?_
          refine wpR_nil ?_
          exact ⟨(), ⟨(by rw [hc37]; rfl), e1, e5, e15, e16, trivial⟩, rfl⟩
      rintro _ ρ wj ⟨e110, e1, e5, e15, e16, -⟩ rfl
      refine wpR_val (v := (Value.bool (((c31 && (decide (r18.2 = 2))) && (decide ((r19.1.len : Int) = 0))) && (decide (r19.2 = 2))))) (w' := w15) rfl rfl rfl (x_move (v := (Value.bool (((c31 && (decide (r18.2 = 2))) && (decide ((r19.1.len : Int) = 0))) && (decide (r19.2 = 2))))) rfl e110) ?_
      obtain ⟨J38, h, hk⟩ := h
      refine wpR_joinJ 4 (fun x ρ => ρ 115 = Value.bool x ∧ ρ 1 = (Value.pointer r1.1) ∧ ρ 5 = (Value.pointer r3.1) ∧ ρ 16 = (Value.int .i64 r20.2) ∧ True) (J38) ?_ ?_
      · clear hk
        rcases Bool.eq_false_or_eq_true (((c31 && (decide (r18.2 = 2))) && (decide ((r19.1.len : Int) = 0))) && (decide (r19.2 = 2))) with hc39 | hc39
        · replace h := h.1 hc39
          refine wpR_val (v := (Sl.v r20.1)) (w' := w15) (wantG rfl rfl rfl hc39) rfl rfl (x_move (v := (Sl.v r20.1)) rfl e15) ?_
          obtain ⟨b40, hb40⟩ : ∃ u, u = w15.heap.size := ⟨_, rfl⟩
          obtain ⟨w16, hw40⟩ : ∃ u, u = w15.alloc (.cells #[(Value.int .i64 2)] 3) := ⟨_, rfl⟩
          replace h := h b40 w16 hb40 hw40
          refine wpR_val (v := (Sl.v (⟨some ⟨b40, 0, none⟩, 1, 1⟩ : Sl))) (w' := w16) (wantG rfl rfl rfl hc39) rfl rfl ((x_buildSlice (qs := [(0, (Value.int .i64 2))]) rfl (by rfl) (BS_22_1_0 2)).trans (by rw [← hb40, ← hw40])) ?_
          refine wpR_enter (wantG rfl rfl rfl hc39) rfl rfl (x_call (vs := [(Sl.v r20.1), (Sl.v (⟨some ⟨b40, 0, none⟩, 1, 1⟩ : Sl))]) rfl rfl (mapl_cons rfl (mapl_cons rfl mapl_nil)) Try.func16 NN_16 NB_16) (Calls.mono h ?_)
          rintro _ w17 ⟨r41, rfl, h⟩
          refine ⟨_, rfl, ?_⟩
          refine wpR_val (v := (Value.bool r41)) (w' := w17) rfl rfl rfl (x_pickT (v := (Value.bool r41)) rfl rfl hc39 rfl) ?_
          refine wpR_nil ?_
          exact ⟨r41, ⟨rfl, e1, e5, e16, trivial⟩, h⟩
        · replace h := h.2 hc39
          refine wpR_pass (wantN rfl rfl rfl hc39) rfl rfl ?_
          refine wpR_pass (wantN rfl rfl rfl hc39) rfl rfl ?_
          refine wpR_pass (wantN rfl rfl rfl hc39) rfl rfl ?_
          refine wpR_val (v := (Value.bool false)) (w' := w15) rfl rfl rfl (x_pickF (v := (Value.bool false)) rfl rfl hc39 rfl) ?_
          refine wpR_nil ?_
          exact ⟨false, ⟨rfl, e1, e5, e16, trivial⟩, h⟩
      clear h
      rintro c42 ρ w18 ⟨e115, e1, e5, e16, -⟩ h
      replace h := hk c42 w18 h
      clear hk
      refine wpR_val (v := (Value.bool c42)) (w' := w18) rfl rfl rfl (x_move (v := (Value.bool c42)) rfl e115) ?_
      refine wpR_joinJ 3 (fun (_ : Unit) ρ => ρ 119 = Value.bool (c42 && (decide (r20.2 = 3))) ∧ ρ 1 = (Value.pointer r1.1) ∧ ρ 5 = (Value.pointer r3.1) ∧ True) (fun _ w => w18 = w) ?_ ?_
      · clear h
        rcases Bool.eq_false_or_eq_true (c42) with hc44 | hc44
        · skip
          refine wpR_val (v := (Value.int .i64 r20.2)) (w' := w18) (wantG rfl rfl rfl hc44) rfl rfl (x_move (v := (Value.int .i64 r20.2)) rfl e16) ?_
          refine wpR_val (v := (Value.bool (decide (r20.2 = 3)))) (w' := w18) (wantG rfl rfl rfl hc44) rfl rfl (x_eql rfl rfl rfl) ?_
          refine wpR_val (v := (Value.bool (decide (r20.2 = 3)))) (w' := w18) rfl rfl rfl (x_pickT (v := (Value.bool (decide (r20.2 = 3)))) rfl rfl hc44 rfl) ?_
          refine wpR_nil ?_
          exact ⟨(), ⟨(by rw [hc44]; rfl), e1, e5, trivial⟩, rfl⟩
        · skip
          refine wpR_pass (wantN rfl rfl rfl hc44) rfl rfl ?_
          refine wpR_pass (wantN rfl rfl rfl hc44) rfl rfl ?_
          refine wpR_val (v := (Value.bool false)) (w' := w18) rfl rfl rfl (x_pickF (v := (Value.bool false)) rfl rfl hc44 rfl) ?_
          refine wpR_nil ?_
          exact ⟨(), ⟨(by rw [hc44]; rfl), e1, e5, trivial⟩, rfl⟩
      rintro _ ρ wj ⟨e119, e1, e5, -⟩ rfl
      refine wpR_val (v := (Value.bool (c42 && (decide (r20.2 = 3))))) (w' := w18) rfl rfl rfl (x_assign (v := (Value.bool (c42 && (decide (r20.2 = 3))))) rfl e119) ?_
      refine wpR_nil ?_
      refine wpC_seq ?_
      refine wpC_cut (fun ρ => ρ 1 = (Value.pointer r1.1) ∧ ρ 5 = (Value.pointer r3.1) ∧ ρ 17 = (Value.bool (c42 && (decide (r20.2 = 3)))) ∧ True) ⟨e1, e5, rfl, trivial⟩ ?_
      rintro ρ ⟨e1, e5, e17, -⟩
      refine wpC_region ?_
      refine wpR_val (v := (Value.pointer r1.1)) (w' := w18) rfl rfl rfl (x_move (v := (Value.pointer r1.1)) rfl e1) ?_
      refine wpR_enter rfl rfl rfl (x_call (vs := [(Value.pointer r1.1), (Value.int .i64 2)]) rfl rfl (mapl_cons rfl (mapl_cons rfl mapl_nil)) Try.func14 NN_14 NB_14) (Calls.mono h ?_)
      rintro _ w19 ⟨r45, rfl, h⟩
      refine ⟨_, rfl, ?_⟩
      refine wpR_val (v := (Value.int .i64 r45)) (w' := w19) rfl rfl rfl (x_assign (v := (Value.int .i64 r45)) rfl rfl) ?_
      refine wpR_nil ?_
      refine wpC_seq ?_
      refine wpC_cut (fun ρ => ρ 1 = (Value.pointer r1.1) ∧ ρ 5 = (Value.pointer r3.1) ∧ ρ 17 = (Value.bool (c42 && (decide (r20.2 = 3)))) ∧ ρ 18 = (Value.int .i64 r45) ∧ True) ⟨e1, e5, e17, rfl, trivial⟩ ?_
      rintro ρ ⟨e1, e5, e17, e18, -⟩
      refine wpC_region ?_
      refine wpR_val (v := (Value.pointer r1.1)) (w' := w19) rfl rfl rfl (x_move (v := (Value.pointer r1.1)) rfl e1) ?_
      refine wpR_enter rfl rfl rfl (x_call (vs := [(Value.pointer r1.1)]) rfl rfl (mapl_cons rfl mapl_nil) Try.func17 NN_17 NB_17) (Calls.mono h ?_)
      rintro _ w20 ⟨r46, rfl, h⟩
      refine ⟨_, rfl, ?_⟩
      refine wpR_val (v := (Sl.v r46)) (w' := w20) rfl rfl rfl (x_assign (v := (Sl.v r46)) rfl rfl) ?_
      refine wpR_nil ?_
      refine wpC_seq ?_
      refine wpC_cut (fun ρ => ρ 1 = (Value.pointer r1.1) ∧ ρ 5 = (Value.pointer r3.1) ∧ ρ 17 = (Value.bool (c42 && (decide (r20.2 = 3)))) ∧ ρ 18 = (Value.int .i64 r45) ∧ ρ 19 = (Sl.v r46) ∧ True) ⟨e1, e5, e17, e18, rfl, trivial⟩ ?_
      rintro ρ ⟨e1, e5, e17, e18, e19, -⟩
      refine wpC_region ?_
      refine wpR_val (v := (Value.pointer r1.1)) (w' := w20) rfl rfl rfl (x_move (v := (Value.pointer r1.1)) rfl e1) ?_
      refine wpR_enter rfl rfl rfl (x_call (vs := [(Value.pointer r1.1), (Value.int .i64 1)]) rfl rfl (mapl_cons rfl (mapl_cons rfl mapl_nil)) Try.func14 NN_14 NB_14) (Calls.mono h ?_)
      rintro _ w21 ⟨r47, rfl, h⟩
      refine ⟨_, rfl, ?_⟩
      refine wpR_val (v := (Value.int .i64 r47)) (w' := w21) rfl rfl rfl (x_assign (v := (Value.int .i64 r47)) rfl rfl) ?_
      refine wpR_nil ?_
      refine wpC_seq ?_
      refine wpC_cut (fun ρ => ρ 1 = (Value.pointer r1.1) ∧ ρ 5 = (Value.pointer r3.1) ∧ ρ 17 = (Value.bool (c42 && (decide (r20.2 = 3)))) ∧ ρ 18 = (Value.int .i64 r45) ∧ ρ 19 = (Sl.v r46) ∧ ρ 20 = (Value.int .i64 r47) ∧ True) ⟨e1, e5, e17, e18, e19, rfl, trivial⟩ ?_
      rintro ρ ⟨e1, e5, e17, e18, e19, e20, -⟩
      refine wpC_region ?_
      refine wpR_val (v := (Value.pointer r3.1)) (w' := w21) rfl rfl rfl (x_move (v := (Value.pointer r3.1)) rfl e5) ?_
      refine wpR_enter rfl rfl rfl (x_call (vs := [(Value.pointer r3.1), (Value.int .i64 9)]) rfl rfl (mapl_cons rfl (mapl_cons rfl mapl_nil)) Try.func20 NN_20 NB_20) (Calls.mono h ?_)
      rintro _ w22 ⟨r48, rfl, h⟩
      refine ⟨_, rfl, ?_⟩
      refine wpR_val (v := (Value.tuple #[(Sl.v r48.1), (Value.int .i64 r48.2)])) (w' := w22) rfl rfl rfl (x_move (v := (Value.tuple #[(Sl.v r48.1), (Value.int .i64 r48.2)])) rfl rfl) ?_
      refine wpR_val (v := (Sl.v r48.1)) (w' := w22) rfl rfl rfl (x_extract rfl rfl rfl) ?_
      refine wpR_val (v := (Value.int .i64 r48.2)) (w' := w22) rfl rfl rfl (x_extract rfl rfl rfl) ?_
      refine wpR_val (v := (Sl.v r48.1)) (w' := w22) rfl rfl rfl (x_assign (v := (Sl.v r48.1)) rfl rfl) ?_
      refine wpR_val (v := (Value.int .i64 r48.2)) (w' := w22) rfl rfl rfl (x_assign (v := (Value.int .i64 r48.2)) rfl rfl) ?_
      refine wpR_nil ?_
      refine wpC_seq ?_
      refine wpC_cut (fun ρ => ρ 1 = (Value.pointer r1.1) ∧ ρ 17 = (Value.bool (c42 && (decide (r20.2 = 3)))) ∧ ρ 18 = (Value.int .i64 r45) ∧ ρ 19 = (Sl.v r46) ∧ ρ 20 = (Value.int .i64 r47) ∧ ρ 21 = (Sl.v r48.1) ∧ ρ 22 = (Value.int .i64 r48.2) ∧ True) ⟨e1, e17, e18, e19, e20, rfl, rfl, trivial⟩ ?_
      rintro ρ ⟨e1, e17, e18, e19, e20, e21, e22, -⟩
      refine wpC_region ?_
      refine wpR_val (v := (Value.bool (c42 && (decide (r20.2 = 3))))) (w' := w22) rfl rfl rfl (x_move (v := (Value.bool (c42 && (decide (r20.2 = 3))))) rfl e17) ?_
      refine wpR_val (v := (Value.bool (c42 && (decide (r20.2 = 3))))) (w' := w22) rfl rfl rfl (x_move (v := (Value.bool (c42 && (decide (r20.2 = 3))))) rfl rfl) ?_
      refine wpR_joinJ 3 (fun (_ : Unit) ρ => ρ 135 = Value.bool ((c42 && (decide (r20.2 = 3))) && (decide (r45 = 0))) ∧ ρ 1 = (Value.pointer r1.1) ∧ ρ 19 = (Sl.v r46) ∧ ρ 20 = (Value.int .i64 r47) ∧ ρ 21 = (Sl.v r48.1) ∧ ρ 22 = (Value.int .i64 r48.2) ∧ True) (fun _ w => w22 = w) ?_ ?_
      · clear h
        rcases Bool.eq_false_or_eq_true (c42 && (decide (r20.2 = 3))) with hc50 | hc50
        · skip
          refine wpR_val (v := (Value.int .i64 r45)) (w' := w22) (wantG rfl rfl rfl hc50) rfl rfl (x_move (v := (Value.int .i64 r45)) rfl e18) ?_
          refine wpR_val (v := (Value.bool (decide (r45 = 0)))) (w' := w22) (wantG rfl rfl rfl hc50) rfl rfl (x_eql rfl rfl rfl) ?_
          refine wpR_val (v := (Value.bool (decide (r45 = 0)))) (w' := w22) rfl rfl rfl (x_pickT (v := (Value.bool (decide (r45 = 0)))) rfl rfl hc50 rfl) ?_
          refine wpR_nil ?_
          exact ⟨(), ⟨(by rw [hc50]; rfl), e1, e19, e20, e21, e22, trivial⟩, rfl⟩
        · skip
          refine wpR_pass (wantN rfl rfl rfl hc50) rfl rfl ?_
          refine wpR_pass (wantN rfl rfl rfl hc50) rfl rfl ?_
          refine wpR_val (v := (Value.bool false)) (w' := w22) rfl rfl rfl (x_pickF (v := (Value.bool false)) rfl rfl hc50 rfl) ?_
          refine wpR_nil ?_
          exact ⟨(), ⟨(by rw [hc50]; rfl), e1, e19, e20, e21, e22, trivial⟩, rfl⟩
      rintro _ ρ wj ⟨e135, e1, e19, e20, e21, e22, -⟩ rfl
      refine wpR_val (v := (Value.bool ((c42 && (decide (r20.2 = 3))) && (decide (r45 = 0))))) (w' := w22) rfl rfl rfl (x_move (v := (Value.bool ((c42 && (decide (r20.2 = 3))) && (decide (r45 = 0))))) rfl e135) ?_
      obtain ⟨J51, h, hk⟩ := h
      refine wpR_joinJ 4 (fun x ρ => ρ 140 = Value.bool x ∧ ρ 1 = (Value.pointer r1.1) ∧ ρ 20 = (Value.int .i64 r47) ∧ ρ 21 = (Sl.v r48.1) ∧ ρ 22 = (Value.int .i64 r48.2) ∧ True) (J51) ?_ ?_
      · clear hk
        rcases Bool.eq_false_or_eq_true ((c42 && (decide (r20.2 = 3))) && (decide (r45 = 0))) with hc52 | hc52
        · replace h := h.1 hc52
          refine wpR_val (v := (Sl.v r46)) (w' := w22) (wantG rfl rfl rfl hc52) rfl rfl (x_move (v := (Sl.v r46)) rfl e19) ?_
          obtain ⟨b53, hb53⟩ : ∃ u, u = w22.heap.size := ⟨_, rfl⟩
          obtain ⟨w23, hw53⟩ : ∃ u, u = w22.alloc (.cells #[(Value.int .i64 2)] 3) := ⟨_, rfl⟩
          replace h := h b53 w23 hb53 hw53
          refine wpR_val (v := (Sl.v (⟨some ⟨b53, 0, none⟩, 1, 1⟩ : Sl))) (w' := w23) (wantG rfl rfl rfl hc52) rfl rfl ((x_buildSlice (qs := [(0, (Value.int .i64 2))]) rfl (by rfl) (BS_22_1_0 2)).trans (by rw [← hb53, ← hw53])) ?_
          refine wpR_enter (wantG rfl rfl rfl hc52) rfl rfl (x_call (vs := [(Sl.v r46), (Sl.v (⟨some ⟨b53, 0, none⟩, 1, 1⟩ : Sl))]) rfl rfl (mapl_cons rfl (mapl_cons rfl mapl_nil)) Try.func16 NN_16 NB_16) (Calls.mono h ?_)
          rintro _ w24 ⟨r54, rfl, h⟩
          refine ⟨_, rfl, ?_⟩
          refine wpR_val (v := (Value.bool r54)) (w' := w24) rfl rfl rfl (x_pickT (v := (Value.bool r54)) rfl rfl hc52 rfl) ?_
          refine wpR_nil ?_
          exact ⟨r54, ⟨rfl, e1, e20, e21, e22, trivial⟩, h⟩
        · replace h := h.2 hc52
          refine wpR_pass (wantN rfl rfl rfl hc52) rfl rfl ?_
          refine wpR_pass (wantN rfl rfl rfl hc52) rfl rfl ?_
          refine wpR_pass (wantN rfl rfl rfl hc52) rfl rfl ?_
          refine wpR_val (v := (Value.bool false)) (w' := w22) rfl rfl rfl (x_pickF (v := (Value.bool false)) rfl rfl hc52 rfl) ?_
          refine wpR_nil ?_
          exact ⟨false, ⟨rfl, e1, e20, e21, e22, trivial⟩, h⟩
      clear h
      rintro c55 ρ w25 ⟨e140, e1, e20, e21, e22, -⟩ h
      replace h := hk c55 w25 h
      clear hk
      refine wpR_val (v := (Value.bool c55)) (w' := w25) rfl rfl rfl (x_move (v := (Value.bool c55)) rfl e140) ?_
      refine wpR_joinJ 3 (fun (_ : Unit) ρ => ρ 144 = Value.bool (c55 && (decide (r47 = 0))) ∧ ρ 1 = (Value.pointer r1.1) ∧ ρ 21 = (Sl.v r48.1) ∧ ρ 22 = (Value.int .i64 r48.2) ∧ True) (fun _ w => w25 = w) ?_ ?_
      · clear h
        rcases Bool.eq_false_or_eq_true (c55) with hc57 | hc57
        · skip
          refine wpR_val (v := (Value.int .i64 r47)) (w' := w25) (wantG rfl rfl rfl hc57) rfl rfl (x_move (v := (Value.int .i64 r47)) rfl e20) ?_
          refine wpR_val (v := (Value.bool (decide (r47 = 0)))) (w' := w25) (wantG rfl rfl rfl hc57) rfl rfl (x_eql rfl rfl rfl) ?_
          refine wpR_val (v := (Value.bool (decide (r47 = 0)))) (w' := w25) rfl rfl rfl (x_pickT (v := (Value.bool (decide (r47 = 0)))) rfl rfl hc57 rfl) ?_
          refine wpR_nil ?_
          exact ⟨(), ⟨(by rw [hc57]; rfl), e1, e21, e22, trivial⟩, rfl⟩
        · skip
          refine wpR_pass (wantN rfl rfl rfl hc57) rfl rfl ?_
          refine wpR_pass (wantN rfl rfl rfl hc57) rfl rfl ?_
          refine wpR_val (v := (Value.bool false)) (w' := w25) rfl rfl rfl (x_pickF (v := (Value.bool false)) rfl rfl hc57 rfl) ?_
          refine wpR_nil ?_
          exact ⟨(), ⟨(by rw [hc57]; rfl), e1, e21, e22, trivial⟩, rfl⟩
      rintro _ ρ wj ⟨e144, e1, e21, e22, -⟩ rfl
      refine wpR_val (v := (Value.bool (c55 && (decide (r47 = 0))))) (w' := w25) rfl rfl rfl (x_move (v := (Value.bool (c55 && (decide (r47 = 0))))) rfl e144) ?_
      obtain ⟨J58, h, hk⟩ := h
      refine wpR_joinJ 4 (fun x ρ => ρ 149 = Value.bool x ∧ ρ 1 = (Value.pointer r1.1) ∧ ρ 21 = (Sl.v r48.1) ∧ ρ 22 = (Value.int .i64 r48.2) ∧ True) (J58) ?_ ?_
      · clear hk
        rcases Bool.eq_false_or_eq_true (c55 && (decide (r47 = 0))) with hc59 | hc59
        · replace h := h.1 hc59
          refine wpR_val (v := (Value.pointer r1.1)) (w' := w25) (wantG rfl rfl rfl hc59) rfl rfl (x_move (v := (Value.pointer r1.1)) rfl e1) ?_
          refine wpR_enter (wantG rfl rfl rfl hc59) rfl rfl (x_call (vs := [(Value.pointer r1.1)]) rfl rfl (mapl_cons rfl mapl_nil) Try.func19 NN_19 NB_19) (Calls.mono h ?_)
          rintro _ w26 ⟨r60, rfl, h⟩
          refine ⟨_, rfl, ?_⟩
          refine wpR_val (v := (Value.bool (decide (r60 = 1)))) (w' := w26) (wantG rfl rfl rfl hc59) rfl rfl (x_eql rfl rfl rfl) ?_
          refine wpR_val (v := (Value.bool (decide (r60 = 1)))) (w' := w26) rfl rfl rfl (x_pickT (v := (Value.bool (decide (r60 = 1)))) rfl rfl hc59 rfl) ?_
          refine wpR_nil ?_
          exact ⟨decide (r60 = 1), ⟨rfl, e1, e21, e22, trivial⟩, h⟩
        · replace h := h.2 hc59
          refine wpR_pass (wantN rfl rfl rfl hc59) rfl rfl ?_
          refine wpR_pass (wantN rfl rfl rfl hc59) rfl rfl ?_
          refine wpR_pass (wantN rfl rfl rfl hc59) rfl rfl ?_
          refine wpR_val (v := (Value.bool false)) (w' := w25) rfl rfl rfl (x_pickF (v := (Value.bool false)) rfl rfl hc59 rfl) ?_
          refine wpR_nil ?_
          exact ⟨false, ⟨rfl, e1, e21, e22, trivial⟩, h⟩
      clear h
      rintro c61 ρ w27 ⟨e149, e1, e21, e22, -⟩ h
      replace h := hk c61 w27 h
      clear hk
      refine wpR_val (v := (Value.bool c61)) (w' := w27) rfl rfl rfl (x_move (v := (Value.bool c61)) rfl e149) ?_
      obtain ⟨J62, h, hk⟩ := h
      refine wpR_joinJ 4 (fun x ρ => ρ 154 = Value.bool x ∧ ρ 1 = (Value.pointer r1.1) ∧ ρ 21 = (Sl.v r48.1) ∧ ρ 22 = (Value.int .i64 r48.2) ∧ True) (J62) ?_ ?_
      · clear hk
        rcases Bool.eq_false_or_eq_true (c61) with hc63 | hc63
        · replace h := h.1 hc63
          refine wpR_val (v := (Value.pointer r1.1)) (w' := w27) (wantG rfl rfl rfl hc63) rfl rfl (x_move (v := (Value.pointer r1.1)) rfl e1) ?_
          refine wpR_enter (wantG rfl rfl rfl hc63) rfl rfl (x_call (vs := [(Value.pointer r1.1), (Value.int .i64 4)]) rfl rfl (mapl_cons rfl (mapl_cons rfl mapl_nil)) Try.func14 NN_14 NB_14) (Calls.mono h ?_)
          rintro _ w28 ⟨r64, rfl, h⟩
          refine ⟨_, rfl, ?_⟩
          refine wpR_val (v := (Value.bool (decide (r64 = 1)))) (w' := w28) (wantG rfl rfl rfl hc63) rfl rfl (x_eql rfl rfl rfl) ?_
          refine wpR_val (v := (Value.bool (decide (r64 = 1)))) (w' := w28) rfl rfl rfl (x_pickT (v := (Value.bool (decide (r64 = 1)))) rfl rfl hc63 rfl) ?_
          refine wpR_nil ?_
          exact ⟨decide (r64 = 1), ⟨rfl, e1, e21, e22, trivial⟩, h⟩
        · replace h := h.2 hc63
          refine wpR_pass (wantN rfl rfl rfl hc63) rfl rfl ?_
          refine wpR_pass (wantN rfl rfl rfl hc63) rfl rfl ?_
          refine wpR_pass (wantN rfl rfl rfl hc63) rfl rfl ?_
          refine wpR_val (v := (Value.bool false)) (w' := w27) rfl rfl rfl (x_pickF (v := (Value.bool false)) rfl rfl hc63 rfl) ?_
          refine wpR_nil ?_
          exact ⟨false, ⟨rfl, e1, e21, e22, trivial⟩, h⟩
      clear h
      rintro c65 ρ w29 ⟨e154, e1, e21, e22, -⟩ h
      replace h := hk c65 w29 h
      clear hk
      refine wpR_val (v := (Value.bool c65)) (w' := w29) rfl rfl rfl (x_move (v := (Value.bool c65)) rfl e154) ?_
      obtain ⟨J66, h, hk⟩ := h
      refine wpR_joinJ 4 (fun x ρ => ρ 159 = Value.bool x ∧ ρ 21 = (Sl.v r48.1) ∧ ρ 22 = (Value.int .i64 r48.2) ∧ True) (J66) ?_ ?_
      · clear hk
        rcases Bool.eq_false_or_eq_true (c65) with hc67 | hc67
        · replace h := h.1 hc67
          refine wpR_val (v := (Value.pointer r1.1)) (w' := w29) (wantG rfl rfl rfl hc67) rfl rfl (x_move (v := (Value.pointer r1.1)) rfl e1) ?_
          refine wpR_enter (wantG rfl rfl rfl hc67) rfl rfl (x_call (vs := [(Value.pointer r1.1), (Value.int .i64 (-1))]) rfl rfl (mapl_cons rfl (mapl_cons rfl mapl_nil)) Try.func14 NN_14 NB_14) (Calls.mono h ?_)
          rintro _ w30 ⟨r68, rfl, h⟩
          refine ⟨_, rfl, ?_⟩
          refine wpR_val (v := (Value.bool (decide (r68 = 1)))) (w' := w30) (wantG rfl rfl rfl hc67) rfl rfl (x_eql rfl rfl rfl) ?_
          refine wpR_val (v := (Value.bool (decide (r68 = 1)))) (w' := w30) rfl rfl rfl (x_pickT (v := (Value.bool (decide (r68 = 1)))) rfl rfl hc67 rfl) ?_
          refine wpR_nil ?_
          exact ⟨decide (r68 = 1), ⟨rfl, e21, e22, trivial⟩, h⟩
        · replace h := h.2 hc67
          refine wpR_pass (wantN rfl rfl rfl hc67) rfl rfl ?_
          refine wpR_pass (wantN rfl rfl rfl hc67) rfl rfl ?_
          refine wpR_pass (wantN rfl rfl rfl hc67) rfl rfl ?_
          refine wpR_val (v := (Value.bool false)) (w' := w29) rfl rfl rfl (x_pickF (v := (Value.bool false)) rfl rfl hc67 rfl) ?_
          refine wpR_nil ?_
          exact ⟨false, ⟨rfl, e21, e22, trivial⟩, h⟩
      clear h
      rintro c69 ρ w31 ⟨e159, e21, e22, -⟩ h
      replace h := hk c69 w31 h
      clear hk
      refine wpR_val (v := (Value.bool c69)) (w' := w31) rfl rfl rfl (x_move (v := (Value.bool c69)) rfl e159) ?_
      refine wpR_joinJ 4 (fun (_ : Unit) ρ => ρ 164 = Value.bool (c69 && (decide ((r48.1.len : Int) = 0))) ∧ ρ 22 = (Value.int .i64 r48.2) ∧ True) (fun _ w => w31 = w) ?_ ?_
      · clear h
        rcases Bool.eq_false_or_eq_true (c69) with hc71 | hc71
        · skip
          refine wpR_val (v := (Sl.v r48.1)) (w' := w31) (wantG rfl rfl rfl hc71) rfl rfl (x_move (v := (Sl.v r48.1)) rfl e21) ?_
          refine wpR_val (v := (Value.int .i64 (r48.1.len : Int))) (w' := w31) (wantG rfl rfl rfl hc71) rfl rfl (x_lenS (s := r48.1) rfl rfl isSliceT_22) ?_
          refine wpR_val (v := (Value.bool (decide ((r48.1.len : Int) = 0)))) (w' := w31) (wantG rfl rfl rfl hc71) rfl rfl (x_eql rfl rfl rfl) ?_
          refine wpR_val (v := (Value.bool (decide ((r48.1.len : Int) = 0)))) (w' := w31) rfl rfl rfl (x_pickT (v := (Value.bool (decide ((r48.1.len : Int) = 0)))) rfl rfl hc71 rfl) ?_
          refine wpR_nil ?_
          exact ⟨(), ⟨(by rw [hc71]; rfl), e22, trivial⟩, rfl⟩
        · skip
          refine wpR_pass (wantN rfl rfl rfl hc71) rfl rfl ?_
          refine wpR_pass (wantN rfl rfl rfl hc71) rfl rfl ?_
          refine wpR_pass (wantN rfl rfl rfl hc71) rfl rfl ?_
          refine wpR_val (v := (Value.bool false)) (w' := w31) rfl rfl rfl (x_pickF (v := (Value.bool false)) rfl rfl hc71 rfl) ?_
          refine wpR_nil ?_
          exact ⟨(), ⟨(by rw [hc71]; rfl), e22, trivial⟩, rfl⟩
      rintro _ ρ wj ⟨e164, e22, -⟩ rfl
      refine wpR_val (v := (Value.bool (c69 && (decide ((r48.1.len : Int) = 0))))) (w' := w31) rfl rfl rfl (x_move (v := (Value.bool (c69 && (decide ((r48.1.len : Int) = 0))))) rfl e164) ?_
      refine wpR_joinJ 3 (fun (_ : Unit) ρ => ρ 168 = Value.bool ((c69 && (decide ((r48.1.len : Int) = 0))) && (decide (r48.2 = 0))) ∧ True) (fun _ w => w31 = w) ?_ ?_
      · clear h
        rcases Bool.eq_false_or_eq_true (c69 && (decide ((r48.1.len : Int) = 0))) with hc73 | hc73
        · skip
          refine wpR_val (v := (Value.int .i64 r48.2)) (w' := w31) (wantG rfl rfl rfl hc73) rfl rfl (x_move (v := (Value.int .i64 r48.2)) rfl e22) ?_
          refine wpR_val (v := (Value.bool (decide (r48.2 = 0)))) (w' := w31) (wantG rfl rfl rfl hc73) rfl rfl (x_eql rfl rfl rfl) ?_
          refine wpR_val (v := (Value.bool (decide (r48.2 = 0)))) (w' := w31) rfl rfl rfl (x_pickT (v := (Value.bool (decide (r48.2 = 0)))) rfl rfl hc73 rfl) ?_
          refine wpR_nil ?_
          exact ⟨(), ⟨(by rw [hc73]; rfl), trivial⟩, rfl⟩
        · skip
          refine wpR_pass (wantN rfl rfl rfl hc73) rfl rfl ?_
          refine wpR_pass (wantN rfl rfl rfl hc73) rfl rfl ?_
          refine wpR_val (v := (Value.bool false)) (w' := w31) rfl rfl rfl (x_pickF (v := (Value.bool false)) rfl rfl hc73 rfl) ?_
          refine wpR_nil ?_
          exact ⟨(), ⟨(by rw [hc73]; rfl), trivial⟩, rfl⟩
      rintro _ ρ wj ⟨e168, -⟩ rfl
      refine wpR_val (v := (Value.bool ((c69 && (decide ((r48.1.len : Int) = 0))) && (decide (r48.2 = 0))))) (w' := w31) rfl rfl rfl (x_assign (v := (Value.bool ((c69 && (decide ((r48.1.len : Int) = 0))) && (decide (r48.2 = 0))))) rfl e168) ?_
      refine wpR_nil ?_
      refine wpC_ret ?_
      exact ⟨.inl rfl, fun a ha => ⟨_, results_rep1 rfl ha rfl, (c69 && (decide ((r48.1.len : Int) = 0))) && (decide (r48.2 = 0)), rfl, h⟩⟩

/-- link.NewSender -/
def F8 (p0 : Int) (w0 : World) (K : ((Option Addr) × Int) → World → Prop) : Prop :=
  cnd ((decide (p0 < 1)) || (decide (64 < p0)))
    (
    K (none, 1) w0
    )
    (
    nw 60 #[(Value.int .i64 p0), (Value.int .i64 0), (Value.int .i64 0)] w0 fun b4 w1 =>
    K (some (Addr.mk b4 0 none), 0) w1
    )
set_option maxRecDepth 100000 in
theorem D8 (p0 : Int) (w0 : World) (K : ((Option Addr) × Int) → World → Prop) (h : F8 p0 w0 K) : callC Try.prog 8 #[(Value.int .i64 p0)] (fun (r : (Option Addr) × Int) => (Value.tuple #[(Value.pointer r.1), (Value.int .i64 r.2)])) w0 K := by
  unfold F8 at h
  refine calls_of_wpC Try.func8 rfl 13 rfl (by simp) ?_
  intro ρ hρ
  have e0 : ρ 0 = (Value.int .i64 p0) := hρ 0
  clear hρ
  refine wpC_seq ?_
  refine wpC_region ?_
  refine wpR_val (v := (Value.pointer none)) (w' := w0) rfl rfl rfl (x_assign (v := (Value.pointer none)) rfl rfl) ?_
  refine wpR_val (v := (Value.int .i64 0)) (w' := w0) rfl rfl rfl (x_assign (v := (Value.int .i64 0)) rfl rfl) ?_
  refine wpR_nil ?_
  refine wpC_seq ?_
  refine wpC_seq ?_
  refine wpC_cut (fun ρ => ρ 0 = (Value.int .i64 p0) ∧ True) ⟨e0, trivial⟩ ?_
  rintro ρ ⟨e0, -⟩
  refine wpC_region ?_
  refine wpR_val (v := (Value.int .i64 p0)) (w' := w0) rfl rfl rfl (x_move (v := (Value.int .i64 p0)) rfl e0) ?_
  refine wpR_val (v := (Value.bool (decide (p0 < 1)))) (w' := w0) rfl rfl rfl (x_lss rfl rfl rfl) ?_
  refine wpR_val (v := (Value.bool (decide (p0 < 1)))) (w' := w0) rfl rfl rfl (x_move (v := (Value.bool (decide (p0 < 1)))) rfl rfl) ?_
  refine wpR_joinJ 3 (fun (_ : Unit) ρ => ρ 9 = Value.bool ((decide (p0 < 1)) || (decide (64 < p0))) ∧ ρ 0 = (Value.int .i64 p0) ∧ True) (fun _ w => w0 = w) ?_ ?_
  · clear h
    rcases Bool.eq_false_or_eq_true (decide (p0 < 1)) with hc2 | hc2
    · skip
      refine wpR_pass (wantN rfl rfl rfl hc2) rfl rfl ?_
      refine wpR_pass (wantN rfl rfl rfl hc2) rfl rfl ?_
      refine wpR_val (v := (Value.bool true)) (w' := w0) rfl rfl rfl (x_pickT (v := (Value.bool true)) rfl rfl hc2 rfl) ?_
      refine wpR_nil ?_
      exact ⟨(), ⟨(by rw [hc2]; rfl), e0, trivial⟩, rfl⟩
    · skip
      refine wpR_val (v := (Value.int .i64 p0)) (w' := w0) (wantG rfl rfl rfl hc2) rfl rfl (x_move (v := (Value.int .i64 p0)) rfl e0) ?_
      refine wpR_val (v := (Value.bool (decide (64 < p0)))) (w' := w0) (wantG rfl rfl rfl hc2) rfl rfl (x_gtr rfl rfl rfl) ?_
      refine wpR_val (v := (Value.bool (decide (64 < p0)))) (w' := w0) rfl rfl rfl (x_pickF (v := (Value.bool (decide (64 < p0)))) rfl rfl hc2 rfl) ?_
      refine wpR_nil ?_
      exact ⟨(), ⟨(by rw [hc2]; rfl), e0, trivial⟩, rfl⟩
  rintro _ ρ wj ⟨e9, e0, -⟩ rfl
  refine wpR_nil ?_
  refine wpC_cond (b := (decide (p0 < 1)) || (decide (64 < p0))) e9 (fun hc3 => ?_) (fun hc3 => ?_)
  · replace h := h.1 hc3
    refine wpC_seq ?_
    refine wpC_region ?_
    refine wpR_val (v := (Value.pointer none)) (w' := w0) rfl rfl rfl (x_assign (v := (Value.pointer none)) rfl rfl) ?_
    refine wpR_val (v := (Value.int .i64 1)) (w' := w0) rfl rfl rfl (x_assign (v := (Value.int .i64 1)) rfl rfl) ?_
    refine wpR_nil ?_
    refine wpC_ret ?_
    exact ⟨.inl rfl, fun a ha => ⟨_, results_rep2 rfl ha rfl rfl, (none, 1), rfl, h⟩⟩
  · replace h := h.2 hc3
    refine wpC_skip ?_
    refine wpC_seq ?_
    refine wpC_region ?_
    refine wpR_val (v := (Value.int .i64 p0)) (w' := w0) rfl rfl rfl (x_move (v := (Value.int .i64 p0)) rfl e0) ?_
    refine wpR_val (v := (Value.agg #[(Value.int .i64 p0), (Value.int .i64 0), (Value.int .i64 0)])) (w' := w0) rfl rfl rfl (x_build (qs := [(0, (Value.int .i64 p0))]) rfl (by rfl) (BD_60_0 p0 _)) ?_
    obtain ⟨b4, hb4⟩ : ∃ u, u = w0.heap.size := ⟨_, rfl⟩
    obtain ⟨w1, hw4⟩ : ∃ u, u = w0.alloc (.cells #[(Value.int .i64 p0), (Value.int .i64 0), (Value.int .i64 0)] 60) := ⟨_, rfl⟩
    replace h := h b4 w1 hb4 hw4
    refine wpR_val (v := (Value.pointer (some (Addr.mk b4 0 none)))) (w' := w1) rfl rfl rfl ((x_box (v := (Value.agg #[(Value.int .i64 p0), (Value.int .i64 0), (Value.int .i64 0)])) rfl rfl).trans (by rw [hb4, hw4]; rfl)) ?_
    refine wpR_val (v := (Value.pointer (some (Addr.mk b4 0 none)))) (w' := w1) rfl rfl rfl (x_assign (v := (Value.pointer (some (Addr.mk b4 0 none)))) rfl rfl) ?_
    refine wpR_val (v := (Value.int .i64 0)) (w' := w1) rfl rfl rfl (x_assign (v := (Value.int .i64 0)) rfl rfl) ?_
    refine wpR_nil ?_
    refine wpC_ret ?_
    exact ⟨.inl rfl, fun a ha => ⟨_, results_rep2 rfl ha rfl rfl, (some (Addr.mk b4 0 none), 0), rfl, h⟩⟩

/-- linguaref31.NewSender -/
def F9 (p0 : Int) (w0 : World) (K : ((Option Addr) × Int) → World → Prop) : Prop :=
  callC Try.prog 26 #[(Value.int .i64 p0)] (fun (r : Bool) => (Value.bool r)) w0 fun r1 w1 =>
  cnd (!r1)
    (
    K (none, 1) w1
    )
    (
    nw 44 #[(Value.int .i64 p0), (Value.int .i64 0), (Value.int .i64 0)] w1 fun b3 w2 =>
    K (some (Addr.mk b3 0 none), 0) w2
    )
set_option maxRecDepth 100000 in
theorem D9 (p0 : Int) (w0 : World) (K : ((Option Addr) × Int) → World → Prop) (h : F9 p0 w0 K) : callC Try.prog 9 #[(Value.int .i64 p0)] (fun (r : (Option Addr) × Int) => (Value.tuple #[(Value.pointer r.1), (Value.int .i64 r.2)])) w0 K := by
  unfold F9 at h
  refine calls_of_wpC Try.func9 rfl 10 rfl (by simp) ?_
  intro ρ hρ
  have e0 : ρ 0 = (Value.int .i64 p0) := hρ 0
  clear hρ
  refine wpC_seq ?_
  refine wpC_region ?_
  refine wpR_val (v := (Value.pointer none)) (w' := w0) rfl rfl rfl (x_assign (v := (Value.pointer none)) rfl rfl) ?_
  refine wpR_val (v := (Value.int .i64 0)) (w' := w0) rfl rfl rfl (x_assign (v := (Value.int .i64 0)) rfl rfl) ?_
  refine wpR_nil ?_
  refine wpC_seq ?_
  refine wpC_seq ?_
  refine wpC_cut (fun ρ => ρ 0 = (Value.int .i64 p0) ∧ True) ⟨e0, trivial⟩ ?_
  rintro ρ ⟨e0, -⟩
  refine wpC_region ?_
  refine wpR_val (v := (Value.int .i64 p0)) (w' := w0) rfl rfl rfl (x_move (v := (Value.int .i64 p0)) rfl e0) ?_
  refine wpR_enter rfl rfl rfl (x_call (vs := [(Value.int .i64 p0)]) rfl rfl (mapl_cons rfl mapl_nil) Try.func26 NN_26 NB_26) (Calls.mono h ?_)
  rintro _ w1 ⟨r1, rfl, h⟩
  refine ⟨_, rfl, ?_⟩
  refine wpR_val (v := (Value.bool (!r1))) (w' := w1) rfl rfl rfl (x_not rfl rfl) ?_
  refine wpR_nil ?_
  refine wpC_cond (b := !r1) rfl (fun hc2 => ?_) (fun hc2 => ?_)
  · replace h := h.1 hc2
    refine wpC_seq ?_
    refine wpC_cut (fun ρ => True) trivial ?_
    rintro ρ -
    refine wpC_region ?_
    refine wpR_val (v := (Value.pointer none)) (w' := w1) rfl rfl rfl (x_assign (v := (Value.pointer none)) rfl rfl) ?_
    refine wpR_val (v := (Value.int .i64 1)) (w' := w1) rfl rfl rfl (x_assign (v := (Value.int .i64 1)) rfl rfl) ?_
    refine wpR_nil ?_
    refine wpC_ret ?_
    exact ⟨.inl rfl, fun a ha => ⟨_, results_rep2 rfl ha rfl rfl, (none, 1), rfl, h⟩⟩
  · replace h := h.2 hc2
    refine wpC_skip ?_
    refine wpC_seq ?_
    refine wpC_cut (fun ρ => ρ 0 = (Value.int .i64 p0) ∧ True) ⟨e0, trivial⟩ ?_
    rintro ρ ⟨e0, -⟩
    refine wpC_region ?_
    refine wpR_val (v := (Value.int .i64 p0)) (w' := w1) rfl rfl rfl (x_move (v := (Value.int .i64 p0)) rfl e0) ?_
    refine wpR_val (v := (Value.agg #[(Value.int .i64 p0), (Value.int .i64 0), (Value.int .i64 0)])) (w' := w1) rfl rfl rfl (x_build (qs := [(0, (Value.int .i64 p0))]) rfl (by rfl) (BD_44_0 p0 _)) ?_
    obtain ⟨b3, hb3⟩ : ∃ u, u = w1.heap.size := ⟨_, rfl⟩
    obtain ⟨w2, hw3⟩ : ∃ u, u = w1.alloc (.cells #[(Value.int .i64 p0), (Value.int .i64 0), (Value.int .i64 0)] 44) := ⟨_, rfl⟩
    replace h := h b3 w2 hb3 hw3
    refine wpR_val (v := (Value.pointer (some (Addr.mk b3 0 none)))) (w' := w2) rfl rfl rfl ((x_box (v := (Value.agg #[(Value.int .i64 p0), (Value.int .i64 0), (Value.int .i64 0)])) rfl rfl).trans (by rw [hb3, hw3]; rfl)) ?_
    refine wpR_val (v := (Value.pointer (some (Addr.mk b3 0 none)))) (w' := w2) rfl rfl rfl (x_assign (v := (Value.pointer (some (Addr.mk b3 0 none)))) rfl rfl) ?_
    refine wpR_val (v := (Value.int .i64 0)) (w' := w2) rfl rfl rfl (x_assign (v := (Value.int .i64 0)) rfl rfl) ?_
    refine wpR_nil ?_
    refine wpC_ret ?_
    exact ⟨.inl rfl, fun a ha => ⟨_, results_rep2 rfl ha rfl rfl, (some (Addr.mk b3 0 none), 0), rfl, h⟩⟩

/-- link.NewReceiver -/
def F10 (p0 : Int) (w0 : World) (K : ((Option Addr) × Int) → World → Prop) : Prop :=
  cnd ((decide (p0 < 1)) || (decide (64 < p0)))
    (
    K (none, 1) w0
    )
    (
    rn Try.prog (Instr.makeMap 62 none) (fun (r : (Option Nat)) => (Value.map r)) w0 fun r4 w1 =>
    nw 64 #[(Value.int .i64 p0), (Value.int .i64 0), (Value.map r4)] w1 fun b5 w2 =>
    K (some (Addr.mk b5 0 none), 0) w2
    )
set_option maxRecDepth 100000 in
theorem D10 (p0 : Int) (w0 : World) (K : ((Option Addr) × Int) → World → Prop) (h : F10 p0 w0 K) : callC Try.prog 10 #[(Value.int .i64 p0)] (fun (r : (Option Addr) × Int) => (Value.tuple #[(Value.pointer r.1), (Value.int .i64 r.2)])) w0 K := by
  unfold F10 at h
  refine calls_of_wpC Try.func10 rfl 14 rfl (by simp) ?_
  intro ρ hρ
  have e0 : ρ 0 = (Value.int .i64 p0) := hρ 0
  clear hρ
  refine wpC_seq ?_
  refine wpC_region ?_
  refine wpR_val (v := (Value.pointer none)) (w' := w0) rfl rfl rfl (x_assign (v := (Value.pointer none)) rfl rfl) ?_
  refine wpR_val (v := (Value.int .i64 0)) (w' := w0) rfl rfl rfl (x_assign (v := (Value.int .i64 0)) rfl rfl) ?_
  refine wpR_nil ?_
  refine wpC_seq ?_
  refine wpC_seq ?_
  refine wpC_cut (fun ρ => ρ 0 = (Value.int .i64 p0) ∧ True) ⟨e0, trivial⟩ ?_
  rintro ρ ⟨e0, -⟩
  refine wpC_region ?_
  refine wpR_val (v := (Value.int .i64 p0)) (w' := w0) rfl rfl rfl (x_move (v := (Value.int .i64 p0)) rfl e0) ?_
  refine wpR_val (v := (Value.bool (decide (p0 < 1)))) (w' := w0) rfl rfl rfl (x_lss rfl rfl rfl) ?_
  refine wpR_val (v := (Value.bool (decide (p0 < 1)))) (w' := w0) rfl rfl rfl (x_move (v := (Value.bool (decide (p0 < 1)))) rfl rfl) ?_
  refine wpR_joinJ 3 (fun (_ : Unit) ρ => ρ 9 = Value.bool ((decide (p0 < 1)) || (decide (64 < p0))) ∧ ρ 0 = (Value.int .i64 p0) ∧ True) (fun _ w => w0 = w) ?_ ?_
  · clear h
    rcases Bool.eq_false_or_eq_true (decide (p0 < 1)) with hc2 | hc2
    · skip
      refine wpR_pass (wantN rfl rfl rfl hc2) rfl rfl ?_
      refine wpR_pass (wantN rfl rfl rfl hc2) rfl rfl ?_
      refine wpR_val (v := (Value.bool true)) (w' := w0) rfl rfl rfl (x_pickT (v := (Value.bool true)) rfl rfl hc2 rfl) ?_
      refine wpR_nil ?_
      exact ⟨(), ⟨(by rw [hc2]; rfl), e0, trivial⟩, rfl⟩
    · skip
      refine wpR_val (v := (Value.int .i64 p0)) (w' := w0) (wantG rfl rfl rfl hc2) rfl rfl (x_move (v := (Value.int .i64 p0)) rfl e0) ?_
      refine wpR_val (v := (Value.bool (decide (64 < p0)))) (w' := w0) (wantG rfl rfl rfl hc2) rfl rfl (x_gtr rfl rfl rfl) ?_
      refine wpR_val (v := (Value.bool (decide (64 < p0)))) (w' := w0) rfl rfl rfl (x_pickF (v := (Value.bool (decide (64 < p0)))) rfl rfl hc2 rfl) ?_
      refine wpR_nil ?_
      exact ⟨(), ⟨(by rw [hc2]; rfl), e0, trivial⟩, rfl⟩
  rintro _ ρ wj ⟨e9, e0, -⟩ rfl
  refine wpR_nil ?_
  refine wpC_cond (b := (decide (p0 < 1)) || (decide (64 < p0))) e9 (fun hc3 => ?_) (fun hc3 => ?_)
  · replace h := h.1 hc3
    refine wpC_seq ?_
    refine wpC_region ?_
    refine wpR_val (v := (Value.pointer none)) (w' := w0) rfl rfl rfl (x_assign (v := (Value.pointer none)) rfl rfl) ?_
    refine wpR_val (v := (Value.int .i64 1)) (w' := w0) rfl rfl rfl (x_assign (v := (Value.int .i64 1)) rfl rfl) ?_
    refine wpR_nil ?_
    refine wpC_ret ?_
    exact ⟨.inl rfl, fun a ha => ⟨_, results_rep2 rfl ha rfl rfl, (none, 1), rfl, h⟩⟩
  · replace h := h.2 hc3
    refine wpC_skip ?_
    refine wpC_seq ?_
    refine wpC_region ?_
    refine wpR_val (v := (Value.int .i64 p0)) (w' := w0) rfl rfl rfl (x_move (v := (Value.int .i64 p0)) rfl e0) ?_
    obtain ⟨r4, w1, q4, h⟩ := h
    refine wpR_val (v := (Value.map r4)) (w' := w1) rfl rfl rfl (x_makeMap rfl rfl q4) ?_
    refine wpR_val (v := (Value.agg #[(Value.int .i64 p0), (Value.int .i64 0), (Value.map r4)])) (w' := w1) rfl rfl rfl (x_build (qs := [(0, (Value.int .i64 p0)), (2, (Value.map r4))]) rfl (by rfl) (BD_64_0_2 p0 r4 _)) ?_
    obtain ⟨b5, hb5⟩ : ∃ u, u = w1.heap.size := ⟨_, rfl⟩
    obtain ⟨w2, hw5⟩ : ∃ u, u = w1.alloc (.cells #[(Value.int .i64 p0), (Value.int .i64 0), (Value.map r4)] 64) := ⟨_, rfl⟩
    replace h := h b5 w2 hb5 hw5
    refine wpR_val (v := (Value.pointer (some (Addr.mk b5 0 none)))) (w' := w2) rfl rfl rfl ((x_box (v := (Value.agg #[(Value.int .i64 p0), (Value.int .i64 0), (Value.map r4)])) rfl rfl).trans (by rw [hb5, hw5]; rfl)) ?_
    refine wpR_val (v := (Value.pointer (some (Addr.mk b5 0 none)))) (w' := w2) rfl rfl rfl (x_assign (v := (Value.pointer (some (Addr.mk b5 0 none)))) rfl rfl) ?_
    refine wpR_val (v := (Value.int .i64 0)) (w' := w2) rfl rfl rfl (x_assign (v := (Value.int .i64 0)) rfl rfl) ?_
    refine wpR_nil ?_
    refine wpC_ret ?_
    exact ⟨.inl rfl, fun a ha => ⟨_, results_rep2 rfl ha rfl rfl, (some (Addr.mk b5 0 none), 0), rfl, h⟩⟩

/-- linguaref31.NewReceiver -/
def F11 (p0 : Int) (w0 : World) (K : ((Option Addr) × Int) → World → Prop) : Prop :=
  callC Try.prog 26 #[(Value.int .i64 p0)] (fun (r : Bool) => (Value.bool r)) w0 fun r1 w1 =>
  cnd (!r1)
    (
    K (none, 1) w1
    )
    (
    rn Try.prog (Instr.makeSlice 47 (Value.int .i64 p0) (Value.int .i64 p0)) (fun (r : Sl) => (Sl.v r)) w1 fun r3 w2 =>
    nw 49 #[(Value.int .i64 p0), (Value.int .i64 0), (Sl.v r3)] w2 fun b4 w3 =>
    K (some (Addr.mk b4 0 none), 0) w3
    )
set_option maxRecDepth 100000 in
theorem D11 (p0 : Int) (w0 : World) (K : ((Option Addr) × Int) → World → Prop) (h : F11 p0 w0 K) : callC Try.prog 11 #[(Value.int .i64 p0)] (fun (r : (Option Addr) × Int) => (Value.tuple #[(Value.pointer r.1), (Value.int .i64 r.2)])) w0 K := by
  unfold F11 at h
  refine calls_of_wpC Try.func11 rfl 12 rfl (by simp) ?_
  intro ρ hρ
  have e0 : ρ 0 = (Value.int .i64 p0) := hρ 0
  clear hρ
  refine wpC_seq ?_
  refine wpC_region ?_
  refine wpR_val (v := (Value.pointer none)) (w' := w0) rfl rfl rfl (x_assign (v := (Value.pointer none)) rfl rfl) ?_
  refine wpR_val (v := (Value.int .i64 0)) (w' := w0) rfl rfl rfl (x_assign (v := (Value.int .i64 0)) rfl rfl) ?_
  refine wpR_nil ?_
  refine wpC_seq ?_
  refine wpC_seq ?_
  refine wpC_cut (fun ρ => ρ 0 = (Value.int .i64 p0) ∧ True) ⟨e0, trivial⟩ ?_
  rintro ρ ⟨e0, -⟩
  refine wpC_region ?_
  refine wpR_val (v := (Value.int .i64 p0)) (w' := w0) rfl rfl rfl (x_move (v := (Value.int .i64 p0)) rfl e0) ?_
  refine wpR_enter rfl rfl rfl (x_call (vs := [(Value.int .i64 p0)]) rfl rfl (mapl_cons rfl mapl_nil) Try.func26 NN_26 NB_26) (Calls.mono h ?_)
  rintro _ w1 ⟨r1, rfl, h⟩
  refine ⟨_, rfl, ?_⟩
  refine wpR_val (v := (Value.bool (!r1))) (w' := w1) rfl rfl rfl (x_not rfl rfl) ?_
  refine wpR_nil ?_
  refine wpC_cond (b := !r1) rfl (fun hc2 => ?_) (fun hc2 => ?_)
  · replace h := h.1 hc2
    refine wpC_seq ?_
    refine wpC_cut (fun ρ => True) trivial ?_
    rintro ρ -
    refine wpC_region ?_
    refine wpR_val (v := (Value.pointer none)) (w' := w1) rfl rfl rfl (x_assign (v := (Value.pointer none)) rfl rfl) ?_
    refine wpR_val (v := (Value.int .i64 1)) (w' := w1) rfl rfl rfl (x_assign (v := (Value.int .i64 1)) rfl rfl) ?_
    refine wpR_nil ?_
    refine wpC_ret ?_
    exact ⟨.inl rfl, fun a ha => ⟨_, results_rep2 rfl ha rfl rfl, (none, 1), rfl, h⟩⟩
  · replace h := h.2 hc2
    refine wpC_skip ?_
    refine wpC_seq ?_
    refine wpC_cut (fun ρ => ρ 0 = (Value.int .i64 p0) ∧ True) ⟨e0, trivial⟩ ?_
    rintro ρ ⟨e0, -⟩
    refine wpC_region ?_
    refine wpR_val (v := (Value.int .i64 p0)) (w' := w1) rfl rfl rfl (x_move (v := (Value.int .i64 p0)) rfl e0) ?_
    refine wpR_val (v := (Value.int .i64 p0)) (w' := w1) rfl rfl rfl (x_move (v := (Value.int .i64 p0)) rfl e0) ?_
    obtain ⟨r3, w2, q3, h⟩ := h
    refine wpR_val (v := (Sl.v r3)) (w' := w2) rfl rfl rfl (x_makeSlice rfl rfl rfl q3) ?_
    refine wpR_val (v := (Value.agg #[(Value.int .i64 p0), (Value.int .i64 0), (Sl.v r3)])) (w' := w2) rfl rfl rfl (x_build (qs := [(0, (Value.int .i64 p0)), (2, (Sl.v r3))]) rfl (by rfl) (BD_49_0_2 p0 r3 _)) ?_
    obtain ⟨b4, hb4⟩ : ∃ u, u = w2.heap.size := ⟨_, rfl⟩
    obtain ⟨w3, hw4⟩ : ∃ u, u = w2.alloc (.cells #[(Value.int .i64 p0), (Value.int .i64 0), (Sl.v r3)] 49) := ⟨_, rfl⟩
    replace h := h b4 w3 hb4 hw4
    refine wpR_val (v := (Value.pointer (some (Addr.mk b4 0 none)))) (w' := w3) rfl rfl rfl ((x_box (v := (Value.agg #[(Value.int .i64 p0), (Value.int .i64 0), (Sl.v r3)])) rfl rfl).trans (by rw [hb4, hw4]; rfl)) ?_
    refine wpR_val (v := (Value.pointer (some (Addr.mk b4 0 none)))) (w' := w3) rfl rfl rfl (x_assign (v := (Value.pointer (some (Addr.mk b4 0 none)))) rfl rfl) ?_
    refine wpR_val (v := (Value.int .i64 0)) (w' := w3) rfl rfl rfl (x_assign (v := (Value.int .i64 0)) rfl rfl) ?_
    refine wpR_nil ?_
    refine wpC_ret ?_
    exact ⟨.inl rfl, fun a ha => ⟨_, results_rep2 rfl ha rfl rfl, (some (Addr.mk b4 0 none), 0), rfl, h⟩⟩

/-- (*link.Sender).Send -/
def F12 (p0 : Option Addr) (w0 : World) (K : (Int × Int) → World → Prop) : Prop :=
  callC Try.prog 19 #[(Value.pointer p0)] (fun (r : Int) => (Value.int .i64 r)) w0 fun r1 w1 =>
  cnd (decide (r1 = 1000))
    (
    K (0, 6) w1
    )
    (
    nn p0 fun a3 =>
    ld (Value.int .i64) (a3.add 1) w1 fun x4 =>
    nn p0 fun a5 =>
    ld (Value.int .i64) (a5.add 1) w1 fun x6 =>
    nn p0 fun a7 =>
    st (a7.add 1) [(Value.int .i64 (IntKind.i64.wrap (x6 + 1)))] w1 fun w2 =>
    K (x4, 0) w2
    )
set_option maxRecDepth 100000 in
theorem D12 (p0 : Option Addr) (w0 : World) (K : (Int × Int) → World → Prop) (h : F12 p0 w0 K) : callC Try.prog 12 #[(Value.pointer p0)] (fun (r : Int × Int) => (Value.tuple #[(Value.int .i64 r.1), (Value.int .i64 r.2)])) w0 K := by
  unfold F12 at h
  refine calls_of_wpC Try.func12 rfl 20 rfl (by simp) ?_
  intro ρ hρ
  have e0 : ρ 0 = (Value.pointer p0) := hρ 0
  clear hρ
  refine wpC_seq ?_
  refine wpC_region ?_
  refine wpR_val (v := (Value.int .i64 0)) (w' := w0) rfl rfl rfl (x_assign (v := (Value.int .i64 0)) rfl rfl) ?_
  refine wpR_val (v := (Value.int .i64 0)) (w' := w0) rfl rfl rfl (x_assign (v := (Value.int .i64 0)) rfl rfl) ?_
  refine wpR_nil ?_
  refine wpC_seq ?_
  refine wpC_seq ?_
  refine wpC_cut (fun ρ => ρ 0 = (Value.pointer p0) ∧ True) ⟨e0, trivial⟩ ?_
  rintro ρ ⟨e0, -⟩
  refine wpC_region ?_
  refine wpR_val (v := (Value.pointer p0)) (w' := w0) rfl rfl rfl (x_move (v := (Value.pointer p0)) rfl e0) ?_
  refine wpR_enter rfl rfl rfl (x_call (vs := [(Value.pointer p0)]) rfl rfl (mapl_cons rfl mapl_nil) Try.func19 NN_19 NB_19) (Calls.mono h ?_)
  rintro _ w1 ⟨r1, rfl, h⟩
  refine ⟨_, rfl, ?_⟩
  refine wpR_val (v := (Value.bool (decide (r1 = 1000)))) (w' := w1) rfl rfl rfl (x_eql rfl rfl rfl) ?_
  refine wpR_nil ?_
  refine wpC_cond (b := decide (r1 = 1000)) rfl (fun hc2 => ?_) (fun hc2 => ?_)
  · replace h := h.1 hc2
    refine wpC_seq ?_
    refine wpC_cut (fun ρ => True) trivial ?_
    rintro ρ -
    refine wpC_region ?_
    refine wpR_val (v := (Value.int .i64 0)) (w' := w1) rfl rfl rfl (x_assign (v := (Value.int .i64 0)) rfl rfl) ?_
    refine wpR_val (v := (Value.int .i64 6)) (w' := w1) rfl rfl rfl (x_assign (v := (Value.int .i64 6)) rfl rfl) ?_
    refine wpR_nil ?_
    refine wpC_ret ?_
    exact ⟨.inl rfl, fun a ha => ⟨_, results_rep2 rfl ha rfl rfl, (0, 6), rfl, h⟩⟩
  · replace h := h.2 hc2
    refine wpC_skip ?_
    refine wpC_seq ?_
    refine wpC_cut (fun ρ => ρ 0 = (Value.pointer p0) ∧ True) ⟨e0, trivial⟩ ?_
    rintro ρ ⟨e0, -⟩
    refine wpC_region ?_
    refine wpR_val (v := (Value.pointer p0)) (w' := w1) rfl rfl rfl (x_move (v := (Value.pointer p0)) rfl e0) ?_
    obtain ⟨a3, q3, h⟩ := h
    refine wpR_val (v := (Value.pointer (some a3))) (w' := w1) rfl rfl rfl (x_nilCheck rfl rfl q3) ?_
    refine wpR_val (v := (Value.pointer (some (a3.add 1)))) (w' := w1) rfl rfl rfl (x_fieldAddr rfl rfl FA_60_1) ?_
    obtain ⟨x4, q4, h⟩ := h
    refine wpR_val (v := (Value.int .i64 x4)) (w' := w1) rfl rfl rfl (x_load1 rfl rfl SH_3 q4) ?_
    refine wpR_val (v := (Value.int .i64 x4)) (w' := w1) rfl rfl rfl (x_assign (v := (Value.int .i64 x4)) rfl rfl) ?_
    refine wpR_nil ?_
    refine wpC_seq ?_
    refine wpC_cut (fun ρ => ρ 0 = (Value.pointer p0) ∧ ρ 4 = (Value.int .i64 x4) ∧ True) ⟨e0, rfl, trivial⟩ ?_
    rintro ρ ⟨e0, e4, -⟩
    refine wpC_region ?_
    refine wpR_val (v := (Value.pointer p0)) (w' := w1) rfl rfl rfl (x_move (v := (Value.pointer p0)) rfl e0) ?_
    obtain ⟨a5, q5, h⟩ := h
    refine wpR_val (v := (Value.pointer (some a5))) (w' := w1) rfl rfl rfl (x_nilCheck rfl rfl q5) ?_
    refine wpR_val (v := (Value.pointer (some (a5.add 1)))) (w' := w1) rfl rfl rfl (x_fieldAddr rfl rfl FA_60_1) ?_
    obtain ⟨x6, q6, h⟩ := h
    refine wpR_val (v := (Value.int .i64 x6)) (w' := w1) rfl rfl rfl (x_load1 rfl rfl SH_3 q6) ?_
    refine wpR_val (v := (Value.int .i64 (IntKind.i64.wrap (x6 + 1)))) (w' := w1) rfl rfl rfl (x_add rfl rfl rfl) ?_
    obtain ⟨a7, q7, h⟩ := h
    refine wpR_val (v := (Value.pointer (some a7))) (w' := w1) rfl rfl rfl (x_nilCheck rfl rfl q7) ?_
    refine wpR_val (v := (Value.pointer (some (a7.add 1)))) (w' := w1) rfl rfl rfl (x_fieldAddr rfl rfl FA_60_1) ?_
    obtain ⟨q8, h⟩ := h
    obtain ⟨w2, hw8⟩ : ∃ u, u = setAll w1 (a7.add 1) [(Value.int .i64 (IntKind.i64.wrap (x6 + 1)))] 0 := ⟨_, rfl⟩
    replace h := h w2 hw8
    refine wpR_skp (w' := w2) rfl rfl ((x_store (v := (Value.int .i64 (IntKind.i64.wrap (x6 + 1)))) rfl rfl rfl SZ_3 (ones (by rfl)) q8).trans (by rw [hw8]; rfl)) ?_
    refine wpR_nil ?_
    refine wpC_seq ?_
    refine wpC_cut (fun ρ => ρ 4 = (Value.int .i64 x4) ∧ True) ⟨e4, trivial⟩ ?_
    rintro ρ ⟨e4, -⟩
    refine wpC_region ?_
    refine wpR_val (v := (Value.int .i64 x4)) (w' := w2) rfl rfl rfl (x_move (v := (Value.int .i64 x4)) rfl e4) ?_
    refine wpR_val (v := (Value.int .i64 x4)) (w' := w2) rfl rfl rfl (x_assign (v := (Value.int .i64 x4)) rfl rfl) ?_
    refine wpR_val (v := (Value.int .i64 0)) (w' := w2) rfl rfl rfl (x_assign (v := (Value.int .i64 0)) rfl rfl) ?_
    refine wpR_nil ?_
    refine wpC_ret ?_
    exact ⟨.inl rfl, fun a ha => ⟨_, results_rep2 rfl ha rfl rfl, (x4, 0), rfl, h⟩⟩

/-- (*linguaref31.Sender).Send -/
def F13 (p0 : Option Addr) (w0 : World) (K : (Int × Int) → World → Prop) : Prop :=
  jn (fun (J2 : Bool → World → Prop) => tk w0 fun w1 =>
    nn p0 fun a3 =>
    ld (Value.int .i64) (a3.add 1) w1 fun x4 =>
    nn p0 fun a5 =>
    ld (Value.int .i64) (a5.add 2) w1 fun x6 =>
    J2 (decide (1000 ≤ (IntKind.i64.wrap (x4 - x6)))) w1
  )
  fun l7 w2 =>
  cnd (l7)
    (
    K (0, 6) w2
    )
    (
    nn p0 fun a9 =>
    ld (Value.int .i64) (a9.add 1) w2 fun x10 =>
    nn p0 fun a11 =>
    st (a11.add 1) [(Value.int .i64 (IntKind.i64.wrap (x10 + 1)))] w2 fun w3 =>
    nn p0 fun a13 =>
    ld (Value.int .i64) (a13.add 1) w3 fun x14 =>
    K (IntKind.i64.wrap (x14 - 1), 0) w3
    )
set_option maxRecDepth 100000 in
theorem D13 (p0 : Option Addr) (w0 : World) (K : (Int × Int) → World → Prop) (h : F13 p0 w0 K) : callC Try.prog 13 #[(Value.pointer p0)] (fun (r : Int × Int) => (Value.tuple #[(Value.int .i64 r.1), (Value.int .i64 r.2)])) w0 K := by
  unfold F13 at h
  refine calls_of_wpC Try.func13 rfl 26 rfl (by simp) ?_
  intro ρ hρ
  have e0 : ρ 0 = (Value.pointer p0) := hρ 0
  clear hρ
  refine wpC_seq ?_
  refine wpC_region ?_
  refine wpR_val (v := (Value.int .i64 0)) (w' := w0) rfl rfl rfl (x_assign (v := (Value.int .i64 0)) rfl rfl) ?_
  refine wpR_val (v := (Value.int .i64 0)) (w' := w0) rfl rfl rfl (x_assign (v := (Value.int .i64 0)) rfl rfl) ?_
  refine wpR_nil ?_
  refine wpC_seq ?_
  refine wpC_seq ?_
  refine wpC_cut (fun ρ => ρ 0 = (Value.pointer p0) ∧ True) ⟨e0, trivial⟩ ?_
  rintro ρ ⟨e0, -⟩
  obtain ⟨J2, h, hk⟩ := h
  refine wpC_drawJ (by kernel_rfl) (fun (x : Bool) ρ => ρ 13 = (Value.bool x) ∧ ρ 0 = (Value.pointer p0) ∧ True) J2 ?_ ?_
  · clear hk
    unfold tk at h
    generalize w0.drew = w1 at h ⊢
    refine wpD_take (v := (Value.pointer p0)) 0 (fun _ => True) rfl (by kernel_rfl) (by kernel_rfl) (by kernel_rfl) rfl rfl rfl trivial (fun w _ => (x_move (v := (Value.pointer p0)) rfl e0)) ?_
    obtain ⟨a3, q3, h⟩ := h
    refine wpD_take (v := (Value.pointer (some a3))) 1 (fun _ => True) rfl (by kernel_rfl) (by kernel_rfl) (by kernel_rfl) rfl rfl rfl trivial (fun w _ => (x_nilCheck rfl rfl q3)) ?_
    refine wpD_take (v := (Value.pointer (some (a3.add 1)))) 2 (fun _ => True) rfl (by kernel_rfl) (by kernel_rfl) (by kernel_rfl) rfl rfl rfl trivial (fun w _ => (x_fieldAddr rfl rfl FA_44_1)) ?_
    obtain ⟨x4, q4, h⟩ := h
    refine wpD_take (v := (Value.int .i64 x4)) 3 (fun w => w.cell? (a3.add 1) = some (Value.int .i64 x4)) rfl (by kernel_rfl) (by kernel_rfl) (by kernel_rfl) rfl rfl rfl q4 (fun w q4 => (x_load1 rfl rfl SH_3 q4)) ?_
    refine wpD_take (v := (Value.pointer p0)) 4 (fun _ => True) rfl (by kernel_rfl) (by kernel_rfl) (by kernel_rfl) rfl rfl rfl trivial (fun w _ => (x_move (v := (Value.pointer p0)) rfl e0)) ?_
    obtain ⟨a5, q5, h⟩ := h
    refine wpD_take (v := (Value.pointer (some a5))) 5 (fun _ => True) rfl (by kernel_rfl) (by kernel_rfl) (by kernel_rfl) rfl rfl rfl trivial (fun w _ => (x_nilCheck rfl rfl q5)) ?_
    refine wpD_take (v := (Value.pointer (some (a5.add 2)))) 6 (fun _ => True) rfl (by kernel_rfl) (by kernel_rfl) (by kernel_rfl) rfl rfl rfl trivial (fun w _ => (x_fieldAddr rfl rfl FA_44_2)) ?_
    obtain ⟨x6, q6, h⟩ := h
    refine wpD_take (v := (Value.int .i64 x6)) 7 (fun w => w.cell? (a5.add 2) = some (Value.int .i64 x6)) rfl (by kernel_rfl) (by kernel_rfl) (by kernel_rfl) rfl rfl rfl q6 (fun w q6 => (x_load1 rfl rfl SH_3 q6)) ?_
    refine wpD_take (v := (Value.int .i64 (IntKind.i64.wrap (x4 - x6)))) 8 (fun _ => True) rfl (by kernel_rfl) (by kernel_rfl) (by kernel_rfl) rfl rfl rfl trivial (fun w _ => (x_sub rfl rfl rfl)) ?_
    refine wpD_take (v := (Value.bool (decide (1000 ≤ (IntKind.i64.wrap (x4 - x6)))))) 9 (fun _ => True) rfl (by kernel_rfl) (by kernel_rfl) (by kernel_rfl) rfl rfl rfl trivial (fun w _ => (x_geq rfl rfl rfl)) ?_
    exact wpD_done (by kernel_rfl) ⟨decide (1000 ≤ (IntKind.i64.wrap (x4 - x6))), ⟨rfl, e0, trivial⟩, h⟩
  clear h
  rintro l7 ρ w2 ⟨e13, e0, -⟩ h
  replace h := hk l7 w2 h
  clear hk
  refine wpC_cond (b := l7) e13 (fun hc8 => ?_) (fun hc8 => ?_)
  · replace h := h.1 hc8
    refine wpC_seq ?_
    refine wpC_region ?_
    refine wpR_val (v := (Value.int .i64 0)) (w' := w2) rfl rfl rfl (x_assign (v := (Value.int .i64 0)) rfl rfl) ?_
    refine wpR_val (v := (Value.int .i64 6)) (w' := w2) rfl rfl rfl (x_assign (v := (Value.int .i64 6)) rfl rfl) ?_
    refine wpR_nil ?_
    refine wpC_ret ?_
    exact ⟨.inl rfl, fun a ha => ⟨_, results_rep2 rfl ha rfl rfl, (0, 6), rfl, h⟩⟩
  · replace h := h.2 hc8
    refine wpC_skip ?_
    refine wpC_seq ?_
    refine wpC_region ?_
    refine wpR_val (v := (Value.pointer p0)) (w' := w2) rfl rfl rfl (x_move (v := (Value.pointer p0)) rfl e0) ?_
    obtain ⟨a9, q9, h⟩ := h
    refine wpR_val (v := (Value.pointer (some a9))) (w' := w2) rfl rfl rfl (x_nilCheck rfl rfl q9) ?_
    refine wpR_val (v := (Value.pointer (some (a9.add 1)))) (w' := w2) rfl rfl rfl (x_fieldAddr rfl rfl FA_44_1) ?_
    obtain ⟨x10, q10, h⟩ := h
    refine wpR_val (v := (Value.int .i64 x10)) (w' := w2) rfl rfl rfl (x_load1 rfl rfl SH_3 q10) ?_
    refine wpR_val (v := (Value.int .i64 (IntKind.i64.wrap (x10 + 1)))) (w' := w2) rfl rfl rfl (x_add rfl rfl rfl) ?_
    obtain ⟨a11, q11, h⟩ := h
    refine wpR_val (v := (Value.pointer (some a11))) (w' := w2) rfl rfl rfl (x_nilCheck rfl rfl q11) ?_
    refine wpR_val (v := (Value.pointer (some (a11.add 1)))) (w' := w2) rfl rfl rfl (x_fieldAddr rfl rfl FA_44_1) ?_
    obtain ⟨q12, h⟩ := h
    obtain ⟨w3, hw12⟩ : ∃ u, u = setAll w2 (a11.add 1) [(Value.int .i64 (IntKind.i64.wrap (x10 + 1)))] 0 := ⟨_, rfl⟩
    replace h := h w3 hw12
    refine wpR_skp (w' := w3) rfl rfl ((x_store (v := (Value.int .i64 (IntKind.i64.wrap (x10 + 1)))) rfl rfl rfl SZ_3 (ones (by rfl)) q12).trans (by rw [hw12]; rfl)) ?_
    refine wpR_nil ?_
    refine wpC_seq ?_
    refine wpC_cut (fun ρ => ρ 0 = (Value.pointer p0) ∧ True) ⟨e0, trivial⟩ ?_
    rintro ρ ⟨e0, -⟩
    refine wpC_region ?_
    refine wpR_val (v := (Value.pointer p0)) (w' := w3) rfl rfl rfl (x_move (v := (Value.pointer p0)) rfl e0) ?_
    obtain ⟨a13, q13, h⟩ := h
    refine wpR_val (v := (Value.pointer (some a13))) (w' := w3) rfl rfl rfl (x_nilCheck rfl rfl q13) ?_
    refine wpR_val (v := (Value.pointer (some (a13.add 1)))) (w' := w3) rfl rfl rfl (x_fieldAddr rfl rfl FA_44_1) ?_
    obtain ⟨x14, q14, h⟩ := h
    refine wpR_val (v := (Value.int .i64 x14)) (w' := w3) rfl rfl rfl (x_load1 rfl rfl SH_3 q14) ?_
    refine wpR_val (v := (Value.int .i64 (IntKind.i64.wrap (x14 - 1)))) (w' := w3) rfl rfl rfl (x_sub rfl rfl rfl) ?_
    refine wpR_val (v := (Value.int .i64 (IntKind.i64.wrap (x14 - 1)))) (w' := w3) rfl rfl rfl (x_assign (v := (Value.int .i64 (IntKind.i64.wrap (x14 - 1)))) rfl rfl) ?_
    refine wpR_val (v := (Value.int .i64 0)) (w' := w3) rfl rfl rfl (x_assign (v := (Value.int .i64 0)) rfl rfl) ?_
    refine wpR_nil ?_
    refine wpC_ret ?_
    exact ⟨.inl rfl, fun a ha => ⟨_, results_rep2 rfl ha rfl rfl, (IntKind.i64.wrap (x14 - 1), 0), rfl, h⟩⟩

/-- (*link.Sender).Ack -/
def F14 (p0 : Option Addr) (p1 : Int) (w0 : World) (K : Int → World → Prop) : Prop :=
  jn (fun (J2 : Bool → World → Prop) => tk w0 fun w1 =>
    cnd (decide (p1 < 0))
      (
      cnd (true)
        (
        J2 true w1
        )
        (
        nn p0 fun a5 =>
        ld (Value.int .i64) (a5.add 2) w1 fun x6 =>
        nn p0 fun a7 =>
        ld (Value.int .i64) (a7.add 0) w1 fun x8 =>
        J2 (decide ((IntKind.i64.wrap (x6 + x8)) < p1)) w1
        )
      )
      (
      nn p0 fun a9 =>
      ld (Value.int .i64) (a9.add 1) w1 fun x10 =>
      cnd (decide (x10 < p1))
        (
        J2 true w1
        )
        (
        nn p0 fun a12 =>
        ld (Value.int .i64) (a12.add 2) w1 fun x13 =>
        nn p0 fun a14 =>
        ld (Value.int .i64) (a14.add 0) w1 fun x15 =>
        J2 (decide ((IntKind.i64.wrap (x13 + x15)) < p1)) w1
        )
      )
  )
  fun l16 w2 =>
  cnd (l16)
    (
    K 1 w2
    )
    (
    nn p0 fun a18 =>
    ld (Value.int .i64) (a18.add 2) w2 fun x19 =>
    nn p0 fun a20 =>
    st (a20.add 2) [(Value.int .i64 (max x19 p1))] w2 fun w3 =>
    K 0 w3
    )
set_option maxRecDepth 100000 in
theorem D14 (p0 : Option Addr) (p1 : Int) (w0 : World) (K : Int → World → Prop) (h : F14 p0 p1 w0 K) : callC Try.prog 14 #[(Value.pointer p0), (Value.int .i64 p1)] (fun (r : Int) => (Value.int .i64 r)) w0 K := by
  unfold F14 at h
  refine calls_of_wpC Try.func14 rfl 37 rfl (by simp) ?_
  intro ρ hρ
  have e0 : ρ 0 = (Value.pointer p0) := hρ 0
  have e1 : ρ 1 = (Value.int .i64 p1) := hρ 1
  clear hρ
  refine wpC_seq ?_
  refine wpC_region ?_
  refine wpR_val (v := (Value.int .i64 0)) (w' := w0) rfl rfl rfl (x_assign (v := (Value.int .i64 0)) rfl rfl) ?_
  refine wpR_nil ?_
  refine wpC_seq ?_
  refine wpC_seq ?_
  refine wpC_cut (fun ρ => ρ 0 = (Value.pointer p0) ∧ ρ 1 = (Value.int .i64 p1) ∧ True) ⟨e0, e1, trivial⟩ ?_
  rintro ρ ⟨e0, e1, -⟩
  obtain ⟨J2, h, hk⟩ := h
  refine wpC_drawJ (by kernel_rfl) (fun (x : Bool) ρ => ρ 27 = (Value.bool x) ∧ ρ 0 = (Value.pointer p0) ∧ ρ 1 = (Value.int .i64 p1) ∧ True) J2 ?_ ?_
  · clear hk
    unfold tk at h
    generalize w0.drew = w1 at h ⊢
    refine wpD_take (v := (Value.int .i64 p1)) 0 (fun _ => True) rfl (by kernel_rfl) (by kernel_rfl) (by kernel_rfl) rfl rfl rfl trivial (fun w _ => (x_move (v := (Value.int .i64 p1)) rfl e1)) ?_
    refine wpD_take (v := (Value.bool (decide (p1 < 0)))) 1 (fun _ => True) rfl (by kernel_rfl) (by kernel_rfl) (by kernel_rfl) rfl rfl rfl trivial (fun w _ => (x_lss rfl rfl rfl)) ?_
    refine wpD_take (v := (Value.bool (decide (p1 < 0)))) 2 (fun _ => True) rfl (by kernel_rfl) (by kernel_rfl) (by kernel_rfl) rfl rfl rfl trivial (fun w _ => (x_move (v := (Value.bool (decide (p1 < 0)))) rfl rfl)) ?_
    rcases Bool.eq_false_or_eq_true (decide (p1 < 0)) with hc3 | hc3
    · replace h := h.1 hc3
      refine wpD_pass 3 rfl (by kernel_rfl) (by kernel_rfl) (by kernel_rfl) (wantN rfl rfl rfl hc3) rfl rfl ?_
      refine wpD_pass 4 rfl (by kernel_rfl) (by kernel_rfl) (by kernel_rfl) (wantN rfl rfl rfl hc3) rfl rfl ?_
      refine wpD_pass 5 rfl (by kernel_rfl) (by kernel_rfl) (by kernel_rfl) (wantN rfl rfl rfl hc3) rfl rfl ?_
      refine wpD_pass 6 rfl (by kernel_rfl) (by kernel_rfl) (by kernel_rfl) (wantN rfl rfl rfl hc3) rfl rfl ?_
      refine wpD_pass 7 rfl (by kernel_rfl) (by kernel_rfl) (by kernel_rfl) (wantN rfl rfl rfl hc3) rfl rfl ?_
      refine wpD_pass 8 rfl (by kernel_rfl) (by kernel_rfl) (by kernel_rfl) (wantN rfl rfl rfl hc3) rfl rfl ?_
      refine wpD_take (v := (Value.bool true)) 9 (fun _ => True) rfl (by kernel_rfl) (by kernel_rfl) (by kernel_rfl) rfl rfl rfl trivial (fun w _ => (x_pickT (v := (Value.bool true)) rfl rfl hc3 rfl)) ?_
      refine wpD_take (v := (Value.bool true)) 10 (fun _ => True) rfl (by kernel_rfl) (by kernel_rfl) (by kernel_rfl) rfl rfl rfl trivial (fun w _ => (x_move (v := (Value.bool true)) rfl rfl)) ?_
      rcases Bool.eq_false_or_eq_true (true) with hc4 | hc4
      · replace h := h.1 hc4
        refine wpD_pass 11 rfl (by kernel_rfl) (by kernel_rfl) (by kernel_rfl) (wantN rfl rfl rfl hc4) rfl rfl ?_
        refine wpD_pass 12 rfl (by kernel_rfl) (by kernel_rfl) (by kernel_rfl) (wantN rfl rfl rfl hc4) rfl rfl ?_
        refine wpD_pass 13 rfl (by kernel_rfl) (by kernel_rfl) (by kernel_rfl) (wantN rfl rfl rfl hc4) rfl rfl ?_
        refine wpD_pass 14 rfl (by kernel_rfl) (by kernel_rfl) (by kernel_rfl) (wantN rfl rfl rfl hc4) rfl rfl ?_
        refine wpD_pass 15 rfl (by kernel_rfl) (by kernel_rfl) (by kernel_rfl) (wantN rfl rfl rfl hc4) rfl rfl ?_
        refine wpD_pass 16 rfl (by kernel_rfl) (by kernel_rfl) (by kernel_rfl) (wantN rfl rfl rfl hc4) rfl rfl ?_
        refine wpD_pass 17 rfl (by kernel_rfl) (by kernel_rfl) (by kernel_rfl) (wantN rfl rfl rfl hc4) rfl rfl ?_
        refine wpD_pass 18 rfl (by kernel_rfl) (by kernel_rfl) (by kernel_rfl) (wantN rfl rfl rfl hc4) rfl rfl ?_
        refine wpD_pass 19 rfl (by kernel_rfl) (by kernel_rfl) (by kernel_rfl) (wantN rfl rfl rfl hc4) rfl rfl ?_
        refine wpD_pass 20 rfl (by kernel_rfl) (by kernel_rfl) (by kernel_rfl) (wantN rfl rfl rfl hc4) rfl rfl ?_
        refine wpD_pass 21 rfl (by kernel_rfl) (by kernel_rfl) (by kernel_rfl) (wantN rfl rfl rfl hc4) rfl rfl ?_
        refine wpD_take (v := (Value.bool true)) 22 (fun _ => True) rfl (by kernel_rfl) (by kernel_rfl) (by kernel_rfl) rfl rfl rfl trivial (fun w _ => (x_pickT (v := (Value.bool true)) rfl rfl hc4 rfl)) ?_
        exact wpD_done (by kernel_rfl) ⟨true, ⟨rfl, e0, e1, trivial⟩, h⟩
      · replace h := h.2 hc4
        refine wpD_take (v := (Value.int .i64 p1)) 11 (fun _ => True) rfl (by kernel_rfl) (by kernel_rfl) (by kernel_rfl) (wantG rfl rfl rfl hc4) rfl rfl trivial (fun w _ => (x_move (v := (Value.int .i64 p1)) rfl e1)) ?_
        refine wpD_take (v := (Value.pointer p0)) 12 (fun _ => True) rfl (by kernel_rfl) (by kernel_rfl) (by kernel_rfl) (wantG rfl rfl rfl hc4) rfl rfl trivial (fun w _ => (x_move (v := (Value.pointer p0)) rfl e0)) ?_
        obtain ⟨a5, q5, h⟩ := h
        refine wpD_take (v := (Value.pointer (some a5))) 13 (fun _ => True) rfl (by kernel_rfl) (by kernel_rfl) (by kernel_rfl) (wantG rfl rfl rfl hc4) rfl rfl trivial (fun w _ => (x_nilCheck rfl rfl q5)) ?_
        refine wpD_take (v := (Value.pointer (some (a5.add 2)))) 14 (fun _ => True) rfl (by kernel_rfl) (by kernel_rfl) (by kernel_rfl) (wantG rfl rfl rfl hc4) rfl rfl trivial (fun w _ => (x_fieldAddr rfl rfl FA_60_2)) ?_
        obtain ⟨x6, q6, h⟩ := h
        refine wpD_take (v := (Value.int .i64 x6)) 15 (fun w => w.cell? (a5.add 2) = some (Value.int .i64 x6)) rfl (by kernel_rfl) (by kernel_rfl) (by kernel_rfl) (wantG rfl rfl rfl hc4) rfl rfl q6 (fun w q6 => (x_load1 rfl rfl SH_3 q6)) ?_
        refine wpD_take (v := (Value.pointer p0)) 16 (fun _ => True) rfl (by kernel_rfl) (by kernel_rfl) (by kernel_rfl) (wantG rfl rfl rfl hc4) rfl rfl trivial (fun w _ => (x_move (v := (Value.pointer p0)) rfl e0)) ?_
        obtain ⟨a7, q7, h⟩ := h
        refine wpD_take (v := (Value.pointer (some a7))) 17 (fun _ => True) rfl (by kernel_rfl) (by kernel_rfl) (by kernel_rfl) (wantG rfl rfl rfl hc4) rfl rfl trivial (fun w _ => (x_nilCheck rfl rfl q7)) ?_
        refine wpD_take (v := (Value.pointer (some (a7.add 0)))) 18 (fun _ => True) rfl (by kernel_rfl) (by kernel_rfl) (by kernel_rfl) (wantG rfl rfl rfl hc4) rfl rfl trivial (fun w _ => (x_fieldAddr rfl rfl FA_60_0)) ?_
        obtain ⟨x8, q8, h⟩ := h
        refine wpD_take (v := (Value.int .i64 x8)) 19 (fun w => w.cell? (a7.add 0) = some (Value.int .i64 x8)) rfl (by kernel_rfl) (by kernel_rfl) (by kernel_rfl) (wantG rfl rfl rfl hc4) rfl rfl q8 (fun w q8 => (x_load1 rfl rfl SH_3 q8)) ?_
        refine wpD_take (v := (Value.int .i64 (IntKind.i64.wrap (x6 + x8)))) 20 (fun _ => True) rfl (by kernel_rfl) (by kernel_rfl) (by kernel_rfl) (wantG rfl rfl rfl hc4) rfl rfl trivial (fun w _ => (x_add rfl rfl rfl)) ?_
        refine wpD_take (v := (Value.bool (decide ((IntKind.i64.wrap (x6 + x8)) < p1)))) 21 (fun _ => True) rfl (by kernel_rfl) (by kernel_rfl) (by kernel_rfl) (wantG rfl rfl rfl hc4) rfl rfl trivial (fun w _ => (x_gtr rfl rfl rfl)) ?_
        refine wpD_take (v := (Value.bool (decide ((IntKind.i64.wrap (x6 + x8)) < p1)))) 22 (fun _ => True) rfl (by kernel_rfl) (by kernel_rfl) (by kernel_rfl) rfl rfl rfl trivial (fun w _ => (x_pickF (v := (Value.bool (decide ((IntKind.i64.wrap (x6 + x8)) < p1)))) rfl rfl hc4 rfl)) ?_
        exact wpD_done (by kernel_rfl) ⟨decide ((IntKind.i64.wrap (x6 + x8)) < p1), ⟨rfl, e0, e1, trivial⟩, h⟩
    · replace h := h.2 hc3
      refine wpD_take (v := (Value.int .i64 p1)) 3 (fun _ => True) rfl (by kernel_rfl) (by kernel_rfl) (by kernel_rfl) (wantG rfl rfl rfl hc3) rfl rfl trivial (fun w _ => (x_move (v := (Value.int .i64 p1)) rfl e1)) ?_
      refine wpD_take (v := (Value.pointer p0)) 4 (fun _ => True) rfl (by kernel_rfl) (by kernel_rfl) (by kernel_rfl) (wantG rfl rfl rfl hc3) rfl rfl trivial (fun w _ => (x_move (v := (Value.pointer p0)) rfl e0)) ?_
      obtain ⟨a9, q9, h⟩ := h
      refine wpD_take (v := (Value.pointer (some a9))) 5 (fun _ => True) rfl (by kernel_rfl) (by kernel_rfl) (by kernel_rfl) (wantG rfl rfl rfl hc3) rfl rfl trivial (fun w _ => (x_nilCheck rfl rfl q9)) ?_
      refine wpD_take (v := (Value.pointer (some (a9.add 1)))) 6 (fun _ => True) rfl (by kernel_rfl) (by kernel_rfl) (by kernel_rfl) (wantG rfl rfl rfl hc3) rfl rfl trivial (fun w _ => (x_fieldAddr rfl rfl FA_60_1)) ?_
      obtain ⟨x10, q10, h⟩ := h
      refine wpD_take (v := (Value.int .i64 x10)) 7 (fun w => w.cell? (a9.add 1) = some (Value.int .i64 x10)) rfl (by kernel_rfl) (by kernel_rfl) (by kernel_rfl) (wantG rfl rfl rfl hc3) rfl rfl q10 (fun w q10 => (x_load1 rfl rfl SH_3 q10)) ?_
      refine wpD_take (v := (Value.bool (decide (x10 < p1)))) 8 (fun _ => True) rfl (by kernel_rfl) (by kernel_rfl) (by kernel_rfl) (wantG rfl rfl rfl hc3) rfl rfl trivial (fun w _ => (x_gtr rfl rfl rfl)) ?_
      refine wpD_take (v := (Value.bool (decide (x10 < p1)))) 9 (fun _ => True) rfl (by kernel_rfl) (by kernel_rfl) (by kernel_rfl) rfl rfl rfl trivial (fun w _ => (x_pickF (v := (Value.bool (decide (x10 < p1)))) rfl rfl hc3 rfl)) ?_
      refine wpD_take (v := (Value.bool (decide (x10 < p1)))) 10 (fun _ => True) rfl (by kernel_rfl) (by kernel_rfl) (by kernel_rfl) rfl rfl rfl trivial (fun w _ => (x_move (v := (Value.bool (decide (x10 < p1)))) rfl rfl)) ?_
      rcases Bool.eq_false_or_eq_true (decide (x10 < p1)) with hc11 | hc11
      · replace h := h.1 hc11
        refine wpD_pass 11 rfl (by kernel_rfl) (by kernel_rfl) (by kernel_rfl) (wantN rfl rfl rfl hc11) rfl rfl ?_
        refine wpD_pass 12 rfl (by kernel_rfl) (by kernel_rfl) (by kernel_rfl) (wantN rfl rfl rfl hc11) rfl rfl ?_
        refine wpD_pass 13 rfl (by kernel_rfl) (by kernel_rfl) (by kernel_rfl) (wantN rfl rfl rfl hc11) rfl rfl ?_
        refine wpD_pass 14 rfl (by kernel_rfl) (by kernel_rfl) (by kernel_rfl) (wantN rfl rfl rfl hc11) rfl rfl ?_
        refine wpD_pass 15 rfl (by kernel_rfl) (by kernel_rfl) (by kernel_rfl) (wantN rfl rfl rfl hc11) rfl rfl ?_
        refine wpD_pass 16 rfl (by kernel_rfl) (by kernel_rfl) (by kernel_rfl) (wantN rfl rfl rfl hc11) rfl rfl ?_
        refine wpD_pass 17 rfl (by kernel_rfl) (by kernel_rfl) (by kernel_rfl) (wantN rfl rfl rfl hc11) rfl rfl ?_
        refine wpD_pass 18 rfl (by kernel_rfl) (by kernel_rfl) (by kernel_rfl) (wantN rfl rfl rfl hc11) rfl rfl ?_
        refine wpD_pass 19 rfl (by kernel_rfl) (by kernel_rfl) (by kernel_rfl) (wantN rfl rfl rfl hc11) rfl rfl ?_
        refine wpD_pass 20 rfl (by kernel_rfl) (by kernel_rfl) (by kernel_rfl) (wantN rfl rfl rfl hc11) rfl rfl ?_
        refine wpD_pass 21 rfl (by kernel_rfl) (by kernel_rfl) (by kernel_rfl) (wantN rfl rfl rfl hc11) rfl rfl ?_
        refine wpD_take (v := (Value.bool true)) 22 (fun _ => True) rfl (by kernel_rfl) (by kernel_rfl) (by kernel_rfl) rfl rfl rfl trivial (fun w _ => (x_pickT (v := (Value.bool true)) rfl rfl hc11 rfl)) ?_
        exact wpD_done (by kernel_rfl) ⟨true, ⟨rfl, e0, e1, trivial⟩, h⟩
      · replace h := h.2 hc11
        refine wpD_take (v := (Value.int .i64 p1)) 11 (fun _ => True) rfl (by kernel_rfl) (by kernel_rfl) (by kernel_rfl) (wantG rfl rfl rfl hc11) rfl rfl trivial (fun w _ => (x_move (v := (Value.int .i64 p1)) rfl e1)) ?_
        refine wpD_take (v := (Value.pointer p0)) 12 (fun _ => True) rfl (by kernel_rfl) (by kernel_rfl) (by kernel_rfl) (wantG rfl rfl rfl hc11) rfl rfl trivial (fun w _ => (x_move (v := (Value.pointer p0)) rfl e0)) ?_
        obtain ⟨a12, q12, h⟩ := h
        refine wpD_take (v := (Value.pointer (some a12))) 13 (fun _ => True) rfl (by kernel_rfl) (by kernel_rfl) (by kernel_rfl) (wantG rfl rfl rfl hc11) rfl rfl trivial (fun w _ => (x_nilCheck rfl rfl q12)) ?_
        refine wpD_take (v := (Value.pointer (some (a12.add 2)))) 14 (fun _ => True) rfl (by kernel_rfl) (by kernel_rfl) (by kernel_rfl) (wantG rfl rfl rfl hc11) rfl rfl trivial (fun w _ => (x_fieldAddr rfl rfl FA_60_2)) ?_
        obtain ⟨x13, q13, h⟩ := h
        refine wpD_take (v := (Value.int .i64 x13)) 15 (fun w => w.cell? (a12.add 2) = some (Value.int .i64 x13)) rfl (by kernel_rfl) (by kernel_rfl) (by kernel_rfl) (wantG rfl rfl rfl hc11) rfl rfl q13 (fun w q13 => (x_load1 rfl rfl SH_3 q13)) ?_
        refine wpD_take (v := (Value.pointer p0)) 16 (fun _ => True) rfl (by kernel_rfl) (by kernel_rfl) (by kernel_rfl) (wantG rfl rfl rfl hc11) rfl rfl trivial (fun w _ => (x_move (v := (Value.pointer p0)) rfl e0)) ?_
        obtain ⟨a14, q14, h⟩ := h
        refine wpD_take (v := (Value.pointer (some a14))) 17 (fun _ => True) rfl (by kernel_rfl) (by kernel_rfl) (by kernel_rfl) (wantG rfl rfl rfl hc11) rfl rfl trivial (fun w _ => (x_nilCheck rfl rfl q14)) ?_
        refine wpD_take (v := (Value.pointer (some (a14.add 0)))) 18 (fun _ => True) rfl (by kernel_rfl) (by kernel_rfl) (by kernel_rfl) (wantG rfl rfl rfl hc11) rfl rfl trivial (fun w _ => (x_fieldAddr rfl rfl FA_60_0)) ?_
        obtain ⟨x15, q15, h⟩ := h
        refine wpD_take (v := (Value.int .i64 x15)) 19 (fun w => w.cell? (a14.add 0) = some (Value.int .i64 x15)) rfl (by kernel_rfl) (by kernel_rfl) (by kernel_rfl) (wantG rfl rfl rfl hc11) rfl rfl q15 (fun w q15 => (x_load1 rfl rfl SH_3 q15)) ?_
        refine wpD_take (v := (Value.int .i64 (IntKind.i64.wrap (x13 + x15)))) 20 (fun _ => True) rfl (by kernel_rfl) (by kernel_rfl) (by kernel_rfl) (wantG rfl rfl rfl hc11) rfl rfl trivial (fun w _ => (x_add rfl rfl rfl)) ?_
        refine wpD_take (v := (Value.bool (decide ((IntKind.i64.wrap (x13 + x15)) < p1)))) 21 (fun _ => True) rfl (by kernel_rfl) (by kernel_rfl) (by kernel_rfl) (wantG rfl rfl rfl hc11) rfl rfl trivial (fun w _ => (x_gtr rfl rfl rfl)) ?_
        refine wpD_take (v := (Value.bool (decide ((IntKind.i64.wrap (x13 + x15)) < p1)))) 22 (fun _ => True) rfl (by kernel_rfl) (by kernel_rfl) (by kernel_rfl) rfl rfl rfl trivial (fun w _ => (x_pickF (v := (Value.bool (decide ((IntKind.i64.wrap (x13 + x15)) < p1)))) rfl rfl hc11 rfl)) ?_
        exact wpD_done (by kernel_rfl) ⟨decide ((IntKind.i64.wrap (x13 + x15)) < p1), ⟨rfl, e0, e1, trivial⟩, h⟩
  clear h
  rintro l16 ρ w2 ⟨e27, e0, e1, -⟩ h
  replace h := hk l16 w2 h
  clear hk
  refine wpC_cond (b := l16) e27 (fun hc17 => ?_) (fun hc17 => ?_)
  · replace h := h.1 hc17
    refine wpC_seq ?_
    refine wpC_region ?_
    refine wpR_val (v := (Value.int .i64 1)) (w' := w2) rfl rfl rfl (x_assign (v := (Value.int .i64 1)) rfl rfl) ?_
    refine wpR_nil ?_
    refine wpC_ret ?_
    exact ⟨.inl rfl, fun a ha => ⟨_, results_rep1 rfl ha rfl, 1, rfl, h⟩⟩
  · replace h := h.2 hc17
    refine wpC_skip ?_
    refine wpC_seq ?_
    refine wpC_region ?_
    refine wpR_val (v := (Value.pointer p0)) (w' := w2) rfl rfl rfl (x_move (v := (Value.pointer p0)) rfl e0) ?_
    refine wpR_val (v := (Value.pointer p0)) (w' := w2) rfl rfl rfl (x_move (v := (Value.pointer p0)) rfl e0) ?_
    obtain ⟨a18, q18, h⟩ := h
    refine wpR_val (v := (Value.pointer (some a18))) (w' := w2) rfl rfl rfl (x_nilCheck rfl rfl q18) ?_
    refine wpR_val (v := (Value.pointer (some (a18.add 2)))) (w' := w2) rfl rfl rfl (x_fieldAddr rfl rfl FA_60_2) ?_
    obtain ⟨x19, q19, h⟩ := h
    refine wpR_val (v := (Value.int .i64 x19)) (w' := w2) rfl rfl rfl (x_load1 rfl rfl SH_3 q19) ?_
    refine wpR_val (v := (Value.int .i64 p1)) (w' := w2) rfl rfl rfl (x_move (v := (Value.int .i64 p1)) rfl e1) ?_
    refine wpR_val (v := (Value.int .i64 (max x19 p1))) (w' := w2) rfl rfl rfl (x_max rfl rfl rfl) ?_
    obtain ⟨a20, q20, h⟩ := h
    refine wpR_val (v := (Value.pointer (some a20))) (w' := w2) rfl rfl rfl (x_nilCheck rfl rfl q20) ?_
    refine wpR_val (v := (Value.pointer (some (a20.add 2)))) (w' := w2) rfl rfl rfl (x_fieldAddr rfl rfl FA_60_2) ?_
    obtain ⟨q21, h⟩ := h
    obtain ⟨w3, hw21⟩ : ∃ u, u = setAll w2 (a20.add 2) [(Value.int .i64 (max x19 p1))] 0 := ⟨_, rfl⟩
    replace h := h w3 hw21
    refine wpR_skp (w' := w3) rfl rfl ((x_store (v := (Value.int .i64 (max x19 p1))) rfl rfl rfl SZ_3 (ones (by rfl)) q21).trans (by rw [hw21]; rfl)) ?_
    refine wpR_nil ?_
    refine wpC_seq ?_
    refine wpC_cut (fun ρ => True) trivial ?_
    rintro ρ -
    refine wpC_region ?_
    refine wpR_val (v := (Value.int .i64 0)) (w' := w3) rfl rfl rfl (x_assign (v := (Value.int .i64 0)) rfl rfl) ?_
    refine wpR_nil ?_
    refine wpC_ret ?_
    exact ⟨.inl rfl, fun a ha => ⟨_, results_rep1 rfl ha rfl, 0, rfl, h⟩⟩

/-- (*linguaref31.Sender).Ack -/
def F15 (p0 : Option Addr) (p1 : Int) (w0 : World) (K : Int → World → Prop) : Prop :=
  jn (fun (J2 : Bool → World → Prop) => tk w0 fun w1 =>
    cnd (decide (p1 < 0))
      (
      cnd (true)
        (
        J2 true w1
        )
        (
        nn p0 fun a5 =>
        ld (Value.int .i64) (a5.add 2) w1 fun x6 =>
        nn p0 fun a7 =>
        ld (Value.int .i64) (a7.add 0) w1 fun x8 =>
        J2 (decide ((IntKind.i64.wrap (x6 + x8)) < p1)) w1
        )
      )
      (
      nn p0 fun a9 =>
      ld (Value.int .i64) (a9.add 1) w1 fun x10 =>
      cnd (decide (x10 < p1))
        (
        J2 true w1
        )
        (
        nn p0 fun a12 =>
        ld (Value.int .i64) (a12.add 2) w1 fun x13 =>
        nn p0 fun a14 =>
        ld (Value.int .i64) (a14.add 0) w1 fun x15 =>
        J2 (decide ((IntKind.i64.wrap (x13 + x15)) < p1)) w1
        )
      )
  )
  fun l16 w2 =>
  cnd (l16)
    (
    K 1 w2
    )
    (
    jn (fun (J18 : Unit → World → Prop) =>
      nn p0 fun a20 =>
      ld (Value.int .i64) (a20.add 2) w2 fun x21 =>
      cnd (decide (x21 < p1))
        (
        nn p0 fun a23 =>
        st (a23.add 2) [(Value.int .i64 p1)] w2 fun w4 =>
        J18 () w4
        )
        (
        J18 () w2
        )
    )
    fun _l19 w3 =>
    K 0 w3
    )
set_option maxRecDepth 100000 in
theorem D15 (p0 : Option Addr) (p1 : Int) (w0 : World) (K : Int → World → Prop) (h : F15 p0 p1 w0 K) : callC Try.prog 15 #[(Value.pointer p0), (Value.int .i64 p1)] (fun (r : Int) => (Value.int .i64 r)) w0 K := by
  unfold F15 at h
  refine calls_of_wpC Try.func15 rfl 38 rfl (by simp) ?_
  intro ρ hρ
  have e0 : ρ 0 = (Value.pointer p0) := hρ 0
  have e1 : ρ 1 = (Value.int .i64 p1) := hρ 1
  clear hρ
  refine wpC_seq ?_
  refine wpC_region ?_
  refine wpR_val (v := (Value.int .i64 0)) (w' := w0) rfl rfl rfl (x_assign (v := (Value.int .i64 0)) rfl rfl) ?_
  refine wpR_nil ?_
  refine wpC_seq ?_
  refine wpC_seq ?_
  refine wpC_cut (fun ρ => ρ 0 = (Value.pointer p0) ∧ ρ 1 = (Value.int .i64 p1) ∧ True) ⟨e0, e1, trivial⟩ ?_
  rintro ρ ⟨e0, e1, -⟩
  obtain ⟨J2, h, hk⟩ := h
  refine wpC_drawJ (by kernel_rfl) (fun (x : Bool) ρ => ρ 27 = (Value.bool x) ∧ ρ 0 = (Value.pointer p0) ∧ ρ 1 = (Value.int .i64 p1) ∧ True) J2 ?_ ?_
  · clear hk
    unfold tk at h
    generalize w0.drew = w1 at h ⊢
    refine wpD_take (v := (Value.int .i64 p1)) 0 (fun _ => True) rfl (by kernel_rfl) (by kernel_rfl) (by kernel_rfl) rfl rfl rfl trivial (fun w _ => (x_move (v := (Value.int .i64 p1)) rfl e1)) ?_
    refine wpD_take (v := (Value.bool (decide (p1 < 0)))) 1 (fun _ => True) rfl (by kernel_rfl) (by kernel_rfl) (by kernel_rfl) rfl rfl rfl trivial (fun w _ => (x_lss rfl rfl rfl)) ?_
    refine wpD_take (v := (Value.bool (decide (p1 < 0)))) 2 (fun _ => True) rfl (by kernel_rfl) (by kernel_rfl) (by kernel_rfl) rfl rfl rfl trivial (fun w _ => (x_move (v := (Value.bool (decide (p1 < 0)))) rfl rfl)) ?_
    rcases Bool.eq_false_or_eq_true (decide (p1 < 0)) with hc3 | hc3
    · replace h := h.1 hc3
      refine wpD_pass 3 rfl (by kernel_rfl) (by kernel_rfl) (by kernel_rfl) (wantN rfl rfl rfl hc3) rfl rfl ?_
      refine wpD_pass 4 rfl (by kernel_rfl) (by kernel_rfl) (by kernel_rfl) (wantN rfl rfl rfl hc3) rfl rfl ?_
      refine wpD_pass 5 rfl (by kernel_rfl) (by kernel_rfl) (by kernel_rfl) (wantN rfl rfl rfl hc3) rfl rfl ?_
      refine wpD_pass 6 rfl (by kernel_rfl) (by kernel_rfl) (by kernel_rfl) (wantN rfl rfl rfl hc3) rfl rfl ?_
      refine wpD_pass 7 rfl (by kernel_rfl) (by kernel_rfl) (by kernel_rfl) (wantN rfl rfl rfl hc3) rfl rfl ?_
      refine wpD_pass 8 rfl (by kernel_rfl) (by kernel_rfl) (by kernel_rfl) (wantN rfl rfl rfl hc3) rfl rfl ?_
      refine wpD_take (v := (Value.bool true)) 9 (fun _ => True) rfl (by kernel_rfl) (by kernel_rfl) (by kernel_rfl) rfl rfl rfl trivial (fun w _ => (x_pickT (v := (Value.bool true)) rfl rfl hc3 rfl)) ?_
      refine wpD_take (v := (Value.bool true)) 10 (fun _ => True) rfl (by kernel_rfl) (by kernel_rfl) (by kernel_rfl) rfl rfl rfl trivial (fun w _ => (x_move (v := (Value.bool true)) rfl rfl)) ?_
      rcases Bool.eq_false_or_eq_true (true) with hc4 | hc4
      · replace h := h.1 hc4
        refine wpD_pass 11 rfl (by kernel_rfl) (by kernel_rfl) (by kernel_rfl) (wantN rfl rfl rfl hc4) rfl rfl ?_
        refine wpD_pass 12 rfl (by kernel_rfl) (by kernel_rfl) (by kernel_rfl) (wantN rfl rfl rfl hc4) rfl rfl ?_
        refine wpD_pass 13 rfl (by kernel_rfl) (by kernel_rfl) (by kernel_rfl) (wantN rfl rfl rfl hc4) rfl rfl ?_
        refine wpD_pass 14 rfl (by kernel_rfl) (by kernel_rfl) (by kernel_rfl) (wantN rfl rfl rfl hc4) rfl rfl ?_
        refine wpD_pass 15 rfl (by kernel_rfl) (by kernel_rfl) (by kernel_rfl) (wantN rfl rfl rfl hc4) rfl rfl ?_
        refine wpD_pass 16 rfl (by kernel_rfl) (by kernel_rfl) (by kernel_rfl) (wantN rfl rfl rfl hc4) rfl rfl ?_
        refine wpD_pass 17 rfl (by kernel_rfl) (by kernel_rfl) (by kernel_rfl) (wantN rfl rfl rfl hc4) rfl rfl ?_
        refine wpD_pass 18 rfl (by kernel_rfl) (by kernel_rfl) (by kernel_rfl) (wantN rfl rfl rfl hc4) rfl rfl ?_
        refine wpD_pass 19 rfl (by kernel_rfl) (by kernel_rfl) (by kernel_rfl) (wantN rfl rfl rfl hc4) rfl rfl ?_
        refine wpD_pass 20 rfl (by kernel_rfl) (by kernel_rfl) (by kernel_rfl) (wantN rfl rfl rfl hc4) rfl rfl ?_
        refine wpD_pass 21 rfl (by kernel_rfl) (by kernel_rfl) (by kernel_rfl) (wantN rfl rfl rfl hc4) rfl rfl ?_
        refine wpD_take (v := (Value.bool true)) 22 (fun _ => True) rfl (by kernel_rfl) (by kernel_rfl) (by kernel_rfl) rfl rfl rfl trivial (fun w _ => (x_pickT (v := (Value.bool true)) rfl rfl hc4 rfl)) ?_
        exact wpD_done (by kernel_rfl) ⟨true, ⟨rfl, e0, e1, trivial⟩, h⟩
      · replace h := h.2 hc4
        refine wpD_take (v := (Value.int .i64 p1)) 11 (fun _ => True) rfl (by kernel_rfl) (by kernel_rfl) (by kernel_rfl) (wantG rfl rfl rfl hc4) rfl rfl trivial (fun w _ => (x_move (v := (Value.int .i64 p1)) rfl e1)) ?_
        refine wpD_take (v := (Value.pointer p0)) 12 (fun _ => True) rfl (by kernel_rfl) (by kernel_rfl) (by kernel_rfl) (wantG rfl rfl rfl hc4) rfl rfl trivial (fun w _ => (x_move (v := (Value.pointer p0)) rfl e0)) ?_
        obtain ⟨a5, q5, h⟩ := h
        refine wpD_take (v := (Value.pointer (some a5))) 13 (fun _ => True) rfl (by kernel_rfl) (by kernel_rfl) (by kernel_rfl) (wantG rfl rfl rfl hc4) rfl rfl trivial (fun w _ => (x_nilCheck rfl rfl q5)) ?_
        refine wpD_take (v := (Value.pointer (some (a5.add 2)))) 14 (fun _ => True) rfl (by kernel_rfl) (by kernel_rfl) (by kernel_rfl) (wantG rfl rfl rfl hc4) rfl rfl trivial (fun w _ => (x_fieldAddr rfl rfl FA_44_2)) ?_
        obtain ⟨x6, q6, h⟩ := h
        refine wpD_take (v := (Value.int .i64 x6)) 15 (fun w => w.cell? (a5.add 2) = some (Value.int .i64 x6)) rfl (by kernel_rfl) (by kernel_rfl) (by kernel_rfl) (wantG rfl rfl rfl hc4) rfl rfl q6 (fun w q6 => (x_load1 rfl rfl SH_3 q6)) ?_
        refine wpD_take (v := (Value.pointer p0)) 16 (fun _ => True) rfl (by kernel_rfl) (by kernel_rfl) (by kernel_rfl) (wantG rfl rfl rfl hc4) rfl rfl trivial (fun w _ => (x_move (v := (Value.pointer p0)) rfl e0)) ?_
        obtain ⟨a7, q7, h⟩ := h
        refine wpD_take (v := (Value.pointer (some a7))) 17 (fun _ => True) rfl (by kernel_rfl) (by kernel_rfl) (by kernel_rfl) (wantG rfl rfl rfl hc4) rfl rfl trivial (fun w _ => (x_nilCheck rfl rfl q7)) ?_
        refine wpD_take (v := (Value.pointer (some (a7.add 0)))) 18 (fun _ => True) rfl (by kernel_rfl) (by kernel_rfl) (by kernel_rfl) (wantG rfl rfl rfl hc4) rfl rfl trivial (fun w _ => (x_fieldAddr rfl rfl FA_44_0)) ?_
        obtain ⟨x8, q8, h⟩ := h
        refine wpD_take (v := (Value.int .i64 x8)) 19 (fun w => w.cell? (a7.add 0) = some (Value.int .i64 x8)) rfl (by kernel_rfl) (by kernel_rfl) (by kernel_rfl) (wantG rfl rfl rfl hc4) rfl rfl q8 (fun w q8 => (x_load1 rfl rfl SH_3 q8)) ?_
        refine wpD_take (v := (Value.int .i64 (IntKind.i64.wrap (x6 + x8)))) 20 (fun _ => True) rfl (by kernel_rfl) (by kernel_rfl) (by kernel_rfl) (wantG rfl rfl rfl hc4) rfl rfl trivial (fun w _ => (x_add rfl rfl rfl)) ?_
        refine wpD_take (v := (Value.bool (decide ((IntKind.i64.wrap (x6 + x8)) < p1)))) 21 (fun _ => True) rfl (by kernel_rfl) (by kernel_rfl) (by kernel_rfl) (wantG rfl rfl rfl hc4) rfl rfl trivial (fun w _ => (x_gtr rfl rfl rfl)) ?_
        refine wpD_take (v := (Value.bool (decide ((IntKind.i64.wrap (x6 + x8)) < p1)))) 22 (fun _ => True) rfl (by kernel_rfl) (by kernel_rfl) (by kernel_rfl) rfl rfl rfl trivial (fun w _ => (x_pickF (v := (Value.bool (decide ((IntKind.i64.wrap (x6 + x8)) < p1)))) rfl rfl hc4 rfl)) ?_
        exact wpD_done (by kernel_rfl) ⟨decide ((IntKind.i64.wrap (x6 + x8)) < p1), ⟨rfl, e0, e1, trivial⟩, h⟩
    · replace h := h.2 hc3
      refine wpD_take (v := (Value.int .i64 p1)) 3 (fun _ => True) rfl (by kernel_rfl) (by kernel_rfl) (by kernel_rfl) (wantG rfl rfl rfl hc3) rfl rfl trivial (fun w _ => (x_move (v := (Value.int .i64 p1)) rfl e1)) ?_
      refine wpD_take (v := (Value.pointer p0)) 4 (fun _ => True) rfl (by kernel_rfl) (by kernel_rfl) (by kernel_rfl) (wantG rfl rfl rfl hc3) rfl rfl trivial (fun w _ => (x_move (v := (Value.pointer p0)) rfl e0)) ?_
      obtain ⟨a9, q9, h⟩ := h
      refine wpD_take (v := (Value.pointer (some a9))) 5 (fun _ => True) rfl (by kernel_rfl) (by kernel_rfl) (by kernel_rfl) (wantG rfl rfl rfl hc3) rfl rfl trivial (fun w _ => (x_nilCheck rfl rfl q9)) ?_
      refine wpD_take (v := (Value.pointer (some (a9.add 1)))) 6 (fun _ => True) rfl (by kernel_rfl) (by kernel_rfl) (by kernel_rfl) (wantG rfl rfl rfl hc3) rfl rfl trivial (fun w _ => (x_fieldAddr rfl rfl FA_44_1)) ?_
      obtain ⟨x10, q10, h⟩ := h
      refine wpD_take (v := (Value.int .i64 x10)) 7 (fun w => w.cell? (a9.add 1) = some (Value.int .i64 x10)) rfl (by kernel_rfl) (by kernel_rfl) (by kernel_rfl) (wantG rfl rfl rfl hc3) rfl rfl q10 (fun w q10 => (x_load1 rfl rfl SH_3 q10)) ?_
      refine wpD_take (v := (Value.bool (decide (x10 < p1)))) 8 (fun _ => True) rfl (by kernel_rfl) (by kernel_rfl) (by kernel_rfl) (wantG rfl rfl rfl hc3) rfl rfl trivial (fun w _ => (x_gtr rfl rfl rfl)) ?_
      refine wpD_take (v := (Value.bool (decide (x10 < p1)))) 9 (fun _ => True) rfl (by kernel_rfl) (by kernel_rfl) (by kernel_rfl) rfl rfl rfl trivial (fun w _ => (x_pickF (v := (Value.bool (decide (x10 < p1)))) rfl rfl hc3 rfl)) ?_
      refine wpD_take (v := (Value.bool (decide (x10 < p1)))) 10 (fun _ => True) rfl (by kernel_rfl) (by kernel_rfl) (by kernel_rfl) rfl rfl rfl trivial (fun w _ => (x_move (v := (Value.bool (decide (x10 < p1)))) rfl rfl)) ?_
      rcases Bool.eq_false_or_eq_true (decide (x10 < p1)) with hc11 | hc11
      · replace h := h.1 hc11
        refine wpD_pass 11 rfl (by kernel_rfl) (by kernel_rfl) (by kernel_rfl) (wantN rfl rfl rfl hc11) rfl rfl ?_
        refine wpD_pass 12 rfl (by kernel_rfl) (by kernel_rfl) (by kernel_rfl) (wantN rfl rfl rfl hc11) rfl rfl ?_
        refine wpD_pass 13 rfl (by kernel_rfl) (by kernel_rfl) (by kernel_rfl) (wantN rfl rfl rfl hc11) rfl rfl ?_
        refine wpD_pass 14 rfl (by kernel_rfl) (by kernel_rfl) (by kernel_rfl) (wantN rfl rfl rfl hc11) rfl rfl ?_
        refine wpD_pass 15 rfl (by kernel_rfl) (by kernel_rfl) (by kernel_rfl) (wantN rfl rfl rfl hc11) rfl rfl ?_
        refine wpD_pass 16 rfl (by kernel_rfl) (by kernel_rfl) (by kernel_rfl) (wantN rfl rfl rfl hc11) rfl rfl ?_
        refine wpD_pass 17 rfl (by kernel_rfl) (by kernel_rfl) (by kernel_rfl) (wantN rfl rfl rfl hc11) rfl rfl ?_
        refine wpD_pass 18 rfl (by kernel_rfl) (by kernel_rfl) (by kernel_rfl) (wantN rfl rfl rfl hc11) rfl rfl ?_
        refine wpD_pass 19 rfl (by kernel_rfl) (by kernel_rfl) (by kernel_rfl) (wantN rfl rfl rfl hc11) rfl rfl ?_
        refine wpD_pass 20 rfl (by kernel_rfl) (by kernel_rfl) (by kernel_rfl) (wantN rfl rfl rfl hc11) rfl rfl ?_
        refine wpD_pass 21 rfl (by kernel_rfl) (by kernel_rfl) (by kernel_rfl) (wantN rfl rfl rfl hc11) rfl rfl ?_
        refine wpD_take (v := (Value.bool true)) 22 (fun _ => True) rfl (by kernel_rfl) (by kernel_rfl) (by kernel_rfl) rfl rfl rfl trivial (fun w _ => (x_pickT (v := (Value.bool true)) rfl rfl hc11 rfl)) ?_
        exact wpD_done (by kernel_rfl) ⟨true, ⟨rfl, e0, e1, trivial⟩, h⟩
      · replace h := h.2 hc11
        refine wpD_take (v := (Value.int .i64 p1)) 11 (fun _ => True) rfl (by kernel_rfl) (by kernel_rfl) (by kernel_rfl) (wantG rfl rfl rfl hc11) rfl rfl trivial (fun w _ => (x_move (v := (Value.int .i64 p1)) rfl e1)) ?_
        refine wpD_take (v := (Value.pointer p0)) 12 (fun _ => True) rfl (by kernel_rfl) (by kernel_rfl) (by kernel_rfl) (wantG rfl rfl rfl hc11) rfl rfl trivial (fun w _ => (x_move (v := (Value.pointer p0)) rfl e0)) ?_
        obtain ⟨a12, q12, h⟩ := h
        refine wpD_take (v := (Value.pointer (some a12))) 13 (fun _ => True) rfl (by kernel_rfl) (by kernel_rfl) (by kernel_rfl) (wantG rfl rfl rfl hc11) rfl rfl trivial (fun w _ => (x_nilCheck rfl rfl q12)) ?_
        refine wpD_take (v := (Value.pointer (some (a12.add 2)))) 14 (fun _ => True) rfl (by kernel_rfl) (by kernel_rfl) (by kernel_rfl) (wantG rfl rfl rfl hc11) rfl rfl trivial (fun w _ => (x_fieldAddr rfl rfl FA_44_2)) ?_
        obtain ⟨x13, q13, h⟩ := h
        refine wpD_take (v := (Value.int .i64 x13)) 15 (fun w => w.cell? (a12.add 2) = some (Value.int .i64 x13)) rfl (by kernel_rfl) (by kernel_rfl) (by kernel_rfl) (wantG rfl rfl rfl hc11) rfl rfl q13 (fun w q13 => (x_load1 rfl rfl SH_3 q13)) ?_
        refine wpD_take (v := (Value.pointer p0)) 16 (fun _ => True) rfl (by kernel_rfl) (by kernel_rfl) (by kernel_rfl) (wantG rfl rfl rfl hc11) rfl rfl trivial (fun w _ => (x_move (v := (Value.pointer p0)) rfl e0)) ?_
        obtain ⟨a14, q14, h⟩ := h
        refine wpD_take (v := (Value.pointer (some a14))) 17 (fun _ => True) rfl (by kernel_rfl) (by kernel_rfl) (by kernel_rfl) (wantG rfl rfl rfl hc11) rfl rfl trivial (fun w _ => (x_nilCheck rfl rfl q14)) ?_
        refine wpD_take (v := (Value.pointer (some (a14.add 0)))) 18 (fun _ => True) rfl (by kernel_rfl) (by kernel_rfl) (by kernel_rfl) (wantG rfl rfl rfl hc11) rfl rfl trivial (fun w _ => (x_fieldAddr rfl rfl FA_44_0)) ?_
        obtain ⟨x15, q15, h⟩ := h
        refine wpD_take (v := (Value.int .i64 x15)) 19 (fun w => w.cell? (a14.add 0) = some (Value.int .i64 x15)) rfl (by kernel_rfl) (by kernel_rfl) (by kernel_rfl) (wantG rfl rfl rfl hc11) rfl rfl q15 (fun w q15 => (x_load1 rfl rfl SH_3 q15)) ?_
        refine wpD_take (v := (Value.int .i64 (IntKind.i64.wrap (x13 + x15)))) 20 (fun _ => True) rfl (by kernel_rfl) (by kernel_rfl) (by kernel_rfl) (wantG rfl rfl rfl hc11) rfl rfl trivial (fun w _ => (x_add rfl rfl rfl)) ?_
        refine wpD_take (v := (Value.bool (decide ((IntKind.i64.wrap (x13 + x15)) < p1)))) 21 (fun _ => True) rfl (by kernel_rfl) (by kernel_rfl) (by kernel_rfl) (wantG rfl rfl rfl hc11) rfl rfl trivial (fun w _ => (x_gtr rfl rfl rfl)) ?_
        refine wpD_take (v := (Value.bool (decide ((IntKind.i64.wrap (x13 + x15)) < p1)))) 22 (fun _ => True) rfl (by kernel_rfl) (by kernel_rfl) (by kernel_rfl) rfl rfl rfl trivial (fun w _ => (x_pickF (v := (Value.bool (decide ((IntKind.i64.wrap (x13 + x15)) < p1)))) rfl rfl hc11 rfl)) ?_
        exact wpD_done (by kernel_rfl) ⟨decide ((IntKind.i64.wrap (x13 + x15)) < p1), ⟨rfl, e0, e1, trivial⟩, h⟩
  clear h
  rintro l16 ρ w2 ⟨e27, e0, e1, -⟩ h
  replace h := hk l16 w2 h
  clear hk
  refine wpC_cond (b := l16) e27 (fun hc17 => ?_) (fun hc17 => ?_)
  · replace h := h.1 hc17
    refine wpC_seq ?_
    refine wpC_region ?_
    refine wpR_val (v := (Value.int .i64 1)) (w' := w2) rfl rfl rfl (x_assign (v := (Value.int .i64 1)) rfl rfl) ?_
    refine wpR_nil ?_
    refine wpC_ret ?_
    exact ⟨.inl rfl, fun a ha => ⟨_, results_rep1 rfl ha rfl, 1, rfl, h⟩⟩
  · replace h := h.2 hc17
    refine wpC_skip ?_
    obtain ⟨J18, h, hk⟩ := h
    refine wpC_seqJ (fun (x : Unit) ρ => True) J18 ?_ ?_
    · clear hk
      refine wpC_seq ?_
      refine wpC_region ?_
      refine wpR_val (v := (Value.int .i64 p1)) (w' := w2) rfl rfl rfl (x_move (v := (Value.int .i64 p1)) rfl e1) ?_
      refine wpR_val (v := (Value.pointer p0)) (w' := w2) rfl rfl rfl (x_move (v := (Value.pointer p0)) rfl e0) ?_
      obtain ⟨a20, q20, h⟩ := h
      refine wpR_val (v := (Value.pointer (some a20))) (w' := w2) rfl rfl rfl (x_nilCheck rfl rfl q20) ?_
      refine wpR_val (v := (Value.pointer (some (a20.add 2)))) (w' := w2) rfl rfl rfl (x_fieldAddr rfl rfl FA_44_2) ?_
      obtain ⟨x21, q21, h⟩ := h
      refine wpR_val (v := (Value.int .i64 x21)) (w' := w2) rfl rfl rfl (x_load1 rfl rfl SH_3 q21) ?_
      refine wpR_val (v := (Value.bool (decide (x21 < p1)))) (w' := w2) rfl rfl rfl (x_gtr rfl rfl rfl) ?_
      refine wpR_nil ?_
      refine wpC_cond (b := decide (x21 < p1)) rfl (fun hc22 => ?_) (fun hc22 => ?_)
      · replace h := h.1 hc22
        refine wpC_cut (fun ρ => ρ 0 = (Value.pointer p0) ∧ ρ 1 = (Value.int .i64 p1) ∧ True) ⟨e0, e1, trivial⟩ ?_
        rintro ρ ⟨e0, e1, -⟩
        refine wpC_region ?_
        refine wpR_val (v := (Value.pointer p0)) (w' := w2) rfl rfl rfl (x_move (v := (Value.pointer p0)) rfl e0) ?_
        refine wpR_val (v := (Value.int .i64 p1)) (w' := w2) rfl rfl rfl (x_move (v := (Value.int .i64 p1)) rfl e1) ?_
        obtain ⟨a23, q23, h⟩ := h
        refine wpR_val (v := (Value.pointer (some a23))) (w' := w2) rfl rfl rfl (x_nilCheck rfl rfl q23) ?_
        refine wpR_val (v := (Value.pointer (some (a23.add 2)))) (w' := w2) rfl rfl rfl (x_fieldAddr rfl rfl FA_44_2) ?_
        obtain ⟨q24, h⟩ := h
        obtain ⟨w4, hw24⟩ : ∃ u, u = setAll w2 (a23.add 2) [(Value.int .i64 p1)] 0 := ⟨_, rfl⟩
        replace h := h w4 hw24
        refine wpR_skp (w' := w4) rfl rfl ((x_store (v := (Value.int .i64 p1)) rfl rfl rfl SZ_3 (ones (by rfl)) q24).trans (by rw [hw24]; rfl)) ?_
        refine wpR_nil ?_
        exact ⟨(), trivial, h⟩
      · replace h := h.2 hc22
        refine wpC_skip ?_
        exact ⟨(), trivial, h⟩
    clear h
    rintro l19 ρ w3 - h
    replace h := hk l19 w3 h
    clear hk
    refine wpC_seq ?_
    refine wpC_region ?_
    refine wpR_val (v := (Value.int .i64 0)) (w' := w3) rfl rfl rfl (x_assign (v := (Value.int .i64 0)) rfl rfl) ?_
    refine wpR_nil ?_
    refine wpC_ret ?_
    exact ⟨.inl rfl, fun a ha => ⟨_, results_rep1 rfl ha rfl, 0, rfl, h⟩⟩

/-- linguaref31.Ints -/
def F16 (p0 : Sl) (p1 : Sl) (w0 : World) (K : Bool → World → Prop) : Prop :=
  cnd (!decide ((p0.len : Int) = (p1.len : Int)))
    (
    K false w0
    )
    (
    lp (fun (next2 : Int → World → Prop) l2 w1 =>
      cnd (decide (l2 < (p0.len : Int)))
        (
        jn (fun (J5 : Bool → World → Prop) => tk w1 fun w2 =>
          ix p0 l2 1 fun p6 =>
          ld (Value.int .i64) p6 w2 fun x7 =>
          ix p1 l2 1 fun p8 =>
          ld (Value.int .i64) p8 w2 fun x9 =>
          J5 (!decide (x7 = x9)) w2
        )
        fun l10 w3 =>
        cnd (l10)
          (
          K false w3
          )
          (
          next2 (IntKind.i64.wrap (l2 + 1)) w3
          )
        )
        (
        K true w1
        )
    ) 0 w0
    )
set_option maxRecDepth 100000 in
theorem D16 (p0 : Sl) (p1 : Sl) (w0 : World) (K : Bool → World → Prop) (h : F16 p0 p1 w0 K) : callC Try.prog 16 #[(Sl.v p0), (Sl.v p1)] (fun (r : Bool) => (Value.bool r)) w0 K := by
  unfold F16 at h
  refine calls_of_wpC Try.func16 rfl 26 rfl (by simp) ?_
  intro ρ hρ
  have e0 : ρ 0 = (Sl.v p0) := hρ 0
  have e1 : ρ 1 = (Sl.v p1) := hρ 1
  clear hρ
  refine wpC_seq ?_
  refine wpC_region ?_
  refine wpR_val (v := (Value.bool false)) (w' := w0) rfl rfl rfl (x_assign (v := (Value.bool false)) rfl rfl) ?_
  refine wpR_nil ?_
  refine wpC_seq ?_
  refine wpC_seq ?_
  refine wpC_cut (fun ρ => ρ 0 = (Sl.v p0) ∧ ρ 1 = (Sl.v p1) ∧ True) ⟨e0, e1, trivial⟩ ?_
  rintro ρ ⟨e0, e1, -⟩
  refine wpC_region ?_
  refine wpR_val (v := (Sl.v p0)) (w' := w0) rfl rfl rfl (x_move (v := (Sl.v p0)) rfl e0) ?_
  refine wpR_val (v := (Value.int .i64 (p0.len : Int))) (w' := w0) rfl rfl rfl (x_lenS (s := p0) rfl rfl isSliceT_22) ?_
  refine wpR_val (v := (Sl.v p1)) (w' := w0) rfl rfl rfl (x_move (v := (Sl.v p1)) rfl e1) ?_
  refine wpR_val (v := (Value.int .i64 (p1.len : Int))) (w' := w0) rfl rfl rfl (x_lenS (s := p1) rfl rfl isSliceT_22) ?_
  refine wpR_val (v := (Value.bool (!decide ((p0.len : Int) = (p1.len : Int))))) (w' := w0) rfl rfl rfl (x_neq rfl rfl rfl) ?_
  refine wpR_nil ?_
  refine wpC_cond (b := !decide ((p0.len : Int) = (p1.len : Int))) rfl (fun hc1 => ?_) (fun hc1 => ?_)
  · replace h := h.1 hc1
    refine wpC_seq ?_
    refine wpC_cut (fun ρ => True) trivial ?_
    rintro ρ -
    refine wpC_region ?_
    refine wpR_val (v := (Value.bool false)) (w' := w0) rfl rfl rfl (x_assign (v := (Value.bool false)) rfl rfl) ?_
    refine wpR_nil ?_
    refine wpC_ret ?_
    exact ⟨.inl rfl, fun a ha => ⟨_, results_rep1 rfl ha rfl, false, rfl, h⟩⟩
  · replace h := h.2 hc1
    refine wpC_skip ?_
    refine wpC_seq ?_
    refine wpC_seq ?_
    refine wpC_cut (fun ρ => ρ 0 = (Sl.v p0) ∧ ρ 1 = (Sl.v p1) ∧ True) ⟨e0, e1, trivial⟩ ?_
    rintro ρ ⟨e0, e1, -⟩
    refine wpC_region ?_
    refine wpR_val (v := (Value.int .i64 0)) (w' := w0) rfl rfl rfl (x_assign (v := (Value.int .i64 0)) rfl rfl) ?_
    refine wpR_nil ?_
    refine wpC_block ?_
    obtain ⟨I2, μ2, hI2, hr2⟩ := h
    refine wpC_loop (fun (x : Int) ρ => ρ 5 = (Value.int .i64 x) ∧ ρ 0 = (Sl.v p0) ∧ ρ 1 = (Sl.v p1) ∧ True) I2 μ2 0 ⟨rfl, e0, e1, trivial⟩ hI2 ?_
    rintro l2 ρ w1 ⟨e5, e0, e1, -⟩ h
    replace h := hr2 l2 w1 h
    clear hr2 hI2
    refine wpC_seq ?_
    refine wpC_seq ?_
    refine wpC_region ?_
    refine wpR_val (v := (Value.int .i64 l2)) (w' := w1) rfl rfl rfl (x_move (v := (Value.int .i64 l2)) rfl e5) ?_
    refine wpR_val (v := (Sl.v p0)) (w' := w1) rfl rfl rfl (x_move (v := (Sl.v p0)) rfl e0) ?_
    refine wpR_val (v := (Value.int .i64 (p0.len : Int))) (w' := w1) rfl rfl rfl (x_lenS (s := p0) rfl rfl isSliceT_22) ?_
    refine wpR_val (v := (Value.bool (decide (l2 < (p0.len : Int))))) (w' := w1) rfl rfl rfl (x_lss rfl rfl rfl) ?_
    refine wpR_nil ?_
    refine wpC_cond (b := decide (l2 < (p0.len : Int))) rfl (fun hc3 => ?_) (fun hc3 => ?_)
    · replace h := h.1 hc3
      refine wpC_skip ?_
      refine wpC_seq ?_
      refine wpC_block ?_
      refine wpC_seq ?_
      refine wpC_cut (fun ρ => ρ 0 = (Sl.v p0) ∧ ρ 1 = (Sl.v p1) ∧ ρ 5 = (Value.int .i64 l2) ∧ True) ⟨e0, e1, e5, trivial⟩ ?_
      rintro ρ ⟨e0, e1, e5, -⟩
      obtain ⟨J5, h, hk⟩ := h
      refine wpC_drawJ (by kernel_rfl) (fun (x : Bool) ρ => ρ 25 = (Value.bool x) ∧ ρ 0 = (Sl.v p0) ∧ ρ 1 = (Sl.v p1) ∧ ρ 5 = (Value.int .i64 l2) ∧ True) J5 ?_ ?_
      · clear hk
        unfold tk at h
        generalize w1.drew = w2 at h ⊢
        refine wpD_take (v := (Sl.v p0)) 0 (fun _ => True) rfl (by kernel_rfl) (by kernel_rfl) (by kernel_rfl) rfl rfl rfl trivial (fun w _ => (x_move (v := (Sl.v p0)) rfl e0)) ?_
        refine wpD_take (v := (Value.int .i64 l2)) 1 (fun _ => True) rfl (by kernel_rfl) (by kernel_rfl) (by kernel_rfl) rfl rfl rfl trivial (fun w _ => (x_move (v := (Value.int .i64 l2)) rfl e5)) ?_
        obtain ⟨q6, z6, r6, h⟩ := h
        generalize hp6 : z6.add ((l2 : Int).toNat * 1) = p6 at h
        refine wpD_take (v := (Value.pointer (some p6))) 2 (fun _ => True) rfl (by kernel_rfl) (by kernel_rfl) (by kernel_rfl) rfl rfl rfl trivial (fun w _ => ((x_indexAddr (s := p0) rfl rfl rfl ES_22 q6 r6).trans (by rw [hp6]))) ?_
        obtain ⟨x7, q7, h⟩ := h
        refine wpD_take (v := (Value.int .i64 x7)) 3 (fun w => w.cell? p6 = some (Value.int .i64 x7)) rfl (by kernel_rfl) (by kernel_rfl) (by kernel_rfl) rfl rfl rfl q7 (fun w q7 => (x_load1 rfl rfl SH_3 q7)) ?_
        refine wpD_take (v := (Sl.v p1)) 4 (fun _ => True) rfl (by kernel_rfl) (by kernel_rfl) (by kernel_rfl) rfl rfl rfl trivial (fun w _ => (x_move (v := (Sl.v p1)) rfl e1)) ?_
        refine wpD_take (v := (Value.int .i64 l2)) 5 (fun _ => True) rfl (by kernel_rfl) (by kernel_rfl) (by kernel_rfl) rfl rfl rfl trivial (fun w _ => (x_move (v := (Value.int .i64 l2)) rfl e5)) ?_
        obtain ⟨q8, z8, r8, h⟩ := h
        generalize hp8 : z8.add ((l2 : Int).toNat * 1) = p8 at h
        refine wpD_take (v := (Value.pointer (some p8))) 6 (fun _ => True) rfl (by kernel_rfl) (by kernel_rfl) (by kernel_rfl) rfl rfl rfl trivial (fun w _ => ((x_indexAddr (s := p1) rfl rfl rfl ES_22 q8 r8).trans (by rw [hp8]))) ?_
        obtain ⟨x9, q9, h⟩ := h
        refine wpD_take (v := (Value.int .i64 x9)) 7 (fun w => w.cell? p8 = some (Value.int .i64 x9)) rfl (by kernel_rfl) (by kernel_rfl) (by kernel_rfl) rfl rfl rfl q9 (fun w q9 => (x_load1 rfl rfl SH_3 q9)) ?_
        refine wpD_take (v := (Value.bool (!decide (x7 = x9)))) 8 (fun _ => True) rfl (by kernel_rfl) (by kernel_rfl) (by kernel_rfl) rfl rfl rfl trivial (fun w _ => (x_neq rfl rfl rfl)) ?_
        exact wpD_done (by kernel_rfl) ⟨!decide (x7 = x9), ⟨rfl, e0, e1, e5, trivial⟩, h⟩
      clear h
      rintro l10 ρ w3 ⟨e25, e0, e1, e5, -⟩ h
      replace h := hk l10 w3 h
      clear hk
      refine wpC_cond (b := l10) e25 (fun hc11 => ?_) (fun hc11 => ?_)
      · replace h := h.1 hc11
        refine wpC_seq ?_
        refine wpC_region ?_
        refine wpR_val (v := (Value.bool false)) (w' := w3) rfl rfl rfl (x_assign (v := (Value.bool false)) rfl rfl) ?_
        refine wpR_nil ?_
        refine wpC_ret ?_
        exact ⟨.inl rfl, fun a ha => ⟨_, results_rep1 rfl ha rfl, false, rfl, h⟩⟩
      · replace h := h.2 hc11
        refine wpC_skip ?_
        refine wpC_region ?_
        refine wpR_val (v := (Value.int .i64 l2)) (w' := w3) rfl rfl rfl (x_move (v := (Value.int .i64 l2)) rfl e5) ?_
        refine wpR_val (v := (Value.int .i64 (IntKind.i64.wrap (l2 + 1)))) (w' := w3) rfl rfl rfl (x_add rfl rfl rfl) ?_
        refine wpR_val (v := (Value.int .i64 (IntKind.i64.wrap (l2 + 1)))) (w' := w3) rfl rfl rfl (x_assign (v := (Value.int .i64 (IntKind.i64.wrap (l2 + 1)))) rfl rfl) ?_
        refine wpR_nil ?_
        exact ⟨IntKind.i64.wrap (l2 + 1), ⟨rfl, e0, e1, trivial⟩, h⟩
    · replace h := h.2 hc3
      refine wpC_exit ?_
      refine wpC_seq ?_
      refine wpC_cut (fun ρ => True) trivial ?_
      rintro ρ -
      refine wpC_region ?_
      refine wpR_val (v := (Value.bool true)) (w' := w1) rfl rfl rfl (x_assign (v := (Value.bool true)) rfl rfl) ?_
      refine wpR_nil ?_
      refine wpC_ret ?_
      exact ⟨.inl rfl, fun a ha => ⟨_, results_rep1 rfl ha rfl, true, rfl, h⟩⟩

/-- (*link.Sender).Frames -/
def F17 (p0 : Option Addr) (w0 : World) (K : Sl → World → Prop) : Prop :=
  jn (fun (J2 : (Int × Int) → World → Prop) => tk w0 fun w1 =>
    nn p0 fun a3 =>
    ld (Value.int .i64) (a3.add 0) w1 fun x4 =>
    callC Try.prog 19 #[(Value.pointer p0)] (fun (r : Int) => (Value.int .i64 r)) w1 fun r5 w2 =>
    (w2.cell? (a3.add 0) = some (Value.int .i64 x4)) ∧
    J2 (min x4 r5, 0) w2
  )
  fun l6 w3 =>
  lp (fun (next7 : (Sl × Int) → World → Prop) l7 w4 =>
    cnd (decide (l7.2 < l6.1))
      (
      nn p0 fun a9 =>
      ld (Value.int .i64) (a9.add 2) w4 fun x10 =>
      nw 3 #[(Value.int .i64 (IntKind.i64.wrap (x10 + l7.2)))] w4 fun b11 w5 =>
      rn Try.prog (Builtin.append_ #[22, 22] 22 #[Sl.v l7.1, Sl.v (⟨some ⟨b11, 0, none⟩, 1, 1⟩ : Sl)]) Sl.v w5 fun r12 w6 =>
      next7 (r12, IntKind.i64.wrap (l7.2 + 1)) w6
      )
      (
      K l7.1 w4
      )
  ) (Sl.nil, l6.2) w3
set_option maxRecDepth 100000 in
theorem D17 (p0 : Option Addr) (w0 : World) (K : Sl → World → Prop) (h : F17 p0 w0 K) : callC Try.prog 17 #[(Value.pointer p0)] (fun (r : Sl) => (Sl.v r)) w0 K := by
  unfold F17 at h
  refine calls_of_wpC Try.func17 rfl 26 rfl (by simp) ?_
  intro ρ hρ
  have e0 : ρ 0 = (Value.pointer p0) := hρ 0
  clear hρ
  refine wpC_seq ?_
  refine wpC_region ?_
  refine wpR_val (v := (Sl.v Sl.nil)) (w' := w0) rfl rfl rfl (x_assign (v := (Sl.v Sl.nil)) rfl rfl) ?_
  refine wpR_nil ?_
  refine wpC_seq ?_
  refine wpC_cut (fun ρ => ρ 0 = (Value.pointer p0) ∧ True) ⟨e0, trivial⟩ ?_
  rintro ρ ⟨e0, -⟩
  refine wpC_region ?_
  refine wpR_val (v := (Sl.v Sl.nil)) (w' := w0) rfl rfl rfl (x_assign (v := (Sl.v Sl.nil)) rfl rfl) ?_
  refine wpR_nil ?_
  refine wpC_seq ?_
  refine wpC_seq ?_
  refine wpC_cut (fun ρ => ρ 0 = (Value.pointer p0) ∧ ρ 3 = (Sl.v Sl.nil) ∧ True) ⟨e0, rfl, trivial⟩ ?_
  rintro ρ ⟨e0, e3, -⟩
  obtain ⟨J2, h, hk⟩ := h
  refine wpC_drawJ (by kernel_rfl) (fun (x : Int × Int) ρ => ρ 11 = (Value.int .i64 x.1) ∧ ρ 12 = (Value.int .i64 x.2) ∧ ρ 0 = (Value.pointer p0) ∧ ρ 3 = (Sl.v Sl.nil) ∧ True) J2 ?_ ?_
  · clear hk
    unfold tk at h
    generalize w0.drew = w1 at h ⊢
    refine wpD_take (v := (Value.pointer p0)) 0 (fun _ => True) rfl (by kernel_rfl) (by kernel_rfl) (by kernel_rfl) rfl rfl rfl trivial (fun w _ => (x_move (v := (Value.pointer p0)) rfl e0)) ?_
    obtain ⟨a3, q3, h⟩ := h
    refine wpD_take (v := (Value.pointer (some a3))) 1 (fun _ => True) rfl (by kernel_rfl) (by kernel_rfl) (by kernel_rfl) rfl rfl rfl trivial (fun w _ => (x_nilCheck rfl rfl q3)) ?_
    refine wpD_take (v := (Value.pointer (some (a3.add 0)))) 2 (fun _ => True) rfl (by kernel_rfl) (by kernel_rfl) (by kernel_rfl) rfl rfl rfl trivial (fun w _ => (x_fieldAddr rfl rfl FA_60_0)) ?_
    obtain ⟨x4, q4, h⟩ := h
    refine wpD_take (v := (Value.int .i64 x4)) 3 (fun w => w.cell? (a3.add 0) = some (Value.int .i64 x4)) rfl (by kernel_rfl) (by kernel_rfl) (by kernel_rfl) rfl rfl rfl q4 (fun w q4 => (x_load1 rfl rfl SH_3 q4)) ?_
    refine wpD_take (v := (Value.pointer p0)) 4 (fun _ => True) rfl (by kernel_rfl) (by kernel_rfl) (by kernel_rfl) rfl rfl rfl trivial (fun w _ => (x_move (v := (Value.pointer p0)) rfl e0)) ?_
    refine wpD_take (v := (Value.int .i64 0)) 7 (fun _ => True) rfl (by kernel_rfl) (by kernel_rfl) (by kernel_rfl) rfl rfl rfl trivial (fun w _ => (x_move (v := (Value.int .i64 0)) rfl rfl)) ?_
    refine wpD_all (rs := [5]) (by kernel_rfl) (by simp) (allD_cons ?_ allD_nil)
    refine stepD_enterL (L' := [(7, fun _ => True), (3, fun w => w.cell? (a3.add 0) = some (Value.int .i64 x4)), (2, fun _ => True), (1, fun _ => True), (0, fun _ => True)]) rfl rfl rfl rfl (x_call (vs := [(Value.pointer p0)]) rfl rfl (mapl_cons rfl mapl_nil) Try.func19 NN_19 NB_19) (by kernel_rfl) (Calls.mono h ?_)
    rintro _ w2 ⟨r5, rfl, h⟩
    obtain ⟨o3, h⟩ := h
    refine ⟨_, rfl, (held_cons trivial (held_cons o3 (held_cons trivial (held_cons trivial (held_cons trivial held_nil))))), ?_⟩
    refine wpD_take (v := (Value.int .i64 (min x4 r5))) 6 (fun _ => True) rfl (by kernel_rfl) (by kernel_rfl) (by kernel_rfl) rfl rfl rfl trivial (fun w _ => (x_min rfl rfl rfl)) ?_
    exact wpD_done (by kernel_rfl) ⟨(min x4 r5, 0), ⟨rfl, rfl, e0, e3, trivial⟩, h⟩
  clear h
  rintro l6 ρ w3 ⟨e11, e12, e0, e3, -⟩ h
  replace h := hk l6 w3 h
  clear hk
  refine wpC_block ?_
  obtain ⟨I7, μ7, hI7, hr7⟩ := h
  refine wpC_loop (fun (x : Sl × Int) ρ => ρ 3 = (Sl.v x.1) ∧ ρ 12 = (Value.int .i64 x.2) ∧ ρ 0 = (Value.pointer p0) ∧ ρ 11 = (Value.int .i64 l6.1) ∧ True) I7 μ7 (Sl.nil, l6.2) ⟨e3, e12, e0, e11, trivial⟩ hI7 ?_
  rintro l7 ρ w4 ⟨e3, e12, e0, e11, -⟩ h
  replace h := hr7 l7 w4 h
  clear hr7 hI7
  refine wpC_seq ?_
  refine wpC_region ?_
  refine wpR_val (v := (Value.bool (decide (l7.2 < l6.1)))) (w' := w4) rfl rfl rfl (x_lss rfl e12 e11) ?_
  refine wpR_nil ?_
  refine wpC_seq ?_
  refine wpC_cond (b := decide (l7.2 < l6.1)) rfl (fun hc8 => ?_) (fun hc8 => ?_)
  · replace h := h.1 hc8
    refine wpC_skip ?_
    refine wpC_seq ?_
    refine wpC_block ?_
    refine wpC_seq ?_
    refine wpC_cut (fun ρ => ρ 0 = (Value.pointer p0) ∧ ρ 3 = (Sl.v l7.1) ∧ ρ 11 = (Value.int .i64 l6.1) ∧ ρ 12 = (Value.int .i64 l7.2) ∧ True) ⟨e0, e3, e11, e12, trivial⟩ ?_
    rintro ρ ⟨e0, e3, e11, e12, -⟩
    refine wpC_region ?_
    refine wpR_val (v := (Value.int .i64 l7.2)) (w' := w4) rfl rfl rfl (x_move (v := (Value.int .i64 l7.2)) rfl e12) ?_
    refine wpR_val (v := (Value.int .i64 l7.2)) (w' := w4) rfl rfl rfl (x_assign (v := (Value.int .i64 l7.2)) rfl rfl) ?_
    refine wpR_nil ?_
    refine wpC_cut (fun ρ => ρ 0 = (Value.pointer p0) ∧ ρ 3 = (Sl.v l7.1) ∧ ρ 4 = (Value.int .i64 l7.2) ∧ ρ 11 = (Value.int .i64 l6.1) ∧ ρ 12 = (Value.int .i64 l7.2) ∧ True) ⟨e0, e3, rfl, e11, e12, trivial⟩ ?_
    rintro ρ ⟨e0, e3, e4, e11, e12, -⟩
    refine wpC_region ?_
    refine wpR_val (v := (Sl.v l7.1)) (w' := w4) rfl rfl rfl (x_move (v := (Sl.v l7.1)) rfl e3) ?_
    refine wpR_val (v := (Value.pointer p0)) (w' := w4) rfl rfl rfl (x_move (v := (Value.pointer p0)) rfl e0) ?_
    obtain ⟨a9, q9, h⟩ := h
    refine wpR_val (v := (Value.pointer (some a9))) (w' := w4) rfl rfl rfl (x_nilCheck rfl rfl q9) ?_
    refine wpR_val (v := (Value.pointer (some (a9.add 2)))) (w' := w4) rfl rfl rfl (x_fieldAddr rfl rfl FA_60_2) ?_
    obtain ⟨x10, q10, h⟩ := h
    refine wpR_val (v := (Value.int .i64 x10)) (w' := w4) rfl rfl rfl (x_load1 rfl rfl SH_3 q10) ?_
    refine wpR_val (v := (Value.int .i64 l7.2)) (w' := w4) rfl rfl rfl (x_move (v := (Value.int .i64 l7.2)) rfl e4) ?_
    refine wpR_val (v := (Value.int .i64 (IntKind.i64.wrap (x10 + l7.2)))) (w' := w4) rfl rfl rfl (x_add rfl rfl rfl) ?_
    obtain ⟨b11, hb11⟩ : ∃ u, u = w4.heap.size := ⟨_, rfl⟩
    obtain ⟨w5, hw11⟩ : ∃ u, u = w4.alloc (.cells #[(Value.int .i64 (IntKind.i64.wrap (x10 + l7.2)))] 3) := ⟨_, rfl⟩
    replace h := h b11 w5 hb11 hw11
    refine wpR_val (v := (Sl.v (⟨some ⟨b11, 0, none⟩, 1, 1⟩ : Sl))) (w' := w5) rfl rfl rfl ((x_buildSlice (qs := [(0, (Value.int .i64 (IntKind.i64.wrap (x10 + l7.2))))]) rfl (by rfl) (BS_22_1_0 (IntKind.i64.wrap (x10 + l7.2)))).trans (by rw [← hb11, ← hw11])) ?_
    obtain ⟨r12, w6, q12, h⟩ := h
    refine wpR_val (v := (Sl.v r12)) (w' := w6) rfl rfl rfl (x_append (s := l7.1) (u := (⟨some ⟨b11, 0, none⟩, 1, 1⟩ : Sl)) rfl rfl rfl rfl q12) ?_
    refine wpR_val (v := (Sl.v r12)) (w' := w6) rfl rfl rfl (x_assign (v := (Sl.v r12)) rfl rfl) ?_
    refine wpR_nil ?_
    refine wpC_cut (fun ρ => ρ 0 = (Value.pointer p0) ∧ ρ 3 = (Sl.v r12) ∧ ρ 11 = (Value.int .i64 l6.1) ∧ ρ 12 = (Value.int .i64 l7.2) ∧ True) ⟨e0, rfl, e11, e12, trivial⟩ ?_
    rintro ρ ⟨e0, e3, e11, e12, -⟩
    refine wpC_region ?_
    refine wpR_val (v := (Value.int .i64 (IntKind.i64.wrap (l7.2 + 1)))) (w' := w6) rfl rfl rfl (x_add rfl e12 rfl) ?_
    refine wpR_val (v := (Value.int .i64 (IntKind.i64.wrap (l7.2 + 1)))) (w' := w6) rfl rfl rfl (x_move (v := (Value.int .i64 (IntKind.i64.wrap (l7.2 + 1)))) rfl rfl) ?_
    refine wpR_nil ?_
    exact ⟨(r12, IntKind.i64.wrap (l7.2 + 1)), ⟨e3, rfl, e0, e11, trivial⟩, h⟩
  · replace h := h.2 hc8
    refine wpC_exit ?_
    refine wpC_seq ?_
    refine wpC_cut (fun ρ => ρ 3 = (Sl.v l7.1) ∧ True) ⟨e3, trivial⟩ ?_
    rintro ρ ⟨e3, -⟩
    refine wpC_region ?_
    refine wpR_val (v := (Sl.v l7.1)) (w' := w4) rfl rfl rfl (x_move (v := (Sl.v l7.1)) rfl e3) ?_
    refine wpR_val (v := (Sl.v l7.1)) (w' := w4) rfl rfl rfl (x_assign (v := (Sl.v l7.1)) rfl rfl) ?_
    refine wpR_nil ?_
    refine wpC_ret ?_
    exact ⟨.inl rfl, fun a ha => ⟨_, results_rep1 rfl ha rfl, l7.1, rfl, h⟩⟩

/-- (*linguaref31.Sender).Frames -/
def F18 (p0 : Option Addr) (w0 : World) (K : Sl → World → Prop) : Prop :=
  nn p0 fun a1 =>
  ld (Value.int .i64) (a1.add 2) w0 fun x2 =>
  lp (fun (next3 : (Sl × Int) → World → Prop) l3 w1 =>
    jn (fun (J5 : Bool → World → Prop) => tk w1 fun w2 =>
      nn p0 fun a6 =>
      ld (Value.int .i64) (a6.add 1) w2 fun x7 =>
      cnd (decide (l3.2 < x7))
        (
        nn p0 fun a9 =>
        ld (Value.int .i64) (a9.add 2) w2 fun x10 =>
        nn p0 fun a11 =>
        ld (Value.int .i64) (a11.add 0) w2 fun x12 =>
        J5 (decide (l3.2 < (IntKind.i64.wrap (x10 + x12)))) w2
        )
        (
        J5 false w2
        )
    )
    fun l13 w3 =>
    cnd (l13)
      (
      nw 3 #[(Value.int .i64 l3.2)] w3 fun b15 w4 =>
      rn Try.prog (Builtin.append_ #[22, 22] 22 #[Sl.v l3.1, Sl.v (⟨some ⟨b15, 0, none⟩, 1, 1⟩ : Sl)]) Sl.v w4 fun r16 w5 =>
      next3 (r16, IntKind.i64.wrap (l3.2 + 1)) w5
      )
      (
      K l3.1 w3
      )
  ) (Sl.nil, x2) w0
set_option maxRecDepth 100000 in
theorem D18 (p0 : Option Addr) (w0 : World) (K : Sl → World → Prop) (h : F18 p0 w0 K) : callC Try.prog 18 #[(Value.pointer p0)] (fun (r : Sl) => (Sl.v r)) w0 K := by
  unfold F18 at h
  refine calls_of_wpC Try.func18 rfl 35 rfl (by simp) ?_
  intro ρ hρ
  have e0 : ρ 0 = (Value.pointer p0) := hρ 0
  clear hρ
  refine wpC_seq ?_
  refine wpC_region ?_
  refine wpR_val (v := (Sl.v Sl.nil)) (w' := w0) rfl rfl rfl (x_assign (v := (Sl.v Sl.nil)) rfl rfl) ?_
  refine wpR_nil ?_
  refine wpC_seq ?_
  refine wpC_cut (fun ρ => ρ 0 = (Value.pointer p0) ∧ True) ⟨e0, trivial⟩ ?_
  rintro ρ ⟨e0, -⟩
  refine wpC_region ?_
  refine wpR_val (v := (Sl.v Sl.nil)) (w' := w0) rfl rfl rfl (x_assign (v := (Sl.v Sl.nil)) rfl rfl) ?_
  refine wpR_nil ?_
  refine wpC_seq ?_
  refine wpC_seq ?_
  refine wpC_cut (fun ρ => ρ 0 = (Value.pointer p0) ∧ ρ 3 = (Sl.v Sl.nil) ∧ True) ⟨e0, rfl, trivial⟩ ?_
  rintro ρ ⟨e0, e3, -⟩
  refine wpC_region ?_
  refine wpR_val (v := (Value.pointer p0)) (w' := w0) rfl rfl rfl (x_move (v := (Value.pointer p0)) rfl e0) ?_
  obtain ⟨a1, q1, h⟩ := h
  refine wpR_val (v := (Value.pointer (some a1))) (w' := w0) rfl rfl rfl (x_nilCheck rfl rfl q1) ?_
  refine wpR_val (v := (Value.pointer (some (a1.add 2)))) (w' := w0) rfl rfl rfl (x_fieldAddr rfl rfl FA_44_2) ?_
  obtain ⟨x2, q2, h⟩ := h
  refine wpR_val (v := (Value.int .i64 x2)) (w' := w0) rfl rfl rfl (x_load1 rfl rfl SH_3 q2) ?_
  refine wpR_val (v := (Value.int .i64 x2)) (w' := w0) rfl rfl rfl (x_assign (v := (Value.int .i64 x2)) rfl rfl) ?_
  refine wpR_nil ?_
  refine wpC_block ?_
  obtain ⟨I3, μ3, hI3, hr3⟩ := h
  refine wpC_loop (fun (x : Sl × Int) ρ => ρ 3 = (Sl.v x.1) ∧ ρ 4 = (Value.int .i64 x.2) ∧ ρ 0 = (Value.pointer p0) ∧ True) I3 μ3 (Sl.nil, x2) ⟨e3, rfl, e0, trivial⟩ hI3 ?_
  rintro l3 ρ w1 ⟨e3, e4, e0, -⟩ h
  replace h := hr3 l3 w1 h
  clear hr3 hI3
  refine wpC_seq ?_
  refine wpC_seq ?_
  obtain ⟨J5, h, hk⟩ := h
  refine wpC_drawJ (by kernel_rfl) (fun (x : Bool) ρ => ρ 27 = (Value.bool x) ∧ ρ 0 = (Value.pointer p0) ∧ ρ 3 = (Sl.v l3.1) ∧ ρ 4 = (Value.int .i64 l3.2) ∧ True) J5 ?_ ?_
  · clear hk
    unfold tk at h
    generalize w1.drew = w2 at h ⊢
    refine wpD_take (v := (Value.int .i64 l3.2)) 0 (fun _ => True) rfl (by kernel_rfl) (by kernel_rfl) (by kernel_rfl) rfl rfl rfl trivial (fun w _ => (x_move (v := (Value.int .i64 l3.2)) rfl e4)) ?_
    refine wpD_take (v := (Value.pointer p0)) 1 (fun _ => True) rfl (by kernel_rfl) (by kernel_rfl) (by kernel_rfl) rfl rfl rfl trivial (fun w _ => (x_move (v := (Value.pointer p0)) rfl e0)) ?_
    obtain ⟨a6, q6, h⟩ := h
    refine wpD_take (v := (Value.pointer (some a6))) 2 (fun _ => True) rfl (by kernel_rfl) (by kernel_rfl) (by kernel_rfl) rfl rfl rfl trivial (fun w _ => (x_nilCheck rfl rfl q6)) ?_
    refine wpD_take (v := (Value.pointer (some (a6.add 1)))) 3 (fun _ => True) rfl (by kernel_rfl) (by kernel_rfl) (by kernel_rfl) rfl rfl rfl trivial (fun w _ => (x_fieldAddr rfl rfl FA_44_1)) ?_
    obtain ⟨x7, q7, h⟩ := h
    refine wpD_take (v := (Value.int .i64 x7)) 4 (fun w => w.cell? (a6.add 1) = some (Value.int .i64 x7)) rfl (by kernel_rfl) (by kernel_rfl) (by kernel_rfl) rfl rfl rfl q7 (fun w q7 => (x_load1 rfl rfl SH_3 q7)) ?_
    refine wpD_take (v := (Value.bool (decide (l3.2 < x7)))) 5 (fun _ => True) rfl (by kernel_rfl) (by kernel_rfl) (by kernel_rfl) rfl rfl rfl trivial (fun w _ => (x_lss rfl rfl rfl)) ?_
    refine wpD_take (v := (Value.bool (decide (l3.2 < x7)))) 6 (fun _ => True) rfl (by kernel_rfl) (by kernel_rfl) (by kernel_rfl) rfl rfl rfl trivial (fun w _ => (x_move (v := (Value.bool (decide (l3.2 < x7)))) rfl rfl)) ?_
    rcases Bool.eq_false_or_eq_true (decide (l3.2 < x7)) with hc8 | hc8
    · replace h := h.1 hc8
      refine wpD_take (v := (Value.int .i64 l3.2)) 7 (fun _ => True) rfl (by kernel_rfl) (by kernel_rfl) (by kernel_rfl) (wantG rfl rfl rfl hc8) rfl rfl trivial (fun w _ => (x_move (v := (Value.int .i64 l3.2)) rfl e4)) ?_
      refine wpD_take (v := (Value.pointer p0)) 8 (fun _ => True) rfl (by kernel_rfl) (by kernel_rfl) (by kernel_rfl) (wantG rfl rfl rfl hc8) rfl rfl trivial (fun w _ => (x_move (v := (Value.pointer p0)) rfl e0)) ?_
      obtain ⟨a9, q9, h⟩ := h
      refine wpD_take (v := (Value.pointer (some a9))) 9 (fun _ => True) rfl (by kernel_rfl) (by kernel_rfl) (by kernel_rfl) (wantG rfl rfl rfl hc8) rfl rfl trivial (fun w _ => (x_nilCheck rfl rfl q9)) ?_
      refine wpD_take (v := (Value.pointer (some (a9.add 2)))) 10 (fun _ => True) rfl (by kernel_rfl) (by kernel_rfl) (by kernel_rfl) (wantG rfl rfl rfl hc8) rfl rfl trivial (fun w _ => (x_fieldAddr rfl rfl FA_44_2)) ?_
      obtain ⟨x10, q10, h⟩ := h
      refine wpD_take (v := (Value.int .i64 x10)) 11 (fun w => w.cell? (a9.add 2) = some (Value.int .i64 x10)) rfl (by kernel_rfl) (by kernel_rfl) (by kernel_rfl) (wantG rfl rfl rfl hc8) rfl rfl q10 (fun w q10 => (x_load1 rfl rfl SH_3 q10)) ?_
      refine wpD_take (v := (Value.pointer p0)) 12 (fun _ => True) rfl (by kernel_rfl) (by kernel_rfl) (by kernel_rfl) (wantG rfl rfl rfl hc8) rfl rfl trivial (fun w _ => (x_move (v := (Value.pointer p0)) rfl e0)) ?_
      obtain ⟨a11, q11, h⟩ := h
      refine wpD_take (v := (Value.pointer (some a11))) 13 (fun _ => True) rfl (by kernel_rfl) (by kernel_rfl) (by kernel_rfl) (wantG rfl rfl rfl hc8) rfl rfl trivial (fun w _ => (x_nilCheck rfl rfl q11)) ?_
      refine wpD_take (v := (Value.pointer (some (a11.add 0)))) 14 (fun _ => True) rfl (by kernel_rfl) (by kernel_rfl) (by kernel_rfl) (wantG rfl rfl rfl hc8) rfl rfl trivial (fun w _ => (x_fieldAddr rfl rfl FA_44_0)) ?_
      obtain ⟨x12, q12, h⟩ := h
      refine wpD_take (v := (Value.int .i64 x12)) 15 (fun w => w.cell? (a11.add 0) = some (Value.int .i64 x12)) rfl (by kernel_rfl) (by kernel_rfl) (by kernel_rfl) (wantG rfl rfl rfl hc8) rfl rfl q12 (fun w q12 => (x_load1 rfl rfl SH_3 q12)) ?_
      refine wpD_take (v := (Value.int .i64 (IntKind.i64.wrap (x10 + x12)))) 16 (fun _ => True) rfl (by kernel_rfl) (by kernel_rfl) (by kernel_rfl) (wantG rfl rfl rfl hc8) rfl rfl trivial (fun w _ => (x_add rfl rfl rfl)) ?_
      refine wpD_take (v := (Value.bool (decide (l3.2 < (IntKind.i64.wrap (x10 + x12)))))) 17 (fun _ => True) rfl (by kernel_rfl) (by kernel_rfl) (by kernel_rfl) (wantG rfl rfl rfl hc8) rfl rfl trivial (fun w _ => (x_lss rfl rfl rfl)) ?_
      refine wpD_take (v := (Value.bool (decide (l3.2 < (IntKind.i64.wrap (x10 + x12)))))) 18 (fun _ => True) rfl (by kernel_rfl) (by kernel_rfl) (by kernel_rfl) rfl rfl rfl trivial (fun w _ => (x_pickT (v := (Value.bool (decide (l3.2 < (IntKind.i64.wrap (x10 + x12)))))) rfl rfl hc8 rfl)) ?_
      exact wpD_done (by kernel_rfl) ⟨decide (l3.2 < (IntKind.i64.wrap (x10 + x12))), ⟨rfl, e0, e3, e4, trivial⟩, h⟩
    · replace h := h.2 hc8
      refine wpD_pass 7 rfl (by kernel_rfl) (by kernel_rfl) (by kernel_rfl) (wantN rfl rfl rfl hc8) rfl rfl ?_
      refine wpD_pass 8 rfl (by kernel_rfl) (by kernel_rfl) (by kernel_rfl) (wantN rfl rfl rfl hc8) rfl rfl ?_
      refine wpD_pass 9 rfl (by kernel_rfl) (by kernel_rfl) (by kernel_rfl) (wantN rfl rfl rfl hc8) rfl rfl ?_
      refine wpD_pass 10 rfl (by kernel_rfl) (by kernel_rfl) (by kernel_rfl) (wantN rfl rfl rfl hc8) rfl rfl ?_
      refine wpD_pass 11 rfl (by kernel_rfl) (by kernel_rfl) (by kernel_rfl) (wantN rfl rfl rfl hc8) rfl rfl ?_
      refine wpD_pass 12 rfl (by kernel_rfl) (by kernel_rfl) (by kernel_rfl) (wantN rfl rfl rfl hc8) rfl rfl ?_
      refine wpD_pass 13 rfl (by kernel_rfl) (by kernel_rfl) (by kernel_rfl) (wantN rfl rfl rfl hc8) rfl rfl ?_
      refine wpD_pass 14 rfl (by kernel_rfl) (by kernel_rfl) (by kernel_rfl) (wantN rfl rfl rfl hc8) rfl rfl ?_
      refine wpD_pass 15 rfl (by kernel_rfl) (by kernel_rfl) (by kernel_rfl) (wantN rfl rfl rfl hc8) rfl rfl ?_
      refine wpD_pass 16 rfl (by kernel_rfl) (by kernel_rfl) (by kernel_rfl) (wantN rfl rfl rfl hc8) rfl rfl ?_
      refine wpD_pass 17 rfl (by kernel_rfl) (by kernel_rfl) (by kernel_rfl) (wantN rfl rfl rfl hc8) rfl rfl ?_
      refine wpD_take (v := (Value.bool false)) 18 (fun _ => True) rfl (by kernel_rfl) (by kernel_rfl) (by kernel_rfl) rfl rfl rfl trivial (fun w _ => (x_pickF (v := (Value.bool false)) rfl rfl hc8 rfl)) ?_
      exact wpD_done (by kernel_rfl) ⟨false, ⟨rfl, e0, e3, e4, trivial⟩, h⟩
  clear h
  rintro l13 ρ w3 ⟨e27, e0, e3, e4, -⟩ h
  replace h := hk l13 w3 h
  clear hk
  refine wpC_cond (b := l13) e27 (fun hc14 => ?_) (fun hc14 => ?_)
  · replace h := h.1 hc14
    refine wpC_skip ?_
    refine wpC_seq ?_
    refine wpC_block ?_
    refine wpC_region ?_
    refine wpR_val (v := (Sl.v l3.1)) (w' := w3) rfl rfl rfl (x_move (v := (Sl.v l3.1)) rfl e3) ?_
    refine wpR_val (v := (Value.int .i64 l3.2)) (w' := w3) rfl rfl rfl (x_move (v := (Value.int .i64 l3.2)) rfl e4) ?_
    obtain ⟨b15, hb15⟩ : ∃ u, u = w3.heap.size := ⟨_, rfl⟩
    obtain ⟨w4, hw15⟩ : ∃ u, u = w3.alloc (.cells #[(Value.int .i64 l3.2)] 3) := ⟨_, rfl⟩
    replace h := h b15 w4 hb15 hw15
    refine wpR_val (v := (Sl.v (⟨some ⟨b15, 0, none⟩, 1, 1⟩ : Sl))) (w' := w4) rfl rfl rfl ((x_buildSlice (qs := [(0, (Value.int .i64 l3.2))]) rfl (by rfl) (BS_22_1_0 l3.2)).trans (by rw [← hb15, ← hw15])) ?_
    obtain ⟨r16, w5, q16, h⟩ := h
    refine wpR_val (v := (Sl.v r16)) (w' := w5) rfl rfl rfl (x_append (s := l3.1) (u := (⟨some ⟨b15, 0, none⟩, 1, 1⟩ : Sl)) rfl rfl rfl rfl q16) ?_
    refine wpR_val (v := (Sl.v r16)) (w' := w5) rfl rfl rfl (x_assign (v := (Sl.v r16)) rfl rfl) ?_
    refine wpR_nil ?_
    refine wpC_cut (fun ρ => ρ 0 = (Value.pointer p0) ∧ ρ 3 = (Sl.v r16) ∧ ρ 4 = (Value.int .i64 l3.2) ∧ True) ⟨e0, rfl, e4, trivial⟩ ?_
    rintro ρ ⟨e0, e3, e4, -⟩
    refine wpC_region ?_
    refine wpR_val (v := (Value.int .i64 l3.2)) (w' := w5) rfl rfl rfl (x_move (v := (Value.int .i64 l3.2)) rfl e4) ?_
    refine wpR_val (v := (Value.int .i64 (IntKind.i64.wrap (l3.2 + 1)))) (w' := w5) rfl rfl rfl (x_add rfl rfl rfl) ?_
    refine wpR_val (v := (Value.int .i64 (IntKind.i64.wrap (l3.2 + 1)))) (w' := w5) rfl rfl rfl (x_assign (v := (Value.int .i64 (IntKind.i64.wrap (l3.2 + 1)))) rfl rfl) ?_
    refine wpR_nil ?_
    exact ⟨(r16, IntKind.i64.wrap (l3.2 + 1)), ⟨e3, rfl, e0, trivial⟩, h⟩
  · replace h := h.2 hc14
    refine wpC_exit ?_
    refine wpC_seq ?_
    refine wpC_region ?_
    refine wpR_val (v := (Sl.v l3.1)) (w' := w3) rfl rfl rfl (x_move (v := (Sl.v l3.1)) rfl e3) ?_
    refine wpR_val (v := (Sl.v l3.1)) (w' := w3) rfl rfl rfl (x_assign (v := (Sl.v l3.1)) rfl rfl) ?_
    refine wpR_nil ?_
    refine wpC_ret ?_
    exact ⟨.inl rfl, fun a ha => ⟨_, results_rep1 rfl ha rfl, l3.1, rfl, h⟩⟩

/-- (*link.Sender).Left -/
def F19 (p0 : Option Addr) (w0 : World) (K : Int → World → Prop) : Prop :=
  jn (fun (J2 : Int → World → Prop) => tk w0 fun w1 =>
    nn p0 fun a3 =>
    ld (Value.int .i64) (a3.add 1) w1 fun x4 =>
    nn p0 fun a5 =>
    ld (Value.int .i64) (a5.add 2) w1 fun x6 =>
    J2 (IntKind.i64.wrap (x4 - x6)) w1
  )
  fun l7 w2 =>
  K l7 w2
set_option maxRecDepth 100000 in
theorem D19 (p0 : Option Addr) (w0 : World) (K : Int → World → Prop) (h : F19 p0 w0 K) : callC Try.prog 19 #[(Value.pointer p0)] (fun (r : Int) => (Value.int .i64 r)) w0 K := by
  unfold F19 at h
  refine calls_of_wpC Try.func19 rfl 12 rfl (by simp) ?_
  intro ρ hρ
  have e0 : ρ 0 = (Value.pointer p0) := hρ 0
  clear hρ
  refine wpC_seq ?_
  refine wpC_region ?_
  refine wpR_val (v := (Value.int .i64 0)) (w' := w0) rfl rfl rfl (x_assign (v := (Value.int .i64 0)) rfl rfl) ?_
  refine wpR_nil ?_
  refine wpC_seq ?_
  refine wpC_cut (fun ρ => ρ 0 = (Value.pointer p0) ∧ True) ⟨e0, trivial⟩ ?_
  rintro ρ ⟨e0, -⟩
  obtain ⟨J2, h, hk⟩ := h
  refine wpC_drawJ (by kernel_rfl) (fun (x : Int) ρ => ρ 2 = (Value.int .i64 x) ∧ True) J2 ?_ ?_
  · clear hk
    unfold tk at h
    generalize w0.drew = w1 at h ⊢
    refine wpD_take (v := (Value.pointer p0)) 0 (fun _ => True) rfl (by kernel_rfl) (by kernel_rfl) (by kernel_rfl) rfl rfl rfl trivial (fun w _ => (x_move (v := (Value.pointer p0)) rfl e0)) ?_
    obtain ⟨a3, q3, h⟩ := h
    refine wpD_take (v := (Value.pointer (some a3))) 1 (fun _ => True) rfl (by kernel_rfl) (by kernel_rfl) (by kernel_rfl) rfl rfl rfl trivial (fun w _ => (x_nilCheck rfl rfl q3)) ?_
    refine wpD_take (v := (Value.pointer (some (a3.add 1)))) 2 (fun _ => True) rfl (by kernel_rfl) (by kernel_rfl) (by kernel_rfl) rfl rfl rfl trivial (fun w _ => (x_fieldAddr rfl rfl FA_60_1)) ?_
    obtain ⟨x4, q4, h⟩ := h
    refine wpD_take (v := (Value.int .i64 x4)) 3 (fun w => w.cell? (a3.add 1) = some (Value.int .i64 x4)) rfl (by kernel_rfl) (by kernel_rfl) (by kernel_rfl) rfl rfl rfl q4 (fun w q4 => (x_load1 rfl rfl SH_3 q4)) ?_
    refine wpD_take (v := (Value.pointer p0)) 4 (fun _ => True) rfl (by kernel_rfl) (by kernel_rfl) (by kernel_rfl) rfl rfl rfl trivial (fun w _ => (x_move (v := (Value.pointer p0)) rfl e0)) ?_
    obtain ⟨a5, q5, h⟩ := h
    refine wpD_take (v := (Value.pointer (some a5))) 5 (fun _ => True) rfl (by kernel_rfl) (by kernel_rfl) (by kernel_rfl) rfl rfl rfl trivial (fun w _ => (x_nilCheck rfl rfl q5)) ?_
    refine wpD_take (v := (Value.pointer (some (a5.add 2)))) 6 (fun _ => True) rfl (by kernel_rfl) (by kernel_rfl) (by kernel_rfl) rfl rfl rfl trivial (fun w _ => (x_fieldAddr rfl rfl FA_60_2)) ?_
    obtain ⟨x6, q6, h⟩ := h
    refine wpD_take (v := (Value.int .i64 x6)) 7 (fun w => w.cell? (a5.add 2) = some (Value.int .i64 x6)) rfl (by kernel_rfl) (by kernel_rfl) (by kernel_rfl) rfl rfl rfl q6 (fun w q6 => (x_load1 rfl rfl SH_3 q6)) ?_
    refine wpD_take (v := (Value.int .i64 (IntKind.i64.wrap (x4 - x6)))) 8 (fun _ => True) rfl (by kernel_rfl) (by kernel_rfl) (by kernel_rfl) rfl rfl rfl trivial (fun w _ => (x_sub rfl rfl rfl)) ?_
    refine wpD_take (v := (Value.int .i64 (IntKind.i64.wrap (x4 - x6)))) 9 (fun _ => True) rfl (by kernel_rfl) (by kernel_rfl) (by kernel_rfl) rfl rfl rfl trivial (fun w _ => (x_assign (v := (Value.int .i64 (IntKind.i64.wrap (x4 - x6)))) rfl rfl)) ?_
    exact wpD_done (by kernel_rfl) ⟨IntKind.i64.wrap (x4 - x6), ⟨rfl, trivial⟩, h⟩
  clear h
  rintro l7 ρ w2 ⟨e2, -⟩ h
  replace h := hk l7 w2 h
  clear hk
  refine wpC_ret ?_
  exact ⟨.inl rfl, fun a ha => ⟨_, results_rep1 rfl ha e2, l7, rfl, h⟩⟩

/-- (*link.Receiver).Take -/
def F20 (p0 : Option Addr) (p1 : Int) (w0 : World) (K : (Sl × Int) → World → Prop) : Prop :=
  jn (fun (J2 : Bool → World → Prop) => tk w0 fun w1 =>
    nn p0 fun a3 =>
    ld (Value.int .i64) (a3.add 1) w1 fun x4 =>
    cnd (decide (p1 < x4))
      (
      J2 true w1
      )
      (
      nn p0 fun a6 =>
      ld (Value.int .i64) (a6.add 1) w1 fun x7 =>
      nn p0 fun a8 =>
      ld (Value.int .i64) (a8.add 0) w1 fun x9 =>
      J2 (decide ((IntKind.i64.wrap (x7 + x9)) ≤ p1)) w1
      )
  )
  fun l10 w2 =>
  cnd (l10)
    (
    jn (fun (J13 : (Sl × Int) → World → Prop) => tk w2 fun w3 =>
      nn p0 fun a14 =>
      ld (Value.int .i64) (a14.add 1) w3 fun x15 =>
      J13 (Sl.nil, x15) w3
    )
    fun l16 w4 =>
    K (l16.1, l16.2) w4
    )
    (
    nn p0 fun a17 =>
    ld Value.map (a17.add 2) w2 fun x18 =>
    rn0 Try.prog (Instr.mapUpdate 62 (Value.map x18) (Value.int .i64 p1) (Value.bool true)) w2 fun w5 =>
    lp (fun (next20 : Sl → World → Prop) l20 w6 =>
      jn (fun (J22 : Bool → World → Prop) => tk w6 fun w7 =>
        nn p0 fun a23 =>
        ld Value.map (a23.add 2) w7 fun x24 =>
        nn p0 fun a25 =>
        ld (Value.int .i64) (a25.add 1) w7 fun x26 =>
        rn Try.prog (Instr.lookup 62 (Value.map x24) (Value.int .i64 x26) false) (fun (r : Bool) => (Value.bool r)) w7 fun r27 w8 =>
        J22 r27 w8
      )
      fun l28 w9 =>
      cnd (l28)
        (
        jn (fun (J31 : Unit → World → Prop) => tk w9 fun w10 =>
          nn p0 fun a32 =>
          ld Value.map (a32.add 2) w10 fun x33 =>
          nn p0 fun a34 =>
          ld (Value.int .i64) (a34.add 1) w10 fun x35 =>
          rn Try.prog (Builtin.delete_ #[62, 3] 0 #[(Value.map x33), (Value.int .i64 x35)]) (fun _ : Unit => Value.tuple #[]) w10 fun _r36 w11 =>
          J31 () w11
        )
        fun _l37 w12 =>
        nn p0 fun a38 =>
        ld (Value.int .i64) (a38.add 1) w12 fun x39 =>
        nw 3 #[(Value.int .i64 x39)] w12 fun b40 w13 =>
        rn Try.prog (Builtin.append_ #[22, 22] 22 #[Sl.v l20, Sl.v (⟨some ⟨b40, 0, none⟩, 1, 1⟩ : Sl)]) Sl.v w13 fun r41 w14 =>
        nn p0 fun a42 =>
        ld (Value.int .i64) (a42.add 1) w14 fun x43 =>
        nn p0 fun a44 =>
        st (a44.add 1) [(Value.int .i64 (IntKind.i64.wrap (x43 + 1)))] w14 fun w15 =>
        next20 r41 w15
        )
        (
        jn (fun (J47 : (Sl × Int) → World → Prop) => tk w9 fun w16 =>
          nn p0 fun a48 =>
          ld (Value.int .i64) (a48.add 1) w16 fun x49 =>
          J47 (l20, x49) w16
        )
        fun l50 w17 =>
        K (l50.1, l50.2) w17
        )
    ) Sl.nil w5
    )
set_option maxRecDepth 100000 in
theorem D20 (p0 : Option Addr) (p1 : Int) (w0 : World) (K : (Sl × Int) → World → Prop) (h : F20 p0 p1 w0 K) : callC Try.prog 20 #[(Value.pointer p0), (Value.int .i64 p1)] (fun (r : Sl × Int) => (Value.tuple #[(Sl.v r.1), (Value.int .i64 r.2)])) w0 K := by
  unfold F20 at h
  refine calls_of_wpC Try.func20 rfl 71 rfl (by simp) ?_
  intro ρ hρ
  have e0 : ρ 0 = (Value.pointer p0) := hρ 0
  have e1 : ρ 1 = (Value.int .i64 p1) := hρ 1
  clear hρ
  refine wpC_seq ?_
  refine wpC_region ?_
  refine wpR_val (v := (Sl.v Sl.nil)) (w' := w0) rfl rfl rfl (x_assign (v := (Sl.v Sl.nil)) rfl rfl) ?_
  refine wpR_val (v := (Value.int .i64 0)) (w' := w0) rfl rfl rfl (x_assign (v := (Value.int .i64 0)) rfl rfl) ?_
  refine wpR_nil ?_
  refine wpC_seq ?_
  refine wpC_seq ?_
  refine wpC_cut (fun ρ => ρ 0 = (Value.pointer p0) ∧ ρ 1 = (Value.int .i64 p1) ∧ True) ⟨e0, e1, trivial⟩ ?_
  rintro ρ ⟨e0, e1, -⟩
  obtain ⟨J2, h, hk⟩ := h
  refine wpC_drawJ (by kernel_rfl) (fun (x : Bool) ρ => ρ 25 = (Value.bool x) ∧ ρ 0 = (Value.pointer p0) ∧ ρ 1 = (Value.int .i64 p1) ∧ True) J2 ?_ ?_
  · clear hk
    unfold tk at h
    generalize w0.drew = w1 at h ⊢
    refine wpD_take (v := (Value.int .i64 p1)) 0 (fun _ => True) rfl (by kernel_rfl) (by kernel_rfl) (by kernel_rfl) rfl rfl rfl trivial (fun w _ => (x_move (v := (Value.int .i64 p1)) rfl e1)) ?_
    refine wpD_take (v := (Value.pointer p0)) 1 (fun _ => True) rfl (by kernel_rfl) (by kernel_rfl) (by kernel_rfl) rfl rfl rfl trivial (fun w _ => (x_move (v := (Value.pointer p0)) rfl e0)) ?_
    obtain ⟨a3, q3, h⟩ := h
    refine wpD_take (v := (Value.pointer (some a3))) 2 (fun _ => True) rfl (by kernel_rfl) (by kernel_rfl) (by kernel_rfl) rfl rfl rfl trivial (fun w _ => (x_nilCheck rfl rfl q3)) ?_
    refine wpD_take (v := (Value.pointer (some (a3.add 1)))) 3 (fun _ => True) rfl (by kernel_rfl) (by kernel_rfl) (by kernel_rfl) rfl rfl rfl trivial (fun w _ => (x_fieldAddr rfl rfl FA_64_1)) ?_
    obtain ⟨x4, q4, h⟩ := h
    refine wpD_take (v := (Value.int .i64 x4)) 4 (fun w => w.cell? (a3.add 1) = some (Value.int .i64 x4)) rfl (by kernel_rfl) (by kernel_rfl) (by kernel_rfl) rfl rfl rfl q4 (fun w q4 => (x_load1 rfl rfl SH_3 q4)) ?_
    refine wpD_take (v := (Value.bool (decide (p1 < x4)))) 5 (fun _ => True) rfl (by kernel_rfl) (by kernel_rfl) (by kernel_rfl) rfl rfl rfl trivial (fun w _ => (x_lss rfl rfl rfl)) ?_
    refine wpD_take (v := (Value.bool (decide (p1 < x4)))) 6 (fun _ => True) rfl (by kernel_rfl) (by kernel_rfl) (by kernel_rfl) rfl rfl rfl trivial (fun w _ => (x_move (v := (Value.bool (decide (p1 < x4)))) rfl rfl)) ?_
    rcases Bool.eq_false_or_eq_true (decide (p1 < x4)) with hc5 | hc5
    · replace h := h.1 hc5
      refine wpD_pass 7 rfl (by kernel_rfl) (by kernel_rfl) (by kernel_rfl) (wantN rfl rfl rfl hc5) rfl rfl ?_
      refine wpD_pass 8 rfl (by kernel_rfl) (by kernel_rfl) (by kernel_rfl) (wantN rfl rfl rfl hc5) rfl rfl ?_
      refine wpD_pass 9 rfl (by kernel_rfl) (by kernel_rfl) (by kernel_rfl) (wantN rfl rfl rfl hc5) rfl rfl ?_
      refine wpD_pass 10 rfl (by kernel_rfl) (by kernel_rfl) (by kernel_rfl) (wantN rfl rfl rfl hc5) rfl rfl ?_
      refine wpD_pass 11 rfl (by kernel_rfl) (by kernel_rfl) (by kernel_rfl) (wantN rfl rfl rfl hc5) rfl rfl ?_
      refine wpD_pass 12 rfl (by kernel_rfl) (by kernel_rfl) (by kernel_rfl) (wantN rfl rfl rfl hc5) rfl rfl ?_
      refine wpD_pass 13 rfl (by kernel_rfl) (by kernel_rfl) (by kernel_rfl) (wantN rfl rfl rfl hc5) rfl rfl ?_
      refine wpD_pass 14 rfl (by kernel_rfl) (by kernel_rfl) (by kernel_rfl) (wantN rfl rfl rfl hc5) rfl rfl ?_
      refine wpD_pass 15 rfl (by kernel_rfl) (by kernel_rfl) (by kernel_rfl) (wantN rfl rfl rfl hc5) rfl rfl ?_
      refine wpD_pass 16 rfl (by kernel_rfl) (by kernel_rfl) (by kernel_rfl) (wantN rfl rfl rfl hc5) rfl rfl ?_
      refine wpD_pass 17 rfl (by kernel_rfl) (by kernel_rfl) (by kernel_rfl) (wantN rfl rfl rfl hc5) rfl rfl ?_
      refine wpD_take (v := (Value.bool true)) 18 (fun _ => True) rfl (by kernel_rfl) (by kernel_rfl) (by kernel_rfl) rfl rfl rfl trivial (fun w _ => (x_pickT (v := (Value.bool true)) rfl rfl hc5 rfl)) ?_
      exact wpD_done (by kernel_rfl) ⟨true, ⟨rfl, e0, e1, trivial⟩, h⟩
    · replace h := h.2 hc5
      refine wpD_take (v := (Value.int .i64 p1)) 7 (fun _ => True) rfl (by kernel_rfl) (by kernel_rfl) (by kernel_rfl) (wantG rfl rfl rfl hc5) rfl rfl trivial (fun w _ => (x_move (v := (Value.int .i64 p1)) rfl e1)) ?_
      refine wpD_take (v := (Value.pointer p0)) 8 (fun _ => True) rfl (by kernel_rfl) (by kernel_rfl) (by kernel_rfl) (wantG rfl rfl rfl hc5) rfl rfl trivial (fun w _ => (x_move (v := (Value.pointer p0)) rfl e0)) ?_
      obtain ⟨a6, q6, h⟩ := h
      refine wpD_take (v := (Value.pointer (some a6))) 9 (fun _ => True) rfl (by kernel_rfl) (by kernel_rfl) (by kernel_rfl) (wantG rfl rfl rfl hc5) rfl rfl trivial (fun w _ => (x_nilCheck rfl rfl q6)) ?_
      refine wpD_take (v := (Value.pointer (some (a6.add 1)))) 10 (fun _ => True) rfl (by kernel_rfl) (by kernel_rfl) (by kernel_rfl) (wantG rfl rfl rfl hc5) rfl rfl trivial (fun w _ => (x_fieldAddr rfl rfl FA_64_1)) ?_
      obtain ⟨x7, q7, h⟩ := h
      refine wpD_take (v := (Value.int .i64 x7)) 11 (fun w => w.cell? (a6.add 1) = some (Value.int .i64 x7)) rfl (by kernel_rfl) (by kernel_rfl) (by kernel_rfl) (wantG rfl rfl rfl hc5) rfl rfl q7 (fun w q7 => (x_load1 rfl rfl SH_3 q7)) ?_
      refine wpD_take (v := (Value.pointer p0)) 12 (fun _ => True) rfl (by kernel_rfl) (by kernel_rfl) (by kernel_rfl) (wantG rfl rfl rfl hc5) rfl rfl trivial (fun w _ => (x_move (v := (Value.pointer p0)) rfl e0)) ?_
      obtain ⟨a8, q8, h⟩ := h
      refine wpD_take (v := (Value.pointer (some a8))) 13 (fun _ => True) rfl (by kernel_rfl) (by kernel_rfl) (by kernel_rfl) (wantG rfl rfl rfl hc5) rfl rfl trivial (fun w _ => (x_nilCheck rfl rfl q8)) ?_
      refine wpD_take (v := (Value.pointer (some (a8.add 0)))) 14 (fun _ => True) rfl (by kernel_rfl) (by kernel_rfl) (by kernel_rfl) (wantG rfl rfl rfl hc5) rfl rfl trivial (fun w _ => (x_fieldAddr rfl rfl FA_64_0)) ?_
      obtain ⟨x9, q9, h⟩ := h
      refine wpD_take (v := (Value.int .i64 x9)) 15 (fun w => w.cell? (a8.add 0) = some (Value.int .i64 x9)) rfl (by kernel_rfl) (by kernel_rfl) (by kernel_rfl) (wantG rfl rfl rfl hc5) rfl rfl q9 (fun w q9 => (x_load1 rfl rfl SH_3 q9)) ?_
      refine wpD_take (v := (Value.int .i64 (IntKind.i64.wrap (x7 + x9)))) 16 (fun _ => True) rfl (by kernel_rfl) (by kernel_rfl) (by kernel_rfl) (wantG rfl rfl rfl hc5) rfl rfl trivial (fun w _ => (x_add rfl rfl rfl)) ?_
      refine wpD_take (v := (Value.bool (decide ((IntKind.i64.wrap (x7 + x9)) ≤ p1)))) 17 (fun _ => True) rfl (by kernel_rfl) (by kernel_rfl) (by kernel_rfl) (wantG rfl rfl rfl hc5) rfl rfl trivial (fun w _ => (x_geq rfl rfl rfl)) ?_
      refine wpD_take (v := (Value.bool (decide ((IntKind.i64.wrap (x7 + x9)) ≤ p1)))) 18 (fun _ => True) rfl (by kernel_rfl) (by kernel_rfl) (by kernel_rfl) rfl rfl rfl trivial (fun w _ => (x_pickF (v := (Value.bool (decide ((IntKind.i64.wrap (x7 + x9)) ≤ p1)))) rfl rfl hc5 rfl)) ?_
      exact wpD_done (by kernel_rfl) ⟨decide ((IntKind.i64.wrap (x7 + x9)) ≤ p1), ⟨rfl, e0, e1, trivial⟩, h⟩
  clear h
  rintro l10 ρ w2 ⟨e25, e0, e1, -⟩ h
  replace h := hk l10 w2 h
  clear hk
  refine wpC_cond (b := l10) e25 (fun hc11 => ?_) (fun hc11 => ?_)
  · replace h := h.1 hc11
    refine wpC_seq ?_
    obtain ⟨J13, h, hk⟩ := h
    refine wpC_drawJ (by kernel_rfl) (fun (x : Sl × Int) ρ => ρ 4 = (Sl.v x.1) ∧ ρ 5 = (Value.int .i64 x.2) ∧ True) J13 ?_ ?_
    · clear hk
      unfold tk at h
      generalize w2.drew = w3 at h ⊢
      refine wpD_take (v := (Value.pointer p0)) 0 (fun _ => True) rfl (by kernel_rfl) (by kernel_rfl) (by kernel_rfl) rfl rfl rfl trivial (fun w _ => (x_move (v := (Value.pointer p0)) rfl e0)) ?_
      obtain ⟨a14, q14, h⟩ := h
      refine wpD_take (v := (Value.pointer (some a14))) 1 (fun _ => True) rfl (by kernel_rfl) (by kernel_rfl) (by kernel_rfl) rfl rfl rfl trivial (fun w _ => (x_nilCheck rfl rfl q14)) ?_
      refine wpD_take (v := (Value.pointer (some (a14.add 1)))) 2 (fun _ => True) rfl (by kernel_rfl) (by kernel_rfl) (by kernel_rfl) rfl rfl rfl trivial (fun w _ => (x_fieldAddr rfl rfl FA_64_1)) ?_
      obtain ⟨x15, q15, h⟩ := h
      refine wpD_take (v := (Value.int .i64 x15)) 3 (fun w => w.cell? (a14.add 1) = some (Value.int .i64 x15)) rfl (by kernel_rfl) (by kernel_rfl) (by kernel_rfl) rfl rfl rfl q15 (fun w q15 => (x_load1 rfl rfl SH_3 q15)) ?_
      refine wpD_take (v := (Sl.v Sl.nil)) 4 (fun _ => True) rfl (by kernel_rfl) (by kernel_rfl) (by kernel_rfl) rfl rfl rfl trivial (fun w _ => (x_assign (v := (Sl.v Sl.nil)) rfl rfl)) ?_
      refine wpD_take (v := (Value.int .i64 x15)) 5 (fun _ => True) rfl (by kernel_rfl) (by kernel_rfl) (by kernel_rfl) rfl rfl rfl trivial (fun w _ => (x_assign (v := (Value.int .i64 x15)) rfl rfl)) ?_
      exact wpD_done (by kernel_rfl) ⟨(Sl.nil, x15), ⟨rfl, rfl, trivial⟩, h⟩
    clear h
    rintro l16 ρ w4 ⟨e4, e5, -⟩ h
    replace h := hk l16 w4 h
    clear hk
    refine wpC_ret ?_
    exact ⟨.inl rfl, fun a ha => ⟨_, results_rep2 rfl ha e4 e5, (l16.1, l16.2), rfl, h⟩⟩
  · replace h := h.2 hc11
    refine wpC_skip ?_
    refine wpC_seq ?_
    refine wpC_region ?_
    refine wpR_val (v := (Value.pointer p0)) (w' := w2) rfl rfl rfl (x_move (v := (Value.pointer p0)) rfl e0) ?_
    obtain ⟨a17, q17, h⟩ := h
    refine wpR_val (v := (Value.pointer (some a17))) (w' := w2) rfl rfl rfl (x_nilCheck rfl rfl q17) ?_
    refine wpR_val (v := (Value.pointer (some (a17.add 2)))) (w' := w2) rfl rfl rfl (x_fieldAddr rfl rfl FA_64_2) ?_
    obtain ⟨x18, q18, h⟩ := h
    refine wpR_val (v := (Value.map x18)) (w' := w2) rfl rfl rfl (x_load1 rfl rfl SH_62 q18) ?_
    refine wpR_val (v := (Value.int .i64 p1)) (w' := w2) rfl rfl rfl (x_move (v := (Value.int .i64 p1)) rfl e1) ?_
    obtain ⟨w5, q19, h⟩ := h
    refine wpR_skp (w' := w5) rfl rfl (x_mapUpdate rfl rfl rfl rfl q19) ?_
    refine wpR_nil ?_
    refine wpC_seq ?_
    refine wpC_cut (fun ρ => ρ 0 = (Value.pointer p0) ∧ True) ⟨e0, trivial⟩ ?_
    rintro ρ ⟨e0, -⟩
    refine wpC_region ?_
    refine wpR_val (v := (Sl.v Sl.nil)) (w' := w5) rfl rfl rfl (x_assign (v := (Sl.v Sl.nil)) rfl rfl) ?_
    refine wpR_nil ?_
    refine wpC_seq ?_
    refine wpC_block ?_
    obtain ⟨I20, μ20, hI20, hr20⟩ := h
    refine wpC_loop (fun (x : Sl) ρ => ρ 6 = (Sl.v x) ∧ ρ 0 = (Value.pointer p0) ∧ True) I20 μ20 Sl.nil ⟨rfl, e0, trivial⟩ hI20 ?_
    rintro l20 ρ w6 ⟨e6, e0, -⟩ h
    replace h := hr20 l20 w6 h
    clear hr20 hI20
    refine wpC_seq ?_
    refine wpC_seq ?_
    obtain ⟨J22, h, hk⟩ := h
    refine wpC_drawJ (by kernel_rfl) (fun (x : Bool) ρ => ρ 43 = (Value.bool x) ∧ ρ 0 = (Value.pointer p0) ∧ ρ 6 = (Sl.v l20) ∧ True) J22 ?_ ?_
    · clear hk
      unfold tk at h
      generalize w6.drew = w7 at h ⊢
      refine wpD_take (v := (Value.pointer p0)) 0 (fun _ => True) rfl (by kernel_rfl) (by kernel_rfl) (by kernel_rfl) rfl rfl rfl trivial (fun w _ => (x_move (v := (Value.pointer p0)) rfl e0)) ?_
      obtain ⟨a23, q23, h⟩ := h
      refine wpD_take (v := (Value.pointer (some a23))) 1 (fun _ => True) rfl (by kernel_rfl) (by kernel_rfl) (by kernel_rfl) rfl rfl rfl trivial (fun w _ => (x_nilCheck rfl rfl q23)) ?_
      refine wpD_take (v := (Value.pointer (some (a23.add 2)))) 2 (fun _ => True) rfl (by kernel_rfl) (by kernel_rfl) (by kernel_rfl) rfl rfl rfl trivial (fun w _ => (x_fieldAddr rfl rfl FA_64_2)) ?_
      obtain ⟨x24, q24, h⟩ := h
      refine wpD_take (v := (Value.map x24)) 3 (fun w => w.cell? (a23.add 2) = some (Value.map x24)) rfl (by kernel_rfl) (by kernel_rfl) (by kernel_rfl) rfl rfl rfl q24 (fun w q24 => (x_load1 rfl rfl SH_62 q24)) ?_
      refine wpD_take (v := (Value.pointer p0)) 4 (fun _ => True) rfl (by kernel_rfl) (by kernel_rfl) (by kernel_rfl) rfl rfl rfl trivial (fun w _ => (x_move (v := (Value.pointer p0)) rfl e0)) ?_
      obtain ⟨a25, q25, h⟩ := h
      refine wpD_take (v := (Value.pointer (some a25))) 5 (fun _ => True) rfl (by kernel_rfl) (by kernel_rfl) (by kernel_rfl) rfl rfl rfl trivial (fun w _ => (x_nilCheck rfl rfl q25)) ?_
      refine wpD_take (v := (Value.pointer (some (a25.add 1)))) 6 (fun _ => True) rfl (by kernel_rfl) (by kernel_rfl) (by kernel_rfl) rfl rfl rfl trivial (fun w _ => (x_fieldAddr rfl rfl FA_64_1)) ?_
      obtain ⟨x26, q26, h⟩ := h
      refine wpD_take (v := (Value.int .i64 x26)) 7 (fun w => w.cell? (a25.add 1) = some (Value.int .i64 x26)) rfl (by kernel_rfl) (by kernel_rfl) (by kernel_rfl) rfl rfl rfl q26 (fun w q26 => (x_load1 rfl rfl SH_3 q26)) ?_
      refine wpD_all (rs := [8]) (by kernel_rfl) (by simp) (allD_cons ?_ allD_nil)
      obtain ⟨r27, w8, q27, h⟩ := h
      refine stepD_valL (L' := [(6, fun _ => True), (5, fun _ => True), (4, fun _ => True), (2, fun _ => True), (1, fun _ => True), (0, fun _ => True)]) (v := (Value.bool r27)) (w' := w8) rfl rfl rfl rfl (x_lookup rfl rfl rfl q27) (by kernel_rfl) (held_cons trivial (held_cons trivial (held_cons trivial (held_cons trivial (held_cons trivial (held_cons trivial held_nil)))))) ?_
      exact wpD_done (by kernel_rfl) ⟨r27, ⟨rfl, e0, e6, trivial⟩, h⟩
    clear h
    rintro l28 ρ w9 ⟨e43, e0, e6, -⟩ h
    replace h := hk l28 w9 h
    clear hk
    refine wpC_cond (b := l28) e43 (fun hc29 => ?_) (fun hc29 => ?_)
    · replace h := h.1 hc29
      refine wpC_skip ?_
      refine wpC_block ?_
      refine wpC_seq ?_
      obtain ⟨J31, h, hk⟩ := h
      refine wpC_drawJ (by kernel_rfl) (fun (x : Unit) ρ => ρ 0 = (Value.pointer p0) ∧ ρ 6 = (Sl.v l20) ∧ True) J31 ?_ ?_
      · clear hk
        unfold tk at h
        generalize w9.drew = w10 at h ⊢
        refine wpD_take (v := (Value.pointer p0)) 0 (fun _ => True) rfl (by kernel_rfl) (by kernel_rfl) (by kernel_rfl) rfl rfl rfl trivial (fun w _ => (x_move (v := (Value.pointer p0)) rfl e0)) ?_
        obtain ⟨a32, q32, h⟩ := h
        refine wpD_take (v := (Value.pointer (some a32))) 1 (fun _ => True) rfl (by kernel_rfl) (by kernel_rfl) (by kernel_rfl) rfl rfl rfl trivial (fun w _ => (x_nilCheck rfl rfl q32)) ?_
        refine wpD_take (v := (Value.pointer (some (a32.add 2)))) 2 (fun _ => True) rfl (by kernel_rfl) (by kernel_rfl) (by kernel_rfl) rfl rfl rfl trivial (fun w _ => (x_fieldAddr rfl rfl FA_64_2)) ?_
        obtain ⟨x33, q33, h⟩ := h
        refine wpD_take (v := (Value.map x33)) 3 (fun w => w.cell? (a32.add 2) = some (Value.map x33)) rfl (by kernel_rfl) (by kernel_rfl) (by kernel_rfl) rfl rfl rfl q33 (fun w q33 => (x_load1 rfl rfl SH_62 q33)) ?_
        refine wpD_take (v := (Value.pointer p0)) 4 (fun _ => True) rfl (by kernel_rfl) (by kernel_rfl) (by kernel_rfl) rfl rfl rfl trivial (fun w _ => (x_move (v := (Value.pointer p0)) rfl e0)) ?_
        obtain ⟨a34, q34, h⟩ := h
        refine wpD_take (v := (Value.pointer (some a34))) 5 (fun _ => True) rfl (by kernel_rfl) (by kernel_rfl) (by kernel_rfl) rfl rfl rfl trivial (fun w _ => (x_nilCheck rfl rfl q34)) ?_
        refine wpD_take (v := (Value.pointer (some (a34.add 1)))) 6 (fun _ => True) rfl (by kernel_rfl) (by kernel_rfl) (by kernel_rfl) rfl rfl rfl trivial (fun w _ => (x_fieldAddr rfl rfl FA_64_1)) ?_
        obtain ⟨x35, q35, h⟩ := h
        refine wpD_take (v := (Value.int .i64 x35)) 7 (fun w => w.cell? (a34.add 1) = some (Value.int .i64 x35)) rfl (by kernel_rfl) (by kernel_rfl) (by kernel_rfl) rfl rfl rfl q35 (fun w q35 => (x_load1 rfl rfl SH_3 q35)) ?_
        refine wpD_all (rs := [8]) (by kernel_rfl) (by simp) (allD_cons ?_ allD_nil)
        obtain ⟨r36, w11, q36, h⟩ := h
        refine stepD_val0L (L' := [(6, fun _ => True), (5, fun _ => True), (4, fun _ => True), (2, fun _ => True), (1, fun _ => True), (0, fun _ => True)]) (v := (Value.tuple #[])) (w' := w11) rfl rfl rfl (x_delete rfl rfl rfl rfl q36) (by kernel_rfl) (held_cons trivial (held_cons trivial (held_cons trivial (held_cons trivial (held_cons trivial (held_cons trivial held_nil)))))) ?_
        exact wpD_done (by kernel_rfl) ⟨(), ⟨e0, e6, trivial⟩, h⟩
      clear h
      rintro l37 ρ w12 ⟨e0, e6, -⟩ h
      replace h := hk l37 w12 h
      clear hk
      refine wpC_seq ?_
      refine wpC_region ?_
      refine wpR_val (v := (Sl.v l20)) (w' := w12) rfl rfl rfl (x_move (v := (Sl.v l20)) rfl e6) ?_
      refine wpR_val (v := (Value.pointer p0)) (w' := w12) rfl rfl rfl (x_move (v := (Value.pointer p0)) rfl e0) ?_
      obtain ⟨a38, q38, h⟩ := h
      refine wpR_val (v := (Value.pointer (some a38))) (w' := w12) rfl rfl rfl (x_nilCheck rfl rfl q38) ?_
      refine wpR_val (v := (Value.pointer (some (a38.add 1)))) (w' := w12) rfl rfl rfl (x_fieldAddr rfl rfl FA_64_1) ?_
      obtain ⟨x39, q39, h⟩ := h
      refine wpR_val (v := (Value.int .i64 x39)) (w' := w12) rfl rfl rfl (x_load1 rfl rfl SH_3 q39) ?_
      obtain ⟨b40, hb40⟩ : ∃ u, u = w12.heap.size := ⟨_, rfl⟩
      obtain ⟨w13, hw40⟩ : ∃ u, u = w12.alloc (.cells #[(Value.int .i64 x39)] 3) := ⟨_, rfl⟩
      replace h := h b40 w13 hb40 hw40
      refine wpR_val (v := (Sl.v (⟨some ⟨b40, 0, none⟩, 1, 1⟩ : Sl))) (w' := w13) rfl rfl rfl ((x_buildSlice (qs := [(0, (Value.int .i64 x39))]) rfl (by rfl) (BS_22_1_0 x39)).trans (by rw [← hb40, ← hw40])) ?_
      obtain ⟨r41, w14, q41, h⟩ := h
      refine wpR_val (v := (Sl.v r41)) (w' := w14) rfl rfl rfl (x_append (s := l20) (u := (⟨some ⟨b40, 0, none⟩, 1, 1⟩ : Sl)) rfl rfl rfl rfl q41) ?_
      refine wpR_val (v := (Sl.v r41)) (w' := w14) rfl rfl rfl (x_assign (v := (Sl.v r41)) rfl rfl) ?_
      refine wpR_nil ?_
      refine wpC_cut (fun ρ => ρ 0 = (Value.pointer p0) ∧ ρ 6 = (Sl.v r41) ∧ True) ⟨e0, rfl, trivial⟩ ?_
      rintro ρ ⟨e0, e6, -⟩
      refine wpC_region ?_
      refine wpR_val (v := (Value.pointer p0)) (w' := w14) rfl rfl rfl (x_move (v := (Value.pointer p0)) rfl e0) ?_
      obtain ⟨a42, q42, h⟩ := h
      refine wpR_val (v := (Value.pointer (some a42))) (w' := w14) rfl rfl rfl (x_nilCheck rfl rfl q42) ?_
      refine wpR_val (v := (Value.pointer (some (a42.add 1)))) (w' := w14) rfl rfl rfl (x_fieldAddr rfl rfl FA_64_1) ?_
      obtain ⟨x43, q43, h⟩ := h
      refine wpR_val (v := (Value.int .i64 x43)) (w' := w14) rfl rfl rfl (x_load1 rfl rfl SH_3 q43) ?_
      refine wpR_val (v := (Value.int .i64 (IntKind.i64.wrap (x43 + 1)))) (w' := w14) rfl rfl rfl (x_add rfl rfl rfl) ?_
      obtain ⟨a44, q44, h⟩ := h
      refine wpR_val (v := (Value.pointer (some a44))) (w' := w14) rfl rfl rfl (x_nilCheck rfl rfl q44) ?_
      refine wpR_val (v := (Value.pointer (some (a44.add 1)))) (w' := w14) rfl rfl rfl (x_fieldAddr rfl rfl FA_64_1) ?_
      obtain ⟨q45, h⟩ := h
      obtain ⟨w15, hw45⟩ : ∃ u, u = setAll w14 (a44.add 1) [(Value.int .i64 (IntKind.i64.wrap (x43 + 1)))] 0 := ⟨_, rfl⟩
      replace h := h w15 hw45
      refine wpR_skp (w' := w15) rfl rfl ((x_store (v := (Value.int .i64 (IntKind.i64.wrap (x43 + 1)))) rfl rfl rfl SZ_3 (ones (by rfl)) q45).trans (by rw [hw45]; rfl)) ?_
      refine wpR_nil ?_
      exact ⟨r41, ⟨e6, e0, trivial⟩, h⟩
    · replace h := h.2 hc29
      refine wpC_exit ?_
      refine wpC_seq ?_
      obtain ⟨J47, h, hk⟩ := h
      refine wpC_drawJ (by kernel_rfl) (fun (x : Sl × Int) ρ => ρ 4 = (Sl.v x.1) ∧ ρ 5 = (Value.int .i64 x.2) ∧ True) J47 ?_ ?_
      · clear hk
        unfold tk at h
        generalize w9.drew = w16 at h ⊢
        refine wpD_take (v := (Sl.v l20)) 0 (fun _ => True) rfl (by kernel_rfl) (by kernel_rfl) (by kernel_rfl) rfl rfl rfl trivial (fun w _ => (x_move (v := (Sl.v l20)) rfl e6)) ?_
        refine wpD_take (v := (Value.pointer p0)) 1 (fun _ => True) rfl (by kernel_rfl) (by kernel_rfl) (by kernel_rfl) rfl rfl rfl trivial (fun w _ => (x_move (v := (Value.pointer p0)) rfl e0)) ?_
        obtain ⟨a48, q48, h⟩ := h
        refine wpD_take (v := (Value.pointer (some a48))) 2 (fun _ => True) rfl (by kernel_rfl) (by kernel_rfl) (by kernel_rfl) rfl rfl rfl trivial (fun w _ => (x_nilCheck rfl rfl q48)) ?_
        refine wpD_take (v := (Value.pointer (some (a48.add 1)))) 3 (fun _ => True) rfl (by kernel_rfl) (by kernel_rfl) (by kernel_rfl) rfl rfl rfl trivial (fun w _ => (x_fieldAddr rfl rfl FA_64_1)) ?_
        obtain ⟨x49, q49, h⟩ := h
        refine wpD_take (v := (Value.int .i64 x49)) 4 (fun w => w.cell? (a48.add 1) = some (Value.int .i64 x49)) rfl (by kernel_rfl) (by kernel_rfl) (by kernel_rfl) rfl rfl rfl q49 (fun w q49 => (x_load1 rfl rfl SH_3 q49)) ?_
        refine wpD_take (v := (Sl.v l20)) 5 (fun _ => True) rfl (by kernel_rfl) (by kernel_rfl) (by kernel_rfl) rfl rfl rfl trivial (fun w _ => (x_assign (v := (Sl.v l20)) rfl rfl)) ?_
        refine wpD_take (v := (Value.int .i64 x49)) 6 (fun _ => True) rfl (by kernel_rfl) (by kernel_rfl) (by kernel_rfl) rfl rfl rfl trivial (fun w _ => (x_assign (v := (Value.int .i64 x49)) rfl rfl)) ?_
        exact wpD_done (by kernel_rfl) ⟨(l20, x49), ⟨rfl, rfl, trivial⟩, h⟩
      clear h
      rintro l50 ρ w17 ⟨e4, e5, -⟩ h
      replace h := hk l50 w17 h
      clear hk
      refine wpC_ret ?_
      exact ⟨.inl rfl, fun a ha => ⟨_, results_rep2 rfl ha e4 e5, (l50.1, l50.2), rfl, h⟩⟩


end Go.Proofs.Ytaogjbmgobfdoaa
