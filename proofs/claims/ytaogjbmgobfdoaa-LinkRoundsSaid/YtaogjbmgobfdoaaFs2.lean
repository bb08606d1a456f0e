import Derived.Test.YtaogjbmgobfdoaaRows
import Derived.Test.YtaogjbmgobfdoaaFs1
import Derived.Test.YtaogjbmgobfdoaaDecRaw
namespace Go.Proofs.Ytaogjbmgobfdoaa
open Go.Dec
set_option maxHeartbeats 400000

/-- lingualaw31.LinkRounds -/
def F5 (p0 : Int) (p1 : Sl) (w0 : World) (K : Bool → World → Prop) : Prop :=
  callC Try.prog 7 #[] (fun (r : Bool) => (Value.bool r)) w0 fun r1 w1 =>
  callC Try.prog 8 #[(Value.int .i64 p0)] (fun (r : (Option Addr) × Int) => (Value.tuple #[(Value.pointer r.1), (Value.int .i64 r.2)])) w1 fun r2 w2 =>
  callC Try.prog 10 #[(Value.int .i64 p0)] (fun (r : (Option Addr) × Int) => (Value.tuple #[(Value.pointer r.1), (Value.int .i64 r.2)])) w2 fun r3 w3 =>
  cnd (((decide (60 < (p1.len : Int))) || (!decide (r2.2 = 0))) || (!decide (r3.2 = 0)))
    (
    K r1 w3
    )
    (
    cnd (r2.1.isNone || r3.1.isNone)
      (
      K false w3
      )
      (
      lp (fun (next12 : (Int × Sl × Int) → World → Prop) l12 w4 =>
        cnd (decide (l12.2.2 < (p1.len : Int)))
          (
          jn (fun (J14 : (Int × Sl) → World → Prop) =>
            ix p1 l12.2.2 2 fun p16 =>
            ld (Value.int .i64) (p16.add 0) w4 fun x17 =>
            cnd (decide (x17 = 0))
              (
              callC Try.prog 12 #[(Value.pointer r2.1)] (fun (r : Int × Int) => (Value.tuple #[(Value.int .i64 r.1), (Value.int .i64 r.2)])) w4 fun _r19 w6 =>
              J14 (IntKind.i64.wrap (l12.1 + 1), l12.2.1) w6
              )
              (
              cnd (decide (x17 = 1))
                (
                cnd (decide ((l12.2.1.len : Int) < 400))
                  (
                  callC Try.prog 17 #[(Value.pointer r2.1)] (fun (r : Sl) => (Sl.v r)) w4 fun r22 w7 =>
                  rn Try.prog (Builtin.append_ #[22, 22] 22 #[Sl.v l12.2.1, Sl.v r22]) Sl.v w7 fun r23 w8 =>
                  J14 (l12.1, r23) w8
                  )
                  (
                  J14 (l12.1, l12.2.1) w4
                  )
                )
                (
                cnd (decide (x17 = 2))
                  (
                  cnd (decide (0 < (l12.2.1.len : Int)))
                    (
                    ix p1 l12.2.2 2 fun p26 =>
                    ld (Value.int .i64) (p26.add 1) w4 fun x27 =>
                    callC Try.prog 23 #[(Sl.v l12.2.1), (Value.int .i64 x27)] (fun (r : Int) => (Value.int .i64 r)) w4 fun r28 w9 =>
                    callC Try.prog 20 #[(Value.pointer r3.1), (Value.int .i64 r28)] (fun (r : Sl × Int) => (Value.tuple #[(Sl.v r.1), (Value.int .i64 r.2)])) w9 fun _r29 w10 =>
                    J14 (l12.1, l12.2.1) w10
                    )
                    (
                    J14 (l12.1, l12.2.1) w4
                    )
                  )
                  (
                  cnd (decide (x17 = 4))
                    (
                    callC Try.prog 22 #[(Value.pointer r3.1)] (fun (r : Int) => (Value.int .i64 r)) w4 fun r31 w11 =>
                    callC Try.prog 14 #[(Value.pointer r2.1), (Value.int .i64 r31)] (fun (r : Int) => (Value.int .i64 r)) w11 fun _r32 w12 =>
                    J14 (l12.1, l12.2.1) w12
                    )
                    (
                    J14 (l12.1, l12.2.1) w4
                    )
                  )
                )
              )
          )
          fun l15 w5 =>
          next12 (l15.1, l15.2, IntKind.i64.wrap (l12.2.2 + 1)) w5
          )
          (
          lp (fun (next33 : Unit → World → Prop) l33 w13 =>
            callC Try.prog 19 #[(Value.pointer r2.1)] (fun (r : Int) => (Value.int .i64 r)) w13 fun r34 w14 =>
            cnd (decide (0 < r34))
              (
              callC Try.prog 19 #[(Value.pointer r2.1)] (fun (r : Int) => (Value.int .i64 r)) w14 fun r36 w15 =>
              callC Try.prog 17 #[(Value.pointer r2.1)] (fun (r : Sl) => (Sl.v r)) w15 fun r37 w16 =>
              cnd (!decide ((r37.len : Int) = (min p0 r36)))
                (
                K false w16
                )
                (
                lp (fun (next39 : Int → World → Prop) l39 w17 =>
                  cnd (decide (0 ≤ l39))
                    (
                    ix r37 l39 1 fun p41 =>
                    ld (Value.int .i64) p41 w17 fun x42 =>
                    callC Try.prog 20 #[(Value.pointer r3.1), (Value.int .i64 x42)] (fun (r : Sl × Int) => (Value.tuple #[(Sl.v r.1), (Value.int .i64 r.2)])) w17 fun _r43 w18 =>
                    next39 (IntKind.i64.wrap (l39 - 1)) w18
                    )
                    (
                    callC Try.prog 22 #[(Value.pointer r3.1)] (fun (r : Int) => (Value.int .i64 r)) w17 fun r44 w19 =>
                    callC Try.prog 14 #[(Value.pointer r2.1), (Value.int .i64 r44)] (fun (r : Int) => (Value.int .i64 r)) w19 fun r45 w20 =>
                    jn (fun J46 => cnd (!decide (r45 = 0))
                      (
                      J46 true w20
                      )
                      (
                      callC Try.prog 19 #[(Value.pointer r2.1)] (fun (r : Int) => (Value.int .i64 r)) w20 fun r48 w21 =>
                      J46 (decide ((IntKind.i64.wrap (r36 - (min p0 r36))) < r48)) w21
                      ))
                    fun c49 w22 =>
                    cnd (c49)
                      (
                      K false w22
                      )
                      (
                      next33 () w22
                      )
                    )
                ) (IntKind.i64.wrap ((r37.len : Int) - 1)) w16
                )
              )
              (
              jn (fun J51 => cnd (r1)
                (
                callC Try.prog 22 #[(Value.pointer r3.1)] (fun (r : Int) => (Value.int .i64 r)) w14 fun r53 w23 =>
                J51 (decide (r53 = l12.1)) w23
                )
                (
                J51 false w14
                ))
              fun c54 w24 =>
              jn (fun J55 => cnd (c54)
                (
                callC Try.prog 17 #[(Value.pointer r2.1)] (fun (r : Sl) => (Sl.v r)) w24 fun r57 w25 =>
                J55 (decide ((r57.len : Int) = 0)) w25
                )
                (
                J55 false w24
                ))
              fun c58 w26 =>
              K c58 w26
              )
          ) () w4
          )
      ) (0, Sl.nil, 0) w3
      )
    )
set_option maxRecDepth 100000 in
theorem D5 (p0 : Int) (p1 : Sl) (w0 : World) (K : Bool → World → Prop) (h : F5 p0 p1 w0 K) : callC Try.prog 5 #[(Value.int .i64 p0), (Sl.v p1)] (fun (r : Bool) => (Value.bool r)) w0 K := by
  unfold F5 at h
  refine calls_of_wpC Try.func5 rfl 145 rfl (by simp) ?_
  intro ρ hρ
  have e0 : ρ 0 = (Value.int .i64 p0) := hρ 0
  have e1 : ρ 1 = (Sl.v p1) := hρ 1
  clear hρ
  refine wpC_seq ?_
  refine wpC_region ?_
  refine wpR_val (v := (Value.bool false)) (w' := w0) rfl rfl rfl (x_assign (v := (Value.bool false)) rfl rfl) ?_
  refine wpR_nil ?_
  refine wpC_seq ?_
  refine wpC_cut (fun ρ => ρ 0 = (Value.int .i64 p0) ∧ ρ 1 = (Sl.v p1) ∧ True) ⟨e0, e1, trivial⟩ ?_
  rintro ρ ⟨e0, e1, -⟩
  refine wpC_region ?_
  refine wpR_enter rfl rfl rfl (x_call (vs := []) rfl rfl mapl_nil Try.func7 NN_7 NB_7) (Calls.mono h ?_)
  rintro _ w1 ⟨r1, rfl, h⟩
  refine ⟨_, rfl, ?_⟩
  refine wpR_val (v := (Value.bool r1)) (w' := w1) rfl rfl rfl (x_assign (v := (Value.bool r1)) rfl rfl) ?_
  refine wpR_nil ?_
  refine wpC_seq ?_
  refine wpC_cut (fun ρ => ρ 0 = (Value.int .i64 p0) ∧ ρ 1 = (Sl.v p1) ∧ ρ 5 = (Value.bool r1) ∧ True) ⟨e0, e1, rfl, trivial⟩ ?_
  rintro ρ ⟨e0, e1, e5, -⟩
  refine wpC_region ?_
  refine wpR_val (v := (Value.int .i64 p0)) (w' := w1) rfl rfl rfl (x_move (v := (Value.int .i64 p0)) rfl e0) ?_
  refine wpR_enter rfl rfl rfl (x_call (vs := [(Value.int .i64 p0)]) rfl rfl (mapl_cons rfl mapl_nil) Try.func8 NN_8 NB_8) (Calls.mono h ?_)
  rintro _ w2 ⟨r2, rfl, h⟩
  refine ⟨_, rfl, ?_⟩
  refine wpR_val (v := (Value.tuple #[(Value.pointer r2.1), (Value.int .i64 r2.2)])) (w' := w2) rfl rfl rfl (x_move (v := (Value.tuple #[(Value.pointer r2.1), (Value.int .i64 r2.2)])) rfl rfl) ?_
  refine wpR_val (v := (Value.pointer r2.1)) (w' := w2) rfl rfl rfl (x_extract rfl rfl rfl) ?_
  refine wpR_val (v := (Value.int .i64 r2.2)) (w' := w2) rfl rfl rfl (x_extract rfl rfl rfl) ?_
  refine wpR_val (v := (Value.pointer r2.1)) (w' := w2) rfl rfl rfl (x_assign (v := (Value.pointer r2.1)) rfl rfl) ?_
  refine wpR_val (v := (Value.int .i64 r2.2)) (w' := w2) rfl rfl rfl (x_assign (v := (Value.int .i64 r2.2)) rfl rfl) ?_
  refine wpR_nil ?_
  refine wpC_seq ?_
  refine wpC_cut (fun ρ => ρ 0 = (Value.int .i64 p0) ∧ ρ 1 = (Sl.v p1) ∧ ρ 5 = (Value.bool r1) ∧ ρ 6 = (Value.pointer r2.1) ∧ ρ 7 = (Value.int .i64 r2.2) ∧ True) ⟨e0, e1, e5, rfl, rfl, trivial⟩ ?_
  rintro ρ ⟨e0, e1, e5, e6, e7, -⟩
  refine wpC_region ?_
  refine wpR_val (v := (Value.int .i64 p0)) (w' := w2) rfl rfl rfl (x_move (v := (Value.int .i64 p0)) rfl e0) ?_
  refine wpR_enter rfl rfl rfl (x_call (vs := [(Value.int .i64 p0)]) rfl rfl (mapl_cons rfl mapl_nil) Try.func10 NN_10 NB_10) (Calls.mono h ?_)
  rintro _ w3 ⟨r3, rfl, h⟩
  refine ⟨_, rfl, ?_⟩
  refine wpR_val (v := (Value.tuple #[(Value.pointer r3.1), (Value.int .i64 r3.2)])) (w' := w3) rfl rfl rfl (x_move (v := (Value.tuple #[(Value.pointer r3.1), (Value.int .i64 r3.2)])) rfl rfl) ?_
  refine wpR_val (v := (Value.pointer r3.1)) (w' := w3) rfl rfl rfl (x_extract rfl rfl rfl) ?_
  refine wpR_val (v := (Value.int .i64 r3.2)) (w' := w3) rfl rfl rfl (x_extract rfl rfl rfl) ?_
  refine wpR_val (v := (Value.pointer r3.1)) (w' := w3) rfl rfl rfl (x_assign (v := (Value.pointer r3.1)) rfl rfl) ?_
  refine wpR_val (v := (Value.int .i64 r3.2)) (w' := w3) rfl rfl rfl (x_assign (v := (Value.int .i64 r3.2)) rfl rfl) ?_
  refine wpR_nil ?_
  refine wpC_seq ?_
  refine wpC_seq ?_
  refine wpC_cut (fun ρ => ρ 0 = (Value.int .i64 p0) ∧ ρ 1 = (Sl.v p1) ∧ ρ 5 = (Value.bool r1) ∧ ρ 6 = (Value.pointer r2.1) ∧ ρ 7 = (Value.int .i64 r2.2) ∧ ρ 8 = (Value.pointer r3.1) ∧ ρ 9 = (Value.int .i64 r3.2) ∧ True) ⟨e0, e1, e5, e6, e7, rfl, rfl, trivial⟩ ?_
  rintro ρ ⟨e0, e1, e5, e6, e7, e8, e9, -⟩
  refine wpC_region ?_
  refine wpR_val (v := (Sl.v p1)) (w' := w3) rfl rfl rfl (x_move (v := (Sl.v p1)) rfl e1) ?_
  refine wpR_val (v := (Value.int .i64 (p1.len : Int))) (w' := w3) rfl rfl rfl (x_lenS (s := p1) rfl rfl isSliceT_51) ?_
  refine wpR_val (v := (Value.bool (decide (60 < (p1.len : Int))))) (w' := w3) rfl rfl rfl (x_gtr rfl rfl rfl) ?_
  refine wpR_val (v := (Value.bool (decide (60 < (p1.len : Int))))) (w' := w3) rfl rfl rfl (x_move (v := (Value.bool (decide (60 < (p1.len : Int))))) rfl rfl) ?_
  refine wpR_joinJ 3 (fun (_ : Unit) ρ => ρ 33 = Value.bool ((decide (60 < (p1.len : Int))) || (!decide (r2.2 = 0))) ∧ ρ 0 = (Value.int .i64 p0) ∧ ρ 1 = (Sl.v p1) ∧ ρ 5 = (Value.bool r1) ∧ ρ 6 = (Value.pointer r2.1) ∧ ρ 8 = (Value.pointer r3.1) ∧ ρ 9 = (Value.int .i64 r3.2) ∧ True) (fun _ w => w3 = w) ?_ ?_
  · clear h
    rcases Bool.eq_false_or_eq_true (decide (60 < (p1.len : Int))) with hc5 | hc5
    · skip
      refine wpR_pass (wantN rfl rfl rfl hc5) rfl rfl ?_
      refine wpR_pass (wantN rfl rfl rfl hc5) rfl rfl ?_
      refine wpR_val (v := (Value.bool true)) (w' := w3) rfl rfl rfl (x_pickT (v := (Value.bool true)) rfl rfl hc5 rfl) ?_
      refine wpR_nil ?_
      exact ⟨(), ⟨(by rw [hc5]; rfl), e0, e1, e5, e6, e8, e9, trivial⟩, rfl⟩
    · skip
      refine wpR_val (v := (Value.int .i64 r2.2)) (w' := w3) (wantG rfl rfl rfl hc5) rfl rfl (x_move (v := (Value.int .i64 r2.2)) rfl e7) ?_
      refine wpR_val (v := (Value.bool (!decide (r2.2 = 0)))) (w' := w3) (wantG rfl rfl rfl hc5) rfl rfl (x_neq rfl rfl rfl) ?_
      refine wpR_val (v := (Value.bool (!decide (r2.2 = 0)))) (w' := w3) rfl rfl rfl (x_pickF (v := (Value.bool (!decide (r2.2 = 0)))) rfl rfl hc5 rfl) ?_
      refine wpR_nil ?_
      exact ⟨(), ⟨(by rw [hc5]; rfl), e0, e1, e5, e6, e8, e9, trivial⟩, rfl⟩
  rintro _ ρ wj ⟨e33, e0, e1, e5, e6, e8, e9, -⟩ rfl
  refine wpR_val (v := (Value.bool ((decide (60 < (p1.len : Int))) || (!decide (r2.2 = 0))))) (w' := w3) rfl rfl rfl (x_move (v := (Value.bool ((decide (60 < (p1.len : Int))) || (!decide (r2.2 = 0))))) rfl e33) ?_
  refine wpR_joinJ 3 (fun (_ : Unit) ρ => ρ 37 = Value.bool (((decide (60 < (p1.len : Int))) || (!decide (r2.2 = 0))) || (!decide (r3.2 = 0))) ∧ ρ 0 = (Value.int .i64 p0) ∧ ρ 1 = (Sl.v p1) ∧ ρ 5 = (Value.bool r1) ∧ ρ 6 = (Value.pointer r2.1) ∧ ρ 8 = (Value.pointer r3.1) ∧ True) (fun _ w => w3 = w) ?_ ?_
  · clear h
    rcases Bool.eq_false_or_eq_true ((decide (60 < (p1.len : Int))) || (!decide (r2.2 = 0))) with hc7 | hc7
    · skip
      refine wpR_pass (wantN rfl rfl rfl hc7) rfl rfl ?_
      refine wpR_pass (wantN rfl rfl rfl hc7) rfl rfl ?_
      refine wpR_val (v := (Value.bool true)) (w' := w3) rfl rfl rfl (x_pickT (v := (Value.bool true)) rfl rfl hc7 rfl) ?_
      refine wpR_nil ?_
      exact ⟨(), ⟨(by rw [hc7]; rfl), e0, e1, e5, e6, e8, trivial⟩, rfl⟩
    · skip
      refine wpR_val (v := (Value.int .i64 r3.2)) (w' := w3) (wantG rfl rfl rfl hc7) rfl rfl (x_move (v := (Value.int .i64 r3.2)) rfl e9) ?_
      refine wpR_val (v := (Value.bool (!decide (r3.2 = 0)))) (w' := w3) (wantG rfl rfl rfl hc7) rfl rfl (x_neq rfl rfl rfl) ?_
      refine wpR_val (v := (Value.bool (!decide (r3.2 = 0)))) (w' := w3) rfl rfl rfl (x_pickF (v := (Value.bool (!decide (r3.2 = 0)))) rfl rfl hc7 rfl) ?_
      refine wpR_nil ?_
      exact ⟨(), ⟨(by rw [hc7]; rfl), e0, e1, e5, e6, e8, trivial⟩, rfl⟩
  rintro _ ρ wj ⟨e37, e0, e1, e5, e6, e8, -⟩ rfl
  refine wpR_nil ?_
  refine wpC_cond (b := ((decide (60 < (p1.len : Int))) || (!decide (r2.2 = 0))) || (!decide (r3.2 = 0))) e37 (fun hc8 => ?_) (fun hc8 => ?_)
  · replace h := h.1 hc8
    refine wpC_seq ?_
    refine wpC_region ?_
    refine wpR_val (v := (Value.bool r1)) (w' := w3) rfl rfl rfl (x_move (v := (Value.bool r1)) rfl e5) ?_
    refine wpR_val (v := (Value.bool r1)) (w' := w3) rfl rfl rfl (x_assign (v := (Value.bool r1)) rfl rfl) ?_
    refine wpR_nil ?_
    refine wpC_ret ?_
    exact ⟨.inl rfl, fun a ha => ⟨_, results_rep1 rfl ha rfl, r1, rfl, h⟩⟩
  · replace h := h.2 hc8
    refine wpC_skip ?_
    refine wpC_seq ?_
    refine wpC_seq ?_
    refine wpC_region ?_
    refine wpR_val (v := (Value.pointer r2.1)) (w' := w3) rfl rfl rfl (x_move (v := (Value.pointer r2.1)) rfl e6) ?_
    refine wpR_val (v := (Value.bool r2.1.isNone)) (w' := w3) rfl rfl rfl (x_eqlNil rfl rfl rfl isPtrT_24) ?_
    refine wpR_val (v := (Value.bool r2.1.isNone)) (w' := w3) rfl rfl rfl (x_move (v := (Value.bool r2.1.isNone)) rfl rfl) ?_
    refine wpR_joinJ 3 (fun (_ : Unit) ρ => ρ 44 = Value.bool (r2.1.isNone || r3.1.isNone) ∧ ρ 0 = (Value.int .i64 p0) ∧ ρ 1 = (Sl.v p1) ∧ ρ 5 = (Value.bool r1) ∧ ρ 6 = (Value.pointer r2.1) ∧ ρ 8 = (Value.pointer r3.1) ∧ True) (fun _ w => w3 = w) ?_ ?_
    · clear h
      rcases Bool.eq_false_or_eq_true (r2.1.isNone) with hc10 | hc10
      · skip
        refine wpR_pass (wantN rfl rfl rfl hc10) rfl rfl ?_
        refine wpR_pass (wantN rfl rfl rfl hc10) rfl rfl ?_
        refine wpR_val (v := (Value.bool true)) (w' := w3) rfl rfl rfl (x_pickT (v := (Value.bool true)) rfl rfl hc10 rfl) ?_
        refine wpR_nil ?_
        exact ⟨(), ⟨(by rw [hc10]; rfl), e0, e1, e5, e6, e8, trivial⟩, rfl⟩
      · skip
        refine wpR_val (v := (Value.pointer r3.1)) (w' := w3) (wantG rfl rfl rfl hc10) rfl rfl (x_move (v := (Value.pointer r3.1)) rfl e8) ?_
        refine wpR_val (v := (Value.bool r3.1.isNone)) (w' := w3) (wantG rfl rfl rfl hc10) rfl rfl (x_eqlNil rfl rfl rfl isPtrT_31) ?_
        refine wpR_val (v := (Value.bool r3.1.isNone)) (w' := w3) rfl rfl rfl (x_pickF (v := (Value.bool r3.1.isNone)) rfl rfl hc10 rfl) ?_
        refine wpR_nil ?_
        exact ⟨(), ⟨(by rw [hc10]; rfl), e0, e1, e5, e6, e8, trivial⟩, rfl⟩
    rintro _ ρ wj ⟨e44, e0, e1, e5, e6, e8, -⟩ rfl
    refine wpR_nil ?_
    refine wpC_cond (b := r2.1.isNone || r3.1.isNone) e44 (fun hc11 => ?_) (fun hc11 => ?_)
    · replace h := h.1 hc11
      refine wpC_seq ?_
      refine wpC_region ?_
      refine wpR_val (v := (Value.bool false)) (w' := w3) rfl rfl rfl (x_assign (v := (Value.bool false)) rfl rfl) ?_
      refine wpR_nil ?_
      refine wpC_ret ?_
      exact ⟨.inl rfl, fun a ha => ⟨_, results_rep1 rfl ha rfl, false, rfl, h⟩⟩
    · replace h := h.2 hc11
      refine wpC_skip ?_
      refine wpC_seq ?_
      refine wpC_region ?_
      refine wpR_val (v := (Value.int .i64 0)) (w' := w3) rfl rfl rfl (x_assign (v := (Value.int .i64 0)) rfl rfl) ?_
      refine wpR_nil ?_
      refine wpC_seq ?_
      refine wpC_cut (fun ρ => ρ 0 = (Value.int .i64 p0) ∧ ρ 1 = (Sl.v p1) ∧ ρ 5 = (Value.bool r1) ∧ ρ 6 = (Value.pointer r2.1) ∧ ρ 8 = (Value.pointer r3.1) ∧ ρ 10 = (Value.int .i64 0) ∧ True) ⟨e0, e1, e5, e6, e8, rfl, trivial⟩ ?_
      rintro ρ ⟨e0, e1, e5, e6, e8, e10, -⟩
      refine wpC_region ?_
      refine wpR_val (v := (Sl.v Sl.nil)) (w' := w3) rfl rfl rfl (x_assign (v := (Sl.v Sl.nil)) rfl rfl) ?_
      refine wpR_nil ?_
      refine wpC_seq ?_
      refine wpC_seq ?_
      refine wpC_cut (fun ρ => ρ 0 = (Value.int .i64 p0) ∧ ρ 1 = (Sl.v p1) ∧ ρ 5 = (Value.bool r1) ∧ ρ 6 = (Value.pointer r2.1) ∧ ρ 8 = (Value.pointer r3.1) ∧ ρ 10 = (Value.int .i64 0) ∧ ρ 11 = (Sl.v Sl.nil) ∧ True) ⟨e0, e1, e5, e6, e8, e10, rfl, trivial⟩ ?_
      rintro ρ ⟨e0, e1, e5, e6, e8, e10, e11, -⟩
      refine wpC_region ?_
      refine wpR_val (v := (Value.int .i64 0)) (w' := w3) rfl rfl rfl (x_assign (v := (Value.int .i64 0)) rfl rfl) ?_
      refine wpR_nil ?_
      refine wpC_block ?_
      obtain ⟨I12, μ12, hI12, hr12⟩ := h
      refine wpC_loop (fun (x : Int × Sl × Int) ρ => ρ 10 = (Value.int .i64 x.1) ∧ ρ 11 = (Sl.v x.2.1) ∧ ρ 12 = (Value.int .i64 x.2.2) ∧ ρ 0 = (Value.int .i64 p0) ∧ ρ 1 = (Sl.v p1) ∧ ρ 5 = (Value.bool r1) ∧ ρ 6 = (Value.pointer r2.1) ∧ ρ 8 = (Value.pointer r3.1) ∧ True) I12 μ12 (0, Sl.nil, 0) ⟨e10, e11, rfl, e0, e1, e5, e6, e8, trivial⟩ hI12 ?_
      rintro l12 ρ w4 ⟨e10, e11, e12, e0, e1, e5, e6, e8, -⟩ h
      replace h := hr12 l12 w4 h
      clear hr12 hI12
      refine wpC_seq ?_
      refine wpC_seq ?_
      refine wpC_region ?_
      refine wpR_val (v := (Value.int .i64 l12.2.2)) (w' := w4) rfl rfl rfl (x_move (v := (Value.int .i64 l12.2.2)) rfl e12) ?_
      refine wpR_val (v := (Sl.v p1)) (w' := w4) rfl rfl rfl (x_move (v := (Sl.v p1)) rfl e1) ?_
      refine wpR_val (v := (Value.int .i64 (p1.len : Int))) (w' := w4) rfl rfl rfl (x_lenS (s := p1) rfl rfl isSliceT_51) ?_
      refine wpR_val (v := (Value.bool (decide (l12.2.2 < (p1.len : Int))))) (w' := w4) rfl rfl rfl (x_lss rfl rfl rfl) ?_
      refine wpR_nil ?_
      refine wpC_cond (b := decide (l12.2.2 < (p1.len : Int))) rfl (fun hc13 => ?_) (fun hc13 => ?_)
      · replace h := h.1 hc13
        refine wpC_skip ?_
        obtain ⟨J14, h, hk⟩ := h
        refine wpC_seqJ (fun (x : Int × Sl) ρ => ρ 10 = (Value.int .i64 x.1) ∧ ρ 11 = (Sl.v x.2) ∧ ρ 0 = (Value.int .i64 p0) ∧ ρ 1 = (Sl.v p1) ∧ ρ 5 = (Value.bool r1) ∧ ρ 6 = (Value.pointer r2.1) ∧ ρ 8 = (Value.pointer r3.1) ∧ ρ 12 = (Value.int .i64 l12.2.2) ∧ True) J14 ?_ ?_
        · clear hk
          refine wpC_block ?_
          refine wpC_seq ?_
          refine wpC_cut (fun ρ => ρ 0 = (Value.int .i64 p0) ∧ ρ 1 = (Sl.v p1) ∧ ρ 5 = (Value.bool r1) ∧ ρ 6 = (Value.pointer r2.1) ∧ ρ 8 = (Value.pointer r3.1) ∧ ρ 10 = (Value.int .i64 l12.1) ∧ ρ 11 = (Sl.v l12.2.1) ∧ ρ 12 = (Value.int .i64 l12.2.2) ∧ True) ⟨e0, e1, e5, e6, e8, e10, e11, e12, trivial⟩ ?_
          rintro ρ ⟨e0, e1, e5, e6, e8, e10, e11, e12, -⟩
          refine wpC_region ?_
          refine wpR_val (v := (Sl.v p1)) (w' := w4) rfl rfl rfl (x_move (v := (Sl.v p1)) rfl e1) ?_
          refine wpR_val (v := (Value.int .i64 l12.2.2)) (w' := w4) rfl rfl rfl (x_move (v := (Value.int .i64 l12.2.2)) rfl e12) ?_
          obtain ⟨q16, z16, r16, h⟩ := h
          generalize hp16 : z16.add ((l12.2.2 : Int).toNat * 2) = p16 at h
          refine wpR_val (v := (Value.pointer (some p16))) (w' := w4) rfl rfl rfl ((x_indexAddr (s := p1) rfl rfl rfl ES_51 q16 r16).trans (by rw [hp16])) ?_
          refine wpR_val (v := (Value.pointer (some (p16.add 0)))) (w' := w4) rfl rfl rfl (x_fieldAddr rfl rfl FA_53_0) ?_
          obtain ⟨x17, q17, h⟩ := h
          refine wpR_val (v := (Value.int .i64 x17)) (w' := w4) rfl rfl rfl (x_load1 rfl rfl SH_3 q17) ?_
          refine wpR_nil ?_
          refine wpC_block ?_
          refine wpC_seq ?_
          refine wpC_cut (fun ρ => ρ 0 = (Value.int .i64 p0) ∧ ρ 1 = (Sl.v p1) ∧ ρ 5 = (Value.bool r1) ∧ ρ 6 = (Value.pointer r2.1) ∧ ρ 8 = (Value.pointer r3.1) ∧ ρ 10 = (Value.int .i64 l12.1) ∧ ρ 11 = (Sl.v l12.2.1) ∧ ρ 12 = (Value.int .i64 l12.2.2) ∧ ρ 55 = (Value.int .i64 x17) ∧ True) ⟨e0, e1, e5, e6, e8, e10, e11, e12, rfl, trivial⟩ ?_
          rintro ρ ⟨e0, e1, e5, e6, e8, e10, e11, e12, e55, -⟩
          refine wpC_region ?_
          refine wpR_val (v := (Value.bool (decide (x17 = 0)))) (w' := w4) rfl rfl rfl (x_eql rfl e55 rfl) ?_
          refine wpR_val (v := (Value.bool (decide (x17 = 0)))) (w' := w4) rfl rfl rfl (x_assign (v := (Value.bool (decide (x17 = 0)))) rfl rfl) ?_
          refine wpR_nil ?_
          refine wpC_cond (b := decide (x17 = 0)) rfl (fun hc18 => ?_) (fun hc18 => ?_)
          · replace h := h.1 hc18
            refine wpC_seq ?_
            refine wpC_cut (fun ρ => ρ 0 = (Value.int .i64 p0) ∧ ρ 1 = (Sl.v p1) ∧ ρ 5 = (Value.bool r1) ∧ ρ 6 = (Value.pointer r2.1) ∧ ρ 8 = (Value.pointer r3.1) ∧ ρ 10 = (Value.int .i64 l12.1) ∧ ρ 11 = (Sl.v l12.2.1) ∧ ρ 12 = (Value.int .i64 l12.2.2) ∧ True) ⟨e0, e1, e5, e6, e8, e10, e11, e12, trivial⟩ ?_
            rintro ρ ⟨e0, e1, e5, e6, e8, e10, e11, e12, -⟩
            refine wpC_region ?_
            refine wpR_val (v := (Value.pointer r2.1)) (w' := w4) rfl rfl rfl (x_move (v := (Value.pointer r2.1)) rfl e6) ?_
            refine wpR_enter rfl rfl rfl (x_call (vs := [(Value.pointer r2.1)]) rfl rfl (mapl_cons rfl mapl_nil) Try.func12 NN_12 NB_12) (Calls.mono h ?_)
            rintro _ w6 ⟨r19, rfl, h⟩
            refine ⟨_, rfl, ?_⟩
            refine wpR_nil ?_
            refine wpC_cut (fun ρ => ρ 0 = (Value.int .i64 p0) ∧ ρ 1 = (Sl.v p1) ∧ ρ 5 = (Value.bool r1) ∧ ρ 6 = (Value.pointer r2.1) ∧ ρ 8 = (Value.pointer r3.1) ∧ ρ 10 = (Value.int .i64 l12.1) ∧ ρ 11 = (Sl.v l12.2.1) ∧ ρ 12 = (Value.int .i64 l12.2.2) ∧ True) ⟨e0, e1, e5, e6, e8, e10, e11, e12, trivial⟩ ?_
            rintro ρ ⟨e0, e1, e5, e6, e8, e10, e11, e12, -⟩
            refine wpC_region ?_
            refine wpR_val (v := (Value.int .i64 l12.1)) (w' := w6) rfl rfl rfl (x_move (v := (Value.int .i64 l12.1)) rfl e10) ?_
            refine wpR_val (v := (Value.int .i64 (IntKind.i64.wrap (l12.1 + 1)))) (w' := w6) rfl rfl rfl (x_add rfl rfl rfl) ?_
            refine wpR_val (v := (Value.int .i64 (IntKind.i64.wrap (l12.1 + 1)))) (w' := w6) rfl rfl rfl (x_assign (v := (Value.int .i64 (IntKind.i64.wrap (l12.1 + 1)))) rfl rfl) ?_
            refine wpR_nil ?_
            exact ⟨(IntKind.i64.wrap (l12.1 + 1), l12.2.1), ⟨rfl, e11, e0, e1, e5, e6, e8, e12, trivial⟩, h⟩
          · replace h := h.2 hc18
            refine wpC_seq ?_
            refine wpC_cut (fun ρ => ρ 0 = (Value.int .i64 p0) ∧ ρ 1 = (Sl.v p1) ∧ ρ 5 = (Value.bool r1) ∧ ρ 6 = (Value.pointer r2.1) ∧ ρ 8 = (Value.pointer r3.1) ∧ ρ 10 = (Value.int .i64 l12.1) ∧ ρ 11 = (Sl.v l12.2.1) ∧ ρ 12 = (Value.int .i64 l12.2.2) ∧ ρ 55 = (Value.int .i64 x17) ∧ True) ⟨e0, e1, e5, e6, e8, e10, e11, e12, e55, trivial⟩ ?_
            rintro ρ ⟨e0, e1, e5, e6, e8, e10, e11, e12, e55, -⟩
            refine wpC_region ?_
            refine wpR_val (v := (Value.bool (decide (x17 = 1)))) (w' := w4) rfl rfl rfl (x_eql rfl e55 rfl) ?_
            refine wpR_val (v := (Value.bool (decide (x17 = 1)))) (w' := w4) rfl rfl rfl (x_assign (v := (Value.bool (decide (x17 = 1)))) rfl rfl) ?_
            refine wpR_nil ?_
            refine wpC_cond (b := decide (x17 = 1)) rfl (fun hc20 => ?_) (fun hc20 => ?_)
            · replace h := h.1 hc20
              refine wpC_seq ?_
              refine wpC_cut (fun ρ => ρ 0 = (Value.int .i64 p0) ∧ ρ 1 = (Sl.v p1) ∧ ρ 5 = (Value.bool r1) ∧ ρ 6 = (Value.pointer r2.1) ∧ ρ 8 = (Value.pointer r3.1) ∧ ρ 10 = (Value.int .i64 l12.1) ∧ ρ 11 = (Sl.v l12.2.1) ∧ ρ 12 = (Value.int .i64 l12.2.2) ∧ True) ⟨e0, e1, e5, e6, e8, e10, e11, e12, trivial⟩ ?_
              rintro ρ ⟨e0, e1, e5, e6, e8, e10, e11, e12, -⟩
              refine wpC_region ?_
              refine wpR_val (v := (Sl.v l12.2.1)) (w' := w4) rfl rfl rfl (x_move (v := (Sl.v l12.2.1)) rfl e11) ?_
              refine wpR_val (v := (Value.int .i64 (l12.2.1.len : Int))) (w' := w4) rfl rfl rfl (x_lenS (s := l12.2.1) rfl rfl isSliceT_22) ?_
              refine wpR_val (v := (Value.bool (decide ((l12.2.1.len : Int) < 400)))) (w' := w4) rfl rfl rfl (x_lss rfl rfl rfl) ?_
              refine wpR_nil ?_
              refine wpC_cond (b := decide ((l12.2.1.len : Int) < 400)) rfl (fun hc21 => ?_) (fun hc21 => ?_)
              · replace h := h.1 hc21
                refine wpC_cut (fun ρ => ρ 0 = (Value.int .i64 p0) ∧ ρ 1 = (Sl.v p1) ∧ ρ 5 = (Value.bool r1) ∧ ρ 6 = (Value.pointer r2.1) ∧ ρ 8 = (Value.pointer r3.1) ∧ ρ 10 = (Value.int .i64 l12.1) ∧ ρ 11 = (Sl.v l12.2.1) ∧ ρ 12 = (Value.int .i64 l12.2.2) ∧ True) ⟨e0, e1, e5, e6, e8, e10, e11, e12, trivial⟩ ?_
                rintro ρ ⟨e0, e1, e5, e6, e8, e10, e11, e12, -⟩
                refine wpC_region ?_
                refine wpR_val (v := (Sl.v l12.2.1)) (w' := w4) rfl rfl rfl (x_move (v := (Sl.v l12.2.1)) rfl e11) ?_
                refine wpR_val (v := (Value.pointer r2.1)) (w' := w4) rfl rfl rfl (x_move (v := (Value.pointer r2.1)) rfl e6) ?_
                refine wpR_enter rfl rfl rfl (x_call (vs := [(Value.pointer r2.1)]) rfl rfl (mapl_cons rfl mapl_nil) Try.func17 NN_17 NB_17) (Calls.mono h ?_)
                rintro _ w7 ⟨r22, rfl, h⟩
                refine ⟨_, rfl, ?_⟩
                obtain ⟨r23, w8, q23, h⟩ := h
                refine wpR_val (v := (Sl.v r23)) (w' := w8) rfl rfl rfl (x_append (s := l12.2.1) (u := r22) rfl rfl rfl rfl q23) ?_
                refine wpR_val (v := (Sl.v r23)) (w' := w8) rfl rfl rfl (x_assign (v := (Sl.v r23)) rfl rfl) ?_
                refine wpR_nil ?_
                exact ⟨(l12.1, r23), ⟨e10, rfl, e0, e1, e5, e6, e8, e12, trivial⟩, h⟩
              · replace h := h.2 hc21
                refine wpC_skip ?_
                exact ⟨(l12.1, l12.2.1), ⟨e10, e11, e0, e1, e5, e6, e8, e12, trivial⟩, h⟩
            · replace h := h.2 hc20
              refine wpC_seq ?_
              refine wpC_cut (fun ρ => ρ 0 = (Value.int .i64 p0) ∧ ρ 1 = (Sl.v p1) ∧ ρ 5 = (Value.bool r1) ∧ ρ 6 = (Value.pointer r2.1) ∧ ρ 8 = (Value.pointer r3.1) ∧ ρ 10 = (Value.int .i64 l12.1) ∧ ρ 11 = (Sl.v l12.2.1) ∧ ρ 12 = (Value.int .i64 l12.2.2) ∧ ρ 55 = (Value.int .i64 x17) ∧ True) ⟨e0, e1, e5, e6, e8, e10, e11, e12, e55, trivial⟩ ?_
              rintro ρ ⟨e0, e1, e5, e6, e8, e10, e11, e12, e55, -⟩
              refine wpC_region ?_
              refine wpR_val (v := (Value.bool (decide (x17 = 2)))) (w' := w4) rfl rfl rfl (x_eql rfl e55 rfl) ?_
              refine wpR_val (v := (Value.bool (decide (x17 = 2)))) (w' := w4) rfl rfl rfl (x_assign (v := (Value.bool (decide (x17 = 2)))) rfl rfl) ?_
              refine wpR_nil ?_
              refine wpC_cond (b := decide (x17 = 2)) rfl (fun hc24 => ?_) (fun hc24 => ?_)
              · replace h := h.1 hc24
                refine wpC_seq ?_
                refine wpC_cut (fun ρ => ρ 0 = (Value.int .i64 p0) ∧ ρ 1 = (Sl.v p1) ∧ ρ 5 = (Value.bool r1) ∧ ρ 6 = (Value.pointer r2.1) ∧ ρ 8 = (Value.pointer r3.1) ∧ ρ 10 = (Value.int .i64 l12.1) ∧ ρ 11 = (Sl.v l12.2.1) ∧ ρ 12 = (Value.int .i64 l12.2.2) ∧ True) ⟨e0, e1, e5, e6, e8, e10, e11, e12, trivial⟩ ?_
                rintro ρ ⟨e0, e1, e5, e6, e8, e10, e11, e12, -⟩
                refine wpC_region ?_
                refine wpR_val (v := (Sl.v l12.2.1)) (w' := w4) rfl rfl rfl (x_move (v := (Sl.v l12.2.1)) rfl e11) ?_
                refine wpR_val (v := (Value.int .i64 (l12.2.1.len : Int))) (w' := w4) rfl rfl rfl (x_lenS (s := l12.2.1) rfl rfl isSliceT_22) ?_
                refine wpR_val (v := (Value.bool (decide (0 < (l12.2.1.len : Int))))) (w' := w4) rfl rfl rfl (x_gtr rfl rfl rfl) ?_
                refine wpR_nil ?_
                refine wpC_cond (b := decide (0 < (l12.2.1.len : Int))) rfl (fun hc25 => ?_) (fun hc25 => ?_)
                · replace h := h.1 hc25
                  refine wpC_cut (fun ρ => ρ 0 = (Value.int .i64 p0) ∧ ρ 1 = (Sl.v p1) ∧ ρ 5 = (Value.bool r1) ∧ ρ 6 = (Value.pointer r2.1) ∧ ρ 8 = (Value.pointer r3.1) ∧ ρ 10 = (Value.int .i64 l12.1) ∧ ρ 11 = (Sl.v l12.2.1) ∧ ρ 12 = (Value.int .i64 l12.2.2) ∧ True) ⟨e0, e1, e5, e6, e8, e10, e11, e12, trivial⟩ ?_
                  rintro ρ ⟨e0, e1, e5, e6, e8, e10, e11, e12, -⟩
                  refine wpC_region ?_
                  refine wpR_val (v := (Value.pointer r3.1)) (w' := w4) rfl rfl rfl (x_move (v := (Value.pointer r3.1)) rfl e8) ?_
                  refine wpR_val (v := (Sl.v l12.2.1)) (w' := w4) rfl rfl rfl (x_move (v := (Sl.v l12.2.1)) rfl e11) ?_
                  refine wpR_val (v := (Sl.v p1)) (w' := w4) rfl rfl rfl (x_move (v := (Sl.v p1)) rfl e1) ?_
                  refine wpR_val (v := (Value.int .i64 l12.2.2)) (w' := w4) rfl rfl rfl (x_move (v := (Value.int .i64 l12.2.2)) rfl e12) ?_
                  obtain ⟨q26, z26, r26, h⟩ := h
                  generalize hp26 : z26.add ((l12.2.2 : Int).toNat * 2) = p26 at h
                  refine wpR_val (v := (Value.pointer (some p26))) (w' := w4) rfl rfl rfl ((x_indexAddr (s := p1) rfl rfl rfl ES_51 q26 r26).trans (by rw [hp26])) ?_
                  refine wpR_val (v := (Value.pointer (some (p26.add 1)))) (w' := w4) rfl rfl rfl (x_fieldAddr rfl rfl FA_53_1) ?_
                  obtain ⟨x27, q27, h⟩ := h
                  refine wpR_val (v := (Value.int .i64 x27)) (w' := w4) rfl rfl rfl (x_load1 rfl rfl SH_3 q27) ?_
                  refine wpR_enter rfl rfl rfl (x_call (vs := [(Sl.v l12.2.1), (Value.int .i64 x27)]) rfl rfl (mapl_cons rfl (mapl_cons rfl mapl_nil)) Try.func23 NN_23 NB_23) (Calls.mono h ?_)
                  rintro _ w9 ⟨r28, rfl, h⟩
                  refine ⟨_, rfl, ?_⟩
                  refine wpR_enter rfl rfl rfl (x_call (vs := [(Value.pointer r3.1), (Value.int .i64 r28)]) rfl rfl (mapl_cons rfl (mapl_cons rfl mapl_nil)) Try.func20 NN_20 NB_20) (Calls.mono h ?_)
                  rintro _ w10 ⟨r29, rfl, h⟩
                  refine ⟨_, rfl, ?_⟩
                  refine wpR_nil ?_
                  exact ⟨(l12.1, l12.2.1), ⟨e10, e11, e0, e1, e5, e6, e8, e12, trivial⟩, h⟩
                · replace h := h.2 hc25
                  refine wpC_skip ?_
                  exact ⟨(l12.1, l12.2.1), ⟨e10, e11, e0, e1, e5, e6, e8, e12, trivial⟩, h⟩
              · replace h := h.2 hc24
                refine wpC_seq ?_
                refine wpC_cut (fun ρ => ρ 0 = (Value.int .i64 p0) ∧ ρ 1 = (Sl.v p1) ∧ ρ 5 = (Value.bool r1) ∧ ρ 6 = (Value.pointer r2.1) ∧ ρ 8 = (Value.pointer r3.1) ∧ ρ 10 = (Value.int .i64 l12.1) ∧ ρ 11 = (Sl.v l12.2.1) ∧ ρ 12 = (Value.int .i64 l12.2.2) ∧ ρ 55 = (Value.int .i64 x17) ∧ True) ⟨e0, e1, e5, e6, e8, e10, e11, e12, e55, trivial⟩ ?_
                rintro ρ ⟨e0, e1, e5, e6, e8, e10, e11, e12, e55, -⟩
                refine wpC_region ?_
                refine wpR_val (v := (Value.bool (decide (x17 = 4)))) (w' := w4) rfl rfl rfl (x_eql rfl e55 rfl) ?_
                refine wpR_val (v := (Value.bool (decide (x17 = 4)))) (w' := w4) rfl rfl rfl (x_assign (v := (Value.bool (decide (x17 = 4)))) rfl rfl) ?_
                refine wpR_nil ?_
                refine wpC_cond (b := decide (x17 = 4)) rfl (fun hc30 => ?_) (fun hc30 => ?_)
                · replace h := h.1 hc30
                  refine wpC_cut (fun ρ => ρ 0 = (Value.int .i64 p0) ∧ ρ 1 = (Sl.v p1) ∧ ρ 5 = (Value.bool r1) ∧ ρ 6 = (Value.pointer r2.1) ∧ ρ 8 = (Value.pointer r3.1) ∧ ρ 10 = (Value.int .i64 l12.1) ∧ ρ 11 = (Sl.v l12.2.1) ∧ ρ 12 = (Value.int .i64 l12.2.2) ∧ True) ⟨e0, e1, e5, e6, e8, e10, e11, e12, trivial⟩ ?_
                  rintro ρ ⟨e0, e1, e5, e6, e8, e10, e11, e12, -⟩
                  refine wpC_region ?_
                  refine wpR_val (v := (Value.pointer r2.1)) (w' := w4) rfl rfl rfl (x_move (v := (Value.pointer r2.1)) rfl e6) ?_
                  refine wpR_val (v := (Value.pointer r3.1)) (w' := w4) rfl rfl rfl (x_move (v := (Value.pointer r3.1)) rfl e8) ?_
                  refine wpR_enter rfl rfl rfl (x_call (vs := [(Value.pointer r3.1)]) rfl rfl (mapl_cons rfl mapl_nil) Try.func22 NN_22 NB_22) (Calls.mono h ?_)
                  rintro _ w11 ⟨r31, rfl, h⟩
                  refine ⟨_, rfl, ?_⟩
                  refine wpR_enter rfl rfl rfl (x_call (vs := [(Value.pointer r2.1), (Value.int .i64 r31)]) rfl rfl (mapl_cons rfl (mapl_cons rfl mapl_nil)) Try.func14 NN_14 NB_14) (Calls.mono h ?_)
                  rintro _ w12 ⟨r32, rfl, h⟩
                  refine ⟨_, rfl, ?_⟩
                  refine wpR_nil ?_
                  exact ⟨(l12.1, l12.2.1), ⟨e10, e11, e0, e1, e5, e6, e8, e12, trivial⟩, h⟩
                · replace h := h.2 hc30
                  refine wpC_skip ?_
                  exact ⟨(l12.1, l12.2.1), ⟨e10, e11, e0, e1, e5, e6, e8, e12, trivial⟩, h⟩
        clear h
        rintro l15 ρ w5 ⟨e10, e11, e0, e1, e5, e6, e8, e12, -⟩ h
        replace h := hk l15 w5 h
        clear hk
        refine wpC_region ?_
        refine wpR_val (v := (Value.int .i64 l12.2.2)) (w' := w5) rfl rfl rfl (x_move (v := (Value.int .i64 l12.2.2)) rfl e12) ?_
        refine wpR_val (v := (Value.int .i64 (IntKind.i64.wrap (l12.2.2 + 1)))) (w' := w5) rfl rfl rfl (x_add rfl rfl rfl) ?_
        refine wpR_val (v := (Value.int .i64 (IntKind.i64.wrap (l12.2.2 + 1)))) (w' := w5) rfl rfl rfl (x_assign (v := (Value.int .i64 (IntKind.i64.wrap (l12.2.2 + 1)))) rfl rfl) ?_
        refine wpR_nil ?_
        exact ⟨(l15.1, l15.2, IntKind.i64.wrap (l12.2.2 + 1)), ⟨e10, e11, rfl, e0, e1, e5, e6, e8, trivial⟩, h⟩
      · replace h := h.2 hc13
        refine wpC_exit ?_
        refine wpC_seq ?_
        refine wpC_block ?_
        obtain ⟨I33, μ33, hI33, hr33⟩ := h
        refine wpC_loop (fun (x : Unit) ρ => ρ 0 = (Value.int .i64 p0) ∧ ρ 5 = (Value.bool r1) ∧ ρ 6 = (Value.pointer r2.1) ∧ ρ 8 = (Value.pointer r3.1) ∧ ρ 10 = (Value.int .i64 l12.1) ∧ True) I33 μ33 () ⟨e0, e5, e6, e8, e10, trivial⟩ hI33 ?_
        rintro l33 ρ w13 ⟨e0, e5, e6, e8, e10, -⟩ h
        replace h := hr33 l33 w13 h
        clear hr33 hI33
        refine wpC_seq ?_
        refine wpC_seq ?_
        refine wpC_region ?_
        refine wpR_val (v := (Value.pointer r2.1)) (w' := w13) rfl rfl rfl (x_move (v := (Value.pointer r2.1)) rfl e6) ?_
        refine wpR_enter rfl rfl rfl (x_call (vs := [(Value.pointer r2.1)]) rfl rfl (mapl_cons rfl mapl_nil) Try.func19 NN_19 NB_19) (Calls.mono h ?_)
        rintro _ w14 ⟨r34, rfl, h⟩
        refine ⟨_, rfl, ?_⟩
        refine wpR_val (v := (Value.bool (decide (0 < r34)))) (w' := w14) rfl rfl rfl (x_gtr rfl rfl rfl) ?_
        refine wpR_nil ?_
        refine wpC_cond (b := decide (0 < r34)) rfl (fun hc35 => ?_) (fun hc35 => ?_)
        · replace h := h.1 hc35
          refine wpC_skip ?_
          refine wpC_block ?_
          refine wpC_seq ?_
          refine wpC_cut (fun ρ => ρ 0 = (Value.int .i64 p0) ∧ ρ 5 = (Value.bool r1) ∧ ρ 6 = (Value.pointer r2.1) ∧ ρ 8 = (Value.pointer r3.1) ∧ ρ 10 = (Value.int .i64 l12.1) ∧ True) ⟨e0, e5, e6, e8, e10, trivial⟩ ?_
          rintro ρ ⟨e0, e5, e6, e8, e10, -⟩
          refine wpC_region ?_
          refine wpR_val (v := (Value.pointer r2.1)) (w' := w14) rfl rfl rfl (x_move (v := (Value.pointer r2.1)) rfl e6) ?_
          refine wpR_enter rfl rfl rfl (x_call (vs := [(Value.pointer r2.1)]) rfl rfl (mapl_cons rfl mapl_nil) Try.func19 NN_19 NB_19) (Calls.mono h ?_)
          rintro _ w15 ⟨r36, rfl, h⟩
          refine ⟨_, rfl, ?_⟩
          refine wpR_val (v := (Value.int .i64 r36)) (w' := w15) rfl rfl rfl (x_assign (v := (Value.int .i64 r36)) rfl rfl) ?_
          refine wpR_nil ?_
          refine wpC_seq ?_
          refine wpC_cut (fun ρ => ρ 0 = (Value.int .i64 p0) ∧ ρ 5 = (Value.bool r1) ∧ ρ 6 = (Value.pointer r2.1) ∧ ρ 8 = (Value.pointer r3.1) ∧ ρ 10 = (Value.int .i64 l12.1) ∧ ρ 13 = (Value.int .i64 r36) ∧ True) ⟨e0, e5, e6, e8, e10, rfl, trivial⟩ ?_
          rintro ρ ⟨e0, e5, e6, e8, e10, e13, -⟩
          refine wpC_region ?_
          refine wpR_val (v := (Value.pointer r2.1)) (w' := w15) rfl rfl rfl (x_move (v := (Value.pointer r2.1)) rfl e6) ?_
          refine wpR_enter rfl rfl rfl (x_call (vs := [(Value.pointer r2.1)]) rfl rfl (mapl_cons rfl mapl_nil) Try.func17 NN_17 NB_17) (Calls.mono h ?_)
          rintro _ w16 ⟨r37, rfl, h⟩
          refine ⟨_, rfl, ?_⟩
          refine wpR_val (v := (Sl.v r37)) (w' := w16) rfl rfl rfl (x_assign (v := (Sl.v r37)) rfl rfl) ?_
          refine wpR_nil ?_
          refine wpC_seq ?_
          refine wpC_seq ?_
          refine wpC_cut (fun ρ => ρ 0 = (Value.int .i64 p0) ∧ ρ 5 = (Value.bool r1) ∧ ρ 6 = (Value.pointer r2.1) ∧ ρ 8 = (Value.pointer r3.1) ∧ ρ 10 = (Value.int .i64 l12.1) ∧ ρ 13 = (Value.int .i64 r36) ∧ ρ 14 = (Sl.v r37) ∧ True) ⟨e0, e5, e6, e8, e10, e13, rfl, trivial⟩ ?_
          rintro ρ ⟨e0, e5, e6, e8, e10, e13, e14, -⟩
          refine wpC_region ?_
          refine wpR_val (v := (Sl.v r37)) (w' := w16) rfl rfl rfl (x_move (v := (Sl.v r37)) rfl e14) ?_
          refine wpR_val (v := (Value.int .i64 (r37.len : Int))) (w' := w16) rfl rfl rfl (x_lenS (s := r37) rfl rfl isSliceT_22) ?_
          refine wpR_val (v := (Value.int .i64 p0)) (w' := w16) rfl rfl rfl (x_move (v := (Value.int .i64 p0)) rfl e0) ?_
          refine wpR_val (v := (Value.int .i64 r36)) (w' := w16) rfl rfl rfl (x_move (v := (Value.int .i64 r36)) rfl e13) ?_
          refine wpR_val (v := (Value.int .i64 (min p0 r36))) (w' := w16) rfl rfl rfl (x_min rfl rfl rfl) ?_
          refine wpR_val (v := (Value.bool (!decide ((r37.len : Int) = (min p0 r36))))) (w' := w16) rfl rfl rfl (x_neq rfl rfl rfl) ?_
          refine wpR_nil ?_
          refine wpC_cond (b := !decide ((r37.len : Int) = (min p0 r36))) rfl (fun hc38 => ?_) (fun hc38 => ?_)
          · replace h := h.1 hc38
            refine wpC_seq ?_
            refine wpC_cut (fun ρ => True) trivial ?_
            rintro ρ -
            refine wpC_region ?_
            refine wpR_val (v := (Value.bool false)) (w' := w16) rfl rfl rfl (x_assign (v := (Value.bool false)) rfl rfl) ?_
            refine wpR_nil ?_
            refine wpC_ret ?_
            exact ⟨.inl rfl, fun a ha => ⟨_, results_rep1 rfl ha rfl, false, rfl, h⟩⟩
          · replace h := h.2 hc38
            refine wpC_skip ?_
            refine wpC_seq ?_
            refine wpC_seq ?_
            refine wpC_cut (fun ρ => ρ 0 = (Value.int .i64 p0) ∧ ρ 5 = (Value.bool r1) ∧ ρ 6 = (Value.pointer r2.1) ∧ ρ 8 = (Value.pointer r3.1) ∧ ρ 10 = (Value.int .i64 l12.1) ∧ ρ 13 = (Value.int .i64 r36) ∧ ρ 14 = (Sl.v r37) ∧ True) ⟨e0, e5, e6, e8, e10, e13, e14, trivial⟩ ?_
            rintro ρ ⟨e0, e5, e6, e8, e10, e13, e14, -⟩
            refine wpC_region ?_
            refine wpR_val (v := (Sl.v r37)) (w' := w16) rfl rfl rfl (x_move (v := (Sl.v r37)) rfl e14) ?_
            refine wpR_val (v := (Value.int .i64 (r37.len : Int))) (w' := w16) rfl rfl rfl (x_lenS (s := r37) rfl rfl isSliceT_22) ?_
            refine wpR_val (v := (Value.int .i64 (IntKind.i64.wrap ((r37.len : Int) - 1)))) (w' := w16) rfl rfl rfl (x_sub rfl rfl rfl) ?_
            refine wpR_val (v := (Value.int .i64 (IntKind.i64.wrap ((r37.len : Int) - 1)))) (w' := w16) rfl rfl rfl (x_assign (v := (Value.int .i64 (IntKind.i64.wrap ((r37.len : Int) - 1)))) rfl rfl) ?_
            refine wpR_nil ?_
            refine wpC_block ?_
            obtain ⟨I39, μ39, hI39, hr39⟩ := h
            refine wpC_loop (fun (x : Int) ρ => ρ 15 = (Value.int .i64 x) ∧ ρ 0 = (Value.int .i64 p0) ∧ ρ 5 = (Value.bool r1) ∧ ρ 6 = (Value.pointer r2.1) ∧ ρ 8 = (Value.pointer r3.1) ∧ ρ 10 = (Value.int .i64 l12.1) ∧ ρ 13 = (Value.int .i64 r36) ∧ ρ 14 = (Sl.v r37) ∧ True) I39 μ39 (IntKind.i64.wrap ((r37.len : Int) - 1)) ⟨rfl, e0, e5, e6, e8, e10, e13, e14, trivial⟩ hI39 ?_
            rintro l39 ρ w17 ⟨e15, e0, e5, e6, e8, e10, e13, e14, -⟩ h
            replace h := hr39 l39 w17 h
            clear hr39 hI39
            refine wpC_seq ?_
            refine wpC_seq ?_
            refine wpC_region ?_
            refine wpR_val (v := (Value.int .i64 l39)) (w' := w17) rfl rfl rfl (x_move (v := (Value.int .i64 l39)) rfl e15) ?_
            refine wpR_val (v := (Value.bool (decide (0 ≤ l39)))) (w' := w17) rfl rfl rfl (x_geq rfl rfl rfl) ?_
            refine wpR_nil ?_
            refine wpC_cond (b := decide (0 ≤ l39)) rfl (fun hc40 => ?_) (fun hc40 => ?_)
            · replace h := h.1 hc40
              refine wpC_skip ?_
              refine wpC_seq ?_
              refine wpC_block ?_
              refine wpC_cut (fun ρ => ρ 0 = (Value.int .i64 p0) ∧ ρ 5 = (Value.bool r1) ∧ ρ 6 = (Value.pointer r2.1) ∧ ρ 8 = (Value.pointer r3.1) ∧ ρ 10 = (Value.int .i64 l12.1) ∧ ρ 13 = (Value.int .i64 r36) ∧ ρ 14 = (Sl.v r37) ∧ ρ 15 = (Value.int .i64 l39) ∧ True) ⟨e0, e5, e6, e8, e10, e13, e14, e15, trivial⟩ ?_
              rintro ρ ⟨e0, e5, e6, e8, e10, e13, e14, e15, -⟩
              refine wpC_region ?_
              refine wpR_val (v := (Value.pointer r3.1)) (w' := w17) rfl rfl rfl (x_move (v := (Value.pointer r3.1)) rfl e8) ?_
              refine wpR_val (v := (Sl.v r37)) (w' := w17) rfl rfl rfl (x_move (v := (Sl.v r37)) rfl e14) ?_
              refine wpR_val (v := (Value.int .i64 l39)) (w' := w17) rfl rfl rfl (x_move (v := (Value.int .i64 l39)) rfl e15) ?_
              obtain ⟨q41, z41, r41, h⟩ := h
              generalize hp41 : z41.add ((l39 : Int).toNat * 1) = p41 at h
              refine wpR_val (v := (Value.pointer (some p41))) (w' := w17) rfl rfl rfl ((x_indexAddr (s := r37) rfl rfl rfl ES_22 q41 r41).trans (by rw [hp41])) ?_
              obtain ⟨x42, q42, h⟩ := h
              refine wpR_val (v := (Value.int .i64 x42)) (w' := w17) rfl rfl rfl (x_load1 rfl rfl SH_3 q42) ?_
              refine wpR_enter rfl rfl rfl (x_call (vs := [(Value.pointer r3.1), (Value.int .i64 x42)]) rfl rfl (mapl_cons rfl (mapl_cons rfl mapl_nil)) Try.func20 NN_20 NB_20) (Calls.mono h ?_)
              rintro _ w18 ⟨r43, rfl, h⟩
              refine ⟨_, rfl, ?_⟩
              refine wpR_nil ?_
              refine wpC_cut (fun ρ => ρ 0 = (Value.int .i64 p0) ∧ ρ 5 = (Value.bool r1) ∧ ρ 6 = (Value.pointer r2.1) ∧ ρ 8 = (Value.pointer r3.1) ∧ ρ 10 = (Value.int .i64 l12.1) ∧ ρ 13 = (Value.int .i64 r36) ∧ ρ 14 = (Sl.v r37) ∧ ρ 15 = (Value.int .i64 l39) ∧ True) ⟨e0, e5, e6, e8, e10, e13, e14, e15, trivial⟩ ?_
              rintro ρ ⟨e0, e5, e6, e8, e10, e13, e14, e15, -⟩
              refine wpC_region ?_
              refine wpR_val (v := (Value.int .i64 l39)) (w' := w18) rfl rfl rfl (x_move (v := (Value.int .i64 l39)) rfl e15) ?_
              refine wpR_val (v := (Value.int .i64 (IntKind.i64.wrap (l39 - 1)))) (w' := w18) rfl rfl rfl (x_sub rfl rfl rfl) ?_
              refine wpR_val (v := (Value.int .i64 (IntKind.i64.wrap (l39 - 1)))) (w' := w18) rfl rfl rfl (x_assign (v := (Value.int .i64 (IntKind.i64.wrap (l39 - 1)))) rfl rfl) ?_
              refine wpR_nil ?_
              exact ⟨IntKind.i64.wrap (l39 - 1), ⟨rfl, e0, e5, e6, e8, e10, e13, e14, trivial⟩, h⟩
            · replace h := h.2 hc40
              refine wpC_exit ?_
              refine wpC_seq ?_
              refine wpC_cut (fun ρ => ρ 0 = (Value.int .i64 p0) ∧ ρ 5 = (Value.bool r1) ∧ ρ 6 = (Value.pointer r2.1) ∧ ρ 8 = (Value.pointer r3.1) ∧ ρ 10 = (Value.int .i64 l12.1) ∧ ρ 13 = (Value.int .i64 r36) ∧ True) ⟨e0, e5, e6, e8, e10, e13, trivial⟩ ?_
              rintro ρ ⟨e0, e5, e6, e8, e10, e13, -⟩
              refine wpC_region ?_
              refine wpR_val (v := (Value.pointer r2.1)) (w' := w17) rfl rfl rfl (x_move (v := (Value.pointer r2.1)) rfl e6) ?_
              refine wpR_val (v := (Value.pointer r3.1)) (w' := w17) rfl rfl rfl (x_move (v := (Value.pointer r3.1)) rfl e8) ?_
              refine wpR_enter rfl rfl rfl (x_call (vs := [(Value.pointer r3.1)]) rfl rfl (mapl_cons rfl mapl_nil) Try.func22 NN_22 NB_22) (Calls.mono h ?_)
              rintro _ w19 ⟨r44, rfl, h⟩
              refine ⟨_, rfl, ?_⟩
              refine wpR_enter rfl rfl rfl (x_call (vs := [(Value.pointer r2.1), (Value.int .i64 r44)]) rfl rfl (mapl_cons rfl (mapl_cons rfl mapl_nil)) Try.func14 NN_14 NB_14) (Calls.mono h ?_)
              rintro _ w20 ⟨r45, rfl, h⟩
              refine ⟨_, rfl, ?_⟩
              refine wpR_val (v := (Value.bool (!decide (r45 = 0)))) (w' := w20) rfl rfl rfl (x_neq rfl rfl rfl) ?_
              refine wpR_val (v := (Value.bool (!decide (r45 = 0)))) (w' := w20) rfl rfl rfl (x_move (v := (Value.bool (!decide (r45 = 0)))) rfl rfl) ?_
              obtain ⟨J46, h, hk⟩ := h
              refine wpR_joinJ 9 (fun x ρ => ρ 131 = Value.bool x ∧ ρ 0 = (Value.int .i64 p0) ∧ ρ 5 = (Value.bool r1) ∧ ρ 6 = (Value.pointer r2.1) ∧ ρ 8 = (Value.pointer r3.1) ∧ ρ 10 = (Value.int .i64 l12.1) ∧ True) (J46) ?_ ?_
              · clear hk
                rcases Bool.eq_false_or_eq_true (!decide (r45 = 0)) with hc47 | hc47
                · replace h := h.1 hc47
                  refine wpR_pass (wantN rfl rfl rfl hc47) rfl rfl ?_
                  refine wpR_pass (wantN rfl rfl rfl hc47) rfl rfl ?_
                  refine wpR_pass (wantN rfl rfl rfl hc47) rfl rfl ?_
                  refine wpR_pass (wantN rfl rfl rfl hc47) rfl rfl ?_
                  refine wpR_pass (wantN rfl rfl rfl hc47) rfl rfl ?_
                  refine wpR_pass (wantN rfl rfl rfl hc47) rfl rfl ?_
                  refine wpR_pass (wantN rfl rfl rfl hc47) rfl rfl ?_
                  refine wpR_pass (wantN rfl rfl rfl hc47) rfl rfl ?_
                  refine wpR_val (v := (Value.bool true)) (w' := w20) rfl rfl rfl (x_pickT (v := (Value.bool true)) rfl rfl hc47 rfl) ?_
                  refine wpR_nil ?_
                  exact ⟨true, ⟨rfl, e0, e5, e6, e8, e10, trivial⟩, h⟩
                · replace h := h.2 hc47
                  refine wpR_val (v := (Value.pointer r2.1)) (w' := w20) (wantG rfl rfl rfl hc47) rfl rfl (x_move (v := (Value.pointer r2.1)) rfl e6) ?_
                  refine wpR_enter (wantG rfl rfl rfl hc47) rfl rfl (x_call (vs := [(Value.pointer r2.1)]) rfl rfl (mapl_cons rfl mapl_nil) Try.func19 NN_19 NB_19) (Calls.mono h ?_)
                  rintro _ w21 ⟨r48, rfl, h⟩
                  refine ⟨_, rfl, ?_⟩
                  refine wpR_val (v := (Value.int .i64 r36)) (w' := w21) (wantG rfl rfl rfl hc47) rfl rfl (x_move (v := (Value.int .i64 r36)) rfl e13) ?_
                  refine wpR_val (v := (Value.int .i64 p0)) (w' := w21) (wantG rfl rfl rfl hc47) rfl rfl (x_move (v := (Value.int .i64 p0)) rfl e0) ?_
                  refine wpR_val (v := (Value.int .i64 r36)) (w' := w21) (wantG rfl rfl rfl hc47) rfl rfl (x_move (v := (Value.int .i64 r36)) rfl e13) ?_
                  refine wpR_val (v := (Value.int .i64 (min p0 r36))) (w' := w21) (wantG rfl rfl rfl hc47) rfl rfl (x_min rfl rfl rfl) ?_
                  refine wpR_val (v := (Value.int .i64 (IntKind.i64.wrap (r36 - (min p0 r36))))) (w' := w21) (wantG rfl rfl rfl hc47) rfl rfl (x_sub rfl rfl rfl) ?_
                  refine wpR_val (v := (Value.bool (decide ((IntKind.i64.wrap (r36 - (min p0 r36))) < r48)))) (w' := w21) (wantG rfl rfl rfl hc47) rfl rfl (x_gtr rfl rfl rfl) ?_
                  refine wpR_val (v := (Value.bool (decide ((IntKind.i64.wrap (r36 - (min p0 r36))) < r48)))) (w' := w21) rfl rfl rfl (x_pickF (v := (Value.bool (decide ((IntKind.i64.wrap (r36 - (min p0 r36))) < r48)))) rfl rfl hc47 rfl) ?_
                  refine wpR_nil ?_
                  exact ⟨decide ((IntKind.i64.wrap (r36 - (min p0 r36))) < r48), ⟨rfl, e0, e5, e6, e8, e10, trivial⟩, h⟩
              clear h
              rintro c49 ρ w22 ⟨e131, e0, e5, e6, e8, e10, -⟩ h
              replace h := hk c49 w22 h
              clear hk
              refine wpR_nil ?_
              refine wpC_cond (b := c49) e131 (fun hc50 => ?_) (fun hc50 => ?_)
              · replace h := h.1 hc50
                refine wpC_seq ?_
                refine wpC_region ?_
                refine wpR_val (v := (Value.bool false)) (w' := w22) rfl rfl rfl (x_assign (v := (Value.bool false)) rfl rfl) ?_
                refine wpR_nil ?_
                refine wpC_ret ?_
                exact ⟨.inl rfl, fun a ha => ⟨_, results_rep1 rfl ha rfl, false, rfl, h⟩⟩
              · replace h := h.2 hc50
                refine wpC_skip ?_
                exact ⟨(), ⟨e0, e5, e6, e8, e10, trivial⟩, h⟩
        · replace h := h.2 hc35
          refine wpC_exit ?_
          refine wpC_seq ?_
          refine wpC_cut (fun ρ => ρ 5 = (Value.bool r1) ∧ ρ 6 = (Value.pointer r2.1) ∧ ρ 8 = (Value.pointer r3.1) ∧ ρ 10 = (Value.int .i64 l12.1) ∧ True) ⟨e5, e6, e8, e10, trivial⟩ ?_
          rintro ρ ⟨e5, e6, e8, e10, -⟩
          refine wpC_region ?_
          refine wpR_val (v := (Value.bool r1)) (w' := w14) rfl rfl rfl (x_move (v := (Value.bool r1)) rfl e5) ?_
          refine wpR_val (v := (Value.bool r1)) (w' := w14) rfl rfl rfl (x_move (v := (Value.bool r1)) rfl rfl) ?_
          obtain ⟨J51, h, hk⟩ := h
          refine wpR_joinJ 5 (fun x ρ => ρ 138 = Value.bool x ∧ ρ 6 = (Value.pointer r2.1) ∧ True) (J51) ?_ ?_
          · clear hk
            rcases Bool.eq_false_or_eq_true (r1) with hc52 | hc52
            · replace h := h.1 hc52
              refine wpR_val (v := (Value.pointer r3.1)) (w' := w14) (wantG rfl rfl rfl hc52) rfl rfl (x_move (v := (Value.pointer r3.1)) rfl e8) ?_
              refine wpR_enter (wantG rfl rfl rfl hc52) rfl rfl (x_call (vs := [(Value.pointer r3.1)]) rfl rfl (mapl_cons rfl mapl_nil) Try.func22 NN_22 NB_22) (Calls.mono h ?_)
              rintro _ w23 ⟨r53, rfl, h⟩
              refine ⟨_, rfl, ?_⟩
              refine wpR_val (v := (Value.int .i64 l12.1)) (w' := w23) (wantG rfl rfl rfl hc52) rfl rfl (x_move (v := (Value.int .i64 l12.1)) rfl e10) ?_
              refine wpR_val (v := (Value.bool (decide (r53 = l12.1)))) (w' := w23) (wantG rfl rfl rfl hc52) rfl rfl (x_eql rfl rfl rfl) ?_
              refine wpR_val (v := (Value.bool (decide (r53 = l12.1)))) (w' := w23) rfl rfl rfl (x_pickT (v := (Value.bool (decide (r53 = l12.1)))) rfl rfl hc52 rfl) ?_
              refine wpR_nil ?_
              exact ⟨decide (r53 = l12.1), ⟨rfl, e6, trivial⟩, h⟩
            · replace h := h.2 hc52
              refine wpR_pass (wantN rfl rfl rfl hc52) rfl rfl ?_
              refine wpR_pass (wantN rfl rfl rfl hc52) rfl rfl ?_
              refine wpR_pass (wantN rfl rfl rfl hc52) rfl rfl ?_
              refine wpR_pass (wantN rfl rfl rfl hc52) rfl rfl ?_
              refine wpR_val (v := (Value.bool false)) (w' := w14) rfl rfl rfl (x_pickF (v := (Value.bool false)) rfl rfl hc52 rfl) ?_
              refine wpR_nil ?_
              exact ⟨false, ⟨rfl, e6, trivial⟩, h⟩
          clear h
          rintro c54 ρ w24 ⟨e138, e6, -⟩ h
          replace h := hk c54 w24 h
          clear hk
          refine wpR_val (v := (Value.bool c54)) (w' := w24) rfl rfl rfl (x_move (v := (Value.bool c54)) rfl e138) ?_
          obtain ⟨J55, h, hk⟩ := h
          refine wpR_joinJ 5 (fun x ρ => ρ 144 = Value.bool x ∧ True) (J55) ?_ ?_
          · clear hk
            rcases Bool.eq_false_or_eq_true (c54) with hc56 | hc56
            · replace h := h.1 hc56
              refine wpR_val (v := (Value.pointer r2.1)) (w' := w24) (wantG rfl rfl rfl hc56) rfl rfl (x_move (v := (Value.pointer r2.1)) rfl e6) ?_
              refine wpR_enter (wantG rfl rfl rfl hc56) rfl rfl (x_call (vs := [(Value.pointer r2.1)]) rfl rfl (mapl_cons rfl mapl_nil) Try.func17 NN_17 NB_17) (Calls.mono h ?_)
              rintro _ w25 ⟨r57, rfl, h⟩
              refine ⟨_, rfl, ?_⟩
              refine wpR_val (v := (Value.int .i64 (r57.len : Int))) (w' := w25) (wantG rfl rfl rfl hc56) rfl rfl (x_lenS (s := r57) rfl rfl isSliceT_22) ?_
              refine wpR_val (v := (Value.bool (decide ((r57.len : Int) = 0)))) (w' := w25) (wantG rfl rfl rfl hc56) rfl rfl (x_eql rfl rfl rfl) ?_
              refine wpR_val (v := (Value.bool (decide ((r57.len : Int) = 0)))) (w' := w25) rfl rfl rfl (x_pickT (v := (Value.bool (decide ((r57.len : Int) = 0)))) rfl rfl hc56 rfl) ?_
              refine wpR_nil ?_
              exact ⟨decide ((r57.len : Int) = 0), ⟨rfl, trivial⟩, h⟩
            · replace h := h.2 hc56
              refine wpR_pass (wantN rfl rfl rfl hc56) rfl rfl ?_
              refine wpR_pass (wantN rfl rfl rfl hc56) rfl rfl ?_
              refine wpR_pass (wantN rfl rfl rfl hc56) rfl rfl ?_
              refine wpR_pass (wantN rfl rfl rfl hc56) rfl rfl ?_
              refine wpR_val (v := (Value.bool false)) (w' := w24) rfl rfl rfl (x_pickF (v := (Value.bool false)) rfl rfl hc56 rfl) ?_
              refine wpR_nil ?_
              exact ⟨false, ⟨rfl, trivial⟩, h⟩
          clear h
          rintro c58 ρ w26 ⟨e144, -⟩ h
          replace h := hk c58 w26 h
          clear hk
          refine wpR_val (v := (Value.bool c58)) (w' := w26) rfl rfl rfl (x_assign (v := (Value.bool c58)) rfl e144) ?_
          refine wpR_nil ?_
          refine wpC_ret ?_
          exact ⟨.inl rfl, fun a ha => ⟨_, results_rep1 rfl ha rfl, c58, rfl, h⟩⟩

/-- lingualaw31.LinkRefuses -/
def F6 (p0 : Int) (p1 : Sl) (p2 : Int) (w0 : World) (K : Bool → World → Prop) : Prop :=
  callC Try.prog 7 #[] (fun (r : Bool) => (Value.bool r)) w0 fun r1 w1 =>
  callC Try.prog 8 #[(Value.int .i64 p0)] (fun (r : (Option Addr) × Int) => (Value.tuple #[(Value.pointer r.1), (Value.int .i64 r.2)])) w1 fun r2 w2 =>
  callC Try.prog 10 #[(Value.int .i64 p0)] (fun (r : (Option Addr) × Int) => (Value.tuple #[(Value.pointer r.1), (Value.int .i64 r.2)])) w2 fun r3 w3 =>
  cnd (((decide (60 < (p1.len : Int))) || (!decide (r2.2 = 0))) || (!decide (r3.2 = 0)))
    (
    K r1 w3
    )
    (
    cnd (r2.1.isNone || r3.1.isNone)
      (
      K false w3
      )
      (
      lp (fun (next12 : (Int × Int) → World → Prop) l12 w4 =>
        cnd (decide (l12.2 < (p1.len : Int)))
          (
          jn (fun (J14 : Int → World → Prop) =>
            ix p1 l12.2 2 fun p16 =>
            ld (Value.int .i64) (p16.add 0) w4 fun x17 =>
            cnd (decide (x17 = 0))
              (
              callC Try.prog 12 #[(Value.pointer r2.1)] (fun (r : Int × Int) => (Value.tuple #[(Value.int .i64 r.1), (Value.int .i64 r.2)])) w4 fun _r19 w6 =>
              J14 (IntKind.i64.wrap (l12.1 + 1)) w6
              )
              (
              cnd (decide (x17 = 2))
                (
                callC Try.prog 17 #[(Value.pointer r2.1)] (fun (r : Sl) => (Sl.v r)) w4 fun r21 w7 =>
                cnd (decide (0 < (r21.len : Int)))
                  (
                  ix p1 l12.2 2 fun p23 =>
                  ld (Value.int .i64) (p23.add 1) w7 fun x24 =>
                  callC Try.prog 23 #[(Sl.v r21), (Value.int .i64 x24)] (fun (r : Int) => (Value.int .i64 r)) w7 fun r25 w8 =>
                  callC Try.prog 20 #[(Value.pointer r3.1), (Value.int .i64 r25)] (fun (r : Sl × Int) => (Value.tuple #[(Sl.v r.1), (Value.int .i64 r.2)])) w8 fun _r26 w9 =>
                  J14 l12.1 w9
                  )
                  (
                  J14 l12.1 w7
                  )
                )
                (
                cnd (decide (x17 = 4))
                  (
                  callC Try.prog 22 #[(Value.pointer r3.1)] (fun (r : Int) => (Value.int .i64 r)) w4 fun r28 w10 =>
                  callC Try.prog 14 #[(Value.pointer r2.1), (Value.int .i64 r28)] (fun (r : Int) => (Value.int .i64 r)) w10 fun _r29 w11 =>
                  J14 l12.1 w11
                  )
                  (
                  J14 l12.1 w4
                  )
                )
              )
          )
          fun l15 w5 =>
          next12 (l15, IntKind.i64.wrap (l12.2 + 1)) w5
          )
          (
          callC Try.prog 24 #[(Value.pointer r2.1)] (fun (r : (Option Addr)) => (Value.pointer r)) w4 fun r30 w12 =>
          callC Try.prog 25 #[(Value.pointer r3.1)] (fun (r : (Option Addr)) => (Value.pointer r)) w12 fun r31 w13 =>
          cnd (r30.isNone || r31.isNone)
            (
            K false w13
            )
            (
            callC Try.prog 22 #[(Value.pointer r3.1)] (fun (r : Int) => (Value.int .i64 r)) w13 fun r35 w14 =>
            callC Try.prog 20 #[(Value.pointer r3.1), (Value.int .i64 p2)] (fun (r : Sl × Int) => (Value.tuple #[(Sl.v r.1), (Value.int .i64 r.2)])) w14 fun r36 w15 =>
            jn (fun J39 => cnd ((decide (p2 < r35)) || (decide (p0 ≤ (IntKind.i64.wrap (p2 - r35)))))
              (
              jn (fun J43 => cnd ((decide (0 < (r36.1.len : Int))) || (!decide (r36.2 = r35)))
                (
                J43 true w15
                )
                (
                callC Try.prog 22 #[(Value.pointer r3.1)] (fun (r : Int) => (Value.int .i64 r)) w15 fun r45 w16 =>
                J43 (!decide (r45 = r35)) w16
                ))
              fun c46 w17 =>
              J39 c46 w17
              )
              (
              J39 false w15
              ))
            fun c47 w18 =>
            cnd (c47)
              (
              K false w18
              )
              (
              callC Try.prog 19 #[(Value.pointer r2.1)] (fun (r : Int) => (Value.int .i64 r)) w18 fun r49 w19 =>
              callC Try.prog 14 #[(Value.pointer r2.1), (Value.int .i64 p2)] (fun (r : Int) => (Value.int .i64 r)) w19 fun r50 w20 =>
              jn (fun J61 => cnd (!((decide (r50 = 0)) == (((decide (0 ≤ p2)) && (decide (p2 ≤ l12.1))) && ((decide (p2 ≤ (IntKind.i64.wrap (l12.1 - r49)))) || (decide ((IntKind.i64.wrap (p2 - (IntKind.i64.wrap (l12.1 - r49)))) ≤ p0))))))
                (
                J61 true w20
                )
                (
                jn (fun J63 => cnd (!decide (r50 = 0))
                  (
                  jn (fun J65 => cnd (!decide (r50 = 1))
                    (
                    J65 true w20
                    )
                    (
                    callC Try.prog 19 #[(Value.pointer r2.1)] (fun (r : Int) => (Value.int .i64 r)) w20 fun r67 w21 =>
                    J65 (!decide (r67 = r49)) w21
                    ))
                  fun c68 w22 =>
                  J63 c68 w22
                  )
                  (
                  J63 false w20
                  ))
                fun c69 w23 =>
                J61 c69 w23
                ))
              fun c70 w24 =>
              cnd (c70)
                (
                K false w24
                )
                (
                callC Try.prog 12 #[(Value.pointer r30)] (fun (r : Int × Int) => (Value.tuple #[(Value.int .i64 r.1), (Value.int .i64 r.2)])) w24 fun _r72 w25 =>
                jn (fun J73 => cnd (r1)
                  (
                  callC Try.prog 19 #[(Value.pointer r30)] (fun (r : Int) => (Value.int .i64 r)) w25 fun r75 w26 =>
                  J73 (decide (r75 = (IntKind.i64.wrap (r49 + 1)))) w26
                  )
                  (
                  J73 false w25
                  ))
                fun c76 w27 =>
                jn (fun J77 => cnd (c76)
                  (
                  callC Try.prog 22 #[(Value.pointer r31)] (fun (r : Int) => (Value.int .i64 r)) w27 fun r79 w28 =>
                  J77 (decide (r79 = r35)) w28
                  )
                  (
                  J77 false w27
                  ))
                fun c80 w29 =>
                jn (fun J81 => cnd (c80)
                  (
                  jn (fun J83 => cnd (!decide (r50 = 0))
                    (
                    J83 true w29
                    )
                    (
                    callC Try.prog 19 #[(Value.pointer r2.1)] (fun (r : Int) => (Value.int .i64 r)) w29 fun r85 w30 =>
                    J83 (decide (r85 = (IntKind.i64.wrap (l12.1 - (max p2 (IntKind.i64.wrap (l12.1 - r49))))))) w30
                    ))
                  fun c86 w31 =>
                  J81 c86 w31
                  )
                  (
                  J81 false w29
                  ))
                fun c87 w32 =>
                K c87 w32
                )
              )
            )
          )
      ) (0, 0) w3
      )
    )
set_option maxRecDepth 100000 in
theorem D6 (p0 : Int) (p1 : Sl) (p2 : Int) (w0 : World) (K : Bool → World → Prop) (h : F6 p0 p1 p2 w0 K) : callC Try.prog 6 #[(Value.int .i64 p0), (Sl.v p1), (Value.int .i64 p2)] (fun (r : Bool) => (Value.bool r)) w0 K := by
  unfold F6 at h
  refine calls_of_wpC Try.func6 rfl 209 rfl (by simp) ?_
  intro ρ hρ
  have e0 : ρ 0 = (Value.int .i64 p0) := hρ 0
  have e1 : ρ 1 = (Sl.v p1) := hρ 1
  have e2 : ρ 2 = (Value.int .i64 p2) := hρ 2
  clear hρ
  refine wpC_seq ?_
  refine wpC_region ?_
  refine wpR_val (v := (Value.bool false)) (w' := w0) rfl rfl rfl (x_assign (v := (Value.bool false)) rfl rfl) ?_
  refine wpR_nil ?_
  refine wpC_seq ?_
  refine wpC_cut (fun ρ => ρ 0 = (Value.int .i64 p0) ∧ ρ 1 = (Sl.v p1) ∧ ρ 2 = (Value.int .i64 p2) ∧ True) ⟨e0, e1, e2, trivial⟩ ?_
  rintro ρ ⟨e0, e1, e2, -⟩
  refine wpC_region ?_
  refine wpR_enter rfl rfl rfl (x_call (vs := []) rfl rfl mapl_nil Try.func7 NN_7 NB_7) (Calls.mono h ?_)
  rintro _ w1 ⟨r1, rfl, h⟩
  refine ⟨_, rfl, ?_⟩
  refine wpR_val (v := (Value.bool r1)) (w' := w1) rfl rfl rfl (x_assign (v := (Value.bool r1)) rfl rfl) ?_
  refine wpR_nil ?_
  refine wpC_seq ?_
  refine wpC_cut (fun ρ => ρ 0 = (Value.int .i64 p0) ∧ ρ 1 = (Sl.v p1) ∧ ρ 2 = (Value.int .i64 p2) ∧ ρ 7 = (Value.bool r1) ∧ True) ⟨e0, e1, e2, rfl, trivial⟩ ?_
  rintro ρ ⟨e0, e1, e2, e7, -⟩
  refine wpC_region ?_
  refine wpR_val (v := (Value.int .i64 p0)) (w' := w1) rfl rfl rfl (x_move (v := (Value.int .i64 p0)) rfl e0) ?_
  refine wpR_enter rfl rfl rfl (x_call (vs := [(Value.int .i64 p0)]) rfl rfl (mapl_cons rfl mapl_nil) Try.func8 NN_8 NB_8) (Calls.mono h ?_)
  rintro _ w2 ⟨r2, rfl, h⟩
  refine ⟨_, rfl, ?_⟩
  refine wpR_val (v := (Value.tuple #[(Value.pointer r2.1), (Value.int .i64 r2.2)])) (w' := w2) rfl rfl rfl (x_move (v := (Value.tuple #[(Value.pointer r2.1), (Value.int .i64 r2.2)])) rfl rfl) ?_
  refine wpR_val (v := (Value.pointer r2.1)) (w' := w2) rfl rfl rfl (x_extract rfl rfl rfl) ?_
  refine wpR_val (v := (Value.int .i64 r2.2)) (w' := w2) rfl rfl rfl (x_extract rfl rfl rfl) ?_
  refine wpR_val (v := (Value.pointer r2.1)) (w' := w2) rfl rfl rfl (x_assign (v := (Value.pointer r2.1)) rfl rfl) ?_
  refine wpR_val (v := (Value.int .i64 r2.2)) (w' := w2) rfl rfl rfl (x_assign (v := (Value.int .i64 r2.2)) rfl rfl) ?_
  refine wpR_nil ?_
  refine wpC_seq ?_
  refine wpC_cut (fun ρ => ρ 0 = (Value.int .i64 p0) ∧ ρ 1 = (Sl.v p1) ∧ ρ 2 = (Value.int .i64 p2) ∧ ρ 7 = (Value.bool r1) ∧ ρ 8 = (Value.pointer r2.1) ∧ ρ 9 = (Value.int .i64 r2.2) ∧ True) ⟨e0, e1, e2, e7, rfl, rfl, trivial⟩ ?_
  rintro ρ ⟨e0, e1, e2, e7, e8, e9, -⟩
  refine wpC_region ?_
  refine wpR_val (v := (Value.int .i64 p0)) (w' := w2) rfl rfl rfl (x_move (v := (Value.int .i64 p0)) rfl e0) ?_
  refine wpR_enter rfl rfl rfl (x_call (vs := [(Value.int .i64 p0)]) rfl rfl (mapl_cons rfl mapl_nil) Try.func10 NN_10 NB_10) (Calls.mono h ?_)
  rintro _ w3 ⟨r3, rfl, h⟩
  refine ⟨_, rfl, ?_⟩
  refine wpR_val (v := (Value.tuple #[(Value.pointer r3.1), (Value.int .i64 r3.2)])) (w' := w3) rfl rfl rfl (x_move (v := (Value.tuple #[(Value.pointer r3.1), (Value.int .i64 r3.2)])) rfl rfl) ?_
  refine wpR_val (v := (Value.pointer r3.1)) (w' := w3) rfl rfl rfl (x_extract rfl rfl rfl) ?_
  refine wpR_val (v := (Value.int .i64 r3.2)) (w' := w3) rfl rfl rfl (x_extract rfl rfl rfl) ?_
  refine wpR_val (v := (Value.pointer r3.1)) (w' := w3) rfl rfl rfl (x_assign (v := (Value.pointer r3.1)) rfl rfl) ?_
  refine wpR_val (v := (Value.int .i64 r3.2)) (w' := w3) rfl rfl rfl (x_assign (v := (Value.int .i64 r3.2)) rfl rfl) ?_
  refine wpR_nil ?_
  refine wpC_seq ?_
  refine wpC_seq ?_
  refine wpC_cut (fun ρ => ρ 0 = (Value.int .i64 p0) ∧ ρ 1 = (Sl.v p1) ∧ ρ 2 = (Value.int .i64 p2) ∧ ρ 7 = (Value.bool r1) ∧ ρ 8 = (Value.pointer r2.1) ∧ ρ 9 = (Value.int .i64 r2.2) ∧ ρ 10 = (Value.pointer r3.1) ∧ ρ 11 = (Value.int .i64 r3.2) ∧ True) ⟨e0, e1, e2, e7, e8, e9, rfl, rfl, trivial⟩ ?_
  rintro ρ ⟨e0, e1, e2, e7, e8, e9, e10, e11, -⟩
  refine wpC_region ?_
  refine wpR_val (v := (Sl.v p1)) (w' := w3) rfl rfl rfl (x_move (v := (Sl.v p1)) rfl e1) ?_
  refine wpR_val (v := (Value.int .i64 (p1.len : Int))) (w' := w3) rfl rfl rfl (x_lenS (s := p1) rfl rfl isSliceT_51) ?_
  refine wpR_val (v := (Value.bool (decide (60 < (p1.len : Int))))) (w' := w3) rfl rfl rfl (x_gtr rfl rfl rfl) ?_
  refine wpR_val (v := (Value.bool (decide (60 < (p1.len : Int))))) (w' := w3) rfl rfl rfl (x_move (v := (Value.bool (decide (60 < (p1.len : Int))))) rfl rfl) ?_
  refine wpR_joinJ 3 (fun (_ : Unit) ρ => ρ 40 = Value.bool ((decide (60 < (p1.len : Int))) || (!decide (r2.2 = 0))) ∧ ρ 0 = (Value.int .i64 p0) ∧ ρ 1 = (Sl.v p1) ∧ ρ 2 = (Value.int .i64 p2) ∧ ρ 7 = (Value.bool r1) ∧ ρ 8 = (Value.pointer r2.1) ∧ ρ 10 = (Value.pointer r3.1) ∧ ρ 11 = (Value.int .i64 r3.2) ∧ True) (fun _ w => w3 = w) ?_ ?_
  · clear h
    rcases Bool.eq_false_or_eq_true (decide (60 < (p1.len : Int))) with hc5 | hc5
    · skip
      refine wpR_pass (wantN rfl rfl rfl hc5) rfl rfl ?_
      refine wpR_pass (wantN rfl rfl rfl hc5) rfl rfl ?_
      refine wpR_val (v := (Value.bool true)) (w' := w3) rfl rfl rfl (x_pickT (v := (Value.bool true)) rfl rfl hc5 rfl) ?_
      refine wpR_nil ?_
      exact ⟨(), ⟨(by rw [hc5]; rfl), e0, e1, e2, e7, e8, e10, e11, trivial⟩, rfl⟩
    · skip
      refine wpR_val (v := (Value.int .i64 r2.2)) (w' := w3) (wantG rfl rfl rfl hc5) rfl rfl (x_move (v := (Value.int .i64 r2.2)) rfl e9) ?_
      refine wpR_val (v := (Value.bool (!decide (r2.2 = 0)))) (w' := w3) (wantG rfl rfl rfl hc5) rfl rfl (x_neq rfl rfl rfl) ?_
      refine wpR_val (v := (Value.bool (!decide (r2.2 = 0)))) (w' := w3) rfl rfl rfl (x_pickF (v := (Value.bool (!decide (r2.2 = 0)))) rfl rfl hc5 rfl) ?_
      refine wpR_nil ?_
      exact ⟨(), ⟨(by rw [hc5]; rfl), e0, e1, e2, e7, e8, e10, e11, trivial⟩, rfl⟩
  rintro _ ρ wj ⟨e40, e0, e1, e2, e7, e8, e10, e11, -⟩ rfl
  refine wpR_val (v := (Value.bool ((decide (60 < (p1.len : Int))) || (!decide (r2.2 = 0))))) (w' := w3) rfl rfl rfl (x_move (v := (Value.bool ((decide (60 < (p1.len : Int))) || (!decide (r2.2 = 0))))) rfl e40) ?_
  refine wpR_joinJ 3 (fun (_ : Unit) ρ => ρ 44 = Value.bool (((decide (60 < (p1.len : Int))) || (!decide (r2.2 = 0))) || (!decide (r3.2 = 0))) ∧ ρ 0 = (Value.int .i64 p0) ∧ ρ 1 = (Sl.v p1) ∧ ρ 2 = (Value.int .i64 p2) ∧ ρ 7 = (Value.bool r1) ∧ ρ 8 = (Value.pointer r2.1) ∧ ρ 10 = (Value.pointer r3.1) ∧ True) (fun _ w => w3 = w) ?_ ?_
  · clear h
    rcases Bool.eq_false_or_eq_true ((decide (60 < (p1.len : Int))) || (!decide (r2.2 = 0))) with hc7 | hc7
    · skip
      refine wpR_pass (wantN rfl rfl rfl hc7) rfl rfl ?_
      refine wpR_pass (wantN rfl rfl rfl hc7) rfl rfl ?_
      refine wpR_val (v := (Value.bool true)) (w' := w3) rfl rfl rfl (x_pickT (v := (Value.bool true)) rfl rfl hc7 rfl) ?_
      refine wpR_nil ?_
      exact ⟨(), ⟨(by rw [hc7]; rfl), e0, e1, e2, e7, e8, e10, trivial⟩, rfl⟩
    · skip
      refine wpR_val (v := (Value.int .i64 r3.2)) (w' := w3) (wantG rfl rfl rfl hc7) rfl rfl (x_move (v := (Value.int .i64 r3.2)) rfl e11) ?_
      refine wpR_val (v := (Value.bool (!decide (r3.2 = 0)))) (w' := w3) (wantG rfl rfl rfl hc7) rfl rfl (x_neq rfl rfl rfl) ?_
      refine wpR_val (v := (Value.bool (!decide (r3.2 = 0)))) (w' := w3) rfl rfl rfl (x_pickF (v := (Value.bool (!decide (r3.2 = 0)))) rfl rfl hc7 rfl) ?_
      refine wpR_nil ?_
      exact ⟨(), ⟨(by rw [hc7]; rfl), e0, e1, e2, e7, e8, e10, trivial⟩, rfl⟩
  rintro _ ρ wj ⟨e44, e0, e1, e2, e7, e8, e10, -⟩ rfl
  refine wpR_nil ?_
  refine wpC_cond (b := ((decide (60 < (p1.len : Int))) || (!decide (r2.2 = 0))) || (!decide (r3.2 = 0))) e44 (fun hc8 => ?_) (fun hc8 => ?_)
  · replace h := h.1 hc8
    refine wpC_seq ?_
    refine wpC_region ?_
    refine wpR_val (v := (Value.bool r1)) (w' := w3) rfl rfl rfl (x_move (v := (Value.bool r1)) rfl e7) ?_
    refine wpR_val (v := (Value.bool r1)) (w' := w3) rfl rfl rfl (x_assign (v := (Value.bool r1)) rfl rfl) ?_
    refine wpR_nil ?_
    refine wpC_ret ?_
    exact ⟨.inl rfl, fun a ha => ⟨_, results_rep1 rfl ha rfl, r1, rfl, h⟩⟩
  · replace h := h.2 hc8
    refine wpC_skip ?_
    refine wpC_seq ?_
    refine wpC_seq ?_
    refine wpC_region ?_
    refine wpR_val (v := (Value.pointer r2.1)) (w' := w3) rfl rfl rfl (x_move (v := (Value.pointer r2.1)) rfl e8) ?_
    refine wpR_val (v := (Value.bool r2.1.isNone)) (w' := w3) rfl rfl rfl (x_eqlNil rfl rfl rfl isPtrT_24) ?_
    refine wpR_val (v := (Value.bool r2.1.isNone)) (w' := w3) rfl rfl rfl (x_move (v := (Value.bool r2.1.isNone)) rfl rfl) ?_
    refine wpR_joinJ 3 (fun (_ : Unit) ρ => ρ 51 = Value.bool (r2.1.isNone || r3.1.isNone) ∧ ρ 0 = (Value.int .i64 p0) ∧ ρ 1 = (Sl.v p1) ∧ ρ 2 = (Value.int .i64 p2) ∧ ρ 7 = (Value.bool r1) ∧ ρ 8 = (Value.pointer r2.1) ∧ ρ 10 = (Value.pointer r3.1) ∧ True) (fun _ w => w3 = w) ?_ ?_
    · clear h
      rcases Bool.eq_false_or_eq_true (r2.1.isNone) with hc10 | hc10
      · skip
        refine wpR_pass (wantN rfl rfl rfl hc10) rfl rfl ?_
        refine wpR_pass (wantN rfl rfl rfl hc10) rfl rfl ?_
        refine wpR_val (v := (Value.bool true)) (w' := w3) rfl rfl rfl (x_pickT (v := (Value.bool true)) rfl rfl hc10 rfl) ?_
        refine wpR_nil ?_
        exact ⟨(), ⟨(by rw [hc10]; rfl), e0, e1, e2, e7, e8, e10, trivial⟩, rfl⟩
      · skip
        refine wpR_val (v := (Value.pointer r3.1)) (w' := w3) (wantG rfl rfl rfl hc10) rfl rfl (x_move (v := (Value.pointer r3.1)) rfl e10) ?_
        refine wpR_val (v := (Value.bool r3.1.isNone)) (w' := w3) (wantG rfl rfl rfl hc10) rfl rfl (x_eqlNil rfl rfl rfl isPtrT_31) ?_
        refine wpR_val (v := (Value.bool r3.1.isNone)) (w' := w3) rfl rfl rfl (x_pickF (v := (Value.bool r3.1.isNone)) rfl rfl hc10 rfl) ?_
        refine wpR_nil ?_
        exact ⟨(), ⟨(by rw [hc10]; rfl), e0, e1, e2, e7, e8, e10, trivial⟩, rfl⟩
    rintro _ ρ wj ⟨e51, e0, e1, e2, e7, e8, e10, -⟩ rfl
    refine wpR_nil ?_
    refine wpC_cond (b := r2.1.isNone || r3.1.isNone) e51 (fun hc11 => ?_) (fun hc11 => ?_)
    · replace h := h.1 hc11
      refine wpC_seq ?_
      refine wpC_region ?_
      refine wpR_val (v := (Value.bool false)) (w' := w3) rfl rfl rfl (x_assign (v := (Value.bool false)) rfl rfl) ?_
      refine wpR_nil ?_
      refine wpC_ret ?_
      exact ⟨.inl rfl, fun a ha => ⟨_, results_rep1 rfl ha rfl, false, rfl, h⟩⟩
    · replace h := h.2 hc11
      refine wpC_skip ?_
      refine wpC_seq ?_
      refine wpC_region ?_
      refine wpR_val (v := (Value.int .i64 0)) (w' := w3) rfl rfl rfl (x_assign (v := (Value.int .i64 0)) rfl rfl) ?_
      refine wpR_nil ?_
      refine wpC_seq ?_
      refine wpC_seq ?_
      refine wpC_cut (fun ρ => ρ 0 = (Value.int .i64 p0) ∧ ρ 1 = (Sl.v p1) ∧ ρ 2 = (Value.int .i64 p2) ∧ ρ 7 = (Value.bool r1) ∧ ρ 8 = (Value.pointer r2.1) ∧ ρ 10 = (Value.pointer r3.1) ∧ ρ 12 = (Value.int .i64 0) ∧ True) ⟨e0, e1, e2, e7, e8, e10, rfl, trivial⟩ ?_
      rintro ρ ⟨e0, e1, e2, e7, e8, e10, e12, -⟩
      refine wpC_region ?_
      refine wpR_val (v := (Value.int .i64 0)) (w' := w3) rfl rfl rfl (x_assign (v := (Value.int .i64 0)) rfl rfl) ?_
      refine wpR_nil ?_
      refine wpC_block ?_
      obtain ⟨I12, μ12, hI12, hr12⟩ := h
      refine wpC_loop (fun (x : Int × Int) ρ => ρ 12 = (Value.int .i64 x.1) ∧ ρ 13 = (Value.int .i64 x.2) ∧ ρ 0 = (Value.int .i64 p0) ∧ ρ 1 = (Sl.v p1) ∧ ρ 2 = (Value.int .i64 p2) ∧ ρ 7 = (Value.bool r1) ∧ ρ 8 = (Value.pointer r2.1) ∧ ρ 10 = (Value.pointer r3.1) ∧ True) I12 μ12 (0, 0) ⟨e12, rfl, e0, e1, e2, e7, e8, e10, trivial⟩ hI12 ?_
      rintro l12 ρ w4 ⟨e12, e13, e0, e1, e2, e7, e8, e10, -⟩ h
      replace h := hr12 l12 w4 h
      clear hr12 hI12
      refine wpC_seq ?_
      refine wpC_seq ?_
      refine wpC_region ?_
      refine wpR_val (v := (Value.int .i64 l12.2)) (w' := w4) rfl rfl rfl (x_move (v := (Value.int .i64 l12.2)) rfl e13) ?_
      refine wpR_val (v := (Sl.v p1)) (w' := w4) rfl rfl rfl (x_move (v := (Sl.v p1)) rfl e1) ?_
      refine wpR_val (v := (Value.int .i64 (p1.len : Int))) (w' := w4) rfl rfl rfl (x_lenS (s := p1) rfl rfl isSliceT_51) ?_
      refine wpR_val (v := (Value.bool (decide (l12.2 < (p1.len : Int))))) (w' := w4) rfl rfl rfl (x_lss rfl rfl rfl) ?_
      refine wpR_nil ?_
      refine wpC_cond (b := decide (l12.2 < (p1.len : Int))) rfl (fun hc13 => ?_) (fun hc13 => ?_)
      · replace h := h.1 hc13
        refine wpC_skip ?_
        obtain ⟨J14, h, hk⟩ := h
        refine wpC_seqJ (fun (x : Int) ρ => ρ 12 = (Value.int .i64 x) ∧ ρ 0 = (Value.int .i64 p0) ∧ ρ 1 = (Sl.v p1) ∧ ρ 2 = (Value.int .i64 p2) ∧ ρ 7 = (Value.bool r1) ∧ ρ 8 = (Value.pointer r2.1) ∧ ρ 10 = (Value.pointer r3.1) ∧ ρ 13 = (Value.int .i64 l12.2) ∧ True) J14 ?_ ?_
        · clear hk
          refine wpC_block ?_
          refine wpC_seq ?_
          refine wpC_cut (fun ρ => ρ 0 = (Value.int .i64 p0) ∧ ρ 1 = (Sl.v p1) ∧ ρ 2 = (Value.int .i64 p2) ∧ ρ 7 = (Value.bool r1) ∧ ρ 8 = (Value.pointer r2.1) ∧ ρ 10 = (Value.pointer r3.1) ∧ ρ 12 = (Value.int .i64 l12.1) ∧ ρ 13 = (Value.int .i64 l12.2) ∧ True) ⟨e0, e1, e2, e7, e8, e10, e12, e13, trivial⟩ ?_
          rintro ρ ⟨e0, e1, e2, e7, e8, e10, e12, e13, -⟩
          refine wpC_region ?_
          refine wpR_val (v := (Sl.v p1)) (w' := w4) rfl rfl rfl (x_move (v := (Sl.v p1)) rfl e1) ?_
          refine wpR_val (v := (Value.int .i64 l12.2)) (w' := w4) rfl rfl rfl (x_move (v := (Value.int .i64 l12.2)) rfl e13) ?_
          obtain ⟨q16, z16, r16, h⟩ := h
          generalize hp16 : z16.add ((l12.2 : Int).toNat * 2) = p16 at h
          refine wpR_val (v := (Value.pointer (some p16))) (w' := w4) rfl rfl rfl ((x_indexAddr (s := p1) rfl rfl rfl ES_51 q16 r16).trans (by rw [hp16])) ?_
          refine wpR_val (v := (Value.pointer (some (p16.add 0)))) (w' := w4) rfl rfl rfl (x_fieldAddr rfl rfl FA_53_0) ?_
          obtain ⟨x17, q17, h⟩ := h
          refine wpR_val (v := (Value.int .i64 x17)) (w' := w4) rfl rfl rfl (x_load1 rfl rfl SH_3 q17) ?_
          refine wpR_nil ?_
          refine wpC_block ?_
          refine wpC_seq ?_
          refine wpC_cut (fun ρ => ρ 0 = (Value.int .i64 p0) ∧ ρ 1 = (Sl.v p1) ∧ ρ 2 = (Value.int .i64 p2) ∧ ρ 7 = (Value.bool r1) ∧ ρ 8 = (Value.pointer r2.1) ∧ ρ 10 = (Value.pointer r3.1) ∧ ρ 12 = (Value.int .i64 l12.1) ∧ ρ 13 = (Value.int .i64 l12.2) ∧ ρ 62 = (Value.int .i64 x17) ∧ True) ⟨e0, e1, e2, e7, e8, e10, e12, e13, rfl, trivial⟩ ?_
          rintro ρ ⟨e0, e1, e2, e7, e8, e10, e12, e13, e62, -⟩
          refine wpC_region ?_
          refine wpR_val (v := (Value.bool (decide (x17 = 0)))) (w' := w4) rfl rfl rfl (x_eql rfl e62 rfl) ?_
          refine wpR_val (v := (Value.bool (decide (x17 = 0)))) (w' := w4) rfl rfl rfl (x_assign (v := (Value.bool (decide (x17 = 0)))) rfl rfl) ?_
          refine wpR_nil ?_
          refine wpC_cond (b := decide (x17 = 0)) rfl (fun hc18 => ?_) (fun hc18 => ?_)
          · replace h := h.1 hc18
            refine wpC_seq ?_
            refine wpC_cut (fun ρ => ρ 0 = (Value.int .i64 p0) ∧ ρ 1 = (Sl.v p1) ∧ ρ 2 = (Value.int .i64 p2) ∧ ρ 7 = (Value.bool r1) ∧ ρ 8 = (Value.pointer r2.1) ∧ ρ 10 = (Value.pointer r3.1) ∧ ρ 12 = (Value.int .i64 l12.1) ∧ ρ 13 = (Value.int .i64 l12.2) ∧ True) ⟨e0, e1, e2, e7, e8, e10, e12, e13, trivial⟩ ?_
            rintro ρ ⟨e0, e1, e2, e7, e8, e10, e12, e13, -⟩
            refine wpC_region ?_
            refine wpR_val (v := (Value.pointer r2.1)) (w' := w4) rfl rfl rfl (x_move (v := (Value.pointer r2.1)) rfl e8) ?_
            refine wpR_enter rfl rfl rfl (x_call (vs := [(Value.pointer r2.1)]) rfl rfl (mapl_cons rfl mapl_nil) Try.func12 NN_12 NB_12) (Calls.mono h ?_)
            rintro _ w6 ⟨r19, rfl, h⟩
            refine ⟨_, rfl, ?_⟩
            refine wpR_nil ?_
            refine wpC_cut (fun ρ => ρ 0 = (Value.int .i64 p0) ∧ ρ 1 = (Sl.v p1) ∧ ρ 2 = (Value.int .i64 p2) ∧ ρ 7 = (Value.bool r1) ∧ ρ 8 = (Value.pointer r2.1) ∧ ρ 10 = (Value.pointer r3.1) ∧ ρ 12 = (Value.int .i64 l12.1) ∧ ρ 13 = (Value.int .i64 l12.2) ∧ True) ⟨e0, e1, e2, e7, e8, e10, e12, e13, trivial⟩ ?_
            rintro ρ ⟨e0, e1, e2, e7, e8, e10, e12, e13, -⟩
            refine wpC_region ?_
            refine wpR_val (v := (Value.int .i64 l12.1)) (w' := w6) rfl rfl rfl (x_move (v := (Value.int .i64 l12.1)) rfl e12) ?_
            refine wpR_val (v := (Value.int .i64 (IntKind.i64.wrap (l12.1 + 1)))) (w' := w6) rfl rfl rfl (x_add rfl rfl rfl) ?_
            refine wpR_val (v := (Value.int .i64 (IntKind.i64.wrap (l12.1 + 1)))) (w' := w6) rfl rfl rfl (x_assign (v := (Value.int .i64 (IntKind.i64.wrap (l12.1 + 1)))) rfl rfl) ?_
            refine wpR_nil ?_
            exact ⟨IntKind.i64.wrap (l12.1 + 1), ⟨rfl, e0, e1, e2, e7, e8, e10, e13, trivial⟩, h⟩
          · replace h := h.2 hc18
            refine wpC_seq ?_
            refine wpC_cut (fun ρ => ρ 0 = (Value.int .i64 p0) ∧ ρ 1 = (Sl.v p1) ∧ ρ 2 = (Value.int .i64 p2) ∧ ρ 7 = (Value.bool r1) ∧ ρ 8 = (Value.pointer r2.1) ∧ ρ 10 = (Value.pointer r3.1) ∧ ρ 12 = (Value.int .i64 l12.1) ∧ ρ 13 = (Value.int .i64 l12.2) ∧ ρ 62 = (Value.int .i64 x17) ∧ True) ⟨e0, e1, e2, e7, e8, e10, e12, e13, e62, trivial⟩ ?_
            rintro ρ ⟨e0, e1, e2, e7, e8, e10, e12, e13, e62, -⟩
            refine wpC_region ?_
            refine wpR_val (v := (Value.bool (decide (x17 = 2)))) (w' := w4) rfl rfl rfl (x_eql rfl e62 rfl) ?_
            refine wpR_val (v := (Value.bool (decide (x17 = 2)))) (w' := w4) rfl rfl rfl (x_assign (v := (Value.bool (decide (x17 = 2)))) rfl rfl) ?_
            refine wpR_nil ?_
            refine wpC_cond (b := decide (x17 = 2)) rfl (fun hc20 => ?_) (fun hc20 => ?_)
            · replace h := h.1 hc20
              refine wpC_seq ?_
              refine wpC_cut (fun ρ => ρ 0 = (Value.int .i64 p0) ∧ ρ 1 = (Sl.v p1) ∧ ρ 2 = (Value.int .i64 p2) ∧ ρ 7 = (Value.bool r1) ∧ ρ 8 = (Value.pointer r2.1) ∧ ρ 10 = (Value.pointer r3.1) ∧ ρ 12 = (Value.int .i64 l12.1) ∧ ρ 13 = (Value.int .i64 l12.2) ∧ True) ⟨e0, e1, e2, e7, e8, e10, e12, e13, trivial⟩ ?_
              rintro ρ ⟨e0, e1, e2, e7, e8, e10, e12, e13, -⟩
              refine wpC_region ?_
              refine wpR_val (v := (Value.pointer r2.1)) (w' := w4) rfl rfl rfl (x_move (v := (Value.pointer r2.1)) rfl e8) ?_
              refine wpR_enter rfl rfl rfl (x_call (vs := [(Value.pointer r2.1)]) rfl rfl (mapl_cons rfl mapl_nil) Try.func17 NN_17 NB_17) (Calls.mono h ?_)
              rintro _ w7 ⟨r21, rfl, h⟩
              refine ⟨_, rfl, ?_⟩
              refine wpR_val (v := (Sl.v r21)) (w' := w7) rfl rfl rfl (x_assign (v := (Sl.v r21)) rfl rfl) ?_
              refine wpR_nil ?_
              refine wpC_seq ?_
              refine wpC_cut (fun ρ => ρ 0 = (Value.int .i64 p0) ∧ ρ 1 = (Sl.v p1) ∧ ρ 2 = (Value.int .i64 p2) ∧ ρ 7 = (Value.bool r1) ∧ ρ 8 = (Value.pointer r2.1) ∧ ρ 10 = (Value.pointer r3.1) ∧ ρ 12 = (Value.int .i64 l12.1) ∧ ρ 13 = (Value.int .i64 l12.2) ∧ ρ 14 = (Sl.v r21) ∧ True) ⟨e0, e1, e2, e7, e8, e10, e12, e13, rfl, trivial⟩ ?_
              rintro ρ ⟨e0, e1, e2, e7, e8, e10, e12, e13, e14, -⟩
              refine wpC_region ?_
              refine wpR_val (v := (Sl.v r21)) (w' := w7) rfl rfl rfl (x_move (v := (Sl.v r21)) rfl e14) ?_
              refine wpR_val (v := (Value.int .i64 (r21.len : Int))) (w' := w7) rfl rfl rfl (x_lenS (s := r21) rfl rfl isSliceT_22) ?_
              refine wpR_val (v := (Value.bool (decide (0 < (r21.len : Int))))) (w' := w7) rfl rfl rfl (x_gtr rfl rfl rfl) ?_
              refine wpR_nil ?_
              refine wpC_cond (b := decide (0 < (r21.len : Int))) rfl (fun hc22 => ?_) (fun hc22 => ?_)
              · replace h := h.1 hc22
                refine wpC_cut (fun ρ => ρ 0 = (Value.int .i64 p0) ∧ ρ 1 = (Sl.v p1) ∧ ρ 2 = (Value.int .i64 p2) ∧ ρ 7 = (Value.bool r1) ∧ ρ 8 = (Value.pointer r2.1) ∧ ρ 10 = (Value.pointer r3.1) ∧ ρ 12 = (Value.int .i64 l12.1) ∧ ρ 13 = (Value.int .i64 l12.2) ∧ ρ 14 = (Sl.v r21) ∧ True) ⟨e0, e1, e2, e7, e8, e10, e12, e13, e14, trivial⟩ ?_
                rintro ρ ⟨e0, e1, e2, e7, e8, e10, e12, e13, e14, -⟩
                refine wpC_region ?_
                refine wpR_val (v := (Value.pointer r3.1)) (w' := w7) rfl rfl rfl (x_move (v := (Value.pointer r3.1)) rfl e10) ?_
                refine wpR_val (v := (Sl.v r21)) (w' := w7) rfl rfl rfl (x_move (v := (Sl.v r21)) rfl e14) ?_
                refine wpR_val (v := (Sl.v p1)) (w' := w7) rfl rfl rfl (x_move (v := (Sl.v p1)) rfl e1) ?_
                refine wpR_val (v := (Value.int .i64 l12.2)) (w' := w7) rfl rfl rfl (x_move (v := (Value.int .i64 l12.2)) rfl e13) ?_
                obtain ⟨q23, z23, r23, h⟩ := h
                generalize hp23 : z23.add ((l12.2 : Int).toNat * 2) = p23 at h
                refine wpR_val (v := (Value.pointer (some p23))) (w' := w7) rfl rfl rfl ((x_indexAddr (s := p1) rfl rfl rfl ES_51 q23 r23).trans (by rw [hp23])) ?_
                refine wpR_val (v := (Value.pointer (some (p23.add 1)))) (w' := w7) rfl rfl rfl (x_fieldAddr rfl rfl FA_53_1) ?_
                obtain ⟨x24, q24, h⟩ := h
                refine wpR_val (v := (Value.int .i64 x24)) (w' := w7) rfl rfl rfl (x_load1 rfl rfl SH_3 q24) ?_
                refine wpR_enter rfl rfl rfl (x_call (vs := [(Sl.v r21), (Value.int .i64 x24)]) rfl rfl (mapl_cons rfl (mapl_cons rfl mapl_nil)) Try.func23 NN_23 NB_23) (Calls.mono h ?_)
                rintro _ w8 ⟨r25, rfl, h⟩
                refine ⟨_, rfl, ?_⟩
                refine wpR_enter rfl rfl rfl (x_call (vs := [(Value.pointer r3.1), (Value.int .i64 r25)]) rfl rfl (mapl_cons rfl (mapl_cons rfl mapl_nil)) Try.func20 NN_20 NB_20) (Calls.mono h ?_)
                rintro _ w9 ⟨r26, rfl, h⟩
                refine ⟨_, rfl, ?_⟩
                refine wpR_nil ?_
                exact ⟨l12.1, ⟨e12, e0, e1, e2, e7, e8, e10, e13, trivial⟩, h⟩
              · replace h := h.2 hc22
                refine wpC_skip ?_
                exact ⟨l12.1, ⟨e12, e0, e1, e2, e7, e8, e10, e13, trivial⟩, h⟩
            · replace h := h.2 hc20
              refine wpC_seq ?_
              refine wpC_cut (fun ρ => ρ 0 = (Value.int .i64 p0) ∧ ρ 1 = (Sl.v p1) ∧ ρ 2 = (Value.int .i64 p2) ∧ ρ 7 = (Value.bool r1) ∧ ρ 8 = (Value.pointer r2.1) ∧ ρ 10 = (Value.pointer r3.1) ∧ ρ 12 = (Value.int .i64 l12.1) ∧ ρ 13 = (Value.int .i64 l12.2) ∧ ρ 62 = (Value.int .i64 x17) ∧ True) ⟨e0, e1, e2, e7, e8, e10, e12, e13, e62, trivial⟩ ?_
              rintro ρ ⟨e0, e1, e2, e7, e8, e10, e12, e13, e62, -⟩
              refine wpC_region ?_
              refine wpR_val (v := (Value.bool (decide (x17 = 4)))) (w' := w4) rfl rfl rfl (x_eql rfl e62 rfl) ?_
              refine wpR_val (v := (Value.bool (decide (x17 = 4)))) (w' := w4) rfl rfl rfl (x_assign (v := (Value.bool (decide (x17 = 4)))) rfl rfl) ?_
              refine wpR_nil ?_
              refine wpC_cond (b := decide (x17 = 4)) rfl (fun hc27 => ?_) (fun hc27 => ?_)
              · replace h := h.1 hc27
                refine wpC_cut (fun ρ => ρ 0 = (Value.int .i64 p0) ∧ ρ 1 = (Sl.v p1) ∧ ρ 2 = (Value.int .i64 p2) ∧ ρ 7 = (Value.bool r1) ∧ ρ 8 = (Value.pointer r2.1) ∧ ρ 10 = (Value.pointer r3.1) ∧ ρ 12 = (Value.int .i64 l12.1) ∧ ρ 13 = (Value.int .i64 l12.2) ∧ True) ⟨e0, e1, e2, e7, e8, e10, e12, e13, trivial⟩ ?_
                rintro ρ ⟨e0, e1, e2, e7, e8, e10, e12, e13, -⟩
                refine wpC_region ?_
                refine wpR_val (v := (Value.pointer r2.1)) (w' := w4) rfl rfl rfl (x_move (v := (Value.pointer r2.1)) rfl e8) ?_
                refine wpR_val (v := (Value.pointer r3.1)) (w' := w4) rfl rfl rfl (x_move (v := (Value.pointer r3.1)) rfl e10) ?_
                refine wpR_enter rfl rfl rfl (x_call (vs := [(Value.pointer r3.1)]) rfl rfl (mapl_cons rfl mapl_nil) Try.func22 NN_22 NB_22) (Calls.mono h ?_)
                rintro _ w10 ⟨r28, rfl, h⟩
                refine ⟨_, rfl, ?_⟩
                refine wpR_enter rfl rfl rfl (x_call (vs := [(Value.pointer r2.1), (Value.int .i64 r28)]) rfl rfl (mapl_cons rfl (mapl_cons rfl mapl_nil)) Try.func14 NN_14 NB_14) (Calls.mono h ?_)
                rintro _ w11 ⟨r29, rfl, h⟩
                refine ⟨_, rfl, ?_⟩
                refine wpR_nil ?_
                exact ⟨l12.1, ⟨e12, e0, e1, e2, e7, e8, e10, e13, trivial⟩, h⟩
              · replace h := h.2 hc27
                refine wpC_skip ?_
                exact ⟨l12.1, ⟨e12, e0, e1, e2, e7, e8, e10, e13, trivial⟩, h⟩
        clear h
        rintro l15 ρ w5 ⟨e12, e0, e1, e2, e7, e8, e10, e13, -⟩ h
        replace h := hk l15 w5 h
        clear hk
        refine wpC_region ?_
        refine wpR_val (v := (Value.int .i64 l12.2)) (w' := w5) rfl rfl rfl (x_move (v := (Value.int .i64 l12.2)) rfl e13) ?_
        refine wpR_val (v := (Value.int .i64 (IntKind.i64.wrap (l12.2 + 1)))) (w' := w5) rfl rfl rfl (x_add rfl rfl rfl) ?_
        refine wpR_val (v := (Value.int .i64 (IntKind.i64.wrap (l12.2 + 1)))) (w' := w5) rfl rfl rfl (x_assign (v := (Value.int .i64 (IntKind.i64.wrap (l12.2 + 1)))) rfl rfl) ?_
        refine wpR_nil ?_
        exact ⟨(l15, IntKind.i64.wrap (l12.2 + 1)), ⟨e12, rfl, e0, e1, e2, e7, e8, e10, trivial⟩, h⟩
      · replace h := h.2 hc13
        refine wpC_exit ?_
        refine wpC_seq ?_
        refine wpC_cut (fun ρ => ρ 0 = (Value.int .i64 p0) ∧ ρ 2 = (Value.int .i64 p2) ∧ ρ 7 = (Value.bool r1) ∧ ρ 8 = (Value.pointer r2.1) ∧ ρ 10 = (Value.pointer r3.1) ∧ ρ 12 = (Value.int .i64 l12.1) ∧ True) ⟨e0, e2, e7, e8, e10, e12, trivial⟩ ?_
        rintro ρ ⟨e0, e2, e7, e8, e10, e12, -⟩
        refine wpC_region ?_
        refine wpR_val (v := (Value.pointer r2.1)) (w' := w4) rfl rfl rfl (x_move (v := (Value.pointer r2.1)) rfl e8) ?_
        refine wpR_enter rfl rfl rfl (x_call (vs := [(Value.pointer r2.1)]) rfl rfl (mapl_cons rfl mapl_nil) Try.func24 NN_24 NB_24) (Calls.mono h ?_)
        rintro _ w12 ⟨r30, rfl, h⟩
        refine ⟨_, rfl, ?_⟩
        refine wpR_val (v := (Value.pointer r30)) (w' := w12) rfl rfl rfl (x_assign (v := (Value.pointer r30)) rfl rfl) ?_
        refine wpR_nil ?_
        refine wpC_seq ?_
        refine wpC_cut (fun ρ => ρ 0 = (Value.int .i64 p0) ∧ ρ 2 = (Value.int .i64 p2) ∧ ρ 7 = (Value.bool r1) ∧ ρ 8 = (Value.pointer r2.1) ∧ ρ 10 = (Value.pointer r3.1) ∧ ρ 12 = (Value.int .i64 l12.1) ∧ ρ 15 = (Value.pointer r30) ∧ True) ⟨e0, e2, e7, e8, e10, e12, rfl, trivial⟩ ?_
        rintro ρ ⟨e0, e2, e7, e8, e10, e12, e15, -⟩
        refine wpC_region ?_
        refine wpR_val (v := (Value.pointer r3.1)) (w' := w12) rfl rfl rfl (x_move (v := (Value.pointer r3.1)) rfl e10) ?_
        refine wpR_enter rfl rfl rfl (x_call (vs := [(Value.pointer r3.1)]) rfl rfl (mapl_cons rfl mapl_nil) Try.func25 NN_25 NB_25) (Calls.mono h ?_)
        rintro _ w13 ⟨r31, rfl, h⟩
        refine ⟨_, rfl, ?_⟩
        refine wpR_val (v := (Value.pointer r31)) (w' := w13) rfl rfl rfl (x_assign (v := (Value.pointer r31)) rfl rfl) ?_
        refine wpR_nil ?_
        refine wpC_seq ?_
        refine wpC_seq ?_
        refine wpC_cut (fun ρ => ρ 0 = (Value.int .i64 p0) ∧ ρ 2 = (Value.int .i64 p2) ∧ ρ 7 = (Value.bool r1) ∧ ρ 8 = (Value.pointer r2.1) ∧ ρ 10 = (Value.pointer r3.1) ∧ ρ 12 = (Value.int .i64 l12.1) ∧ ρ 15 = (Value.pointer r30) ∧ ρ 16 = (Value.pointer r31) ∧ True) ⟨e0, e2, e7, e8, e10, e12, e15, rfl, trivial⟩ ?_
        rintro ρ ⟨e0, e2, e7, e8, e10, e12, e15, e16, -⟩
        refine wpC_region ?_
        refine wpR_val (v := (Value.pointer r30)) (w' := w13) rfl rfl rfl (x_move (v := (Value.pointer r30)) rfl e15) ?_
        refine wpR_val (v := (Value.bool r30.isNone)) (w' := w13) rfl rfl rfl (x_eqlNil rfl rfl rfl isPtrT_24) ?_
        refine wpR_val (v := (Value.bool r30.isNone)) (w' := w13) rfl rfl rfl (x_move (v := (Value.bool r30.isNone)) rfl rfl) ?_
        refine wpR_joinJ 3 (fun (_ : Unit) ρ => ρ 100 = Value.bool (r30.isNone || r31.isNone) ∧ ρ 0 = (Value.int .i64 p0) ∧ ρ 2 = (Value.int .i64 p2) ∧ ρ 7 = (Value.bool r1) ∧ ρ 8 = (Value.pointer r2.1) ∧ ρ 10 = (Value.pointer r3.1) ∧ ρ 12 = (Value.int .i64 l12.1) ∧ ρ 15 = (Value.pointer r30) ∧ ρ 16 = (Value.pointer r31) ∧ True) (fun _ w => w13 = w) ?_ ?_
        · clear h
          rcases Bool.eq_false_or_eq_true (r30.isNone) with hc33 | hc33
          · skip
            refine wpR_pass (wantN rfl rfl rfl hc33) rfl rfl ?_
            refine wpR_pass (wantN rfl rfl rfl hc33) rfl rfl ?_
            refine wpR_val (v := (Value.bool true)) (w' := w13) rfl rfl rfl (x_pickT (v := (Value.bool true)) rfl rfl hc33 rfl) ?_
            refine wpR_nil ?_
            exact ⟨(), ⟨(by rw [hc33]; rfl), e0, e2, e7, e8, e10, e12, e15, e16, trivial⟩, rfl⟩
          · skip
            refine wpR_val (v := (Value.pointer r31)) (w' := w13) (wantG rfl rfl rfl hc33) rfl rfl (x_move (v := (Value.pointer r31)) rfl e16) ?_
            refine wpR_val (v := (Value.bool r31.isNone)) (w' := w13) (wantG rfl rfl rfl hc33) rfl rfl (x_eqlNil rfl rfl rfl isPtrT_31) ?_
            refine wpR_val (v := (Value.bool r31.isNone)) (w' := w13) rfl rfl rfl (x_pickF (v := (Value.bool r31.isNone)) rfl rfl hc33 rfl) ?_
            refine wpR_nil ?_
            exact ⟨(), ⟨(by rw [hc33]; rfl), e0, e2, e7, e8, e10, e12, e15, e16, trivial⟩, rfl⟩
        rintro _ ρ wj ⟨e100, e0, e2, e7, e8, e10, e12, e15, e16, -⟩ rfl
        refine wpR_nil ?_
        refine wpC_cond (b := r30.isNone || r31.isNone) e100 (fun hc34 => ?_) (fun hc34 => ?_)
        · replace h := h.1 hc34
          refine wpC_seq ?_
          refine wpC_region ?_
          refine wpR_val (v := (Value.bool false)) (w' := w13) rfl rfl rfl (x_assign (v := (Value.bool false)) rfl rfl) ?_
          refine wpR_nil ?_
          refine wpC_ret ?_
          exact ⟨.inl rfl, fun a ha => ⟨_, results_rep1 rfl ha rfl, false, rfl, h⟩⟩
        · replace h := h.2 hc34
          refine wpC_skip ?_
          refine wpC_seq ?_
          refine wpC_region ?_
          refine wpR_val (v := (Value.pointer r3.1)) (w' := w13) rfl rfl rfl (x_move (v := (Value.pointer r3.1)) rfl e10) ?_
          refine wpR_enter rfl rfl rfl (x_call (vs := [(Value.pointer r3.1)]) rfl rfl (mapl_cons rfl mapl_nil) Try.func22 NN_22 NB_22) (Calls.mono h ?_)
          rintro _ w14 ⟨r35, rfl, h⟩
          refine ⟨_, rfl, ?_⟩
          refine wpR_val (v := (Value.int .i64 r35)) (w' := w14) rfl rfl rfl (x_assign (v := (Value.int .i64 r35)) rfl rfl) ?_
          refine wpR_nil ?_
          refine wpC_seq ?_
          refine wpC_cut (fun ρ => ρ 0 = (Value.int .i64 p0) ∧ ρ 2 = (Value.int .i64 p2) ∧ ρ 7 = (Value.bool r1) ∧ ρ 8 = (Value.pointer r2.1) ∧ ρ 10 = (Value.pointer r3.1) ∧ ρ 12 = (Value.int .i64 l12.1) ∧ ρ 15 = (Value.pointer r30) ∧ ρ 16 = (Value.pointer r31) ∧ ρ 17 = (Value.int .i64 r35) ∧ True) ⟨e0, e2, e7, e8, e10, e12, e15, e16, rfl, trivial⟩ ?_
          rintro ρ ⟨e0, e2, e7, e8, e10, e12, e15, e16, e17, -⟩
          refine wpC_region ?_
          refine wpR_val (v := (Value.pointer r3.1)) (w' := w14) rfl rfl rfl (x_move (v := (Value.pointer r3.1)) rfl e10) ?_
          refine wpR_val (v := (Value.int .i64 p2)) (w' := w14) rfl rfl rfl (x_move (v := (Value.int .i64 p2)) rfl e2) ?_
          refine wpR_enter rfl rfl rfl (x_call (vs := [(Value.pointer r3.1), (Value.int .i64 p2)]) rfl rfl (mapl_cons rfl (mapl_cons rfl mapl_nil)) Try.func20 NN_20 NB_20) (Calls.mono h ?_)
          rintro _ w15 ⟨r36, rfl, h⟩
          refine ⟨_, rfl, ?_⟩
          refine wpR_val (v := (Value.tuple #[(Sl.v r36.1), (Value.int .i64 r36.2)])) (w' := w15) rfl rfl rfl (x_move (v := (Value.tuple #[(Sl.v r36.1), (Value.int .i64 r36.2)])) rfl rfl) ?_
          refine wpR_val (v := (Sl.v r36.1)) (w' := w15) rfl rfl rfl (x_extract rfl rfl rfl) ?_
          refine wpR_val (v := (Value.int .i64 r36.2)) (w' := w15) rfl rfl rfl (x_extract rfl rfl rfl) ?_
          refine wpR_val (v := (Sl.v r36.1)) (w' := w15) rfl rfl rfl (x_assign (v := (Sl.v r36.1)) rfl rfl) ?_
          refine wpR_val (v := (Value.int .i64 r36.2)) (w' := w15) rfl rfl rfl (x_assign (v := (Value.int .i64 r36.2)) rfl rfl) ?_
          refine wpR_nil ?_
          refine wpC_seq ?_
          refine wpC_seq ?_
          refine wpC_cut (fun ρ => ρ 0 = (Value.int .i64 p0) ∧ ρ 2 = (Value.int .i64 p2) ∧ ρ 7 = (Value.bool r1) ∧ ρ 8 = (Value.pointer r2.1) ∧ ρ 10 = (Value.pointer r3.1) ∧ ρ 12 = (Value.int .i64 l12.1) ∧ ρ 15 = (Value.pointer r30) ∧ ρ 16 = (Value.pointer r31) ∧ ρ 17 = (Value.int .i64 r35) ∧ ρ 18 = (Sl.v r36.1) ∧ ρ 19 = (Value.int .i64 r36.2) ∧ True) ⟨e0, e2, e7, e8, e10, e12, e15, e16, e17, rfl, rfl, trivial⟩ ?_
          rintro ρ ⟨e0, e2, e7, e8, e10, e12, e15, e16, e17, e18, e19, -⟩
          refine wpC_region ?_
          refine wpR_val (v := (Value.int .i64 p2)) (w' := w15) rfl rfl rfl (x_move (v := (Value.int .i64 p2)) rfl e2) ?_
          refine wpR_val (v := (Value.int .i64 r35)) (w' := w15) rfl rfl rfl (x_move (v := (Value.int .i64 r35)) rfl e17) ?_
          refine wpR_val (v := (Value.bool (decide (p2 < r35)))) (w' := w15) rfl rfl rfl (x_lss rfl rfl rfl) ?_
          refine wpR_val (v := (Value.bool (decide (p2 < r35)))) (w' := w15) rfl rfl rfl (x_move (v := (Value.bool (decide (p2 < r35)))) rfl rfl) ?_
          refine wpR_joinJ 6 (fun (_ : Unit) ρ => ρ 118 = Value.bool ((decide (p2 < r35)) || (decide (p0 ≤ (IntKind.i64.wrap (p2 - r35))))) ∧ ρ 0 = (Value.int .i64 p0) ∧ ρ 2 = (Value.int .i64 p2) ∧ ρ 7 = (Value.bool r1) ∧ ρ 8 = (Value.pointer r2.1) ∧ ρ 10 = (Value.pointer r3.1) ∧ ρ 12 = (Value.int .i64 l12.1) ∧ ρ 15 = (Value.pointer r30) ∧ ρ 16 = (Value.pointer r31) ∧ ρ 17 = (Value.int .i64 r35) ∧ ρ 18 = (Sl.v r36.1) ∧ ρ 19 = (Value.int .i64 r36.2) ∧ True) (fun _ w => w15 = w) ?_ ?_
          · clear h
            rcases Bool.eq_false_or_eq_true (decide (p2 < r35)) with hc38 | hc38
            · skip
              refine wpR_pass (wantN rfl rfl rfl hc38) rfl rfl ?_
              refine wpR_pass (wantN rfl rfl rfl hc38) rfl rfl ?_
              refine wpR_pass (wantN rfl rfl rfl hc38) rfl rfl ?_
              refine wpR_pass (wantN rfl rfl rfl hc38) rfl rfl ?_
              refine wpR_pass (wantN rfl rfl rfl hc38) rfl rfl ?_
              refine wpR_val (v := (Value.bool true)) (w' := w15) rfl rfl rfl (x_pickT (v := (Value.bool true)) rfl rfl hc38 rfl) ?_
              refine wpR_nil ?_
              exact ⟨(), ⟨(by rw [hc38]; rfl), e0, e2, e7, e8, e10, e12, e15, e16, e17, e18, e19, trivial⟩, rfl⟩
            · skip
              refine wpR_val (v := (Value.int .i64 p2)) (w' := w15) (wantG rfl rfl rfl hc38) rfl rfl (x_move (v := (Value.int .i64 p2)) rfl e2) ?_
              refine wpR_val (v := (Value.int .i64 r35)) (w' := w15) (wantG rfl rfl rfl hc38) rfl rfl (x_move (v := (Value.int .i64 r35)) rfl e17) ?_
              refine wpR_val (v := (Value.int .i64 (IntKind.i64.wrap (p2 - r35)))) (w' := w15) (wantG rfl rfl rfl hc38) rfl rfl (x_sub rfl rfl rfl) ?_
              refine wpR_val (v := (Value.int .i64 p0)) (w' := w15) (wantG rfl rfl rfl hc38) rfl rfl (x_move (v := (Value.int .i64 p0)) rfl e0) ?_
              refine wpR_val (v := (Value.bool (decide (p0 ≤ (IntKind.i64.wrap (p2 - r35)))))) (w' := w15) (wantG rfl rfl rfl hc38) rfl rfl (x_geq rfl rfl rfl) ?_
              refine wpR_val (v := (Value.bool (decide (p0 ≤ (IntKind.i64.wrap (p2 - r35)))))) (w' := w15) rfl rfl rfl (x_pickF (v := (Value.bool (decide (p0 ≤ (IntKind.i64.wrap (p2 - r35)))))) rfl rfl hc38 rfl) ?_
              refine wpR_nil ?_
              exact ⟨(), ⟨(by rw [hc38]; rfl), e0, e2, e7, e8, e10, e12, e15, e16, e17, e18, e19, trivial⟩, rfl⟩
          rintro _ ρ wj ⟨e118, e0, e2, e7, e8, e10, e12, e15, e16, e17, e18, e19, -⟩ rfl
          refine wpR_val (v := (Value.bool ((decide (p2 < r35)) || (decide (p0 ≤ (IntKind.i64.wrap (p2 - r35))))))) (w' := w15) rfl rfl rfl (x_move (v := (Value.bool ((decide (p2 < r35)) || (decide (p0 ≤ (IntKind.i64.wrap (p2 - r35))))))) rfl e118) ?_
          obtain ⟨J39, h, hk⟩ := h
          refine wpR_joinJ 15 (fun x ρ => ρ 134 = Value.bool x ∧ ρ 0 = (Value.int .i64 p0) ∧ ρ 2 = (Value.int .i64 p2) ∧ ρ 7 = (Value.bool r1) ∧ ρ 8 = (Value.pointer r2.1) ∧ ρ 12 = (Value.int .i64 l12.1) ∧ ρ 15 = (Value.pointer r30) ∧ ρ 16 = (Value.pointer r31) ∧ ρ 17 = (Value.int .i64 r35) ∧ True) (J39) ?_ ?_
          · clear hk
            rcases Bool.eq_false_or_eq_true ((decide (p2 < r35)) || (decide (p0 ≤ (IntKind.i64.wrap (p2 - r35))))) with hc40 | hc40
            · replace h := h.1 hc40
              refine wpR_val (v := (Sl.v r36.1)) (w' := w15) (wantG rfl rfl rfl hc40) rfl rfl (x_move (v := (Sl.v r36.1)) rfl e18) ?_
              refine wpR_val (v := (Value.int .i64 (r36.1.len : Int))) (w' := w15) (wantG rfl rfl rfl hc40) rfl rfl (x_lenS (s := r36.1) rfl rfl isSliceT_22) ?_
              refine wpR_val (v := (Value.bool (decide (0 < (r36.1.len : Int))))) (w' := w15) (wantG rfl rfl rfl hc40) rfl rfl (x_gtr rfl rfl rfl) ?_
              refine wpR_val (v := (Value.bool (decide (0 < (r36.1.len : Int))))) (w' := w15) (wantG rfl rfl rfl hc40) rfl rfl (x_move (v := (Value.bool (decide (0 < (r36.1.len : Int))))) rfl rfl) ?_
              refine wpR_joinJ 4 (fun (_ : Unit) ρ => ρ 127 = Value.bool ((decide (0 < (r36.1.len : Int))) || (!decide (r36.2 = r35))) ∧ ρ 0 = (Value.int .i64 p0) ∧ ρ 2 = (Value.int .i64 p2) ∧ ρ 7 = (Value.bool r1) ∧ ρ 8 = (Value.pointer r2.1) ∧ ρ 10 = (Value.pointer r3.1) ∧ ρ 12 = (Value.int .i64 l12.1) ∧ ρ 15 = (Value.pointer r30) ∧ ρ 16 = (Value.pointer r31) ∧ ρ 17 = (Value.int .i64 r35) ∧ ρ 119 = (Value.bool ((decide (p2 < r35)) || (decide (p0 ≤ (IntKind.i64.wrap (p2 - r35)))))) ∧ True) (fun _ w => w15 = w) ?_ ?_
              · clear h
                rcases Bool.eq_false_or_eq_true (decide (0 < (r36.1.len : Int))) with hc42 | hc42
                · skip
                  refine wpR_pass (wantN rfl rfl rfl hc42) rfl rfl ?_
                  refine wpR_pass (wantN rfl rfl rfl hc42) rfl rfl ?_
                  refine wpR_pass (wantN rfl rfl rfl hc42) rfl rfl ?_
                  refine wpR_val (v := (Value.bool true)) (w' := w15) (wantG rfl rfl rfl hc40) rfl rfl (x_pickT (v := (Value.bool true)) rfl rfl hc42 rfl) ?_
                  refine wpR_nil ?_
                  exact ⟨(), ⟨(by rw [hc42]; rfl), e0, e2, e7, e8, e10, e12, e15, e16, e17, rfl, trivial⟩, rfl⟩
                · skip
                  refine wpR_val (v := (Value.int .i64 r36.2)) (w' := w15) (wantG rfl rfl rfl hc42) rfl rfl (x_move (v := (Value.int .i64 r36.2)) rfl e19) ?_
                  refine wpR_val (v := (Value.int .i64 r35)) (w' := w15) (wantG rfl rfl rfl hc42) rfl rfl (x_move (v := (Value.int .i64 r35)) rfl e17) ?_
                  refine wpR_val (v := (Value.bool (!decide (r36.2 = r35)))) (w' := w15) (wantG rfl rfl rfl hc42) rfl rfl (x_neq rfl rfl rfl) ?_
                  refine wpR_val (v := (Value.bool (!decide (r36.2 = r35)))) (w' := w15) (wantG rfl rfl rfl hc40) rfl rfl (x_pickF (v := (Value.bool (!decide (r36.2 = r35)))) rfl rfl hc42 rfl) ?_
                  refine wpR_nil ?_
                  exact ⟨(), ⟨(by rw [hc42]; rfl), e0, e2, e7, e8, e10, e12, e15, e16, e17, rfl, trivial⟩, rfl⟩
              rintro _ ρ wj ⟨e127, e0, e2, e7, e8, e10, e12, e15, e16, e17, e119, -⟩ rfl
              refine wpR_val (v := (Value.bool ((decide (0 < (r36.1.len : Int))) || (!decide (r36.2 = r35))))) (w' := w15) (wantG rfl rfl e119 hc40) rfl rfl (x_move (v := (Value.bool ((decide (0 < (r36.1.len : Int))) || (!decide (r36.2 = r35))))) rfl e127) ?_
              obtain ⟨J43, h, hk⟩ := h
              refine wpR_joinJ 5 (fun x ρ => ρ 133 = Value.bool x ∧ ρ 0 = (Value.int .i64 p0) ∧ ρ 2 = (Value.int .i64 p2) ∧ ρ 7 = (Value.bool r1) ∧ ρ 8 = (Value.pointer r2.1) ∧ ρ 12 = (Value.int .i64 l12.1) ∧ ρ 15 = (Value.pointer r30) ∧ ρ 16 = (Value.pointer r31) ∧ ρ 17 = (Value.int .i64 r35) ∧ ρ 119 = (Value.bool ((decide (p2 < r35)) || (decide (p0 ≤ (IntKind.i64.wrap (p2 - r35)))))) ∧ True) (J43) ?_ ?_
              · clear hk
                rcases Bool.eq_false_or_eq_true ((decide (0 < (r36.1.len : Int))) || (!decide (r36.2 = r35))) with hc44 | hc44
                · replace h := h.1 hc44
                  refine wpR_pass (wantN rfl rfl rfl hc44) rfl rfl ?_
                  refine wpR_pass (wantN rfl rfl rfl hc44) rfl rfl ?_
                  refine wpR_pass (wantN rfl rfl rfl hc44) rfl rfl ?_
                  refine wpR_pass (wantN rfl rfl rfl hc44) rfl rfl ?_
                  refine wpR_val (v := (Value.bool true)) (w' := w15) (wantG rfl rfl e119 hc40) rfl rfl (x_pickT (v := (Value.bool true)) rfl rfl hc44 rfl) ?_
                  refine wpR_nil ?_
                  exact ⟨true, ⟨rfl, e0, e2, e7, e8, e12, e15, e16, e17, e119, trivial⟩, h⟩
                · replace h := h.2 hc44
                  refine wpR_val (v := (Value.pointer r3.1)) (w' := w15) (wantG rfl rfl rfl hc44) rfl rfl (x_move (v := (Value.pointer r3.1)) rfl e10) ?_
                  refine wpR_enter (wantG rfl rfl rfl hc44) rfl rfl (x_call (vs := [(Value.pointer r3.1)]) rfl rfl (mapl_cons rfl mapl_nil) Try.func22 NN_22 NB_22) (Calls.mono h ?_)
                  rintro _ w16 ⟨r45, rfl, h⟩
                  refine ⟨_, rfl, ?_⟩
                  refine wpR_val (v := (Value.int .i64 r35)) (w' := w16) (wantG rfl rfl rfl hc44) rfl rfl (x_move (v := (Value.int .i64 r35)) rfl e17) ?_
                  refine wpR_val (v := (Value.bool (!decide (r45 = r35)))) (w' := w16) (wantG rfl rfl rfl hc44) rfl rfl (x_neq rfl rfl rfl) ?_
                  refine wpR_val (v := (Value.bool (!decide (r45 = r35)))) (w' := w16) (wantG rfl rfl e119 hc40) rfl rfl (x_pickF (v := (Value.bool (!decide (r45 = r35)))) rfl rfl hc44 rfl) ?_
                  refine wpR_nil ?_
                  exact ⟨!decide (r45 = r35), ⟨rfl, e0, e2, e7, e8, e12, e15, e16, e17, e119, trivial⟩, h⟩
              clear h
              rintro c46 ρ w17 ⟨e133, e0, e2, e7, e8, e12, e15, e16, e17, e119, -⟩ h
              replace h := hk c46 w17 h
              clear hk
              refine wpR_val (v := (Value.bool c46)) (w' := w17) rfl rfl rfl (x_pickT (v := (Value.bool c46)) rfl e119 hc40 e133) ?_
              refine wpR_nil ?_
              exact ⟨c46, ⟨rfl, e0, e2, e7, e8, e12, e15, e16, e17, trivial⟩, h⟩
            · replace h := h.2 hc40
              refine wpR_pass (wantN rfl rfl rfl hc40) rfl rfl ?_
              refine wpR_pass (wantN rfl rfl rfl hc40) rfl rfl ?_
              refine wpR_pass (wantN rfl rfl rfl hc40) rfl rfl ?_
              refine wpR_pass (wantN rfl rfl rfl hc40) rfl rfl ?_
              refine wpR_pass (wantU rfl rfl rfl) rfl rfl ?_
              refine wpR_pass (wantU rfl rfl rfl) rfl rfl ?_
              refine wpR_pass (wantU rfl rfl rfl) rfl rfl ?_
              refine wpR_pass (wantN rfl rfl rfl hc40) rfl rfl ?_
              refine wpR_pass (wantN rfl rfl rfl hc40) rfl rfl ?_
              refine wpR_pass (wantU rfl rfl rfl) rfl rfl ?_
              refine wpR_pass (wantU rfl rfl rfl) rfl rfl ?_
              refine wpR_pass (wantU rfl rfl rfl) rfl rfl ?_
              refine wpR_pass (wantU rfl rfl rfl) rfl rfl ?_
              refine wpR_pass (wantN rfl rfl rfl hc40) rfl rfl ?_
              refine wpR_val (v := (Value.bool false)) (w' := w15) rfl rfl rfl (x_pickF (v := (Value.bool false)) rfl rfl hc40 rfl) ?_
              refine wpR_nil ?_
              exact ⟨false, ⟨rfl, e0, e2, e7, e8, e12, e15, e16, e17, trivial⟩, h⟩
          clear h
          rintro c47 ρ w18 ⟨e134, e0, e2, e7, e8, e12, e15, e16, e17, -⟩ h
          replace h := hk c47 w18 h
          clear hk
          refine wpR_nil ?_
          refine wpC_cond (b := c47) e134 (fun hc48 => ?_) (fun hc48 => ?_)
          · replace h := h.1 hc48
            refine wpC_seq ?_
            refine wpC_region ?_
            refine wpR_val (v := (Value.bool false)) (w' := w18) rfl rfl rfl (x_assign (v := (Value.bool false)) rfl rfl) ?_
            refine wpR_nil ?_
            refine wpC_ret ?_
            exact ⟨.inl rfl, fun a ha => ⟨_, results_rep1 rfl ha rfl, false, rfl, h⟩⟩
          · replace h := h.2 hc48
            refine wpC_skip ?_
            refine wpC_seq ?_
            refine wpC_region ?_
            refine wpR_val (v := (Value.pointer r2.1)) (w' := w18) rfl rfl rfl (x_move (v := (Value.pointer r2.1)) rfl e8) ?_
            refine wpR_enter rfl rfl rfl (x_call (vs := [(Value.pointer r2.1)]) rfl rfl (mapl_cons rfl mapl_nil) Try.func19 NN_19 NB_19) (Calls.mono h ?_)
            rintro _ w19 ⟨r49, rfl, h⟩
            refine ⟨_, rfl, ?_⟩
            refine wpR_val (v := (Value.int .i64 r49)) (w' := w19) rfl rfl rfl (x_assign (v := (Value.int .i64 r49)) rfl rfl) ?_
            refine wpR_nil ?_
            refine wpC_seq ?_
            refine wpC_cut (fun ρ => ρ 0 = (Value.int .i64 p0) ∧ ρ 2 = (Value.int .i64 p2) ∧ ρ 7 = (Value.bool r1) ∧ ρ 8 = (Value.pointer r2.1) ∧ ρ 12 = (Value.int .i64 l12.1) ∧ ρ 15 = (Value.pointer r30) ∧ ρ 16 = (Value.pointer r31) ∧ ρ 17 = (Value.int .i64 r35) ∧ ρ 20 = (Value.int .i64 r49) ∧ True) ⟨e0, e2, e7, e8, e12, e15, e16, e17, rfl, trivial⟩ ?_
            rintro ρ ⟨e0, e2, e7, e8, e12, e15, e16, e17, e20, -⟩
            refine wpC_region ?_
            refine wpR_val (v := (Value.int .i64 l12.1)) (w' := w19) rfl rfl rfl (x_move (v := (Value.int .i64 l12.1)) rfl e12) ?_
            refine wpR_val (v := (Value.int .i64 r49)) (w' := w19) rfl rfl rfl (x_move (v := (Value.int .i64 r49)) rfl e20) ?_
            refine wpR_val (v := (Value.int .i64 (IntKind.i64.wrap (l12.1 - r49)))) (w' := w19) rfl rfl rfl (x_sub rfl rfl rfl) ?_
            refine wpR_val (v := (Value.int .i64 (IntKind.i64.wrap (l12.1 - r49)))) (w' := w19) rfl rfl rfl (x_assign (v := (Value.int .i64 (IntKind.i64.wrap (l12.1 - r49)))) rfl rfl) ?_
            refine wpR_nil ?_
            refine wpC_seq ?_
            refine wpC_cut (fun ρ => ρ 0 = (Value.int .i64 p0) ∧ ρ 2 = (Value.int .i64 p2) ∧ ρ 7 = (Value.bool r1) ∧ ρ 8 = (Value.pointer r2.1) ∧ ρ 12 = (Value.int .i64 l12.1) ∧ ρ 15 = (Value.pointer r30) ∧ ρ 16 = (Value.pointer r31) ∧ ρ 17 = (Value.int .i64 r35) ∧ ρ 20 = (Value.int .i64 r49) ∧ ρ 21 = (Value.int .i64 (IntKind.i64.wrap (l12.1 - r49))) ∧ True) ⟨e0, e2, e7, e8, e12, e15, e16, e17, e20, rfl, trivial⟩ ?_
            rintro ρ ⟨e0, e2, e7, e8, e12, e15, e16, e17, e20, e21, -⟩
            refine wpC_region ?_
            refine wpR_val (v := (Value.pointer r2.1)) (w' := w19) rfl rfl rfl (x_move (v := (Value.pointer r2.1)) rfl e8) ?_
            refine wpR_val (v := (Value.int .i64 p2)) (w' := w19) rfl rfl rfl (x_move (v := (Value.int .i64 p2)) rfl e2) ?_
            refine wpR_enter rfl rfl rfl (x_call (vs := [(Value.pointer r2.1), (Value.int .i64 p2)]) rfl rfl (mapl_cons rfl (mapl_cons rfl mapl_nil)) Try.func14 NN_14 NB_14) (Calls.mono h ?_)
            rintro _ w20 ⟨r50, rfl, h⟩
            refine ⟨_, rfl, ?_⟩
            refine wpR_val (v := (Value.int .i64 r50)) (w' := w20) rfl rfl rfl (x_assign (v := (Value.int .i64 r50)) rfl rfl) ?_
            refine wpR_nil ?_
            refine wpC_seq ?_
            refine wpC_seq ?_
            refine wpC_cut (fun ρ => ρ 0 = (Value.int .i64 p0) ∧ ρ 2 = (Value.int .i64 p2) ∧ ρ 7 = (Value.bool r1) ∧ ρ 8 = (Value.pointer r2.1) ∧ ρ 12 = (Value.int .i64 l12.1) ∧ ρ 15 = (Value.pointer r30) ∧ ρ 16 = (Value.pointer r31) ∧ ρ 17 = (Value.int .i64 r35) ∧ ρ 20 = (Value.int .i64 r49) ∧ ρ 21 = (Value.int .i64 (IntKind.i64.wrap (l12.1 - r49))) ∧ ρ 22 = (Value.int .i64 r50) ∧ True) ⟨e0, e2, e7, e8, e12, e15, e16, e17, e20, e21, rfl, trivial⟩ ?_
            rintro ρ ⟨e0, e2, e7, e8, e12, e15, e16, e17, e20, e21, e22, -⟩
            refine wpC_region ?_
            refine wpR_val (v := (Value.int .i64 r50)) (w' := w20) rfl rfl rfl (x_move (v := (Value.int .i64 r50)) rfl e22) ?_
            refine wpR_val (v := (Value.bool (decide (r50 = 0)))) (w' := w20) rfl rfl rfl (x_eql rfl rfl rfl) ?_
            refine wpR_val (v := (Value.int .i64 p2)) (w' := w20) rfl rfl rfl (x_move (v := (Value.int .i64 p2)) rfl e2) ?_
            refine wpR_val (v := (Value.bool (decide (0 ≤ p2)))) (w' := w20) rfl rfl rfl (x_geq rfl rfl rfl) ?_
            refine wpR_val (v := (Value.bool (decide (0 ≤ p2)))) (w' := w20) rfl rfl rfl (x_move (v := (Value.bool (decide (0 ≤ p2)))) rfl rfl) ?_
            refine wpR_joinJ 4 (fun (_ : Unit) ρ => ρ 151 = Value.bool ((decide (0 ≤ p2)) && (decide (p2 ≤ l12.1))) ∧ ρ 0 = (Value.int .i64 p0) ∧ ρ 2 = (Value.int .i64 p2) ∧ ρ 7 = (Value.bool r1) ∧ ρ 8 = (Value.pointer r2.1) ∧ ρ 12 = (Value.int .i64 l12.1) ∧ ρ 15 = (Value.pointer r30) ∧ ρ 16 = (Value.pointer r31) ∧ ρ 17 = (Value.int .i64 r35) ∧ ρ 20 = (Value.int .i64 r49) ∧ ρ 21 = (Value.int .i64 (IntKind.i64.wrap (l12.1 - r49))) ∧ ρ 22 = (Value.int .i64 r50) ∧ ρ 144 = (Value.bool (decide (r50 = 0))) ∧ True) (fun _ w => w20 = w) ?_ ?_
            · clear h
              rcases Bool.eq_false_or_eq_true (decide (0 ≤ p2)) with hc52 | hc52
              · skip
                refine wpR_val (v := (Value.int .i64 p2)) (w' := w20) (wantG rfl rfl rfl hc52) rfl rfl (x_move (v := (Value.int .i64 p2)) rfl e2) ?_
                refine wpR_val (v := (Value.int .i64 l12.1)) (w' := w20) (wantG rfl rfl rfl hc52) rfl rfl (x_move (v := (Value.int .i64 l12.1)) rfl e12) ?_
                refine wpR_val (v := (Value.bool (decide (p2 ≤ l12.1)))) (w' := w20) (wantG rfl rfl rfl hc52) rfl rfl (x_leq rfl rfl rfl) ?_
                refine wpR_val (v := (Value.bool (decide (p2 ≤ l12.1)))) (w' := w20) rfl rfl rfl (x_pickT (v := (Value.bool (decide (p2 ≤ l12.1)))) rfl rfl hc52 rfl) ?_
                refine wpR_nil ?_
                exact ⟨(), ⟨(by rw [hc52]; rfl), e0, e2, e7, e8, e12, e15, e16, e17, e20, e21, e22, rfl, trivial⟩, rfl⟩
              · skip
                refine wpR_pass (wantN rfl rfl rfl hc52) rfl rfl ?_
                refine wpR_pass (wantN rfl rfl rfl hc52) rfl rfl ?_
                refine wpR_pass (wantN rfl rfl rfl hc52) rfl rfl ?_
                refine wpR_val (v := (Value.bool false)) (w' := w20) rfl rfl rfl (x_pickF (v := (Value.bool false)) rfl rfl hc52 rfl) ?_
                refine wpR_nil ?_
                exact ⟨(), ⟨(by rw [hc52]; rfl), e0, e2, e7, e8, e12, e15, e16, e17, e20, e21, e22, rfl, trivial⟩, rfl⟩
            rintro _ ρ wj ⟨e151, e0, e2, e7, e8, e12, e15, e16, e17, e20, e21, e22, e144, -⟩ rfl
            refine wpR_val (v := (Value.bool ((decide (0 ≤ p2)) && (decide (p2 ≤ l12.1))))) (w' := w20) rfl rfl rfl (x_move (v := (Value.bool ((decide (0 ≤ p2)) && (decide (p2 ≤ l12.1))))) rfl e151) ?_
            refine wpR_joinJ 11 (fun (_ : Unit) ρ => ρ 163 = Value.bool (((decide (0 ≤ p2)) && (decide (p2 ≤ l12.1))) && ((decide (p2 ≤ (IntKind.i64.wrap (l12.1 - r49)))) || (decide ((IntKind.i64.wrap (p2 - (IntKind.i64.wrap (l12.1 - r49)))) ≤ p0)))) ∧ ρ 2 = (Value.int .i64 p2) ∧ ρ 7 = (Value.bool r1) ∧ ρ 8 = (Value.pointer r2.1) ∧ ρ 12 = (Value.int .i64 l12.1) ∧ ρ 15 = (Value.pointer r30) ∧ ρ 16 = (Value.pointer r31) ∧ ρ 17 = (Value.int .i64 r35) ∧ ρ 20 = (Value.int .i64 r49) ∧ ρ 21 = (Value.int .i64 (IntKind.i64.wrap (l12.1 - r49))) ∧ ρ 22 = (Value.int .i64 r50) ∧ ρ 144 = (Value.bool (decide (r50 = 0))) ∧ True) (fun _ w => w20 = w) ?_ ?_
            · clear h
              rcases Bool.eq_false_or_eq_true ((decide (0 ≤ p2)) && (decide (p2 ≤ l12.1))) with hc54 | hc54
              · skip
                refine wpR_val (v := (Value.int .i64 p2)) (w' := w20) (wantG rfl rfl rfl hc54) rfl rfl (x_move (v := (Value.int .i64 p2)) rfl e2) ?_
                refine wpR_val (v := (Value.int .i64 (IntKind.i64.wrap (l12.1 - r49)))) (w' := w20) (wantG rfl rfl rfl hc54) rfl rfl (x_move (v := (Value.int .i64 (IntKind.i64.wrap (l12.1 - r49)))) rfl e21) ?_
                refine wpR_val (v := (Value.bool (decide (p2 ≤ (IntKind.i64.wrap (l12.1 - r49)))))) (w' := w20) (wantG rfl rfl rfl hc54) rfl rfl (x_leq rfl rfl rfl) ?_
                refine wpR_val (v := (Value.bool (decide (p2 ≤ (IntKind.i64.wrap (l12.1 - r49)))))) (w' := w20) (wantG rfl rfl rfl hc54) rfl rfl (x_move (v := (Value.bool (decide (p2 ≤ (IntKind.i64.wrap (l12.1 - r49)))))) rfl rfl) ?_
                refine wpR_joinJ 6 (fun (_ : Unit) ρ => ρ 162 = Value.bool ((decide (p2 ≤ (IntKind.i64.wrap (l12.1 - r49)))) || (decide ((IntKind.i64.wrap (p2 - (IntKind.i64.wrap (l12.1 - r49)))) ≤ p0))) ∧ ρ 2 = (Value.int .i64 p2) ∧ ρ 7 = (Value.bool r1) ∧ ρ 8 = (Value.pointer r2.1) ∧ ρ 12 = (Value.int .i64 l12.1) ∧ ρ 15 = (Value.pointer r30) ∧ ρ 16 = (Value.pointer r31) ∧ ρ 17 = (Value.int .i64 r35) ∧ ρ 20 = (Value.int .i64 r49) ∧ ρ 21 = (Value.int .i64 (IntKind.i64.wrap (l12.1 - r49))) ∧ ρ 22 = (Value.int .i64 r50) ∧ ρ 144 = (Value.bool (decide (r50 = 0))) ∧ ρ 152 = (Value.bool ((decide (0 ≤ p2)) && (decide (p2 ≤ l12.1)))) ∧ True) (fun _ w => w20 = w) ?_ ?_
                · clear h
                  rcases Bool.eq_false_or_eq_true (decide (p2 ≤ (IntKind.i64.wrap (l12.1 - r49)))) with hc60 | hc60
                  · skip
                    refine wpR_pass (wantN rfl rfl rfl hc60) rfl rfl ?_
                    refine wpR_pass (wantN rfl rfl rfl hc60) rfl rfl ?_
                    refine wpR_pass (wantN rfl rfl rfl hc60) rfl rfl ?_
                    refine wpR_pass (wantN rfl rfl rfl hc60) rfl rfl ?_
                    refine wpR_pass (wantN rfl rfl rfl hc60) rfl rfl ?_
                    refine wpR_val (v := (Value.bool true)) (w' := w20) (wantG rfl rfl rfl hc54) rfl rfl (x_pickT (v := (Value.bool true)) rfl rfl hc60 rfl) ?_
                    refine wpR_nil ?_
                    exact ⟨(), ⟨(by rw [hc60]; rfl), e2, e7, e8, e12, e15, e16, e17, e20, e21, e22, e144, rfl, trivial⟩, rfl⟩
                  · skip
                    refine wpR_val (v := (Value.int .i64 p2)) (w' := w20) (wantG rfl rfl rfl hc60) rfl rfl (x_move (v := (Value.int .i64 p2)) rfl e2) ?_
                    refine wpR_val (v := (Value.int .i64 (IntKind.i64.wrap (l12.1 - r49)))) (w' := w20) (wantG rfl rfl rfl hc60) rfl rfl (x_move (v := (Value.int .i64 (IntKind.i64.wrap (l12.1 - r49)))) rfl e21) ?_
                    refine wpR_val (v := (Value.int .i64 (IntKind.i64.wrap (p2 - (IntKind.i64.wrap (l12.1 - r49)))))) (w' := w20) (wantG rfl rfl rfl hc60) rfl rfl (x_sub rfl rfl rfl) ?_
                    refine wpR_val (v := (Value.int .i64 p0)) (w' := w20) (wantG rfl rfl rfl hc60) rfl rfl (x_move (v := (Value.int .i64 p0)) rfl e0) ?_
                    refine wpR_val (v := (Value.bool (decide ((IntKind.i64.wrap (p2 - (IntKind.i64.wrap (l12.1 - r49)))) ≤ p0)))) (w' := w20) (wantG rfl rfl rfl hc60) rfl rfl (x_leq rfl rfl rfl) ?_
                    refine wpR_val (v := (Value.bool (decide ((IntKind.i64.wrap (p2 - (IntKind.i64.wrap (l12.1 - r49)))) ≤ p0)))) (w' := w20) (wantG rfl rfl rfl hc54) rfl rfl (x_pickF (v := (Value.bool (decide ((IntKind.i64.wrap (p2 - (IntKind.i64.wrap (l12.1 - r49)))) ≤ p0)))) rfl rfl hc60 rfl) ?_
                    refine wpR_nil ?_
                    exact ⟨(), ⟨(by rw [hc60]; rfl), e2, e7, e8, e12, e15, e16, e17, e20, e21, e22, e144, rfl, trivial⟩, rfl⟩
                rintro _ ρ wj ⟨e162, e2, e7, e8, e12, e15, e16, e17, e20, e21, e22, e144, e152, -⟩ rfl
                refine wpR_val (v := (Value.bool ((decide (p2 ≤ (IntKind.i64.wrap (l12.1 - r49)))) || (decide ((IntKind.i64.wrap (p2 - (IntKind.i64.wrap (l12.1 - r49)))) ≤ p0))))) (w' := w20) rfl rfl rfl (x_pickT (v := (Value.bool ((decide (p2 ≤ (IntKind.i64.wrap (l12.1 - r49)))) || (decide ((IntKind.i64.wrap (p2 - (IntKind.i64.wrap (l12.1 - r49)))) ≤ p0))))) rfl e152 hc54 e162) ?_
                refine wpR_nil ?_
                exact ⟨(), ⟨(by rw [hc54]; rfl), e2, e7, e8, e12, e15, e16, e17, e20, e21, e22, e144, trivial⟩, rfl⟩
              · skip
                refine wpR_pass (wantN rfl rfl rfl hc54) rfl rfl ?_
                refine wpR_pass (wantN rfl rfl rfl hc54) rfl rfl ?_
                refine wpR_pass (wantN rfl rfl rfl hc54) rfl rfl ?_
                refine wpR_pass (wantN rfl rfl rfl hc54) rfl rfl ?_
                refine wpR_pass (wantU rfl rfl rfl) rfl rfl ?_
                refine wpR_pass (wantU rfl rfl rfl) rfl rfl ?_
                refine wpR_pass (wantU rfl rfl rfl) rfl rfl ?_
                refine wpR_pass (wantU rfl rfl rfl) rfl rfl ?_
                refine wpR_pass (wantU rfl rfl rfl) rfl rfl ?_
                refine wpR_pass (wantN rfl rfl rfl hc54) rfl rfl ?_
                refine wpR_val (v := (Value.bool false)) (w' := w20) rfl rfl rfl (x_pickF (v := (Value.bool false)) rfl rfl hc54 rfl) ?_
                refine wpR_nil ?_
                exact ⟨(), ⟨(by rw [hc54]; rfl), e2, e7, e8, e12, e15, e16, e17, e20, e21, e22, e144, trivial⟩, rfl⟩
            rintro _ ρ wj ⟨e163, e2, e7, e8, e12, e15, e16, e17, e20, e21, e22, e144, -⟩ rfl
            refine wpR_val (v := (Value.bool (!((decide (r50 = 0)) == (((decide (0 ≤ p2)) && (decide (p2 ≤ l12.1))) && ((decide (p2 ≤ (IntKind.i64.wrap (l12.1 - r49)))) || (decide ((IntKind.i64.wrap (p2 - (IntKind.i64.wrap (l12.1 - r49)))) ≤ p0)))))))) (w' := w20) rfl rfl rfl (x_neqB rfl e144 e163 isBoolT_4) ?_
            refine wpR_val (v := (Value.bool (!((decide (r50 = 0)) == (((decide (0 ≤ p2)) && (decide (p2 ≤ l12.1))) && ((decide (p2 ≤ (IntKind.i64.wrap (l12.1 - r49)))) || (decide ((IntKind.i64.wrap (p2 - (IntKind.i64.wrap (l12.1 - r49)))) ≤ p0)))))))) (w' := w20) rfl rfl rfl (x_move (v := (Value.bool (!((decide (r50 = 0)) == (((decide (0 ≤ p2)) && (decide (p2 ≤ l12.1))) && ((decide (p2 ≤ (IntKind.i64.wrap (l12.1 - r49)))) || (decide ((IntKind.i64.wrap (p2 - (IntKind.i64.wrap (l12.1 - r49)))) ≤ p0)))))))) rfl rfl) ?_
            obtain ⟨J61, h, hk⟩ := h
            refine wpR_joinJ 13 (fun x ρ => ρ 178 = Value.bool x ∧ ρ 2 = (Value.int .i64 p2) ∧ ρ 7 = (Value.bool r1) ∧ ρ 8 = (Value.pointer r2.1) ∧ ρ 12 = (Value.int .i64 l12.1) ∧ ρ 15 = (Value.pointer r30) ∧ ρ 16 = (Value.pointer r31) ∧ ρ 17 = (Value.int .i64 r35) ∧ ρ 20 = (Value.int .i64 r49) ∧ ρ 21 = (Value.int .i64 (IntKind.i64.wrap (l12.1 - r49))) ∧ ρ 22 = (Value.int .i64 r50) ∧ True) (J61) ?_ ?_
            · clear hk
              rcases Bool.eq_false_or_eq_true (!((decide (r50 = 0)) == (((decide (0 ≤ p2)) && (decide (p2 ≤ l12.1))) && ((decide (p2 ≤ (IntKind.i64.wrap (l12.1 - r49)))) || (decide ((IntKind.i64.wrap (p2 - (IntKind.i64.wrap (l12.1 - r49)))) ≤ p0)))))) with hc62 | hc62
              · replace h := h.1 hc62
                refine wpR_pass (wantN rfl rfl rfl hc62) rfl rfl ?_
                refine wpR_pass (wantN rfl rfl rfl hc62) rfl rfl ?_
                refine wpR_pass (wantN rfl rfl rfl hc62) rfl rfl ?_
                refine wpR_pass (wantU rfl rfl rfl) rfl rfl ?_
                refine wpR_pass (wantU rfl rfl rfl) rfl rfl ?_
                refine wpR_pass (wantU rfl rfl rfl) rfl rfl ?_
                refine wpR_pass (wantU rfl rfl rfl) rfl rfl ?_
                refine wpR_pass (wantU rfl rfl rfl) rfl rfl ?_
                refine wpR_pass (wantU rfl rfl rfl) rfl rfl ?_
                refine wpR_pass (wantU rfl rfl rfl) rfl rfl ?_
                refine wpR_pass (wantU rfl rfl rfl) rfl rfl ?_
                refine wpR_pass (wantN rfl rfl rfl hc62) rfl rfl ?_
                refine wpR_val (v := (Value.bool true)) (w' := w20) rfl rfl rfl (x_pickT (v := (Value.bool true)) rfl rfl hc62 rfl) ?_
                refine wpR_nil ?_
                exact ⟨true, ⟨rfl, e2, e7, e8, e12, e15, e16, e17, e20, e21, e22, trivial⟩, h⟩
              · replace h := h.2 hc62
                refine wpR_val (v := (Value.int .i64 r50)) (w' := w20) (wantG rfl rfl rfl hc62) rfl rfl (x_move (v := (Value.int .i64 r50)) rfl e22) ?_
                refine wpR_val (v := (Value.bool (!decide (r50 = 0)))) (w' := w20) (wantG rfl rfl rfl hc62) rfl rfl (x_neq rfl rfl rfl) ?_
                refine wpR_val (v := (Value.bool (!decide (r50 = 0)))) (w' := w20) (wantG rfl rfl rfl hc62) rfl rfl (x_move (v := (Value.bool (!decide (r50 = 0)))) rfl rfl) ?_
                obtain ⟨J63, h, hk⟩ := h
                refine wpR_joinJ 9 (fun x ρ => ρ 177 = Value.bool x ∧ ρ 2 = (Value.int .i64 p2) ∧ ρ 7 = (Value.bool r1) ∧ ρ 8 = (Value.pointer r2.1) ∧ ρ 12 = (Value.int .i64 l12.1) ∧ ρ 15 = (Value.pointer r30) ∧ ρ 16 = (Value.pointer r31) ∧ ρ 17 = (Value.int .i64 r35) ∧ ρ 20 = (Value.int .i64 r49) ∧ ρ 21 = (Value.int .i64 (IntKind.i64.wrap (l12.1 - r49))) ∧ ρ 22 = (Value.int .i64 r50) ∧ ρ 165 = (Value.bool (!((decide (r50 = 0)) == (((decide (0 ≤ p2)) && (decide (p2 ≤ l12.1))) && ((decide (p2 ≤ (IntKind.i64.wrap (l12.1 - r49)))) || (decide ((IntKind.i64.wrap (p2 - (IntKind.i64.wrap (l12.1 - r49)))) ≤ p0))))))) ∧ True) (J63) ?_ ?_
                · clear hk
                  rcases Bool.eq_false_or_eq_true (!decide (r50 = 0)) with hc64 | hc64
                  · replace h := h.1 hc64
                    refine wpR_val (v := (Value.int .i64 r50)) (w' := w20) (wantG rfl rfl rfl hc64) rfl rfl (x_move (v := (Value.int .i64 r50)) rfl e22) ?_
                    refine wpR_val (v := (Value.bool (!decide (r50 = 1)))) (w' := w20) (wantG rfl rfl rfl hc64) rfl rfl (x_neq rfl rfl rfl) ?_
                    refine wpR_val (v := (Value.bool (!decide (r50 = 1)))) (w' := w20) (wantG rfl rfl rfl hc64) rfl rfl (x_move (v := (Value.bool (!decide (r50 = 1)))) rfl rfl) ?_
                    obtain ⟨J65, h, hk⟩ := h
                    refine wpR_joinJ 5 (fun x ρ => ρ 176 = Value.bool x ∧ ρ 2 = (Value.int .i64 p2) ∧ ρ 7 = (Value.bool r1) ∧ ρ 8 = (Value.pointer r2.1) ∧ ρ 12 = (Value.int .i64 l12.1) ∧ ρ 15 = (Value.pointer r30) ∧ ρ 16 = (Value.pointer r31) ∧ ρ 17 = (Value.int .i64 r35) ∧ ρ 20 = (Value.int .i64 r49) ∧ ρ 21 = (Value.int .i64 (IntKind.i64.wrap (l12.1 - r49))) ∧ ρ 22 = (Value.int .i64 r50) ∧ ρ 165 = (Value.bool (!((decide (r50 = 0)) == (((decide (0 ≤ p2)) && (decide (p2 ≤ l12.1))) && ((decide (p2 ≤ (IntKind.i64.wrap (l12.1 - r49)))) || (decide ((IntKind.i64.wrap (p2 - (IntKind.i64.wrap (l12.1 - r49)))) ≤ p0))))))) ∧ ρ 168 = (Value.bool (!decide (r50 = 0))) ∧ True) (J65) ?_ ?_
                    · clear hk
                      rcases Bool.eq_false_or_eq_true (!decide (r50 = 1)) with hc66 | hc66
                      · replace h := h.1 hc66
                        refine wpR_pass (wantN rfl rfl rfl hc66) rfl rfl ?_
                        refine wpR_pass (wantN rfl rfl rfl hc66) rfl rfl ?_
                        refine wpR_pass (wantN rfl rfl rfl hc66) rfl rfl ?_
                        refine wpR_pass (wantN rfl rfl rfl hc66) rfl rfl ?_
                        refine wpR_val (v := (Value.bool true)) (w' := w20) (wantG rfl rfl rfl hc64) rfl rfl (x_pickT (v := (Value.bool true)) rfl rfl hc66 rfl) ?_
                        refine wpR_nil ?_
                        exact ⟨true, ⟨rfl, e2, e7, e8, e12, e15, e16, e17, e20, e21, e22, rfl, rfl, trivial⟩, h⟩
                      · replace h := h.2 hc66
                        refine wpR_val (v := (Value.pointer r2.1)) (w' := w20) (wantG rfl rfl rfl hc66) rfl rfl (x_move (v := (Value.pointer r2.1)) rfl e8) ?_
                        refine wpR_enter (wantG rfl rfl rfl hc66) rfl rfl (x_call (vs := [(Value.pointer r2.1)]) rfl rfl (mapl_cons rfl mapl_nil) Try.func19 NN_19 NB_19) (Calls.mono h ?_)
                        rintro _ w21 ⟨r67, rfl, h⟩
                        refine ⟨_, rfl, ?_⟩
                        refine wpR_val (v := (Value.int .i64 r49)) (w' := w21) (wantG rfl rfl rfl hc66) rfl rfl (x_move (v := (Value.int .i64 r49)) rfl e20) ?_
                        refine wpR_val (v := (Value.bool (!decide (r67 = r49)))) (w' := w21) (wantG rfl rfl rfl hc66) rfl rfl (x_neq rfl rfl rfl) ?_
                        refine wpR_val (v := (Value.bool (!decide (r67 = r49)))) (w' := w21) (wantG rfl rfl rfl hc64) rfl rfl (x_pickF (v := (Value.bool (!decide (r67 = r49)))) rfl rfl hc66 rfl) ?_
                        refine wpR_nil ?_
                        exact ⟨!decide (r67 = r49), ⟨rfl, e2, e7, e8, e12, e15, e16, e17, e20, e21, e22, rfl, rfl, trivial⟩, h⟩
                    clear h
                    rintro c68 ρ w22 ⟨e176, e2, e7, e8, e12, e15, e16, e17, e20, e21, e22, e165, e168, -⟩ h
                    replace h := hk c68 w22 h
                    clear hk
                    refine wpR_val (v := (Value.bool c68)) (w' := w22) (wantG rfl rfl e165 hc62) rfl rfl (x_pickT (v := (Value.bool c68)) rfl e168 hc64 e176) ?_
                    refine wpR_nil ?_
                    exact ⟨c68, ⟨rfl, e2, e7, e8, e12, e15, e16, e17, e20, e21, e22, e165, trivial⟩, h⟩
                  · replace h := h.2 hc64
                    refine wpR_pass (wantN rfl rfl rfl hc64) rfl rfl ?_
                    refine wpR_pass (wantN rfl rfl rfl hc64) rfl rfl ?_
                    refine wpR_pass (wantN rfl rfl rfl hc64) rfl rfl ?_
                    refine wpR_pass (wantU rfl rfl rfl) rfl rfl ?_
                    refine wpR_pass (wantU rfl rfl rfl) rfl rfl ?_
                    refine wpR_pass (wantU rfl rfl rfl) rfl rfl ?_
                    refine wpR_pass (wantU rfl rfl rfl) rfl rfl ?_
                    refine wpR_pass (wantN rfl rfl rfl hc64) rfl rfl ?_
                    refine wpR_val (v := (Value.bool false)) (w' := w20) (wantG rfl rfl rfl hc62) rfl rfl (x_pickF (v := (Value.bool false)) rfl rfl hc64 rfl) ?_
                    refine wpR_nil ?_
                    exact ⟨false, ⟨rfl, e2, e7, e8, e12, e15, e16, e17, e20, e21, e22, rfl, trivial⟩, h⟩
                clear h
                rintro c69 ρ w23 ⟨e177, e2, e7, e8, e12, e15, e16, e17, e20, e21, e22, e165, -⟩ h
                replace h := hk c69 w23 h
                clear hk
                refine wpR_val (v := (Value.bool c69)) (w' := w23) rfl rfl rfl (x_pickF (v := (Value.bool c69)) rfl e165 hc62 e177) ?_
                refine wpR_nil ?_
                exact ⟨c69, ⟨rfl, e2, e7, e8, e12, e15, e16, e17, e20, e21, e22, trivial⟩, h⟩
            clear h
            rintro c70 ρ w24 ⟨e178, e2, e7, e8, e12, e15, e16, e17, e20, e21, e22, -⟩ h
            replace h := hk c70 w24 h
            clear hk
            refine wpR_nil ?_
            refine wpC_cond (b := c70) e178 (fun hc71 => ?_) (fun hc71 => ?_)
            · replace h := h.1 hc71
              refine wpC_seq ?_
              refine wpC_region ?_
              refine wpR_val (v := (Value.bool false)) (w' := w24) rfl rfl rfl (x_assign (v := (Value.bool false)) rfl rfl) ?_
              refine wpR_nil ?_
              refine wpC_ret ?_
              exact ⟨.inl rfl, fun a ha => ⟨_, results_rep1 rfl ha rfl, false, rfl, h⟩⟩
            · replace h := h.2 hc71
              refine wpC_skip ?_
              refine wpC_seq ?_
              refine wpC_region ?_
              refine wpR_val (v := (Value.pointer r30)) (w' := w24) rfl rfl rfl (x_move (v := (Value.pointer r30)) rfl e15) ?_
              refine wpR_enter rfl rfl rfl (x_call (vs := [(Value.pointer r30)]) rfl rfl (mapl_cons rfl mapl_nil) Try.func12 NN_12 NB_12) (Calls.mono h ?_)
              rintro _ w25 ⟨r72, rfl, h⟩
              refine ⟨_, rfl, ?_⟩
              refine wpR_nil ?_
              refine wpC_seq ?_
              refine wpC_cut (fun ρ => ρ 2 = (Value.int .i64 p2) ∧ ρ 7 = (Value.bool r1) ∧ ρ 8 = (Value.pointer r2.1) ∧ ρ 12 = (Value.int .i64 l12.1) ∧ ρ 15 = (Value.pointer r30) ∧ ρ 16 = (Value.pointer r31) ∧ ρ 17 = (Value.int .i64 r35) ∧ ρ 20 = (Value.int .i64 r49) ∧ ρ 21 = (Value.int .i64 (IntKind.i64.wrap (l12.1 - r49))) ∧ ρ 22 = (Value.int .i64 r50) ∧ True) ⟨e2, e7, e8, e12, e15, e16, e17, e20, e21, e22, trivial⟩ ?_
              rintro ρ ⟨e2, e7, e8, e12, e15, e16, e17, e20, e21, e22, -⟩
              refine wpC_region ?_
              refine wpR_val (v := (Value.bool r1)) (w' := w25) rfl rfl rfl (x_move (v := (Value.bool r1)) rfl e7) ?_
              refine wpR_val (v := (Value.bool r1)) (w' := w25) rfl rfl rfl (x_move (v := (Value.bool r1)) rfl rfl) ?_
              obtain ⟨J73, h, hk⟩ := h
              refine wpR_joinJ 6 (fun x ρ => ρ 188 = Value.bool x ∧ ρ 2 = (Value.int .i64 p2) ∧ ρ 8 = (Value.pointer r2.1) ∧ ρ 12 = (Value.int .i64 l12.1) ∧ ρ 16 = (Value.pointer r31) ∧ ρ 17 = (Value.int .i64 r35) ∧ ρ 21 = (Value.int .i64 (IntKind.i64.wrap (l12.1 - r49))) ∧ ρ 22 = (Value.int .i64 r50) ∧ True) (J73) ?_ ?_
              · clear hk
                rcases Bool.eq_false_or_eq_true (r1) with hc74 | hc74
                · replace h := h.1 hc74
                  refine wpR_val (v := (Value.pointer r30)) (w' := w25) (wantG rfl rfl rfl hc74) rfl rfl (x_move (v := (Value.pointer r30)) rfl e15) ?_
                  refine wpR_enter (wantG rfl rfl rfl hc74) rfl rfl (x_call (vs := [(Value.pointer r30)]) rfl rfl (mapl_cons rfl mapl_nil) Try.func19 NN_19 NB_19) (Calls.mono h ?_)
                  rintro _ w26 ⟨r75, rfl, h⟩
                  refine ⟨_, rfl, ?_⟩
                  refine wpR_val (v := (Value.int .i64 r49)) (w' := w26) (wantG rfl rfl rfl hc74) rfl rfl (x_move (v := (Value.int .i64 r49)) rfl e20) ?_
                  refine wpR_val (v := (Value.int .i64 (IntKind.i64.wrap (r49 + 1)))) (w' := w26) (wantG rfl rfl rfl hc74) rfl rfl (x_add rfl rfl rfl) ?_
                  refine wpR_val (v := (Value.bool (decide (r75 = (IntKind.i64.wrap (r49 + 1)))))) (w' := w26) (wantG rfl rfl rfl hc74) rfl rfl (x_eql rfl rfl rfl) ?_
                  refine wpR_val (v := (Value.bool (decide (r75 = (IntKind.i64.wrap (r49 + 1)))))) (w' := w26) rfl rfl rfl (x_pickT (v := (Value.bool (decide (r75 = (IntKind.i64.wrap (r49 + 1)))))) rfl rfl hc74 rfl) ?_
                  refine wpR_nil ?_
                  exact ⟨decide (r75 = (IntKind.i64.wrap (r49 + 1))), ⟨rfl, e2, e8, e12, e16, e17, e21, e22, trivial⟩, h⟩
                · replace h := h.2 hc74
                  refine wpR_pass (wantN rfl rfl rfl hc74) rfl rfl ?_
                  refine wpR_pass (wantN rfl rfl rfl hc74) rfl rfl ?_
                  refine wpR_pass (wantN rfl rfl rfl hc74) rfl rfl ?_
                  refine wpR_pass (wantN rfl rfl rfl hc74) rfl rfl ?_
                  refine wpR_pass (wantN rfl rfl rfl hc74) rfl rfl ?_
                  refine wpR_val (v := (Value.bool false)) (w' := w25) rfl rfl rfl (x_pickF (v := (Value.bool false)) rfl rfl hc74 rfl) ?_
                  refine wpR_nil ?_
                  exact ⟨false, ⟨rfl, e2, e8, e12, e16, e17, e21, e22, trivial⟩, h⟩
              clear h
              rintro c76 ρ w27 ⟨e188, e2, e8, e12, e16, e17, e21, e22, -⟩ h
              replace h := hk c76 w27 h
              clear hk
              refine wpR_val (v := (Value.bool c76)) (w' := w27) rfl rfl rfl (x_move (v := (Value.bool c76)) rfl e188) ?_
              obtain ⟨J77, h, hk⟩ := h
              refine wpR_joinJ 5 (fun x ρ => ρ 194 = Value.bool x ∧ ρ 2 = (Value.int .i64 p2) ∧ ρ 8 = (Value.pointer r2.1) ∧ ρ 12 = (Value.int .i64 l12.1) ∧ ρ 21 = (Value.int .i64 (IntKind.i64.wrap (l12.1 - r49))) ∧ ρ 22 = (Value.int .i64 r50) ∧ True) (J77) ?_ ?_
              · clear hk
                rcases Bool.eq_false_or_eq_true (c76) with hc78 | hc78
                · replace h := h.1 hc78
                  refine wpR_val (v := (Value.pointer r31)) (w' := w27) (wantG rfl rfl rfl hc78) rfl rfl (x_move (v := (Value.pointer r31)) rfl e16) ?_
                  refine wpR_enter (wantG rfl rfl rfl hc78) rfl rfl (x_call (vs := [(Value.pointer r31)]) rfl rfl (mapl_cons rfl mapl_nil) Try.func22 NN_22 NB_22) (Calls.mono h ?_)
                  rintro _ w28 ⟨r79, rfl, h⟩
                  refine ⟨_, rfl, ?_⟩
                  refine wpR_val (v := (Value.int .i64 r35)) (w' := w28) (wantG rfl rfl rfl hc78) rfl rfl (x_move (v := (Value.int .i64 r35)) rfl e17) ?_
                  refine wpR_val (v := (Value.bool (decide (r79 = r35)))) (w' := w28) (wantG rfl rfl rfl hc78) rfl rfl (x_eql rfl rfl rfl) ?_
                  refine wpR_val (v := (Value.bool (decide (r79 = r35)))) (w' := w28) rfl rfl rfl (x_pickT (v := (Value.bool (decide (r79 = r35)))) rfl rfl hc78 rfl) ?_
                  refine wpR_nil ?_
                  exact ⟨decide (r79 = r35), ⟨rfl, e2, e8, e12, e21, e22, trivial⟩, h⟩
                · replace h := h.2 hc78
                  refine wpR_pass (wantN rfl rfl rfl hc78) rfl rfl ?_
                  refine wpR_pass (wantN rfl rfl rfl hc78) rfl rfl ?_
                  refine wpR_pass (wantN rfl rfl rfl hc78) rfl rfl ?_
                  refine wpR_pass (wantN rfl rfl rfl hc78) rfl rfl ?_
                  refine wpR_val (v := (Value.bool false)) (w' := w27) rfl rfl rfl (x_pickF (v := (Value.bool false)) rfl rfl hc78 rfl) ?_
                  refine wpR_nil ?_
                  exact ⟨false, ⟨rfl, e2, e8, e12, e21, e22, trivial⟩, h⟩
              clear h
              rintro c80 ρ w29 ⟨e194, e2, e8, e12, e21, e22, -⟩ h
              replace h := hk c80 w29 h
              clear hk
              refine wpR_val (v := (Value.bool c80)) (w' := w29) rfl rfl rfl (x_move (v := (Value.bool c80)) rfl e194) ?_
              obtain ⟨J81, h, hk⟩ := h
              refine wpR_joinJ 13 (fun x ρ => ρ 208 = Value.bool x ∧ True) (J81) ?_ ?_
              · clear hk
                rcases Bool.eq_false_or_eq_true (c80) with hc82 | hc82
                · replace h := h.1 hc82
                  refine wpR_val (v := (Value.int .i64 r50)) (w' := w29) (wantG rfl rfl rfl hc82) rfl rfl (x_move (v := (Value.int .i64 r50)) rfl e22) ?_
                  refine wpR_val (v := (Value.bool (!decide (r50 = 0)))) (w' := w29) (wantG rfl rfl rfl hc82) rfl rfl (x_neq rfl rfl rfl) ?_
                  refine wpR_val (v := (Value.bool (!decide (r50 = 0)))) (w' := w29) (wantG rfl rfl rfl hc82) rfl rfl (x_move (v := (Value.bool (!decide (r50 = 0)))) rfl rfl) ?_
                  obtain ⟨J83, h, hk⟩ := h
                  refine wpR_joinJ 9 (fun x ρ => ρ 207 = Value.bool x ∧ ρ 195 = (Value.bool c80) ∧ True) (J83) ?_ ?_
                  · clear hk
                    rcases Bool.eq_false_or_eq_true (!decide (r50 = 0)) with hc84 | hc84
                    · replace h := h.1 hc84
                      refine wpR_pass (wantN rfl rfl rfl hc84) rfl rfl ?_
                      refine wpR_pass (wantN rfl rfl rfl hc84) rfl rfl ?_
                      refine wpR_pass (wantN rfl rfl rfl hc84) rfl rfl ?_
                      refine wpR_pass (wantN rfl rfl rfl hc84) rfl rfl ?_
                      refine wpR_pass (wantN rfl rfl rfl hc84) rfl rfl ?_
                      refine wpR_pass (wantN rfl rfl rfl hc84) rfl rfl ?_
                      refine wpR_pass (wantN rfl rfl rfl hc84) rfl rfl ?_
                      refine wpR_pass (wantN rfl rfl rfl hc84) rfl rfl ?_
                      refine wpR_val (v := (Value.bool true)) (w' := w29) (wantG rfl rfl rfl hc82) rfl rfl (x_pickT (v := (Value.bool true)) rfl rfl hc84 rfl) ?_
                      refine wpR_nil ?_
                      exact ⟨true, ⟨rfl, rfl, trivial⟩, h⟩
                    · replace h := h.2 hc84
                      refine wpR_val (v := (Value.pointer r2.1)) (w' := w29) (wantG rfl rfl rfl hc84) rfl rfl (x_move (v := (Value.pointer r2.1)) rfl e8) ?_
                      refine wpR_enter (wantG rfl rfl rfl hc84) rfl rfl (x_call (vs := [(Value.pointer r2.1)]) rfl rfl (mapl_cons rfl mapl_nil) Try.func19 NN_19 NB_19) (Calls.mono h ?_)
                      rintro _ w30 ⟨r85, rfl, h⟩
                      refine ⟨_, rfl, ?_⟩
                      refine wpR_val (v := (Value.int .i64 l12.1)) (w' := w30) (wantG rfl rfl rfl hc84) rfl rfl (x_move (v := (Value.int .i64 l12.1)) rfl e12) ?_
                      refine wpR_val (v := (Value.int .i64 p2)) (w' := w30) (wantG rfl rfl rfl hc84) rfl rfl (x_move (v := (Value.int .i64 p2)) rfl e2) ?_
                      refine wpR_val (v := (Value.int .i64 (IntKind.i64.wrap (l12.1 - r49)))) (w' := w30) (wantG rfl rfl rfl hc84) rfl rfl (x_move (v := (Value.int .i64 (IntKind.i64.wrap (l12.1 - r49)))) rfl e21) ?_
                      refine wpR_val (v := (Value.int .i64 (max p2 (IntKind.i64.wrap (l12.1 - r49))))) (w' := w30) (wantG rfl rfl rfl hc84) rfl rfl (x_max rfl rfl rfl) ?_
                      refine wpR_val (v := (Value.int .i64 (IntKind.i64.wrap (l12.1 - (max p2 (IntKind.i64.wrap (l12.1 - r49))))))) (w' := w30) (wantG rfl rfl rfl hc84) rfl rfl (x_sub rfl rfl rfl) ?_
                      refine wpR_val (v := (Value.bool (decide (r85 = (IntKind.i64.wrap (l12.1 - (max p2 (IntKind.i64.wrap (l12.1 - r49))))))))) (w' := w30) (wantG rfl rfl rfl hc84) rfl rfl (x_eql rfl rfl rfl) ?_
                      refine wpR_val (v := (Value.bool (decide (r85 = (IntKind.i64.wrap (l12.1 - (max p2 (IntKind.i64.wrap (l12.1 - r49))))))))) (w' := w30) (wantG rfl rfl rfl hc82) rfl rfl (x_pickF (v := (Value.bool (decide (r85 = (IntKind.i64.wrap (l12.1 - (max p2 (IntKind.i64.wrap (l12.1 - r49))))))))) rfl rfl hc84 rfl) ?_
                      refine wpR_nil ?_
                      exact ⟨decide (r85 = (IntKind.i64.wrap (l12.1 - (max p2 (IntKind.i64.wrap (l12.1 - r49)))))), ⟨rfl, rfl, trivial⟩, h⟩
                  clear h
                  rintro c86 ρ w31 ⟨e207, e195, -⟩ h
                  replace h := hk c86 w31 h
                  clear hk
                  refine wpR_val (v := (Value.bool c86)) (w' := w31) rfl rfl rfl (x_pickT (v := (Value.bool c86)) rfl e195 hc82 e207) ?_
                  refine wpR_nil ?_
                  exact ⟨c86, ⟨rfl, trivial⟩, h⟩
                · replace h := h.2 hc82
                  refine wpR_pass (wantN rfl rfl rfl hc82) rfl rfl ?_
                  refine wpR_pass (wantN rfl rfl rfl hc82) rfl rfl ?_
                  refine wpR_pass (wantN rfl rfl rfl hc82) rfl rfl ?_
                  refine wpR_pass (wantU rfl rfl rfl) rfl rfl ?_
                  refine wpR_pass (wantU rfl rfl rfl) rfl rfl ?_
                  refine wpR_pass (wantU rfl rfl rfl) rfl rfl ?_
                  refine wpR_pass (wantU rfl rfl rfl) rfl rfl ?_
                  refine wpR_pass (wantU rfl rfl rfl) rfl rfl ?_
                  refine wpR_pass (wantU rfl rfl rfl) rfl rfl ?_
                  refine wpR_pass (wantU rfl rfl rfl) rfl rfl ?_
                  refine wpR_pass (wantU rfl rfl rfl) rfl rfl ?_
                  refine wpR_pass (wantN rfl rfl rfl hc82) rfl rfl ?_
                  refine wpR_val (v := (Value.bool false)) (w' := w29) rfl rfl rfl (x_pickF (v := (Value.bool false)) rfl rfl hc82 rfl) ?_
                  refine wpR_nil ?_
                  exact ⟨false, ⟨rfl, trivial⟩, h⟩
              clear h
              rintro c87 ρ w32 ⟨e208, -⟩ h
              replace h := hk c87 w32 h
              clear hk
              refine wpR_val (v := (Value.bool c87)) (w' := w32) rfl rfl rfl (x_assign (v := (Value.bool c87)) rfl e208) ?_
              refine wpR_nil ?_
              refine wpC_ret ?_
              exact ⟨.inl rfl, fun a ha => ⟨_, results_rep1 rfl ha rfl, c87, rfl, h⟩⟩


end Go.Proofs.Ytaogjbmgobfdoaa
