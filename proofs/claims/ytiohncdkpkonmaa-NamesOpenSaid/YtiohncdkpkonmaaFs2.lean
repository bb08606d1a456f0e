import Derived.Test.YtiohncdkpkonmaaRows
import Derived.Test.YtiohncdkpkonmaaFs1
import Derived.Test.YtiohncdkpkonmaaDecRaw
namespace Go.Proofs.Ytiohncdkpkonmaa
open Go.Dec
set_option maxHeartbeats 400000

/-- lingualaw04.NamesCopies -/
def F6 (p0 : Sl) (p1 : Sl) (p2 : Sl) (w0 : World) (K : Bool → World → Prop) : Prop :=
  callC Try.prog 7 #[] (fun (r : Bool) => (Value.bool r)) w0 fun r1 w1 =>
  callC Try.prog 12 #[] (fun (r : (Option Addr)) => (Value.pointer r)) w1 fun r2 w2 =>
  callC Try.prog 8 #[(Sl.v p0), (Value.int .i64 24)] (fun (r : Bool) => (Value.bool r)) w2 fun r3 w3 =>
  jn (fun J4 => cnd (!r3)
    (
    J4 true w3
    )
    (
    callC Try.prog 8 #[(Sl.v p1), (Value.int .i64 12)] (fun (r : Bool) => (Value.bool r)) w3 fun r6 w4 =>
    J4 (!r6) w4
    ))
  fun c7 w5 =>
  jn (fun J8 => cnd (c7)
    (
    J8 true w5
    )
    (
    callC Try.prog 8 #[(Sl.v p2), (Value.int .i64 12)] (fun (r : Bool) => (Value.bool r)) w5 fun r10 w6 =>
    J8 (!r10) w6
    ))
  fun c11 w7 =>
  cnd (c11)
    (
    K r1 w7
    )
    (
    cnd (r2.isNone)
      (
      K false w7
      )
      (
      lp (fun (next14 : Int → World → Prop) l14 w8 =>
        cnd (decide (l14 < (p0.len : Int)))
          (
          ix p0 l14 1 fun p16 =>
          ld Value.string p16 w8 fun x17 =>
          callC Try.prog 14 #[(Value.pointer r2), (Value.string x17)] (fun (r : Int) => (Value.int .i64 r)) w8 fun _r18 w9 =>
          next14 (IntKind.i64.wrap (l14 + 1)) w9
          )
          (
          callC Try.prog 21 #[(Value.pointer r2)] (fun (r : Sl) => (Sl.v r)) w8 fun r19 w10 =>
          callC Try.prog 23 #[(Value.pointer r2)] (fun (r : (Option Addr)) => (Value.pointer r)) w10 fun r20 w11 =>
          cnd (r20.isNone)
            (
            K false w11
            )
            (
            lp (fun (next22 : Int → World → Prop) l22 w12 =>
              cnd (decide (l22 < (p1.len : Int)))
                (
                ix p1 l22 1 fun p24 =>
                ld Value.string p24 w12 fun x25 =>
                callC Try.prog 14 #[(Value.pointer r2), (Value.string x25)] (fun (r : Int) => (Value.int .i64 r)) w12 fun _r26 w13 =>
                next22 (IntKind.i64.wrap (l22 + 1)) w13
                )
                (
                callC Try.prog 21 #[(Value.pointer r20)] (fun (r : Sl) => (Sl.v r)) w12 fun r27 w14 =>
                callC Try.prog 20 #[(Sl.v r27), (Sl.v r19)] (fun (r : Bool) => (Value.bool r)) w14 fun r28 w15 =>
                cnd (!r28)
                  (
                  K false w15
                  )
                  (
                  callC Try.prog 21 #[(Value.pointer r2)] (fun (r : Sl) => (Sl.v r)) w15 fun r30 w16 =>
                  lp (fun (next31 : Int → World → Prop) l31 w17 =>
                    cnd (decide (l31 < (p2.len : Int)))
                      (
                      ix p2 l31 1 fun p33 =>
                      ld Value.string p33 w17 fun x34 =>
                      callC Try.prog 14 #[(Value.pointer r20), (Value.string x34)] (fun (r : Int) => (Value.int .i64 r)) w17 fun _r35 w18 =>
                      next31 (IntKind.i64.wrap (l31 + 1)) w18
                      )
                      (
                      callC Try.prog 21 #[(Value.pointer r2)] (fun (r : Sl) => (Sl.v r)) w17 fun r36 w19 =>
                      callC Try.prog 20 #[(Sl.v r36), (Sl.v r30)] (fun (r : Bool) => (Value.bool r)) w19 fun r37 w20 =>
                      cnd (!r37)
                        (
                        K false w20
                        )
                        (
                        jn (fun J39 => cnd (r1)
                          (
                          callC Try.prog 10 #[(Value.int .i64 65537)] (fun (r : ByteArray) => (Value.string r)) w20 fun r41 w21 =>
                          callC Try.prog 14 #[(Value.pointer r2), (Value.string r41)] (fun (r : Int) => (Value.int .i64 r)) w21 fun r42 w22 =>
                          J39 (decide (r42 = (-1))) w22
                          )
                          (
                          J39 false w20
                          ))
                        fun c43 w23 =>
                        jn (fun J44 => cnd (c43)
                          (
                          callC Try.prog 21 #[(Value.pointer r2)] (fun (r : Sl) => (Sl.v r)) w23 fun r46 w24 =>
                          callC Try.prog 20 #[(Sl.v r46), (Sl.v r30)] (fun (r : Bool) => (Value.bool r)) w24 fun r47 w25 =>
                          J44 r47 w25
                          )
                          (
                          J44 false w23
                          ))
                        fun c48 w26 =>
                        K c48 w26
                        )
                      )
                  ) 0 w16
                  )
                )
            ) 0 w11
            )
          )
      ) 0 w7
      )
    )
set_option maxRecDepth 100000 in
theorem D6 (p0 : Sl) (p1 : Sl) (p2 : Sl) (w0 : World) (K : Bool → World → Prop) (h : F6 p0 p1 p2 w0 K) : callC Try.prog 6 #[(Sl.v p0), (Sl.v p1), (Sl.v p2)] (fun (r : Bool) => (Value.bool r)) w0 K := by
  unfold F6 at h
  refine calls_of_wpC Try.func6 rfl 100 rfl (by simp) ?_
  intro ρ hρ
  have e0 : ρ 0 = (Sl.v p0) := hρ 0
  have e1 : ρ 1 = (Sl.v p1) := hρ 1
  have e2 : ρ 2 = (Sl.v p2) := hρ 2
  clear hρ
  refine wpC_seq ?_
  refine wpC_region ?_
  refine wpR_val (v := (Value.bool false)) (w' := w0) rfl rfl rfl (x_assign (v := (Value.bool false)) rfl rfl) ?_
  refine wpR_nil ?_
  refine wpC_seq ?_
  refine wpC_cut (fun ρ => ρ 0 = (Sl.v p0) ∧ ρ 1 = (Sl.v p1) ∧ ρ 2 = (Sl.v p2) ∧ True) ⟨e0, e1, e2, trivial⟩ ?_
  rintro ρ ⟨e0, e1, e2, -⟩
  refine wpC_region ?_
  refine wpR_enter rfl rfl rfl (x_call (vs := []) rfl rfl mapl_nil Try.func7 NN_7 NB_7) (Calls.mono h ?_)
  rintro _ w1 ⟨r1, rfl, h⟩
  refine ⟨_, rfl, ?_⟩
  refine wpR_val (v := (Value.bool r1)) (w' := w1) rfl rfl rfl (x_assign (v := (Value.bool r1)) rfl rfl) ?_
  refine wpR_nil ?_
  refine wpC_seq ?_
  refine wpC_cut (fun ρ => ρ 0 = (Sl.v p0) ∧ ρ 1 = (Sl.v p1) ∧ ρ 2 = (Sl.v p2) ∧ ρ 7 = (Value.bool r1) ∧ True) ⟨e0, e1, e2, rfl, trivial⟩ ?_
  rintro ρ ⟨e0, e1, e2, e7, -⟩
  refine wpC_region ?_
  refine wpR_enter rfl rfl rfl (x_call (vs := []) rfl rfl mapl_nil Try.func12 NN_12 NB_12) (Calls.mono h ?_)
  rintro _ w2 ⟨r2, rfl, h⟩
  refine ⟨_, rfl, ?_⟩
  refine wpR_val (v := (Value.pointer r2)) (w' := w2) rfl rfl rfl (x_assign (v := (Value.pointer r2)) rfl rfl) ?_
  refine wpR_nil ?_
  refine wpC_seq ?_
  refine wpC_seq ?_
  refine wpC_cut (fun ρ => ρ 0 = (Sl.v p0) ∧ ρ 1 = (Sl.v p1) ∧ ρ 2 = (Sl.v p2) ∧ ρ 7 = (Value.bool r1) ∧ ρ 8 = (Value.pointer r2) ∧ True) ⟨e0, e1, e2, e7, rfl, trivial⟩ ?_
  rintro ρ ⟨e0, e1, e2, e7, e8, -⟩
  refine wpC_region ?_
  refine wpR_val (v := (Sl.v p0)) (w' := w2) rfl rfl rfl (x_move (v := (Sl.v p0)) rfl e0) ?_
  refine wpR_enter rfl rfl rfl (x_call (vs := [(Sl.v p0), (Value.int .i64 24)]) rfl rfl (mapl_cons rfl (mapl_cons rfl mapl_nil)) Try.func8 NN_8 NB_8) (Calls.mono h ?_)
  rintro _ w3 ⟨r3, rfl, h⟩
  refine ⟨_, rfl, ?_⟩
  refine wpR_val (v := (Value.bool (!r3))) (w' := w3) rfl rfl rfl (x_not rfl rfl) ?_
  refine wpR_val (v := (Value.bool (!r3))) (w' := w3) rfl rfl rfl (x_move (v := (Value.bool (!r3))) rfl rfl) ?_
  obtain ⟨J4, h, hk⟩ := h
  refine wpR_joinJ 4 (fun x ρ => ρ 24 = Value.bool x ∧ ρ 0 = (Sl.v p0) ∧ ρ 1 = (Sl.v p1) ∧ ρ 2 = (Sl.v p2) ∧ ρ 7 = (Value.bool r1) ∧ ρ 8 = (Value.pointer r2) ∧ True) (J4) ?_ ?_
  · clear hk
    rcases Bool.eq_false_or_eq_true (!r3) with hc5 | hc5
    · replace h := h.1 hc5
      refine wpR_pass (wantN rfl rfl rfl hc5) rfl rfl ?_
      refine wpR_pass (wantN rfl rfl rfl hc5) rfl rfl ?_
      refine wpR_pass (wantN rfl rfl rfl hc5) rfl rfl ?_
      refine wpR_val (v := (Value.bool true)) (w' := w3) rfl rfl rfl (x_pickT (v := (Value.bool true)) rfl rfl hc5 rfl) ?_
      refine wpR_nil ?_
      exact ⟨true, ⟨rfl, e0, e1, e2, e7, e8, trivial⟩, h⟩
    · replace h := h.2 hc5
      refine wpR_val (v := (Sl.v p1)) (w' := w3) (wantG rfl rfl rfl hc5) rfl rfl (x_move (v := (Sl.v p1)) rfl e1) ?_
      refine wpR_enter (wantG rfl rfl rfl hc5) rfl rfl (x_call (vs := [(Sl.v p1), (Value.int .i64 12)]) rfl rfl (mapl_cons rfl (mapl_cons rfl mapl_nil)) Try.func8 NN_8 NB_8) (Calls.mono h ?_)
      rintro _ w4 ⟨r6, rfl, h⟩
      refine ⟨_, rfl, ?_⟩
      refine wpR_val (v := (Value.bool (!r6))) (w' := w4) (wantG rfl rfl rfl hc5) rfl rfl (x_not rfl rfl) ?_
      refine wpR_val (v := (Value.bool (!r6))) (w' := w4) rfl rfl rfl (x_pickF (v := (Value.bool (!r6))) rfl rfl hc5 rfl) ?_
      refine wpR_nil ?_
      exact ⟨!r6, ⟨rfl, e0, e1, e2, e7, e8, trivial⟩, h⟩
  clear h
  rintro c7 ρ w5 ⟨e24, e0, e1, e2, e7, e8, -⟩ h
  replace h := hk c7 w5 h
  clear hk
  refine wpR_val (v := (Value.bool c7)) (w' := w5) rfl rfl rfl (x_move (v := (Value.bool c7)) rfl e24) ?_
  obtain ⟨J8, h, hk⟩ := h
  refine wpR_joinJ 4 (fun x ρ => ρ 29 = Value.bool x ∧ ρ 0 = (Sl.v p0) ∧ ρ 1 = (Sl.v p1) ∧ ρ 2 = (Sl.v p2) ∧ ρ 7 = (Value.bool r1) ∧ ρ 8 = (Value.pointer r2) ∧ True) (J8) ?_ ?_
  · clear hk
    rcases Bool.eq_false_or_eq_true (c7) with hc9 | hc9
    · replace h := h.1 hc9
      refine wpR_pass (wantN rfl rfl rfl hc9) rfl rfl ?_
      refine wpR_pass (wantN rfl rfl rfl hc9) rfl rfl ?_
      refine wpR_pass (wantN rfl rfl rfl hc9) rfl rfl ?_
      refine wpR_val (v := (Value.bool true)) (w' := w5) rfl rfl rfl (x_pickT (v := (Value.bool true)) rfl rfl hc9 rfl) ?_
      refine wpR_nil ?_
      exact ⟨true, ⟨rfl, e0, e1, e2, e7, e8, trivial⟩, h⟩
    · replace h := h.2 hc9
      refine wpR_val (v := (Sl.v p2)) (w' := w5) (wantG rfl rfl rfl hc9) rfl rfl (x_move (v := (Sl.v p2)) rfl e2) ?_
      refine wpR_enter (wantG rfl rfl rfl hc9) rfl rfl (x_call (vs := [(Sl.v p2), (Value.int .i64 12)]) rfl rfl (mapl_cons rfl (mapl_cons rfl mapl_nil)) Try.func8 NN_8 NB_8) (Calls.mono h ?_)
      rintro _ w6 ⟨r10, rfl, h⟩
      refine ⟨_, rfl, ?_⟩
      refine wpR_val (v := (Value.bool (!r10))) (w' := w6) (wantG rfl rfl rfl hc9) rfl rfl (x_not rfl rfl) ?_
      refine wpR_val (v := (Value.bool (!r10))) (w' := w6) rfl rfl rfl (x_pickF (v := (Value.bool (!r10))) rfl rfl hc9 rfl) ?_
      refine wpR_nil ?_
      exact ⟨!r10, ⟨rfl, e0, e1, e2, e7, e8, trivial⟩, h⟩
  clear h
  rintro c11 ρ w7 ⟨e29, e0, e1, e2, e7, e8, -⟩ h
  replace h := hk c11 w7 h
  clear hk
  refine wpR_nil ?_
  refine wpC_cond (b := c11) e29 (fun hc12 => ?_) (fun hc12 => ?_)
  · replace h := h.1 hc12
    refine wpC_seq ?_
    refine wpC_region ?_
    refine wpR_val (v := (Value.bool r1)) (w' := w7) rfl rfl rfl (x_move (v := (Value.bool r1)) rfl e7) ?_
    refine wpR_val (v := (Value.bool r1)) (w' := w7) rfl rfl rfl (x_assign (v := (Value.bool r1)) rfl rfl) ?_
    refine wpR_nil ?_
    refine wpC_ret ?_
    exact ⟨.inl rfl, fun a ha => ⟨_, results_rep1 rfl ha rfl, r1, rfl, h⟩⟩
  · replace h := h.2 hc12
    refine wpC_skip ?_
    refine wpC_seq ?_
    refine wpC_seq ?_
    refine wpC_region ?_
    refine wpR_val (v := (Value.pointer r2)) (w' := w7) rfl rfl rfl (x_move (v := (Value.pointer r2)) rfl e8) ?_
    refine wpR_val (v := (Value.bool r2.isNone)) (w' := w7) rfl rfl rfl (x_eqlNil rfl rfl rfl isPtrT_25) ?_
    refine wpR_nil ?_
    refine wpC_cond (b := r2.isNone) rfl (fun hc13 => ?_) (fun hc13 => ?_)
    · replace h := h.1 hc13
      refine wpC_seq ?_
      refine wpC_cut (fun ρ => True) trivial ?_
      rintro ρ -
      refine wpC_region ?_
      refine wpR_val (v := (Value.bool false)) (w' := w7) rfl rfl rfl (x_assign (v := (Value.bool false)) rfl rfl) ?_
      refine wpR_nil ?_
      refine wpC_ret ?_
      exact ⟨.inl rfl, fun a ha => ⟨_, results_rep1 rfl ha rfl, false, rfl, h⟩⟩
    · replace h := h.2 hc13
      refine wpC_skip ?_
      refine wpC_seq ?_
      refine wpC_seq ?_
      refine wpC_cut (fun ρ => ρ 0 = (Sl.v p0) ∧ ρ 1 = (Sl.v p1) ∧ ρ 2 = (Sl.v p2) ∧ ρ 7 = (Value.bool r1) ∧ ρ 8 = (Value.pointer r2) ∧ True) ⟨e0, e1, e2, e7, e8, trivial⟩ ?_
      rintro ρ ⟨e0, e1, e2, e7, e8, -⟩
      refine wpC_region ?_
      refine wpR_val (v := (Value.int .i64 0)) (w' := w7) rfl rfl rfl (x_assign (v := (Value.int .i64 0)) rfl rfl) ?_
      refine wpR_nil ?_
      refine wpC_block ?_
      obtain ⟨I14, μ14, hI14, hr14⟩ := h
      refine wpC_loop (fun (x : Int) ρ => ρ 9 = (Value.int .i64 x) ∧ ρ 0 = (Sl.v p0) ∧ ρ 1 = (Sl.v p1) ∧ ρ 2 = (Sl.v p2) ∧ ρ 7 = (Value.bool r1) ∧ ρ 8 = (Value.pointer r2) ∧ True) I14 μ14 0 ⟨rfl, e0, e1, e2, e7, e8, trivial⟩ hI14 ?_
      rintro l14 ρ w8 ⟨e9, e0, e1, e2, e7, e8, -⟩ h
      replace h := hr14 l14 w8 h
      clear hr14 hI14
      refine wpC_seq ?_
      refine wpC_seq ?_
      refine wpC_region ?_
      refine wpR_val (v := (Value.int .i64 l14)) (w' := w8) rfl rfl rfl (x_move (v := (Value.int .i64 l14)) rfl e9) ?_
      refine wpR_val (v := (Sl.v p0)) (w' := w8) rfl rfl rfl (x_move (v := (Sl.v p0)) rfl e0) ?_
      refine wpR_val (v := (Value.int .i64 (p0.len : Int))) (w' := w8) rfl rfl rfl (x_lenS (s := p0) rfl rfl isSliceT_22) ?_
      refine wpR_val (v := (Value.bool (decide (l14 < (p0.len : Int))))) (w' := w8) rfl rfl rfl (x_lss rfl rfl rfl) ?_
      refine wpR_nil ?_
      refine wpC_cond (b := decide (l14 < (p0.len : Int))) rfl (fun hc15 => ?_) (fun hc15 => ?_)
      · replace h := h.1 hc15
        refine wpC_skip ?_
        refine wpC_seq ?_
        refine wpC_block ?_
        refine wpC_cut (fun ρ => ρ 0 = (Sl.v p0) ∧ ρ 1 = (Sl.v p1) ∧ ρ 2 = (Sl.v p2) ∧ ρ 7 = (Value.bool r1) ∧ ρ 8 = (Value.pointer r2) ∧ ρ 9 = (Value.int .i64 l14) ∧ True) ⟨e0, e1, e2, e7, e8, e9, trivial⟩ ?_
        rintro ρ ⟨e0, e1, e2, e7, e8, e9, -⟩
        refine wpC_region ?_
        refine wpR_val (v := (Value.pointer r2)) (w' := w8) rfl rfl rfl (x_move (v := (Value.pointer r2)) rfl e8) ?_
        refine wpR_val (v := (Sl.v p0)) (w' := w8) rfl rfl rfl (x_move (v := (Sl.v p0)) rfl e0) ?_
        refine wpR_val (v := (Value.int .i64 l14)) (w' := w8) rfl rfl rfl (x_move (v := (Value.int .i64 l14)) rfl e9) ?_
        obtain ⟨q16, z16, r16, h⟩ := h
        generalize hp16 : z16.add ((l14 : Int).toNat * 1) = p16 at h
        refine wpR_val (v := (Value.pointer (some p16))) (w' := w8) rfl rfl rfl ((x_indexAddr (s := p0) rfl rfl rfl ES_22 q16 r16).trans (by rw [hp16])) ?_
        obtain ⟨x17, q17, h⟩ := h
        refine wpR_val (v := (Value.string x17)) (w' := w8) rfl rfl rfl (x_load1 rfl rfl SH_9 q17) ?_
        refine wpR_enter rfl rfl rfl (x_call (vs := [(Value.pointer r2), (Value.string x17)]) rfl rfl (mapl_cons rfl (mapl_cons rfl mapl_nil)) Try.func14 NN_14 NB_14) (Calls.mono h ?_)
        rintro _ w9 ⟨r18, rfl, h⟩
        refine ⟨_, rfl, ?_⟩
        refine wpR_nil ?_
        refine wpC_cut (fun ρ => ρ 0 = (Sl.v p0) ∧ ρ 1 = (Sl.v p1) ∧ ρ 2 = (Sl.v p2) ∧ ρ 7 = (Value.bool r1) ∧ ρ 8 = (Value.pointer r2) ∧ ρ 9 = (Value.int .i64 l14) ∧ True) ⟨e0, e1, e2, e7, e8, e9, trivial⟩ ?_
        rintro ρ ⟨e0, e1, e2, e7, e8, e9, -⟩
        refine wpC_region ?_
        refine wpR_val (v := (Value.int .i64 l14)) (w' := w9) rfl rfl rfl (x_move (v := (Value.int .i64 l14)) rfl e9) ?_
        refine wpR_val (v := (Value.int .i64 (IntKind.i64.wrap (l14 + 1)))) (w' := w9) rfl rfl rfl (x_add rfl rfl rfl) ?_
        refine wpR_val (v := (Value.int .i64 (IntKind.i64.wrap (l14 + 1)))) (w' := w9) rfl rfl rfl (x_assign (v := (Value.int .i64 (IntKind.i64.wrap (l14 + 1)))) rfl rfl) ?_
        refine wpR_nil ?_
        exact ⟨IntKind.i64.wrap (l14 + 1), ⟨rfl, e0, e1, e2, e7, e8, trivial⟩, h⟩
      · replace h := h.2 hc15
        refine wpC_exit ?_
        refine wpC_seq ?_
        refine wpC_cut (fun ρ => ρ 1 = (Sl.v p1) ∧ ρ 2 = (Sl.v p2) ∧ ρ 7 = (Value.bool r1) ∧ ρ 8 = (Value.pointer r2) ∧ True) ⟨e1, e2, e7, e8, trivial⟩ ?_
        rintro ρ ⟨e1, e2, e7, e8, -⟩
        refine wpC_region ?_
        refine wpR_val (v := (Value.pointer r2)) (w' := w8) rfl rfl rfl (x_move (v := (Value.pointer r2)) rfl e8) ?_
        refine wpR_enter rfl rfl rfl (x_call (vs := [(Value.pointer r2)]) rfl rfl (mapl_cons rfl mapl_nil) Try.func21 NN_21 NB_21) (Calls.mono h ?_)
        rintro _ w10 ⟨r19, rfl, h⟩
        refine ⟨_, rfl, ?_⟩
        refine wpR_val (v := (Sl.v r19)) (w' := w10) rfl rfl rfl (x_assign (v := (Sl.v r19)) rfl rfl) ?_
        refine wpR_nil ?_
        refine wpC_seq ?_
        refine wpC_cut (fun ρ => ρ 1 = (Sl.v p1) ∧ ρ 2 = (Sl.v p2) ∧ ρ 7 = (Value.bool r1) ∧ ρ 8 = (Value.pointer r2) ∧ ρ 10 = (Sl.v r19) ∧ True) ⟨e1, e2, e7, e8, rfl, trivial⟩ ?_
        rintro ρ ⟨e1, e2, e7, e8, e10, -⟩
        refine wpC_region ?_
        refine wpR_val (v := (Value.pointer r2)) (w' := w10) rfl rfl rfl (x_move (v := (Value.pointer r2)) rfl e8) ?_
        refine wpR_enter rfl rfl rfl (x_call (vs := [(Value.pointer r2)]) rfl rfl (mapl_cons rfl mapl_nil) Try.func23 NN_23 NB_23) (Calls.mono h ?_)
        rintro _ w11 ⟨r20, rfl, h⟩
        refine ⟨_, rfl, ?_⟩
        refine wpR_val (v := (Value.pointer r20)) (w' := w11) rfl rfl rfl (x_assign (v := (Value.pointer r20)) rfl rfl) ?_
        refine wpR_nil ?_
        refine wpC_seq ?_
        refine wpC_seq ?_
        refine wpC_cut (fun ρ => ρ 1 = (Sl.v p1) ∧ ρ 2 = (Sl.v p2) ∧ ρ 7 = (Value.bool r1) ∧ ρ 8 = (Value.pointer r2) ∧ ρ 10 = (Sl.v r19) ∧ ρ 11 = (Value.pointer r20) ∧ True) ⟨e1, e2, e7, e8, e10, rfl, trivial⟩ ?_
        rintro ρ ⟨e1, e2, e7, e8, e10, e11, -⟩
        refine wpC_region ?_
        refine wpR_val (v := (Value.pointer r20)) (w' := w11) rfl rfl rfl (x_move (v := (Value.pointer r20)) rfl e11) ?_
        refine wpR_val (v := (Value.bool r20.isNone)) (w' := w11) rfl rfl rfl (x_eqlNil rfl rfl rfl isPtrT_25) ?_
        refine wpR_nil ?_
        refine wpC_cond (b := r20.isNone) rfl (fun hc21 => ?_) (fun hc21 => ?_)
        · replace h := h.1 hc21
          refine wpC_seq ?_
          refine wpC_cut (fun ρ => True) trivial ?_
          rintro ρ -
          refine wpC_region ?_
          refine wpR_val (v := (Value.bool false)) (w' := w11) rfl rfl rfl (x_assign (v := (Value.bool false)) rfl rfl) ?_
          refine wpR_nil ?_
          refine wpC_ret ?_
          exact ⟨.inl rfl, fun a ha => ⟨_, results_rep1 rfl ha rfl, false, rfl, h⟩⟩
        · replace h := h.2 hc21
          refine wpC_skip ?_
          refine wpC_seq ?_
          refine wpC_seq ?_
          refine wpC_cut (fun ρ => ρ 1 = (Sl.v p1) ∧ ρ 2 = (Sl.v p2) ∧ ρ 7 = (Value.bool r1) ∧ ρ 8 = (Value.pointer r2) ∧ ρ 10 = (Sl.v r19) ∧ ρ 11 = (Value.pointer r20) ∧ True) ⟨e1, e2, e7, e8, e10, e11, trivial⟩ ?_
          rintro ρ ⟨e1, e2, e7, e8, e10, e11, -⟩
          refine wpC_region ?_
          refine wpR_val (v := (Value.int .i64 0)) (w' := w11) rfl rfl rfl (x_assign (v := (Value.int .i64 0)) rfl rfl) ?_
          refine wpR_nil ?_
          refine wpC_block ?_
          obtain ⟨I22, μ22, hI22, hr22⟩ := h
          refine wpC_loop (fun (x : Int) ρ => ρ 12 = (Value.int .i64 x) ∧ ρ 1 = (Sl.v p1) ∧ ρ 2 = (Sl.v p2) ∧ ρ 7 = (Value.bool r1) ∧ ρ 8 = (Value.pointer r2) ∧ ρ 10 = (Sl.v r19) ∧ ρ 11 = (Value.pointer r20) ∧ True) I22 μ22 0 ⟨rfl, e1, e2, e7, e8, e10, e11, trivial⟩ hI22 ?_
          rintro l22 ρ w12 ⟨e12, e1, e2, e7, e8, e10, e11, -⟩ h
          replace h := hr22 l22 w12 h
          clear hr22 hI22
          refine wpC_seq ?_
          refine wpC_seq ?_
          refine wpC_region ?_
          refine wpR_val (v := (Value.int .i64 l22)) (w' := w12) rfl rfl rfl (x_move (v := (Value.int .i64 l22)) rfl e12) ?_
          refine wpR_val (v := (Sl.v p1)) (w' := w12) rfl rfl rfl (x_move (v := (Sl.v p1)) rfl e1) ?_
          refine wpR_val (v := (Value.int .i64 (p1.len : Int))) (w' := w12) rfl rfl rfl (x_lenS (s := p1) rfl rfl isSliceT_22) ?_
          refine wpR_val (v := (Value.bool (decide (l22 < (p1.len : Int))))) (w' := w12) rfl rfl rfl (x_lss rfl rfl rfl) ?_
          refine wpR_nil ?_
          refine wpC_cond (b := decide (l22 < (p1.len : Int))) rfl (fun hc23 => ?_) (fun hc23 => ?_)
          · replace h := h.1 hc23
            refine wpC_skip ?_
            refine wpC_seq ?_
            refine wpC_block ?_
            refine wpC_cut (fun ρ => ρ 1 = (Sl.v p1) ∧ ρ 2 = (Sl.v p2) ∧ ρ 7 = (Value.bool r1) ∧ ρ 8 = (Value.pointer r2) ∧ ρ 10 = (Sl.v r19) ∧ ρ 11 = (Value.pointer r20) ∧ ρ 12 = (Value.int .i64 l22) ∧ True) ⟨e1, e2, e7, e8, e10, e11, e12, trivial⟩ ?_
            rintro ρ ⟨e1, e2, e7, e8, e10, e11, e12, -⟩
            refine wpC_region ?_
            refine wpR_val (v := (Value.pointer r2)) (w' := w12) rfl rfl rfl (x_move (v := (Value.pointer r2)) rfl e8) ?_
            refine wpR_val (v := (Sl.v p1)) (w' := w12) rfl rfl rfl (x_move (v := (Sl.v p1)) rfl e1) ?_
            refine wpR_val (v := (Value.int .i64 l22)) (w' := w12) rfl rfl rfl (x_move (v := (Value.int .i64 l22)) rfl e12) ?_
            obtain ⟨q24, z24, r24, h⟩ := h
            generalize hp24 : z24.add ((l22 : Int).toNat * 1) = p24 at h
            refine wpR_val (v := (Value.pointer (some p24))) (w' := w12) rfl rfl rfl ((x_indexAddr (s := p1) rfl rfl rfl ES_22 q24 r24).trans (by rw [hp24])) ?_
            obtain ⟨x25, q25, h⟩ := h
            refine wpR_val (v := (Value.string x25)) (w' := w12) rfl rfl rfl (x_load1 rfl rfl SH_9 q25) ?_
            refine wpR_enter rfl rfl rfl (x_call (vs := [(Value.pointer r2), (Value.string x25)]) rfl rfl (mapl_cons rfl (mapl_cons rfl mapl_nil)) Try.func14 NN_14 NB_14) (Calls.mono h ?_)
            rintro _ w13 ⟨r26, rfl, h⟩
            refine ⟨_, rfl, ?_⟩
            refine wpR_nil ?_
            refine wpC_cut (fun ρ => ρ 1 = (Sl.v p1) ∧ ρ 2 = (Sl.v p2) ∧ ρ 7 = (Value.bool r1) ∧ ρ 8 = (Value.pointer r2) ∧ ρ 10 = (Sl.v r19) ∧ ρ 11 = (Value.pointer r20) ∧ ρ 12 = (Value.int .i64 l22) ∧ True) ⟨e1, e2, e7, e8, e10, e11, e12, trivial⟩ ?_
            rintro ρ ⟨e1, e2, e7, e8, e10, e11, e12, -⟩
            refine wpC_region ?_
            refine wpR_val (v := (Value.int .i64 l22)) (w' := w13) rfl rfl rfl (x_move (v := (Value.int .i64 l22)) rfl e12) ?_
            refine wpR_val (v := (Value.int .i64 (IntKind.i64.wrap (l22 + 1)))) (w' := w13) rfl rfl rfl (x_add rfl rfl rfl) ?_
            refine wpR_val (v := (Value.int .i64 (IntKind.i64.wrap (l22 + 1)))) (w' := w13) rfl rfl rfl (x_assign (v := (Value.int .i64 (IntKind.i64.wrap (l22 + 1)))) rfl rfl) ?_
            refine wpR_nil ?_
            exact ⟨IntKind.i64.wrap (l22 + 1), ⟨rfl, e1, e2, e7, e8, e10, e11, trivial⟩, h⟩
          · replace h := h.2 hc23
            refine wpC_exit ?_
            refine wpC_seq ?_
            refine wpC_seq ?_
            refine wpC_cut (fun ρ => ρ 2 = (Sl.v p2) ∧ ρ 7 = (Value.bool r1) ∧ ρ 8 = (Value.pointer r2) ∧ ρ 10 = (Sl.v r19) ∧ ρ 11 = (Value.pointer r20) ∧ True) ⟨e2, e7, e8, e10, e11, trivial⟩ ?_
            rintro ρ ⟨e2, e7, e8, e10, e11, -⟩
            refine wpC_region ?_
            refine wpR_val (v := (Value.pointer r20)) (w' := w12) rfl rfl rfl (x_move (v := (Value.pointer r20)) rfl e11) ?_
            refine wpR_enter rfl rfl rfl (x_call (vs := [(Value.pointer r20)]) rfl rfl (mapl_cons rfl mapl_nil) Try.func21 NN_21 NB_21) (Calls.mono h ?_)
            rintro _ w14 ⟨r27, rfl, h⟩
            refine ⟨_, rfl, ?_⟩
            refine wpR_val (v := (Sl.v r19)) (w' := w14) rfl rfl rfl (x_move (v := (Sl.v r19)) rfl e10) ?_
            refine wpR_enter rfl rfl rfl (x_call (vs := [(Sl.v r27), (Sl.v r19)]) rfl rfl (mapl_cons rfl (mapl_cons rfl mapl_nil)) Try.func20 NN_20 NB_20) (Calls.mono h ?_)
            rintro _ w15 ⟨r28, rfl, h⟩
            refine ⟨_, rfl, ?_⟩
            refine wpR_val (v := (Value.bool (!r28))) (w' := w15) rfl rfl rfl (x_not rfl rfl) ?_
            refine wpR_nil ?_
            refine wpC_cond (b := !r28) rfl (fun hc29 => ?_) (fun hc29 => ?_)
            · replace h := h.1 hc29
              refine wpC_seq ?_
              refine wpC_cut (fun ρ => True) trivial ?_
              rintro ρ -
              refine wpC_region ?_
              refine wpR_val (v := (Value.bool false)) (w' := w15) rfl rfl rfl (x_assign (v := (Value.bool false)) rfl rfl) ?_
              refine wpR_nil ?_
              refine wpC_ret ?_
              exact ⟨.inl rfl, fun a ha => ⟨_, results_rep1 rfl ha rfl, false, rfl, h⟩⟩
            · replace h := h.2 hc29
              refine wpC_skip ?_
              refine wpC_seq ?_
              refine wpC_cut (fun ρ => ρ 2 = (Sl.v p2) ∧ ρ 7 = (Value.bool r1) ∧ ρ 8 = (Value.pointer r2) ∧ ρ 11 = (Value.pointer r20) ∧ True) ⟨e2, e7, e8, e11, trivial⟩ ?_
              rintro ρ ⟨e2, e7, e8, e11, -⟩
              refine wpC_region ?_
              refine wpR_val (v := (Value.pointer r2)) (w' := w15) rfl rfl rfl (x_move (v := (Value.pointer r2)) rfl e8) ?_
              refine wpR_enter rfl rfl rfl (x_call (vs := [(Value.pointer r2)]) rfl rfl (mapl_cons rfl mapl_nil) Try.func21 NN_21 NB_21) (Calls.mono h ?_)
              rintro _ w16 ⟨r30, rfl, h⟩
              refine ⟨_, rfl, ?_⟩
              refine wpR_val (v := (Sl.v r30)) (w' := w16) rfl rfl rfl (x_assign (v := (Sl.v r30)) rfl rfl) ?_
              refine wpR_nil ?_
              refine wpC_seq ?_
              refine wpC_seq ?_
              refine wpC_cut (fun ρ => ρ 2 = (Sl.v p2) ∧ ρ 7 = (Value.bool r1) ∧ ρ 8 = (Value.pointer r2) ∧ ρ 11 = (Value.pointer r20) ∧ ρ 13 = (Sl.v r30) ∧ True) ⟨e2, e7, e8, e11, rfl, trivial⟩ ?_
              rintro ρ ⟨e2, e7, e8, e11, e13, -⟩
              refine wpC_region ?_
              refine wpR_val (v := (Value.int .i64 0)) (w' := w16) rfl rfl rfl (x_assign (v := (Value.int .i64 0)) rfl rfl) ?_
              refine wpR_nil ?_
              refine wpC_block ?_
              obtain ⟨I31, μ31, hI31, hr31⟩ := h
              refine wpC_loop (fun (x : Int) ρ => ρ 14 = (Value.int .i64 x) ∧ ρ 2 = (Sl.v p2) ∧ ρ 7 = (Value.bool r1) ∧ ρ 8 = (Value.pointer r2) ∧ ρ 11 = (Value.pointer r20) ∧ ρ 13 = (Sl.v r30) ∧ True) I31 μ31 0 ⟨rfl, e2, e7, e8, e11, e13, trivial⟩ hI31 ?_
              rintro l31 ρ w17 ⟨e14, e2, e7, e8, e11, e13, -⟩ h
              replace h := hr31 l31 w17 h
              clear hr31 hI31
              refine wpC_seq ?_
              refine wpC_seq ?_
              refine wpC_region ?_
              refine wpR_val (v := (Value.int .i64 l31)) (w' := w17) rfl rfl rfl (x_move (v := (Value.int .i64 l31)) rfl e14) ?_
              refine wpR_val (v := (Sl.v p2)) (w' := w17) rfl rfl rfl (x_move (v := (Sl.v p2)) rfl e2) ?_
              refine wpR_val (v := (Value.int .i64 (p2.len : Int))) (w' := w17) rfl rfl rfl (x_lenS (s := p2) rfl rfl isSliceT_22) ?_
              refine wpR_val (v := (Value.bool (decide (l31 < (p2.len : Int))))) (w' := w17) rfl rfl rfl (x_lss rfl rfl rfl) ?_
              refine wpR_nil ?_
              refine wpC_cond (b := decide (l31 < (p2.len : Int))) rfl (fun hc32 => ?_) (fun hc32 => ?_)
              · replace h := h.1 hc32
                refine wpC_skip ?_
                refine wpC_seq ?_
                refine wpC_block ?_
                refine wpC_cut (fun ρ => ρ 2 = (Sl.v p2) ∧ ρ 7 = (Value.bool r1) ∧ ρ 8 = (Value.pointer r2) ∧ ρ 11 = (Value.pointer r20) ∧ ρ 13 = (Sl.v r30) ∧ ρ 14 = (Value.int .i64 l31) ∧ True) ⟨e2, e7, e8, e11, e13, e14, trivial⟩ ?_
                rintro ρ ⟨e2, e7, e8, e11, e13, e14, -⟩
                refine wpC_region ?_
                refine wpR_val (v := (Value.pointer r20)) (w' := w17) rfl rfl rfl (x_move (v := (Value.pointer r20)) rfl e11) ?_
                refine wpR_val (v := (Sl.v p2)) (w' := w17) rfl rfl rfl (x_move (v := (Sl.v p2)) rfl e2) ?_
                refine wpR_val (v := (Value.int .i64 l31)) (w' := w17) rfl rfl rfl (x_move (v := (Value.int .i64 l31)) rfl e14) ?_
                obtain ⟨q33, z33, r33, h⟩ := h
                generalize hp33 : z33.add ((l31 : Int).toNat * 1) = p33 at h
                refine wpR_val (v := (Value.pointer (some p33))) (w' := w17) rfl rfl rfl ((x_indexAddr (s := p2) rfl rfl rfl ES_22 q33 r33).trans (by rw [hp33])) ?_
                obtain ⟨x34, q34, h⟩ := h
                refine wpR_val (v := (Value.string x34)) (w' := w17) rfl rfl rfl (x_load1 rfl rfl SH_9 q34) ?_
                refine wpR_enter rfl rfl rfl (x_call (vs := [(Value.pointer r20), (Value.string x34)]) rfl rfl (mapl_cons rfl (mapl_cons rfl mapl_nil)) Try.func14 NN_14 NB_14) (Calls.mono h ?_)
                rintro _ w18 ⟨r35, rfl, h⟩
                refine ⟨_, rfl, ?_⟩
                refine wpR_nil ?_
                refine wpC_cut (fun ρ => ρ 2 = (Sl.v p2) ∧ ρ 7 = (Value.bool r1) ∧ ρ 8 = (Value.pointer r2) ∧ ρ 11 = (Value.pointer r20) ∧ ρ 13 = (Sl.v r30) ∧ ρ 14 = (Value.int .i64 l31) ∧ True) ⟨e2, e7, e8, e11, e13, e14, trivial⟩ ?_
                rintro ρ ⟨e2, e7, e8, e11, e13, e14, -⟩
                refine wpC_region ?_
                refine wpR_val (v := (Value.int .i64 l31)) (w' := w18) rfl rfl rfl (x_move (v := (Value.int .i64 l31)) rfl e14) ?_
                refine wpR_val (v := (Value.int .i64 (IntKind.i64.wrap (l31 + 1)))) (w' := w18) rfl rfl rfl (x_add rfl rfl rfl) ?_
                refine wpR_val (v := (Value.int .i64 (IntKind.i64.wrap (l31 + 1)))) (w' := w18) rfl rfl rfl (x_assign (v := (Value.int .i64 (IntKind.i64.wrap (l31 + 1)))) rfl rfl) ?_
                refine wpR_nil ?_
                exact ⟨IntKind.i64.wrap (l31 + 1), ⟨rfl, e2, e7, e8, e11, e13, trivial⟩, h⟩
              · replace h := h.2 hc32
                refine wpC_exit ?_
                refine wpC_seq ?_
                refine wpC_seq ?_
                refine wpC_cut (fun ρ => ρ 7 = (Value.bool r1) ∧ ρ 8 = (Value.pointer r2) ∧ ρ 13 = (Sl.v r30) ∧ True) ⟨e7, e8, e13, trivial⟩ ?_
                rintro ρ ⟨e7, e8, e13, -⟩
                refine wpC_region ?_
                refine wpR_val (v := (Value.pointer r2)) (w' := w17) rfl rfl rfl (x_move (v := (Value.pointer r2)) rfl e8) ?_
                refine wpR_enter rfl rfl rfl (x_call (vs := [(Value.pointer r2)]) rfl rfl (mapl_cons rfl mapl_nil) Try.func21 NN_21 NB_21) (Calls.mono h ?_)
                rintro _ w19 ⟨r36, rfl, h⟩
                refine ⟨_, rfl, ?_⟩
                refine wpR_val (v := (Sl.v r30)) (w' := w19) rfl rfl rfl (x_move (v := (Sl.v r30)) rfl e13) ?_
                refine wpR_enter rfl rfl rfl (x_call (vs := [(Sl.v r36), (Sl.v r30)]) rfl rfl (mapl_cons rfl (mapl_cons rfl mapl_nil)) Try.func20 NN_20 NB_20) (Calls.mono h ?_)
                rintro _ w20 ⟨r37, rfl, h⟩
                refine ⟨_, rfl, ?_⟩
                refine wpR_val (v := (Value.bool (!r37))) (w' := w20) rfl rfl rfl (x_not rfl rfl) ?_
                refine wpR_nil ?_
                refine wpC_cond (b := !r37) rfl (fun hc38 => ?_) (fun hc38 => ?_)
                · replace h := h.1 hc38
                  refine wpC_seq ?_
                  refine wpC_cut (fun ρ => True) trivial ?_
                  rintro ρ -
                  refine wpC_region ?_
                  refine wpR_val (v := (Value.bool false)) (w' := w20) rfl rfl rfl (x_assign (v := (Value.bool false)) rfl rfl) ?_
                  refine wpR_nil ?_
                  refine wpC_ret ?_
                  exact ⟨.inl rfl, fun a ha => ⟨_, results_rep1 rfl ha rfl, false, rfl, h⟩⟩
                · replace h := h.2 hc38
                  refine wpC_skip ?_
                  refine wpC_seq ?_
                  refine wpC_cut (fun ρ => ρ 7 = (Value.bool r1) ∧ ρ 8 = (Value.pointer r2) ∧ ρ 13 = (Sl.v r30) ∧ True) ⟨e7, e8, e13, trivial⟩ ?_
                  rintro ρ ⟨e7, e8, e13, -⟩
                  refine wpC_region ?_
                  refine wpR_val (v := (Value.bool r1)) (w' := w20) rfl rfl rfl (x_move (v := (Value.bool r1)) rfl e7) ?_
                  refine wpR_val (v := (Value.bool r1)) (w' := w20) rfl rfl rfl (x_move (v := (Value.bool r1)) rfl rfl) ?_
                  obtain ⟨J39, h, hk⟩ := h
                  refine wpR_joinJ 5 (fun x ρ => ρ 93 = Value.bool x ∧ ρ 8 = (Value.pointer r2) ∧ ρ 13 = (Sl.v r30) ∧ True) (J39) ?_ ?_
                  · clear hk
                    rcases Bool.eq_false_or_eq_true (r1) with hc40 | hc40
                    · replace h := h.1 hc40
                      refine wpR_val (v := (Value.pointer r2)) (w' := w20) (wantG rfl rfl rfl hc40) rfl rfl (x_move (v := (Value.pointer r2)) rfl e8) ?_
                      refine wpR_enter (wantG rfl rfl rfl hc40) rfl rfl (x_call (vs := [(Value.int .i64 65537)]) rfl rfl (mapl_cons rfl mapl_nil) Try.func10 NN_10 NB_10) (Calls.mono h ?_)
                      rintro _ w21 ⟨r41, rfl, h⟩
                      refine ⟨_, rfl, ?_⟩
                      refine wpR_enter (wantG rfl rfl rfl hc40) rfl rfl (x_call (vs := [(Value.pointer r2), (Value.string r41)]) rfl rfl (mapl_cons rfl (mapl_cons rfl mapl_nil)) Try.func14 NN_14 NB_14) (Calls.mono h ?_)
                      rintro _ w22 ⟨r42, rfl, h⟩
                      refine ⟨_, rfl, ?_⟩
                      refine wpR_val (v := (Value.bool (decide (r42 = (-1))))) (w' := w22) (wantG rfl rfl rfl hc40) rfl rfl (x_eql rfl rfl rfl) ?_
                      refine wpR_val (v := (Value.bool (decide (r42 = (-1))))) (w' := w22) rfl rfl rfl (x_pickT (v := (Value.bool (decide (r42 = (-1))))) rfl rfl hc40 rfl) ?_
                      refine wpR_nil ?_
                      exact ⟨decide (r42 = (-1)), ⟨rfl, e8, e13, trivial⟩, h⟩
                    · replace h := h.2 hc40
                      refine wpR_pass (wantN rfl rfl rfl hc40) rfl rfl ?_
                      refine wpR_pass (wantN rfl rfl rfl hc40) rfl rfl ?_
                      refine wpR_pass (wantN rfl rfl rfl hc40) rfl rfl ?_
                      refine wpR_pass (wantN rfl rfl rfl hc40) rfl rfl ?_
                      refine wpR_val (v := (Value.bool false)) (w' := w20) rfl rfl rfl (x_pickF (v := (Value.bool false)) rfl rfl hc40 rfl) ?_
                      refine wpR_nil ?_
                      exact ⟨false, ⟨rfl, e8, e13, trivial⟩, h⟩
                  clear h
                  rintro c43 ρ w23 ⟨e93, e8, e13, -⟩ h
                  replace h := hk c43 w23 h
                  clear hk
                  refine wpR_val (v := (Value.bool c43)) (w' := w23) rfl rfl rfl (x_move (v := (Value.bool c43)) rfl e93) ?_
                  obtain ⟨J44, h, hk⟩ := h
                  refine wpR_joinJ 5 (fun x ρ => ρ 99 = Value.bool x ∧ True) (J44) ?_ ?_
                  · clear hk
                    rcases Bool.eq_false_or_eq_true (c43) with hc45 | hc45
                    · replace h := h.1 hc45
                      refine wpR_val (v := (Value.pointer r2)) (w' := w23) (wantG rfl rfl rfl hc45) rfl rfl (x_move (v := (Value.pointer r2)) rfl e8) ?_
                      refine wpR_enter (wantG rfl rfl rfl hc45) rfl rfl (x_call (vs := [(Value.pointer r2)]) rfl rfl (mapl_cons rfl mapl_nil) Try.func21 NN_21 NB_21) (Calls.mono h ?_)
                      rintro _ w24 ⟨r46, rfl, h⟩
                      refine ⟨_, rfl, ?_⟩
                      refine wpR_val (v := (Sl.v r30)) (w' := w24) (wantG rfl rfl rfl hc45) rfl rfl (x_move (v := (Sl.v r30)) rfl e13) ?_
                      refine wpR_enter (wantG rfl rfl rfl hc45) rfl rfl (x_call (vs := [(Sl.v r46), (Sl.v r30)]) rfl rfl (mapl_cons rfl (mapl_cons rfl mapl_nil)) Try.func20 NN_20 NB_20) (Calls.mono h ?_)
                      rintro _ w25 ⟨r47, rfl, h⟩
                      refine ⟨_, rfl, ?_⟩
                      refine wpR_val (v := (Value.bool r47)) (w' := w25) rfl rfl rfl (x_pickT (v := (Value.bool r47)) rfl rfl hc45 rfl) ?_
                      refine wpR_nil ?_
                      exact ⟨r47, ⟨rfl, trivial⟩, h⟩
                    · replace h := h.2 hc45
                      refine wpR_pass (wantN rfl rfl rfl hc45) rfl rfl ?_
                      refine wpR_pass (wantN rfl rfl rfl hc45) rfl rfl ?_
                      refine wpR_pass (wantN rfl rfl rfl hc45) rfl rfl ?_
                      refine wpR_pass (wantN rfl rfl rfl hc45) rfl rfl ?_
                      refine wpR_val (v := (Value.bool false)) (w' := w23) rfl rfl rfl (x_pickF (v := (Value.bool false)) rfl rfl hc45 rfl) ?_
                      refine wpR_nil ?_
                      exact ⟨false, ⟨rfl, trivial⟩, h⟩
                  clear h
                  rintro c48 ρ w26 ⟨e99, -⟩ h
                  replace h := hk c48 w26 h
                  clear hk
                  refine wpR_val (v := (Value.bool c48)) (w' := w26) rfl rfl rfl (x_assign (v := (Value.bool c48)) rfl e99) ?_
                  refine wpR_nil ?_
                  refine wpC_ret ?_
                  exact ⟨.inl rfl, fun a ha => ⟨_, results_rep1 rfl ha rfl, c48, rfl, h⟩⟩

/-- lingualaw04.small -/
def F7  (w0 : World) (K : Bool → World → Prop) : Prop :=
  callC Try.prog 12 #[] (fun (r : (Option Addr)) => (Value.pointer r)) w0 fun r1 w1 =>
  cnd (r1.isNone)
    (
    K false w1
    )
    (
    callC Try.prog 14 #[(Value.pointer r1), (Value.string (ByteArray.mk #[97]))] (fun (r : Int) => (Value.int .i64 r)) w1 fun r3 w2 =>
    jn (fun J4 => cnd (decide (r3 = 0))
      (
      callC Try.prog 14 #[(Value.pointer r1), (Value.string (ByteArray.mk #[98]))] (fun (r : Int) => (Value.int .i64 r)) w2 fun r6 w3 =>
      J4 (decide (r6 = 1)) w3
      )
      (
      J4 false w2
      ))
    fun c7 w4 =>
    jn (fun J8 => cnd (c7)
      (
      callC Try.prog 14 #[(Value.pointer r1), (Value.string (ByteArray.mk #[97]))] (fun (r : Int) => (Value.int .i64 r)) w4 fun r10 w5 =>
      J8 (decide (r10 = 0)) w5
      )
      (
      J8 false w4
      ))
    fun c11 w6 =>
    jn (fun J12 => cnd (c11)
      (
      callC Try.prog 14 #[(Value.pointer r1), (Value.string (ByteArray.mk #[]))] (fun (r : Int) => (Value.int .i64 r)) w6 fun r14 w7 =>
      J12 (decide (r14 = 2)) w7
      )
      (
      J12 false w6
      ))
    fun c15 w8 =>
    callC Try.prog 16 #[(Value.pointer r1), (Value.int .i64 1)] (fun (r : ByteArray × Bool) => (Value.tuple #[(Value.string r.1), (Value.bool r.2)])) w8 fun r16 w9 =>
    callC Try.prog 16 #[(Value.pointer r1), (Value.int .i64 3)] (fun (r : ByteArray × Bool) => (Value.tuple #[(Value.string r.1), (Value.bool r.2)])) w9 fun r17 w10 =>
    callC Try.prog 16 #[(Value.pointer r1), (Value.int .i64 (-1))] (fun (r : ByteArray × Bool) => (Value.tuple #[(Value.string r.1), (Value.bool r.2)])) w10 fun r18 w11 =>
    nw 9 #[(Value.string (ByteArray.mk #[120])), (Value.string (ByteArray.mk #[121])), (Value.string (ByteArray.mk #[120]))] w11 fun b19 w12 =>
    callC Try.prog 9 #[(Sl.v (⟨some ⟨b19, 0, none⟩, 3, 3⟩ : Sl))] (fun (r : (Option Addr) × Int) => (Value.tuple #[(Value.pointer r.1), (Value.int .i64 r.2)])) w12 fun r20 w13 =>
    jn (fun J29 => cnd ((((c15 && (beqS r16.1 (ByteArray.mk #[98]))) && r16.2) && (!r17.2)) && (!r18.2))
      (
      callC Try.prog 18 #[(Value.pointer r1)] (fun (r : Int) => (Value.int .i64 r)) w13 fun r31 w14 =>
      J29 (decide (r31 = 3)) w14
      )
      (
      J29 false w13
      ))
    fun c32 w15 =>
    jn (fun J37 => cnd ((c32 && r20.1.isNone) && (decide (r20.2 = 5)))
      (
      callC Try.prog 10 #[(Value.int .i64 65537)] (fun (r : ByteArray) => (Value.string r)) w15 fun r39 w16 =>
      callC Try.prog 14 #[(Value.pointer r1), (Value.string r39)] (fun (r : Int) => (Value.int .i64 r)) w16 fun r40 w17 =>
      J37 (decide (r40 = (-1))) w17
      )
      (
      J37 false w15
      ))
    fun c41 w18 =>
    K c41 w18
    )
set_option maxRecDepth 100000 in
theorem D7  (w0 : World) (K : Bool → World → Prop) (h : F7  w0 K) : callC Try.prog 7 #[] (fun (r : Bool) => (Value.bool r)) w0 K := by
  unfold F7 at h
  refine calls_of_wpC Try.func7 rfl 87 rfl (by simp) ?_
  intro ρ hρ
  clear hρ
  refine wpC_seq ?_
  refine wpC_region ?_
  refine wpR_val (v := (Value.bool false)) (w' := w0) rfl rfl rfl (x_assign (v := (Value.bool false)) rfl rfl) ?_
  refine wpR_nil ?_
  refine wpC_seq ?_
  refine wpC_cut (fun ρ => True) trivial ?_
  rintro ρ -
  refine wpC_region ?_
  refine wpR_enter rfl rfl rfl (x_call (vs := []) rfl rfl mapl_nil Try.func12 NN_12 NB_12) (Calls.mono h ?_)
  rintro _ w1 ⟨r1, rfl, h⟩
  refine ⟨_, rfl, ?_⟩
  refine wpR_val (v := (Value.pointer r1)) (w' := w1) rfl rfl rfl (x_assign (v := (Value.pointer r1)) rfl rfl) ?_
  refine wpR_nil ?_
  refine wpC_seq ?_
  refine wpC_seq ?_
  refine wpC_cut (fun ρ => ρ 1 = (Value.pointer r1) ∧ True) ⟨rfl, trivial⟩ ?_
  rintro ρ ⟨e1, -⟩
  refine wpC_region ?_
  refine wpR_val (v := (Value.pointer r1)) (w' := w1) rfl rfl rfl (x_move (v := (Value.pointer r1)) rfl e1) ?_
  refine wpR_val (v := (Value.bool r1.isNone)) (w' := w1) rfl rfl rfl (x_eqlNil rfl rfl rfl isPtrT_25) ?_
  refine wpR_nil ?_
  refine wpC_cond (b := r1.isNone) rfl (fun hc2 => ?_) (fun hc2 => ?_)
  · replace h := h.1 hc2
    refine wpC_seq ?_
    refine wpC_cut (fun ρ => True) trivial ?_
    rintro ρ -
    refine wpC_region ?_
    refine wpR_val (v := (Value.bool false)) (w' := w1) rfl rfl rfl (x_assign (v := (Value.bool false)) rfl rfl) ?_
    refine wpR_nil ?_
    refine wpC_ret ?_
    exact ⟨.inl rfl, fun a ha => ⟨_, results_rep1 rfl ha rfl, false, rfl, h⟩⟩
  · replace h := h.2 hc2
    refine wpC_skip ?_
    refine wpC_seq ?_
    refine wpC_cut (fun ρ => ρ 1 = (Value.pointer r1) ∧ True) ⟨e1, trivial⟩ ?_
    rintro ρ ⟨e1, -⟩
    refine wpC_region ?_
    refine wpR_val (v := (Value.pointer r1)) (w' := w1) rfl rfl rfl (x_move (v := (Value.pointer r1)) rfl e1) ?_
    refine wpR_enter rfl rfl rfl (x_call (vs := [(Value.pointer r1), (Value.string (ByteArray.mk #[97]))]) rfl rfl (mapl_cons rfl (mapl_cons rfl mapl_nil)) Try.func14 NN_14 NB_14) (Calls.mono h ?_)
    rintro _ w2 ⟨r3, rfl, h⟩
    refine ⟨_, rfl, ?_⟩
    refine wpR_val (v := (Value.bool (decide (r3 = 0)))) (w' := w2) rfl rfl rfl (x_eql rfl rfl rfl) ?_
    refine wpR_val (v := (Value.bool (decide (r3 = 0)))) (w' := w2) rfl rfl rfl (x_move (v := (Value.bool (decide (r3 = 0)))) rfl rfl) ?_
    obtain ⟨J4, h, hk⟩ := h
    refine wpR_joinJ 4 (fun x ρ => ρ 21 = Value.bool x ∧ ρ 1 = (Value.pointer r1) ∧ True) (J4) ?_ ?_
    · clear hk
      rcases Bool.eq_false_or_eq_true (decide (r3 = 0)) with hc5 | hc5
      · replace h := h.1 hc5
        refine wpR_val (v := (Value.pointer r1)) (w' := w2) (wantG rfl rfl rfl hc5) rfl rfl (x_move (v := (Value.pointer r1)) rfl e1) ?_
        refine wpR_enter (wantG rfl rfl rfl hc5) rfl rfl (x_call (vs := [(Value.pointer r1), (Value.string (ByteArray.mk #[98]))]) rfl rfl (mapl_cons rfl (mapl_cons rfl mapl_nil)) Try.func14 NN_14 NB_14) (Calls.mono h ?_)
        rintro _ w3 ⟨r6, rfl, h⟩
        refine ⟨_, rfl, ?_⟩
        refine wpR_val (v := (Value.bool (decide (r6 = 1)))) (w' := w3) (wantG rfl rfl rfl hc5) rfl rfl (x_eql rfl rfl rfl) ?_
        refine wpR_val (v := (Value.bool (decide (r6 = 1)))) (w' := w3) rfl rfl rfl (x_pickT (v := (Value.bool (decide (r6 = 1)))) rfl rfl hc5 rfl) ?_
        refine wpR_nil ?_
        exact ⟨decide (r6 = 1), ⟨rfl, e1, trivial⟩, h⟩
      · replace h := h.2 hc5
        refine wpR_pass (wantN rfl rfl rfl hc5) rfl rfl ?_
        refine wpR_pass (wantN rfl rfl rfl hc5) rfl rfl ?_
        refine wpR_pass (wantN rfl rfl rfl hc5) rfl rfl ?_
        refine wpR_val (v := (Value.bool false)) (w' := w2) rfl rfl rfl (x_pickF (v := (Value.bool false)) rfl rfl hc5 rfl) ?_
        refine wpR_nil ?_
        exact ⟨false, ⟨rfl, e1, trivial⟩, h⟩
    clear h
    rintro c7 ρ w4 ⟨e21, e1, -⟩ h
    replace h := hk c7 w4 h
    clear hk
    refine wpR_val (v := (Value.bool c7)) (w' := w4) rfl rfl rfl (x_move (v := (Value.bool c7)) rfl e21) ?_
    obtain ⟨J8, h, hk⟩ := h
    refine wpR_joinJ 4 (fun x ρ => ρ 26 = Value.bool x ∧ ρ 1 = (Value.pointer r1) ∧ True) (J8) ?_ ?_
    · clear hk
      rcases Bool.eq_false_or_eq_true (c7) with hc9 | hc9
      · replace h := h.1 hc9
        refine wpR_val (v := (Value.pointer r1)) (w' := w4) (wantG rfl rfl rfl hc9) rfl rfl (x_move (v := (Value.pointer r1)) rfl e1) ?_
        refine wpR_enter (wantG rfl rfl rfl hc9) rfl rfl (x_call (vs := [(Value.pointer r1), (Value.string (ByteArray.mk #[97]))]) rfl rfl (mapl_cons rfl (mapl_cons rfl mapl_nil)) Try.func14 NN_14 NB_14) (Calls.mono h ?_)
        rintro _ w5 ⟨r10, rfl, h⟩
        refine ⟨_, rfl, ?_⟩
        refine wpR_val (v := (Value.bool (decide (r10 = 0)))) (w' := w5) (wantG rfl rfl rfl hc9) rfl rfl (x_eql rfl rfl rfl) ?_
        refine wpR_val (v := (Value.bool (decide (r10 = 0)))) (w' := w5) rfl rfl rfl (x_pickT (v := (Value.bool (decide (r10 = 0)))) rfl rfl hc9 rfl) ?_
        refine wpR_nil ?_
        exact ⟨decide (r10 = 0), ⟨rfl, e1, trivial⟩, h⟩
      · replace h := h.2 hc9
        refine wpR_pass (wantN rfl rfl rfl hc9) rfl rfl ?_
        refine wpR_pass (wantN rfl rfl rfl hc9) rfl rfl ?_
        refine wpR_pass (wantN rfl rfl rfl hc9) rfl rfl ?_
        refine wpR_val (v := (Value.bool false)) (w' := w4) rfl rfl rfl (x_pickF (v := (Value.bool false)) rfl rfl hc9 rfl) ?_
        refine wpR_nil ?_
        exact ⟨false, ⟨rfl, e1, trivial⟩, h⟩
    clear h
    rintro c11 ρ w6 ⟨e26, e1, -⟩ h
    replace h := hk c11 w6 h
    clear hk
    refine wpR_val (v := (Value.bool c11)) (w' := w6) rfl rfl rfl (x_move (v := (Value.bool c11)) rfl e26) ?_
    obtain ⟨J12, h, hk⟩ := h
    refine wpR_joinJ 4 (fun x ρ => ρ 31 = Value.bool x ∧ ρ 1 = (Value.pointer r1) ∧ True) (J12) ?_ ?_
    · clear hk
      rcases Bool.eq_false_or_eq_true (c11) with hc13 | hc13
      · replace h := h.1 hc13
        refine wpR_val (v := (Value.pointer r1)) (w' := w6) (wantG rfl rfl rfl hc13) rfl rfl (x_move (v := (Value.pointer r1)) rfl e1) ?_
        refine wpR_enter (wantG rfl rfl rfl hc13) rfl rfl (x_call (vs := [(Value.pointer r1), (Value.string (ByteArray.mk #[]))]) rfl rfl (mapl_cons rfl (mapl_cons rfl mapl_nil)) Try.func14 NN_14 NB_14) (Calls.mono h ?_)
        rintro _ w7 ⟨r14, rfl, h⟩
        refine ⟨_, rfl, ?_⟩
        refine wpR_val (v := (Value.bool (decide (r14 = 2)))) (w' := w7) (wantG rfl rfl rfl hc13) rfl rfl (x_eql rfl rfl rfl) ?_
        refine wpR_val (v := (Value.bool (decide (r14 = 2)))) (w' := w7) rfl rfl rfl (x_pickT (v := (Value.bool (decide (r14 = 2)))) rfl rfl hc13 rfl) ?_
        refine wpR_nil ?_
        exact ⟨decide (r14 = 2), ⟨rfl, e1, trivial⟩, h⟩
      · replace h := h.2 hc13
        refine wpR_pass (wantN rfl rfl rfl hc13) rfl rfl ?_
        refine wpR_pass (wantN rfl rfl rfl hc13) rfl rfl ?_
        refine wpR_pass (wantN rfl rfl rfl hc13) rfl rfl ?_
        refine wpR_val (v := (Value.bool false)) (w' := w6) rfl rfl rfl (x_pickF (v := (Value.bool false)) rfl rfl hc13 rfl) ?_
        refine wpR_nil ?_
        exact ⟨false, ⟨rfl, e1, trivial⟩, h⟩
    clear h
    rintro c15 ρ w8 ⟨e31, e1, -⟩ h
    replace h := hk c15 w8 h
    clear hk
    refine wpR_val (v := (Value.bool c15)) (w' := w8) rfl rfl rfl (x_assign (v := (Value.bool c15)) rfl e31) ?_
    refine wpR_nil ?_
    refine wpC_seq ?_
    refine wpC_cut (fun ρ => ρ 1 = (Value.pointer r1) ∧ ρ 2 = (Value.bool c15) ∧ True) ⟨e1, rfl, trivial⟩ ?_
    rintro ρ ⟨e1, e2, -⟩
    refine wpC_region ?_
    refine wpR_val (v := (Value.pointer r1)) (w' := w8) rfl rfl rfl (x_move (v := (Value.pointer r1)) rfl e1) ?_
    refine wpR_enter rfl rfl rfl (x_call (vs := [(Value.pointer r1), (Value.int .i64 1)]) rfl rfl (mapl_cons rfl (mapl_cons rfl mapl_nil)) Try.func16 NN_16 NB_16) (Calls.mono h ?_)
    rintro _ w9 ⟨r16, rfl, h⟩
    refine ⟨_, rfl, ?_⟩
    refine wpR_val (v := (Value.tuple #[(Value.string r16.1), (Value.bool r16.2)])) (w' := w9) rfl rfl rfl (x_move (v := (Value.tuple #[(Value.string r16.1), (Value.bool r16.2)])) rfl rfl) ?_
    refine wpR_val (v := (Value.string r16.1)) (w' := w9) rfl rfl rfl (x_extract rfl rfl rfl) ?_
    refine wpR_val (v := (Value.bool r16.2)) (w' := w9) rfl rfl rfl (x_extract rfl rfl rfl) ?_
    refine wpR_val (v := (Value.string r16.1)) (w' := w9) rfl rfl rfl (x_assign (v := (Value.string r16.1)) rfl rfl) ?_
    refine wpR_val (v := (Value.bool r16.2)) (w' := w9) rfl rfl rfl (x_assign (v := (Value.bool r16.2)) rfl rfl) ?_
    refine wpR_nil ?_
    refine wpC_seq ?_
    refine wpC_cut (fun ρ => ρ 1 = (Value.pointer r1) ∧ ρ 2 = (Value.bool c15) ∧ ρ 3 = (Value.string r16.1) ∧ ρ 4 = (Value.bool r16.2) ∧ True) ⟨e1, e2, rfl, rfl, trivial⟩ ?_
    rintro ρ ⟨e1, e2, e3, e4, -⟩
    refine wpC_region ?_
    refine wpR_val (v := (Value.pointer r1)) (w' := w9) rfl rfl rfl (x_move (v := (Value.pointer r1)) rfl e1) ?_
    refine wpR_enter rfl rfl rfl (x_call (vs := [(Value.pointer r1), (Value.int .i64 3)]) rfl rfl (mapl_cons rfl (mapl_cons rfl mapl_nil)) Try.func16 NN_16 NB_16) (Calls.mono h ?_)
    rintro _ w10 ⟨r17, rfl, h⟩
    refine ⟨_, rfl, ?_⟩
    refine wpR_val (v := (Value.tuple #[(Value.string r17.1), (Value.bool r17.2)])) (w' := w10) rfl rfl rfl (x_move (v := (Value.tuple #[(Value.string r17.1), (Value.bool r17.2)])) rfl rfl) ?_
    refine wpR_val (v := (Value.string r17.1)) (w' := w10) rfl rfl rfl (x_extract rfl rfl rfl) ?_
    refine wpR_val (v := (Value.bool r17.2)) (w' := w10) rfl rfl rfl (x_extract rfl rfl rfl) ?_
    refine wpR_val (v := (Value.string r17.1)) (w' := w10) rfl rfl rfl (x_assign (v := (Value.string r17.1)) rfl rfl) ?_
    refine wpR_val (v := (Value.bool r17.2)) (w' := w10) rfl rfl rfl (x_assign (v := (Value.bool r17.2)) rfl rfl) ?_
    refine wpR_nil ?_
    refine wpC_seq ?_
    refine wpC_cut (fun ρ => ρ 1 = (Value.pointer r1) ∧ ρ 2 = (Value.bool c15) ∧ ρ 3 = (Value.string r16.1) ∧ ρ 4 = (Value.bool r16.2) ∧ ρ 6 = (Value.bool r17.2) ∧ True) ⟨e1, e2, e3, e4, rfl, trivial⟩ ?_
    rintro ρ ⟨e1, e2, e3, e4, e6, -⟩
    refine wpC_region ?_
    refine wpR_val (v := (Value.pointer r1)) (w' := w10) rfl rfl rfl (x_move (v := (Value.pointer r1)) rfl e1) ?_
    refine wpR_enter rfl rfl rfl (x_call (vs := [(Value.pointer r1), (Value.int .i64 (-1))]) rfl rfl (mapl_cons rfl (mapl_cons rfl mapl_nil)) Try.func16 NN_16 NB_16) (Calls.mono h ?_)
    rintro _ w11 ⟨r18, rfl, h⟩
    refine ⟨_, rfl, ?_⟩
    refine wpR_val (v := (Value.tuple #[(Value.string r18.1), (Value.bool r18.2)])) (w' := w11) rfl rfl rfl (x_move (v := (Value.tuple #[(Value.string r18.1), (Value.bool r18.2)])) rfl rfl) ?_
    refine wpR_val (v := (Value.string r18.1)) (w' := w11) rfl rfl rfl (x_extract rfl rfl rfl) ?_
    refine wpR_val (v := (Value.bool r18.2)) (w' := w11) rfl rfl rfl (x_extract rfl rfl rfl) ?_
    refine wpR_val (v := (Value.string r18.1)) (w' := w11) rfl rfl rfl (x_assign (v := (Value.string r18.1)) rfl rfl) ?_
    refine wpR_val (v := (Value.bool r18.2)) (w' := w11) rfl rfl rfl (x_assign (v := (Value.bool r18.2)) rfl rfl) ?_
    refine wpR_nil ?_
    refine wpC_seq ?_
    refine wpC_cut (fun ρ => ρ 1 = (Value.pointer r1) ∧ ρ 2 = (Value.bool c15) ∧ ρ 3 = (Value.string r16.1) ∧ ρ 4 = (Value.bool r16.2) ∧ ρ 6 = (Value.bool r17.2) ∧ ρ 8 = (Value.bool r18.2) ∧ True) ⟨e1, e2, e3, e4, e6, rfl, trivial⟩ ?_
    rintro ρ ⟨e1, e2, e3, e4, e6, e8, -⟩
    refine wpC_region ?_
    obtain ⟨b19, hb19⟩ : ∃ u, u = w11.heap.size := ⟨_, rfl⟩
    obtain ⟨w12, hw19⟩ : ∃ u, u = w11.alloc (.cells #[(Value.string (ByteArray.mk #[120])), (Value.string (ByteArray.mk #[121])), (Value.string (ByteArray.mk #[120]))] 9) := ⟨_, rfl⟩
    replace h := h b19 w12 hb19 hw19
    refine wpR_val (v := (Sl.v (⟨some ⟨b19, 0, none⟩, 3, 3⟩ : Sl))) (w' := w12) rfl rfl rfl ((x_buildSlice (qs := [(0, (Value.string (ByteArray.mk #[120]))), (1, (Value.string (ByteArray.mk #[121]))), (2, (Value.string (ByteArray.mk #[120])))]) rfl (by rfl) (BS_22_3_0_1_2 (ByteArray.mk #[120]) (ByteArray.mk #[121]) (ByteArray.mk #[120]))).trans (by rw [← hb19, ← hw19])) ?_
    refine wpR_enter rfl rfl rfl (x_call (vs := [(Sl.v (⟨some ⟨b19, 0, none⟩, 3, 3⟩ : Sl))]) rfl rfl (mapl_cons rfl mapl_nil) Try.func9 NN_9 NB_9) (Calls.mono h ?_)
    rintro _ w13 ⟨r20, rfl, h⟩
    refine ⟨_, rfl, ?_⟩
    refine wpR_val (v := (Value.tuple #[(Value.pointer r20.1), (Value.int .i64 r20.2)])) (w' := w13) rfl rfl rfl (x_move (v := (Value.tuple #[(Value.pointer r20.1), (Value.int .i64 r20.2)])) rfl rfl) ?_
    refine wpR_val (v := (Value.pointer r20.1)) (w' := w13) rfl rfl rfl (x_extract rfl rfl rfl) ?_
    refine wpR_val (v := (Value.int .i64 r20.2)) (w' := w13) rfl rfl rfl (x_extract rfl rfl rfl) ?_
    refine wpR_val (v := (Value.pointer r20.1)) (w' := w13) rfl rfl rfl (x_assign (v := (Value.pointer r20.1)) rfl rfl) ?_
    refine wpR_val (v := (Value.int .i64 r20.2)) (w' := w13) rfl rfl rfl (x_assign (v := (Value.int .i64 r20.2)) rfl rfl) ?_
    refine wpR_nil ?_
    refine wpC_seq ?_
    refine wpC_cut (fun ρ => ρ 1 = (Value.pointer r1) ∧ ρ 2 = (Value.bool c15) ∧ ρ 3 = (Value.string r16.1) ∧ ρ 4 = (Value.bool r16.2) ∧ ρ 6 = (Value.bool r17.2) ∧ ρ 8 = (Value.bool r18.2) ∧ ρ 9 = (Value.pointer r20.1) ∧ ρ 10 = (Value.int .i64 r20.2) ∧ True) ⟨e1, e2, e3, e4, e6, e8, rfl, rfl, trivial⟩ ?_
    rintro ρ ⟨e1, e2, e3, e4, e6, e8, e9, e10, -⟩
    refine wpC_region ?_
    refine wpR_val (v := (Value.bool c15)) (w' := w13) rfl rfl rfl (x_move (v := (Value.bool c15)) rfl e2) ?_
    refine wpR_val (v := (Value.bool c15)) (w' := w13) rfl rfl rfl (x_move (v := (Value.bool c15)) rfl rfl) ?_
    refine wpR_joinJ 3 (fun (_ : Unit) ρ => ρ 56 = Value.bool (c15 && (beqS r16.1 (ByteArray.mk #[98]))) ∧ ρ 1 = (Value.pointer r1) ∧ ρ 4 = (Value.bool r16.2) ∧ ρ 6 = (Value.bool r17.2) ∧ ρ 8 = (Value.bool r18.2) ∧ ρ 9 = (Value.pointer r20.1) ∧ ρ 10 = (Value.int .i64 r20.2) ∧ True) (fun _ w => w13 = w) ?_ ?_
    · clear h
      rcases Bool.eq_false_or_eq_true (c15) with hc22 | hc22
      · skip
        refine wpR_val (v := (Value.string r16.1)) (w' := w13) (wantG rfl rfl rfl hc22) rfl rfl (x_move (v := (Value.string r16.1)) rfl e3) ?_
        refine wpR_val (v := (Value.bool (beqS r16.1 (ByteArray.mk #[98])))) (w' := w13) (wantG rfl rfl rfl hc22) rfl rfl (x_eqlS rfl rfl rfl) ?_
        refine wpR_val (v := (Value.bool (beqS r16.1 (ByteArray.mk #[98])))) (w' := w13) rfl rfl rfl (x_pickT (v := (Value.bool (beqS r16.1 (ByteArray.mk #[98])))) rfl rfl hc22 rfl) ?_
        refine wpR_nil ?_
        exact ⟨(), ⟨(by rw [hc22]; rfl), e1, e4, e6, e8, e9, e10, trivial⟩, rfl⟩
      · skip
        refine wpR_pass (wantN rfl rfl rfl hc22) rfl rfl ?_
        refine wpR_pass (wantN rfl rfl rfl hc22) rfl rfl ?_
        refine wpR_val (v := (Value.bool false)) (w' := w13) rfl rfl rfl (x_pickF (v := (Value.bool false)) rfl rfl hc22 rfl) ?_
        refine wpR_nil ?_
        exact ⟨(), ⟨(by rw [hc22]; rfl), e1, e4, e6, e8, e9, e10, trivial⟩, rfl⟩
    rintro _ ρ wj ⟨e56, e1, e4, e6, e8, e9, e10, -⟩ rfl
    refine wpR_val (v := (Value.bool (c15 && (beqS r16.1 (ByteArray.mk #[98]))))) (w' := w13) rfl rfl rfl (x_move (v := (Value.bool (c15 && (beqS r16.1 (ByteArray.mk #[98]))))) rfl e56) ?_
    refine wpR_joinJ 2 (fun (_ : Unit) ρ => ρ 59 = Value.bool ((c15 && (beqS r16.1 (ByteArray.mk #[98]))) && r16.2) ∧ ρ 1 = (Value.pointer r1) ∧ ρ 6 = (Value.bool r17.2) ∧ ρ 8 = (Value.bool r18.2) ∧ ρ 9 = (Value.pointer r20.1) ∧ ρ 10 = (Value.int .i64 r20.2) ∧ True) (fun _ w => w13 = w) ?_ ?_
    · clear h
      rcases Bool.eq_false_or_eq_true (c15 && (beqS r16.1 (ByteArray.mk #[98]))) with hc24 | hc24
      · skip
        refine wpR_val (v := (Value.bool r16.2)) (w' := w13) (wantG rfl rfl rfl hc24) rfl rfl (x_move (v := (Value.bool r16.2)) rfl e4) ?_
        refine wpR_val (v := (Value.bool r16.2)) (w' := w13) rfl rfl rfl (x_pickT (v := (Value.bool r16.2)) rfl rfl hc24 rfl) ?_
        refine wpR_nil ?_
        exact ⟨(), ⟨(by rw [hc24]; rfl), e1, e6, e8, e9, e10, trivial⟩, rfl⟩
      · skip
        refine wpR_pass (wantN rfl rfl rfl hc24) rfl rfl ?_
        refine wpR_val (v := (Value.bool false)) (w' := w13) rfl rfl rfl (x_pickF (v := (Value.bool false)) rfl rfl hc24 rfl) ?_
        refine wpR_nil ?_
        exact ⟨(), ⟨(by rw [hc24]; rfl), e1, e6, e8, e9, e10, trivial⟩, rfl⟩
    rintro _ ρ wj ⟨e59, e1, e6, e8, e9, e10, -⟩ rfl
    refine wpR_val (v := (Value.bool ((c15 && (beqS r16.1 (ByteArray.mk #[98]))) && r16.2))) (w' := w13) rfl rfl rfl (x_move (v := (Value.bool ((c15 && (beqS r16.1 (ByteArray.mk #[98]))) && r16.2))) rfl e59) ?_
    refine wpR_joinJ 3 (fun (_ : Unit) ρ => ρ 63 = Value.bool (((c15 && (beqS r16.1 (ByteArray.mk #[98]))) && r16.2) && (!r17.2)) ∧ ρ 1 = (Value.pointer r1) ∧ ρ 8 = (Value.bool r18.2) ∧ ρ 9 = (Value.pointer r20.1) ∧ ρ 10 = (Value.int .i64 r20.2) ∧ True) (fun _ w => w13 = w) ?_ ?_
    · clear h
      rcases Bool.eq_false_or_eq_true ((c15 && (beqS r16.1 (ByteArray.mk #[98]))) && r16.2) with hc26 | hc26
      · skip
        refine wpR_val (v := (Value.bool r17.2)) (w' := w13) (wantG rfl rfl rfl hc26) rfl rfl (x_move (v := (Value.bool r17.2)) rfl e6) ?_
        refine wpR_val (v := (Value.bool (!r17.2))) (w' := w13) (wantG rfl rfl rfl hc26) rfl rfl (x_not rfl rfl) ?_
        refine wpR_val (v := (Value.bool (!r17.2))) (w' := w13) rfl rfl rfl (x_pickT (v := (Value.bool (!r17.2))) rfl rfl hc26 rfl) ?_
        refine wpR_nil ?_
        exact ⟨(), ⟨(by rw [hc26]; rfl), e1, e8, e9, e10, trivial⟩, rfl⟩
      · skip
        refine wpR_pass (wantN rfl rfl rfl hc26) rfl rfl ?_
        refine wpR_pass (wantN rfl rfl rfl hc26) rfl rfl ?_
        refine wpR_val (v := (Value.bool false)) (w' := w13) rfl rfl rfl (x_pickF (v := (Value.bool false)) rfl rfl hc26 rfl) ?_
        refine wpR_nil ?_
        exact ⟨(), ⟨(by rw [hc26]; rfl), e1, e8, e9, e10, trivial⟩, rfl⟩
    rintro _ ρ wj ⟨e63, e1, e8, e9, e10, -⟩ rfl
    refine wpR_val (v := (Value.bool (((c15 && (beqS r16.1 (ByteArray.mk #[98]))) && r16.2) && (!r17.2)))) (w' := w13) rfl rfl rfl (x_move (v := (Value.bool (((c15 && (beqS r16.1 (ByteArray.mk #[98]))) && r16.2) && (!r17.2)))) rfl e63) ?_
    refine wpR_joinJ 3 (fun (_ : Unit) ρ => ρ 67 = Value.bool ((((c15 && (beqS r16.1 (ByteArray.mk #[98]))) && r16.2) && (!r17.2)) && (!r18.2)) ∧ ρ 1 = (Value.pointer r1) ∧ ρ 9 = (Value.pointer r20.1) ∧ ρ 10 = (Value.int .i64 r20.2) ∧ True) (fun _ w => w13 = w) ?_ ?_
    · clear h
      rcases Bool.eq_false_or_eq_true (((c15 && (beqS r16.1 (ByteArray.mk #[98]))) && r16.2) && (!r17.2)) with hc28 | hc28
      · skip
        refine wpR_val (v := (Value.bool r18.2)) (w' := w13) (wantG rfl rfl rfl hc28) rfl rfl (x_move (v := (Value.bool r18.2)) rfl e8) ?_
        refine wpR_val (v := (Value.bool (!r18.2))) (w' := w13) (wantG rfl rfl rfl hc28) rfl rfl (x_not rfl rfl) ?_
        refine wpR_val (v := (Value.bool (!r18.2))) (w' := w13) rfl rfl rfl (x_pickT (v := (Value.bool (!r18.2))) rfl rfl hc28 rfl) ?_
        refine wpR_nil ?_
        exact ⟨(), ⟨(by rw [hc28]; rfl), e1, e9, e10, trivial⟩, rfl⟩
      · skip
        refine wpR_pass (wantN rfl rfl rfl hc28) rfl rfl ?_
        refine wpR_pass (wantN rfl rfl rfl hc28) rfl rfl ?_
        refine wpR_val (v := (Value.bool false)) (w' := w13) rfl rfl rfl (x_pickF (v := (Value.bool false)) rfl rfl hc28 rfl) ?_
        refine wpR_nil ?_
        exact ⟨(), ⟨(by rw [hc28]; rfl), e1, e9, e10, trivial⟩, rfl⟩
    rintro _ ρ wj ⟨e67, e1, e9, e10, -⟩ rfl
    refine wpR_val (v := (Value.bool ((((c15 && (beqS r16.1 (ByteArray.mk #[98]))) && r16.2) && (!r17.2)) && (!r18.2)))) (w' := w13) rfl rfl rfl (x_move (v := (Value.bool ((((c15 && (beqS r16.1 (ByteArray.mk #[98]))) && r16.2) && (!r17.2)) && (!r18.2)))) rfl e67) ?_
    obtain ⟨J29, h, hk⟩ := h
    refine wpR_joinJ 4 (fun x ρ => ρ 72 = Value.bool x ∧ ρ 1 = (Value.pointer r1) ∧ ρ 9 = (Value.pointer r20.1) ∧ ρ 10 = (Value.int .i64 r20.2) ∧ True) (J29) ?_ ?_
    · clear hk
      rcases Bool.eq_false_or_eq_true ((((c15 && (beqS r16.1 (ByteArray.mk #[98]))) && r16.2) && (!r17.2)) && (!r18.2)) with hc30 | hc30
      · replace h := h.1 hc30
        refine wpR_val (v := (Value.pointer r1)) (w' := w13) (wantG rfl rfl rfl hc30) rfl rfl (x_move (v := (Value.pointer r1)) rfl e1) ?_
        refine wpR_enter (wantG rfl rfl rfl hc30) rfl rfl (x_call (vs := [(Value.pointer r1)]) rfl rfl (mapl_cons rfl mapl_nil) Try.func18 NN_18 NB_18) (Calls.mono h ?_)
        rintro _ w14 ⟨r31, rfl, h⟩
        refine ⟨_, rfl, ?_⟩
        refine wpR_val (v := (Value.bool (decide (r31 = 3)))) (w' := w14) (wantG rfl rfl rfl hc30) rfl rfl (x_eql rfl rfl rfl) ?_
        refine wpR_val (v := (Value.bool (decide (r31 = 3)))) (w' := w14) rfl rfl rfl (x_pickT (v := (Value.bool (decide (r31 = 3)))) rfl rfl hc30 rfl) ?_
        refine wpR_nil ?_
        exact ⟨decide (r31 = 3), ⟨rfl, e1, e9, e10, trivial⟩, h⟩
      · replace h := h.2 hc30
        refine wpR_pass (wantN rfl rfl rfl hc30) rfl rfl ?_
        refine wpR_pass (wantN rfl rfl rfl hc30) rfl rfl ?_
        refine wpR_pass (wantN rfl rfl rfl hc30) rfl rfl ?_
        refine wpR_val (v := (Value.bool false)) (w' := w13) rfl rfl rfl (x_pickF (v := (Value.bool false)) rfl rfl hc30 rfl) ?_
        refine wpR_nil ?_
        exact ⟨false, ⟨rfl, e1, e9, e10, trivial⟩, h⟩
    clear h
    rintro c32 ρ w15 ⟨e72, e1, e9, e10, -⟩ h
    replace h := hk c32 w15 h
    clear hk
    refine wpR_val (v := (Value.bool c32)) (w' := w15) rfl rfl rfl (x_move (v := (Value.bool c32)) rfl e72) ?_
    refine wpR_joinJ 3 (fun (_ : Unit) ρ => ρ 76 = Value.bool (c32 && r20.1.isNone) ∧ ρ 1 = (Value.pointer r1) ∧ ρ 10 = (Value.int .i64 r20.2) ∧ True) (fun _ w => w15 = w) ?_ ?_
    · clear h
      rcases Bool.eq_false_or_eq_true (c32) with hc34 | hc34
      · skip
        refine wpR_val (v := (Value.pointer r20.1)) (w' := w15) (wantG rfl rfl rfl hc34) rfl rfl (x_move (v := (Value.pointer r20.1)) rfl e9) ?_
        refine wpR_val (v := (Value.bool r20.1.isNone)) (w' := w15) (wantG rfl rfl rfl hc34) rfl rfl (x_eqlNil rfl rfl rfl isPtrT_25) ?_
        refine wpR_val (v := (Value.bool r20.1.isNone)) (w' := w15) rfl rfl rfl (x_pickT (v := (Value.bool r20.1.isNone)) rfl rfl hc34 rfl) ?_
        refine wpR_nil ?_
        exact ⟨(), ⟨(by rw [hc34]; rfl), e1, e10, trivial⟩, rfl⟩
      · skip
        refine wpR_pass (wantN rfl rfl rfl hc34) rfl rfl ?_
        refine wpR_pass (wantN rfl rfl rfl hc34) rfl rfl ?_
        refine wpR_val (v := (Value.bool false)) (w' := w15) rfl rfl rfl (x_pickF (v := (Value.bool false)) rfl rfl hc34 rfl) ?_
        refine wpR_nil ?_
        exact ⟨(), ⟨(by rw [hc34]; rfl), e1, e10, trivial⟩, rfl⟩
    rintro _ ρ wj ⟨e76, e1, e10, -⟩ rfl
    refine wpR_val (v := (Value.bool (c32 && r20.1.isNone))) (w' := w15) rfl rfl rfl (x_move (v := (Value.bool (c32 && r20.1.isNone))) rfl e76) ?_
    refine wpR_joinJ 3 (fun (_ : Unit) ρ => ρ 80 = Value.bool ((c32 && r20.1.isNone) && (decide (r20.2 = 5))) ∧ ρ 1 = (Value.pointer r1) ∧ True) (fun _ w => w15 = w) ?_ ?_
    · clear h
      rcases Bool.eq_false_or_eq_true (c32 && r20.1.isNone) with hc36 | hc36
      · skip
        refine wpR_val (v := (Value.int .i64 r20.2)) (w' := w15) (wantG rfl rfl rfl hc36) rfl rfl (x_move (v := (Value.int .i64 r20.2)) rfl e10) ?_
        refine wpR_val (v := (Value.bool (decide (r20.2 = 5)))) (w' := w15) (wantG rfl rfl rfl hc36) rfl rfl (x_eql rfl rfl rfl) ?_
        refine wpR_val (v := (Value.bool (decide (r20.2 = 5)))) (w' := w15) rfl rfl rfl (x_pickT (v := (Value.bool (decide (r20.2 = 5)))) rfl rfl hc36 rfl) ?_
        refine wpR_nil ?_
        exact ⟨(), ⟨(by rw [hc36]; rfl), e1, trivial⟩, rfl⟩
      · skip
        refine wpR_pass (wantN rfl rfl rfl hc36) rfl rfl ?_
        refine wpR_pass (wantN rfl rfl rfl hc36) rfl rfl ?_
        refine wpR_val (v := (Value.bool false)) (w' := w15) rfl rfl rfl (x_pickF (v := (Value.bool false)) rfl rfl hc36 rfl) ?_
        refine wpR_nil ?_
        exact ⟨(), ⟨(by rw [hc36]; rfl), e1, trivial⟩, rfl⟩
    rintro _ ρ wj ⟨e80, e1, -⟩ rfl
    refine wpR_val (v := (Value.bool ((c32 && r20.1.isNone) && (decide (r20.2 = 5))))) (w' := w15) rfl rfl rfl (x_move (v := (Value.bool ((c32 && r20.1.isNone) && (decide (r20.2 = 5))))) rfl e80) ?_
    obtain ⟨J37, h, hk⟩ := h
    refine wpR_joinJ 5 (fun x ρ => ρ 86 = Value.bool x ∧ True) (J37) ?_ ?_
    · clear hk
      rcases Bool.eq_false_or_eq_true ((c32 && r20.1.isNone) && (decide (r20.2 = 5))) with hc38 | hc38
      · replace h := h.1 hc38
        refine wpR_val (v := (Value.pointer r1)) (w' := w15) (wantG rfl rfl rfl hc38) rfl rfl (x_move (v := (Value.pointer r1)) rfl e1) ?_
        refine wpR_enter (wantG rfl rfl rfl hc38) rfl rfl (x_call (vs := [(Value.int .i64 65537)]) rfl rfl (mapl_cons rfl mapl_nil) Try.func10 NN_10 NB_10) (Calls.mono h ?_)
        rintro _ w16 ⟨r39, rfl, h⟩
        refine ⟨_, rfl, ?_⟩
        refine wpR_enter (wantG rfl rfl rfl hc38) rfl rfl (x_call (vs := [(Value.pointer r1), (Value.string r39)]) rfl rfl (mapl_cons rfl (mapl_cons rfl mapl_nil)) Try.func14 NN_14 NB_14) (Calls.mono h ?_)
        rintro _ w17 ⟨r40, rfl, h⟩
        refine ⟨_, rfl, ?_⟩
        refine wpR_val (v := (Value.bool (decide (r40 = (-1))))) (w' := w17) (wantG rfl rfl rfl hc38) rfl rfl (x_eql rfl rfl rfl) ?_
        refine wpR_val (v := (Value.bool (decide (r40 = (-1))))) (w' := w17) rfl rfl rfl (x_pickT (v := (Value.bool (decide (r40 = (-1))))) rfl rfl hc38 rfl) ?_
        refine wpR_nil ?_
        exact ⟨decide (r40 = (-1)), ⟨rfl, trivial⟩, h⟩
      · replace h := h.2 hc38
        refine wpR_pass (wantN rfl rfl rfl hc38) rfl rfl ?_
        refine wpR_pass (wantN rfl rfl rfl hc38) rfl rfl ?_
        refine wpR_pass (wantN rfl rfl rfl hc38) rfl rfl ?_
        refine wpR_pass (wantN rfl rfl rfl hc38) rfl rfl ?_
        refine wpR_val (v := (Value.bool false)) (w' := w15) rfl rfl rfl (x_pickF (v := (Value.bool false)) rfl rfl hc38 rfl) ?_
        refine wpR_nil ?_
        exact ⟨false, ⟨rfl, trivial⟩, h⟩
    clear h
    rintro c41 ρ w18 ⟨e86, -⟩ h
    replace h := hk c41 w18 h
    clear hk
    refine wpR_val (v := (Value.bool c41)) (w' := w18) rfl rfl rfl (x_assign (v := (Value.bool c41)) rfl e86) ?_
    refine wpR_nil ?_
    refine wpC_ret ?_
    exact ⟨.inl rfl, fun a ha => ⟨_, results_rep1 rfl ha rfl, c41, rfl, h⟩⟩

/-- linguaref04.Few -/
def F8 (p0 : Sl) (p1 : Int) (w0 : World) (K : Bool → World → Prop) : Prop :=
  lp (fun (next1 : Int → World → Prop) l1 w1 =>
    cnd ((decide (l1 < (p0.len : Int))) && (decide (l1 ≤ p1)))
      (
      ix p0 l1 1 fun p5 =>
      ld Value.string p5 w1 fun x6 =>
      cnd (decide (200 < (x6.size : Int)))
        (
        K false w1
        )
        (
        next1 (IntKind.i64.wrap (l1 + 1)) w1
        )
      )
      (
      K (decide ((p0.len : Int) ≤ p1)) w1
      )
  ) 0 w0
set_option maxRecDepth 100000 in
theorem D8 (p0 : Sl) (p1 : Int) (w0 : World) (K : Bool → World → Prop) (h : F8 p0 p1 w0 K) : callC Try.prog 8 #[(Sl.v p0), (Value.int .i64 p1)] (fun (r : Bool) => (Value.bool r)) w0 K := by
  unfold F8 at h
  refine calls_of_wpC Try.func8 rfl 27 rfl (by simp) ?_
  intro ρ hρ
  have e0 : ρ 0 = (Sl.v p0) := hρ 0
  have e1 : ρ 1 = (Value.int .i64 p1) := hρ 1
  clear hρ
  refine wpC_seq ?_
  refine wpC_region ?_
  refine wpR_val (v := (Value.bool false)) (w' := w0) rfl rfl rfl (x_assign (v := (Value.bool false)) rfl rfl) ?_
  refine wpR_nil ?_
  refine wpC_seq ?_
  refine wpC_seq ?_
  refine wpC_cut (fun ρ => ρ 0 = (Sl.v p0) ∧ ρ 1 = (Value.int .i64 p1) ∧ True) ⟨e0, e1, trivial⟩ ?_
  rintro ρ ⟨e0, e1, -⟩
  refine wpC_region ?_
  refine wpR_val (v := (Value.int .i64 0)) (w' := w0) rfl rfl rfl (x_assign (v := (Value.int .i64 0)) rfl rfl) ?_
  refine wpR_nil ?_
  refine wpC_block ?_
  obtain ⟨I1, μ1, hI1, hr1⟩ := h
  refine wpC_loop (fun (x : Int) ρ => ρ 5 = (Value.int .i64 x) ∧ ρ 0 = (Sl.v p0) ∧ ρ 1 = (Value.int .i64 p1) ∧ True) I1 μ1 0 ⟨rfl, e0, e1, trivial⟩ hI1 ?_
  rintro l1 ρ w1 ⟨e5, e0, e1, -⟩ h
  replace h := hr1 l1 w1 h
  clear hr1 hI1
  refine wpC_seq ?_
  refine wpC_seq ?_
  refine wpC_region ?_
  refine wpR_val (v := (Value.int .i64 l1)) (w' := w1) rfl rfl rfl (x_move (v := (Value.int .i64 l1)) rfl e5) ?_
  refine wpR_val (v := (Sl.v p0)) (w' := w1) rfl rfl rfl (x_move (v := (Sl.v p0)) rfl e0) ?_
  refine wpR_val (v := (Value.int .i64 (p0.len : Int))) (w' := w1) rfl rfl rfl (x_lenS (s := p0) rfl rfl isSliceT_22) ?_
  refine wpR_val (v := (Value.bool (decide (l1 < (p0.len : Int))))) (w' := w1) rfl rfl rfl (x_lss rfl rfl rfl) ?_
  refine wpR_val (v := (Value.bool (decide (l1 < (p0.len : Int))))) (w' := w1) rfl rfl rfl (x_move (v := (Value.bool (decide (l1 < (p0.len : Int))))) rfl rfl) ?_
  refine wpR_joinJ 4 (fun (_ : Unit) ρ => ρ 14 = Value.bool ((decide (l1 < (p0.len : Int))) && (decide (l1 ≤ p1))) ∧ ρ 0 = (Sl.v p0) ∧ ρ 1 = (Value.int .i64 p1) ∧ ρ 5 = (Value.int .i64 l1) ∧ True) (fun _ w => w1 = w) ?_ ?_
  · clear h
    rcases Bool.eq_false_or_eq_true (decide (l1 < (p0.len : Int))) with hc3 | hc3
    · skip
      refine wpR_val (v := (Value.int .i64 l1)) (w' := w1) (wantG rfl rfl rfl hc3) rfl rfl (x_move (v := (Value.int .i64 l1)) rfl e5) ?_
      refine wpR_val (v := (Value.int .i64 p1)) (w' := w1) (wantG rfl rfl rfl hc3) rfl rfl (x_move (v := (Value.int .i64 p1)) rfl e1) ?_
      refine wpR_val (v := (Value.bool (decide (l1 ≤ p1)))) (w' := w1) (wantG rfl rfl rfl hc3) rfl rfl (x_leq rfl rfl rfl) ?_
      refine wpR_val (v := (Value.bool (decide (l1 ≤ p1)))) (w' := w1) rfl rfl rfl (x_pickT (v := (Value.bool (decide (l1 ≤ p1)))) rfl rfl hc3 rfl) ?_
      refine wpR_nil ?_
      exact ⟨(), ⟨(by rw [hc3]; rfl), e0, e1, e5, trivial⟩, rfl⟩
    · skip
      refine wpR_pass (wantN rfl rfl rfl hc3) rfl rfl ?_
      refine wpR_pass (wantN rfl rfl rfl hc3) rfl rfl ?_
      refine wpR_pass (wantN rfl rfl rfl hc3) rfl rfl ?_
      refine wpR_val (v := (Value.bool false)) (w' := w1) rfl rfl rfl (x_pickF (v := (Value.bool false)) rfl rfl hc3 rfl) ?_
      refine wpR_nil ?_
      exact ⟨(), ⟨(by rw [hc3]; rfl), e0, e1, e5, trivial⟩, rfl⟩
  rintro _ ρ wj ⟨e14, e0, e1, e5, -⟩ rfl
  refine wpR_nil ?_
  refine wpC_cond (b := (decide (l1 < (p0.len : Int))) && (decide (l1 ≤ p1))) e14 (fun hc4 => ?_) (fun hc4 => ?_)
  · replace h := h.1 hc4
    refine wpC_skip ?_
    refine wpC_seq ?_
    refine wpC_block ?_
    refine wpC_seq ?_
    refine wpC_region ?_
    refine wpR_val (v := (Sl.v p0)) (w' := w1) rfl rfl rfl (x_move (v := (Sl.v p0)) rfl e0) ?_
    refine wpR_val (v := (Value.int .i64 l1)) (w' := w1) rfl rfl rfl (x_move (v := (Value.int .i64 l1)) rfl e5) ?_
    obtain ⟨q5, z5, r5, h⟩ := h
    generalize hp5 : z5.add ((l1 : Int).toNat * 1) = p5 at h
    refine wpR_val (v := (Value.pointer (some p5))) (w' := w1) rfl rfl rfl ((x_indexAddr (s := p0) rfl rfl rfl ES_22 q5 r5).trans (by rw [hp5])) ?_
    obtain ⟨x6, q6, h⟩ := h
    refine wpR_val (v := (Value.string x6)) (w' := w1) rfl rfl rfl (x_load1 rfl rfl SH_9 q6) ?_
    refine wpR_val (v := (Value.int .i64 (x6.size : Int))) (w' := w1) rfl rfl rfl (x_lenStr rfl rfl isStrT_9) ?_
    refine wpR_val (v := (Value.bool (decide (200 < (x6.size : Int))))) (w' := w1) rfl rfl rfl (x_gtr rfl rfl rfl) ?_
    refine wpR_nil ?_
    refine wpC_cond (b := decide (200 < (x6.size : Int))) rfl (fun hc7 => ?_) (fun hc7 => ?_)
    · replace h := h.1 hc7
      refine wpC_seq ?_
      refine wpC_cut (fun ρ => True) trivial ?_
      rintro ρ -
      refine wpC_region ?_
      refine wpR_val (v := (Value.bool false)) (w' := w1) rfl rfl rfl (x_assign (v := (Value.bool false)) rfl rfl) ?_
      refine wpR_nil ?_
      refine wpC_ret ?_
      exact ⟨.inl rfl, fun a ha => ⟨_, results_rep1 rfl ha rfl, false, rfl, h⟩⟩
    · replace h := h.2 hc7
      refine wpC_skip ?_
      refine wpC_cut (fun ρ => ρ 0 = (Sl.v p0) ∧ ρ 1 = (Value.int .i64 p1) ∧ ρ 5 = (Value.int .i64 l1) ∧ True) ⟨e0, e1, e5, trivial⟩ ?_
      rintro ρ ⟨e0, e1, e5, -⟩
      refine wpC_region ?_
      refine wpR_val (v := (Value.int .i64 l1)) (w' := w1) rfl rfl rfl (x_move (v := (Value.int .i64 l1)) rfl e5) ?_
      refine wpR_val (v := (Value.int .i64 (IntKind.i64.wrap (l1 + 1)))) (w' := w1) rfl rfl rfl (x_add rfl rfl rfl) ?_
      refine wpR_val (v := (Value.int .i64 (IntKind.i64.wrap (l1 + 1)))) (w' := w1) rfl rfl rfl (x_assign (v := (Value.int .i64 (IntKind.i64.wrap (l1 + 1)))) rfl rfl) ?_
      refine wpR_nil ?_
      exact ⟨IntKind.i64.wrap (l1 + 1), ⟨rfl, e0, e1, trivial⟩, h⟩
  · replace h := h.2 hc4
    refine wpC_exit ?_
    refine wpC_seq ?_
    refine wpC_region ?_
    refine wpR_val (v := (Sl.v p0)) (w' := w1) rfl rfl rfl (x_move (v := (Sl.v p0)) rfl e0) ?_
    refine wpR_val (v := (Value.int .i64 (p0.len : Int))) (w' := w1) rfl rfl rfl (x_lenS (s := p0) rfl rfl isSliceT_22) ?_
    refine wpR_val (v := (Value.int .i64 p1)) (w' := w1) rfl rfl rfl (x_move (v := (Value.int .i64 p1)) rfl e1) ?_
    refine wpR_val (v := (Value.bool (decide ((p0.len : Int) ≤ p1)))) (w' := w1) rfl rfl rfl (x_leq rfl rfl rfl) ?_
    refine wpR_val (v := (Value.bool (decide ((p0.len : Int) ≤ p1)))) (w' := w1) rfl rfl rfl (x_assign (v := (Value.bool (decide ((p0.len : Int) ≤ p1)))) rfl rfl) ?_
    refine wpR_nil ?_
    refine wpC_ret ?_
    exact ⟨.inl rfl, fun a ha => ⟨_, results_rep1 rfl ha rfl, decide ((p0.len : Int) ≤ p1), rfl, h⟩⟩

/-- names.Open -/
def F9 (p0 : Sl) (w0 : World) (K : ((Option Addr) × Int) → World → Prop) : Prop :=
  callC Try.prog 12 #[] (fun (r : (Option Addr)) => (Value.pointer r)) w0 fun r1 w1 =>
  lp (fun (next2 : (Int × Int) → World → Prop) l2 w2 =>
    cnd (decide (l2.2 < (p0.len : Int)))
      (
      jn (fun (J4 : Int → World → Prop) =>
        ix p0 l2.2 1 fun p6 =>
        ld Value.string p6 w2 fun x7 =>
        cnd (decide (65536 < (x7.size : Int)))
          (
          K (none, 1) w2
          )
          (
          callC Try.prog 14 #[(Value.pointer r1), (Value.string x7)] (fun (r : Int) => (Value.int .i64 r)) w2 fun r9 w4 =>
          cnd (!decide (r9 = l2.2))
            (
            J4 5 w4
            )
            (
            J4 l2.1 w4
            )
          )
      )
      fun l5 w3 =>
      next2 (l5, IntKind.i64.wrap (l2.2 + 1)) w3
      )
      (
      cnd (!decide (l2.1 = 0))
        (
        K (none, l2.1) w2
        )
        (
        K (r1, 0) w2
        )
      )
  ) (0, 0) w1
set_option maxRecDepth 100000 in
theorem D9 (p0 : Sl) (w0 : World) (K : ((Option Addr) × Int) → World → Prop) (h : F9 p0 w0 K) : callC Try.prog 9 #[(Sl.v p0)] (fun (r : (Option Addr) × Int) => (Value.tuple #[(Value.pointer r.1), (Value.int .i64 r.2)])) w0 K := by
  unfold F9 at h
  refine calls_of_wpC Try.func9 rfl 29 rfl (by simp) ?_
  intro ρ hρ
  have e0 : ρ 0 = (Sl.v p0) := hρ 0
  clear hρ
  refine wpC_seq ?_
  refine wpC_region ?_
  refine wpR_val (v := (Value.pointer none)) (w' := w0) rfl rfl rfl (x_assign (v := (Value.pointer none)) rfl rfl) ?_
  refine wpR_val (v := (Value.int .i64 0)) (w' := w0) rfl rfl rfl (x_assign (v := (Value.int .i64 0)) rfl rfl) ?_
  refine wpR_nil ?_
  refine wpC_seq ?_
  refine wpC_cut (fun ρ => ρ 0 = (Sl.v p0) ∧ True) ⟨e0, trivial⟩ ?_
  rintro ρ ⟨e0, -⟩
  refine wpC_region ?_
  refine wpR_enter rfl rfl rfl (x_call (vs := []) rfl rfl mapl_nil Try.func12 NN_12 NB_12) (Calls.mono h ?_)
  rintro _ w1 ⟨r1, rfl, h⟩
  refine ⟨_, rfl, ?_⟩
  refine wpR_val (v := (Value.pointer r1)) (w' := w1) rfl rfl rfl (x_assign (v := (Value.pointer r1)) rfl rfl) ?_
  refine wpR_nil ?_
  refine wpC_seq ?_
  refine wpC_cut (fun ρ => ρ 0 = (Sl.v p0) ∧ ρ 4 = (Value.pointer r1) ∧ True) ⟨e0, rfl, trivial⟩ ?_
  rintro ρ ⟨e0, e4, -⟩
  refine wpC_region ?_
  refine wpR_val (v := (Value.int .i64 0)) (w' := w1) rfl rfl rfl (x_assign (v := (Value.int .i64 0)) rfl rfl) ?_
  refine wpR_nil ?_
  refine wpC_seq ?_
  refine wpC_seq ?_
  refine wpC_cut (fun ρ => ρ 0 = (Sl.v p0) ∧ ρ 4 = (Value.pointer r1) ∧ ρ 5 = (Value.int .i64 0) ∧ True) ⟨e0, e4, rfl, trivial⟩ ?_
  rintro ρ ⟨e0, e4, e5, -⟩
  refine wpC_region ?_
  refine wpR_val (v := (Sl.v p0)) (w' := w1) rfl rfl rfl (x_move (v := (Sl.v p0)) rfl e0) ?_
  refine wpR_val (v := (Value.int .i64 (p0.len : Int))) (w' := w1) rfl rfl rfl (x_lenS (s := p0) rfl rfl isSliceT_22) ?_
  refine wpR_val (v := (Value.int .i64 0)) (w' := w1) rfl rfl rfl (x_move (v := (Value.int .i64 0)) rfl rfl) ?_
  refine wpR_nil ?_
  refine wpC_block ?_
  obtain ⟨I2, μ2, hI2, hr2⟩ := h
  refine wpC_loop (fun (x : Int × Int) ρ => ρ 5 = (Value.int .i64 x.1) ∧ ρ 11 = (Value.int .i64 x.2) ∧ ρ 4 = (Value.pointer r1) ∧ ρ 9 = (Sl.v p0) ∧ ρ 10 = (Value.int .i64 (p0.len : Int)) ∧ True) I2 μ2 (0, 0) ⟨e5, rfl, e4, rfl, rfl, trivial⟩ hI2 ?_
  rintro l2 ρ w2 ⟨e5, e11, e4, e9, e10, -⟩ h
  replace h := hr2 l2 w2 h
  clear hr2 hI2
  refine wpC_seq ?_
  refine wpC_region ?_
  refine wpR_val (v := (Value.bool (decide (l2.2 < (p0.len : Int))))) (w' := w2) rfl rfl rfl (x_lss rfl e11 e10) ?_
  refine wpR_nil ?_
  refine wpC_seq ?_
  refine wpC_cond (b := decide (l2.2 < (p0.len : Int))) rfl (fun hc3 => ?_) (fun hc3 => ?_)
  · replace h := h.1 hc3
    refine wpC_skip ?_
    obtain ⟨J4, h, hk⟩ := h
    refine wpC_seqJ (fun (x : Int) ρ => ρ 5 = (Value.int .i64 x) ∧ ρ 4 = (Value.pointer r1) ∧ ρ 9 = (Sl.v p0) ∧ ρ 10 = (Value.int .i64 (p0.len : Int)) ∧ ρ 11 = (Value.int .i64 l2.2) ∧ True) J4 ?_ ?_
    · clear hk
      refine wpC_block ?_
      refine wpC_seq ?_
      refine wpC_cut (fun ρ => ρ 4 = (Value.pointer r1) ∧ ρ 5 = (Value.int .i64 l2.1) ∧ ρ 9 = (Sl.v p0) ∧ ρ 10 = (Value.int .i64 (p0.len : Int)) ∧ ρ 11 = (Value.int .i64 l2.2) ∧ True) ⟨e4, e5, e9, e10, e11, trivial⟩ ?_
      rintro ρ ⟨e4, e5, e9, e10, e11, -⟩
      refine wpC_region ?_
      refine wpR_val (v := (Value.int .i64 l2.2)) (w' := w2) rfl rfl rfl (x_move (v := (Value.int .i64 l2.2)) rfl e11) ?_
      obtain ⟨q6, z6, r6, h⟩ := h
      generalize hp6 : z6.add ((l2.2 : Int).toNat * 1) = p6 at h
      refine wpR_val (v := (Value.pointer (some p6))) (w' := w2) rfl rfl rfl ((x_indexAddr (s := p0) rfl e9 e11 ES_22 q6 r6).trans (by rw [hp6])) ?_
      obtain ⟨x7, q7, h⟩ := h
      refine wpR_val (v := (Value.string x7)) (w' := w2) rfl rfl rfl (x_load1 rfl rfl SH_9 q7) ?_
      refine wpR_val (v := (Value.int .i64 l2.2)) (w' := w2) rfl rfl rfl (x_assign (v := (Value.int .i64 l2.2)) rfl rfl) ?_
      refine wpR_val (v := (Value.string x7)) (w' := w2) rfl rfl rfl (x_assign (v := (Value.string x7)) rfl rfl) ?_
      refine wpR_nil ?_
      refine wpC_seq ?_
      refine wpC_seq ?_
      refine wpC_cut (fun ρ => ρ 4 = (Value.pointer r1) ∧ ρ 5 = (Value.int .i64 l2.1) ∧ ρ 6 = (Value.int .i64 l2.2) ∧ ρ 7 = (Value.string x7) ∧ ρ 9 = (Sl.v p0) ∧ ρ 10 = (Value.int .i64 (p0.len : Int)) ∧ ρ 11 = (Value.int .i64 l2.2) ∧ True) ⟨e4, e5, rfl, rfl, e9, e10, e11, trivial⟩ ?_
      rintro ρ ⟨e4, e5, e6, e7, e9, e10, e11, -⟩
      refine wpC_region ?_
      refine wpR_val (v := (Value.string x7)) (w' := w2) rfl rfl rfl (x_move (v := (Value.string x7)) rfl e7) ?_
      refine wpR_val (v := (Value.int .i64 (x7.size : Int))) (w' := w2) rfl rfl rfl (x_lenStr rfl rfl isStrT_9) ?_
      refine wpR_val (v := (Value.bool (decide (65536 < (x7.size : Int))))) (w' := w2) rfl rfl rfl (x_gtr rfl rfl rfl) ?_
      refine wpR_nil ?_
      refine wpC_cond (b := decide (65536 < (x7.size : Int))) rfl (fun hc8 => ?_) (fun hc8 => ?_)
      · replace h := h.1 hc8
        refine wpC_seq ?_
        refine wpC_cut (fun ρ => True) trivial ?_
        rintro ρ -
        refine wpC_region ?_
        refine wpR_val (v := (Value.pointer none)) (w' := w2) rfl rfl rfl (x_assign (v := (Value.pointer none)) rfl rfl) ?_
        refine wpR_val (v := (Value.int .i64 1)) (w' := w2) rfl rfl rfl (x_assign (v := (Value.int .i64 1)) rfl rfl) ?_
        refine wpR_nil ?_
        refine wpC_ret ?_
        exact ⟨.inl rfl, fun a ha => ⟨_, results_rep2 rfl ha rfl rfl, (none, 1), rfl, h⟩⟩
      · replace h := h.2 hc8
        refine wpC_skip ?_
        refine wpC_seq ?_
        refine wpC_cut (fun ρ => ρ 4 = (Value.pointer r1) ∧ ρ 5 = (Value.int .i64 l2.1) ∧ ρ 6 = (Value.int .i64 l2.2) ∧ ρ 7 = (Value.string x7) ∧ ρ 9 = (Sl.v p0) ∧ ρ 10 = (Value.int .i64 (p0.len : Int)) ∧ ρ 11 = (Value.int .i64 l2.2) ∧ True) ⟨e4, e5, e6, e7, e9, e10, e11, trivial⟩ ?_
        rintro ρ ⟨e4, e5, e6, e7, e9, e10, e11, -⟩
        refine wpC_region ?_
        refine wpR_val (v := (Value.pointer r1)) (w' := w2) rfl rfl rfl (x_move (v := (Value.pointer r1)) rfl e4) ?_
        refine wpR_val (v := (Value.string x7)) (w' := w2) rfl rfl rfl (x_move (v := (Value.string x7)) rfl e7) ?_
        refine wpR_enter rfl rfl rfl (x_call (vs := [(Value.pointer r1), (Value.string x7)]) rfl rfl (mapl_cons rfl (mapl_cons rfl mapl_nil)) Try.func14 NN_14 NB_14) (Calls.mono h ?_)
        rintro _ w4 ⟨r9, rfl, h⟩
        refine ⟨_, rfl, ?_⟩
        refine wpR_val (v := (Value.int .i64 l2.2)) (w' := w4) rfl rfl rfl (x_move (v := (Value.int .i64 l2.2)) rfl e6) ?_
        refine wpR_val (v := (Value.bool (!decide (r9 = l2.2)))) (w' := w4) rfl rfl rfl (x_neq rfl rfl rfl) ?_
        refine wpR_nil ?_
        refine wpC_cond (b := !decide (r9 = l2.2)) rfl (fun hc10 => ?_) (fun hc10 => ?_)
        · replace h := h.1 hc10
          refine wpC_cut (fun ρ => ρ 4 = (Value.pointer r1) ∧ ρ 9 = (Sl.v p0) ∧ ρ 10 = (Value.int .i64 (p0.len : Int)) ∧ ρ 11 = (Value.int .i64 l2.2) ∧ True) ⟨e4, e9, e10, e11, trivial⟩ ?_
          rintro ρ ⟨e4, e9, e10, e11, -⟩
          refine wpC_region ?_
          refine wpR_val (v := (Value.int .i64 5)) (w' := w4) rfl rfl rfl (x_assign (v := (Value.int .i64 5)) rfl rfl) ?_
          refine wpR_nil ?_
          exact ⟨5, ⟨rfl, e4, e9, e10, e11, trivial⟩, h⟩
        · replace h := h.2 hc10
          refine wpC_skip ?_
          exact ⟨l2.1, ⟨e5, e4, e9, e10, e11, trivial⟩, h⟩
    clear h
    rintro l5 ρ w3 ⟨e5, e4, e9, e10, e11, -⟩ h
    replace h := hk l5 w3 h
    clear hk
    refine wpC_region ?_
    refine wpR_val (v := (Value.int .i64 (IntKind.i64.wrap (l2.2 + 1)))) (w' := w3) rfl rfl rfl (x_add rfl e11 rfl) ?_
    refine wpR_val (v := (Value.int .i64 (IntKind.i64.wrap (l2.2 + 1)))) (w' := w3) rfl rfl rfl (x_move (v := (Value.int .i64 (IntKind.i64.wrap (l2.2 + 1)))) rfl rfl) ?_
    refine wpR_nil ?_
    exact ⟨(l5, IntKind.i64.wrap (l2.2 + 1)), ⟨e5, rfl, e4, e9, e10, trivial⟩, h⟩
  · replace h := h.2 hc3
    refine wpC_exit ?_
    refine wpC_seq ?_
    refine wpC_seq ?_
    refine wpC_cut (fun ρ => ρ 4 = (Value.pointer r1) ∧ ρ 5 = (Value.int .i64 l2.1) ∧ True) ⟨e4, e5, trivial⟩ ?_
    rintro ρ ⟨e4, e5, -⟩
    refine wpC_region ?_
    refine wpR_val (v := (Value.int .i64 l2.1)) (w' := w2) rfl rfl rfl (x_move (v := (Value.int .i64 l2.1)) rfl e5) ?_
    refine wpR_val (v := (Value.bool (!decide (l2.1 = 0)))) (w' := w2) rfl rfl rfl (x_neq rfl rfl rfl) ?_
    refine wpR_nil ?_
    refine wpC_cond (b := !decide (l2.1 = 0)) rfl (fun hc11 => ?_) (fun hc11 => ?_)
    · replace h := h.1 hc11
      refine wpC_seq ?_
      refine wpC_cut (fun ρ => ρ 5 = (Value.int .i64 l2.1) ∧ True) ⟨e5, trivial⟩ ?_
      rintro ρ ⟨e5, -⟩
      refine wpC_region ?_
      refine wpR_val (v := (Value.int .i64 l2.1)) (w' := w2) rfl rfl rfl (x_move (v := (Value.int .i64 l2.1)) rfl e5) ?_
      refine wpR_val (v := (Value.pointer none)) (w' := w2) rfl rfl rfl (x_assign (v := (Value.pointer none)) rfl rfl) ?_
      refine wpR_val (v := (Value.int .i64 l2.1)) (w' := w2) rfl rfl rfl (x_assign (v := (Value.int .i64 l2.1)) rfl rfl) ?_
      refine wpR_nil ?_
      refine wpC_ret ?_
      exact ⟨.inl rfl, fun a ha => ⟨_, results_rep2 rfl ha rfl rfl, (none, l2.1), rfl, h⟩⟩
    · replace h := h.2 hc11
      refine wpC_skip ?_
      refine wpC_seq ?_
      refine wpC_cut (fun ρ => ρ 4 = (Value.pointer r1) ∧ True) ⟨e4, trivial⟩ ?_
      rintro ρ ⟨e4, -⟩
      refine wpC_region ?_
      refine wpR_val (v := (Value.pointer r1)) (w' := w2) rfl rfl rfl (x_move (v := (Value.pointer r1)) rfl e4) ?_
      refine wpR_val (v := (Value.pointer r1)) (w' := w2) rfl rfl rfl (x_assign (v := (Value.pointer r1)) rfl rfl) ?_
      refine wpR_val (v := (Value.int .i64 0)) (w' := w2) rfl rfl rfl (x_assign (v := (Value.int .i64 0)) rfl rfl) ?_
      refine wpR_nil ?_
      refine wpC_ret ?_
      exact ⟨.inl rfl, fun a ha => ⟨_, results_rep2 rfl ha rfl rfl, (r1, 0), rfl, h⟩⟩

/-- linguaref04.Long -/
def F10 (p0 : Int) (w0 : World) (K : ByteArray → World → Prop) : Prop :=
  rn Try.prog (Instr.makeSlice 45 (Value.int .i64 (min (max p0 0) 65537)) (Value.int .i64 (min (max p0 0) 65537))) (fun (r : Sl) => (Sl.v r)) w0 fun r1 w1 =>
  rn Try.prog (convert 45 9 (Sl.v r1)) (fun (r : ByteArray) => (Value.string r)) w1 fun r2 w2 =>
  K r2 w2
set_option maxRecDepth 100000 in
theorem D10 (p0 : Int) (w0 : World) (K : ByteArray → World → Prop) (h : F10 p0 w0 K) : callC Try.prog 10 #[(Value.int .i64 p0)] (fun (r : ByteArray) => (Value.string r)) w0 K := by
  unfold F10 at h
  refine calls_of_wpC Try.func10 rfl 10 rfl (by simp) ?_
  intro ρ hρ
  have e0 : ρ 0 = (Value.int .i64 p0) := hρ 0
  clear hρ
  refine wpC_seq ?_
  refine wpC_region ?_
  refine wpR_val (v := (Value.string (ByteArray.mk #[]))) (w' := w0) rfl rfl rfl (x_assign (v := (Value.string (ByteArray.mk #[]))) rfl rfl) ?_
  refine wpR_nil ?_
  refine wpC_seq ?_
  refine wpC_cut (fun ρ => ρ 0 = (Value.int .i64 p0) ∧ True) ⟨e0, trivial⟩ ?_
  rintro ρ ⟨e0, -⟩
  refine wpC_region ?_
  refine wpR_val (v := (Value.int .i64 p0)) (w' := w0) rfl rfl rfl (x_move (v := (Value.int .i64 p0)) rfl e0) ?_
  refine wpR_val (v := (Value.int .i64 (max p0 0))) (w' := w0) rfl rfl rfl (x_max rfl rfl rfl) ?_
  refine wpR_val (v := (Value.int .i64 (min (max p0 0) 65537))) (w' := w0) rfl rfl rfl (x_min rfl rfl rfl) ?_
  obtain ⟨r1, w1, q1, h⟩ := h
  refine wpR_val (v := (Sl.v r1)) (w' := w1) rfl rfl rfl (x_makeSlice rfl rfl rfl q1) ?_
  refine wpR_val (v := (Sl.v r1)) (w' := w1) rfl rfl rfl (x_assign (v := (Sl.v r1)) rfl rfl) ?_
  refine wpR_nil ?_
  refine wpC_seq ?_
  refine wpC_cut (fun ρ => ρ 3 = (Sl.v r1) ∧ True) ⟨rfl, trivial⟩ ?_
  rintro ρ ⟨e3, -⟩
  refine wpC_region ?_
  refine wpR_val (v := (Sl.v r1)) (w' := w1) rfl rfl rfl (x_move (v := (Sl.v r1)) rfl e3) ?_
  obtain ⟨r2, w2, q2, h⟩ := h
  refine wpR_val (v := (Value.string r2)) (w' := w2) rfl rfl rfl (x_conv rfl rfl q2) ?_
  refine wpR_val (v := (Value.string r2)) (w' := w2) rfl rfl rfl (x_assign (v := (Value.string r2)) rfl rfl) ?_
  refine wpR_nil ?_
  refine wpC_ret ?_
  exact ⟨.inl rfl, fun a ha => ⟨_, results_rep1 rfl ha rfl, r2, rfl, h⟩⟩

/-- linguaref04.Open -/
def F11 (p0 : Sl) (w0 : World) (K : ((Option Addr) × Int) → World → Prop) : Prop :=
  lp (fun (next1 : Int → World → Prop) l1 w1 =>
    cnd (decide (l1 < (p0.len : Int)))
      (
      ix p0 l1 1 fun p3 =>
      ld Value.string p3 w1 fun x4 =>
      cnd (decide (65536 < (x4.size : Int)))
        (
        K (none, 1) w1
        )
        (
        next1 (IntKind.i64.wrap (l1 + 1)) w1
        )
      )
      (
      callC Try.prog 13 #[] (fun (r : (Option Addr)) => (Value.pointer r)) w1 fun r6 w2 =>
      lp (fun (next7 : Int → World → Prop) l7 w3 =>
        cnd (decide (l7 < (p0.len : Int)))
          (
          ix p0 l7 1 fun p9 =>
          ld Value.string p9 w3 fun x10 =>
          callC Try.prog 24 #[(Value.pointer r6), (Value.string x10)] (fun (r : Int) => (Value.int .i64 r)) w3 fun r11 w4 =>
          cnd (decide (0 ≤ r11))
            (
            K (none, 5) w4
            )
            (
            jn (fun (J14 : Unit → World → Prop) => tk w4 fun w5 =>
              nn r6 fun a15 =>
              ld Sl.v (a15.add 0) w5 fun x16 =>
              ix p0 l7 1 fun p17 =>
              ld Value.string p17 w5 fun x18 =>
              nw 9 #[(Value.string x18)] w5 fun b19 w6 =>
              (w6.cell? (a15.add 0) = some (Sl.v x16)) ∧
              rn Try.prog (Builtin.append_ #[22, 22] 22 #[Sl.v x16, Sl.v (⟨some ⟨b19, 0, none⟩, 1, 1⟩ : Sl)]) Sl.v w6 fun r20 w7 =>
              nn r6 fun a21 =>
              st (a21.add 0) [(Sl.v r20)] w7 fun w8 =>
              J14 () w8
            )
            fun _l23 w9 =>
            next7 (IntKind.i64.wrap (l7 + 1)) w9
            )
          )
          (
          K (r6, 0) w3
          )
      ) 0 w2
      )
  ) 0 w0
set_option maxRecDepth 100000 in
theorem D11 (p0 : Sl) (w0 : World) (K : ((Option Addr) × Int) → World → Prop) (h : F11 p0 w0 K) : callC Try.prog 11 #[(Sl.v p0)] (fun (r : (Option Addr) × Int) => (Value.tuple #[(Value.pointer r.1), (Value.int .i64 r.2)])) w0 K := by
  unfold F11 at h
  refine calls_of_wpC Try.func11 rfl 47 rfl (by simp) ?_
  intro ρ hρ
  have e0 : ρ 0 = (Sl.v p0) := hρ 0
  clear hρ
  refine wpC_seq ?_
  refine wpC_region ?_
  refine wpR_val (v := (Value.pointer none)) (w' := w0) rfl rfl rfl (x_assign (v := (Value.pointer none)) rfl rfl) ?_
  refine wpR_val (v := (Value.int .i64 0)) (w' := w0) rfl rfl rfl (x_assign (v := (Value.int .i64 0)) rfl rfl) ?_
  refine wpR_nil ?_
  refine wpC_seq ?_
  refine wpC_seq ?_
  refine wpC_cut (fun ρ => ρ 0 = (Sl.v p0) ∧ True) ⟨e0, trivial⟩ ?_
  rintro ρ ⟨e0, -⟩
  refine wpC_region ?_
  refine wpR_val (v := (Value.int .i64 0)) (w' := w0) rfl rfl rfl (x_assign (v := (Value.int .i64 0)) rfl rfl) ?_
  refine wpR_nil ?_
  refine wpC_block ?_
  obtain ⟨I1, μ1, hI1, hr1⟩ := h
  refine wpC_loop (fun (x : Int) ρ => ρ 4 = (Value.int .i64 x) ∧ ρ 0 = (Sl.v p0) ∧ True) I1 μ1 0 ⟨rfl, e0, trivial⟩ hI1 ?_
  rintro l1 ρ w1 ⟨e4, e0, -⟩ h
  replace h := hr1 l1 w1 h
  clear hr1 hI1
  refine wpC_seq ?_
  refine wpC_seq ?_
  refine wpC_region ?_
  refine wpR_val (v := (Value.int .i64 l1)) (w' := w1) rfl rfl rfl (x_move (v := (Value.int .i64 l1)) rfl e4) ?_
  refine wpR_val (v := (Sl.v p0)) (w' := w1) rfl rfl rfl (x_move (v := (Sl.v p0)) rfl e0) ?_
  refine wpR_val (v := (Value.int .i64 (p0.len : Int))) (w' := w1) rfl rfl rfl (x_lenS (s := p0) rfl rfl isSliceT_22) ?_
  refine wpR_val (v := (Value.bool (decide (l1 < (p0.len : Int))))) (w' := w1) rfl rfl rfl (x_lss rfl rfl rfl) ?_
  refine wpR_nil ?_
  refine wpC_cond (b := decide (l1 < (p0.len : Int))) rfl (fun hc2 => ?_) (fun hc2 => ?_)
  · replace h := h.1 hc2
    refine wpC_skip ?_
    refine wpC_seq ?_
    refine wpC_block ?_
    refine wpC_seq ?_
    refine wpC_cut (fun ρ => ρ 0 = (Sl.v p0) ∧ ρ 4 = (Value.int .i64 l1) ∧ True) ⟨e0, e4, trivial⟩ ?_
    rintro ρ ⟨e0, e4, -⟩
    refine wpC_region ?_
    refine wpR_val (v := (Sl.v p0)) (w' := w1) rfl rfl rfl (x_move (v := (Sl.v p0)) rfl e0) ?_
    refine wpR_val (v := (Value.int .i64 l1)) (w' := w1) rfl rfl rfl (x_move (v := (Value.int .i64 l1)) rfl e4) ?_
    obtain ⟨q3, z3, r3, h⟩ := h
    generalize hp3 : z3.add ((l1 : Int).toNat * 1) = p3 at h
    refine wpR_val (v := (Value.pointer (some p3))) (w' := w1) rfl rfl rfl ((x_indexAddr (s := p0) rfl rfl rfl ES_22 q3 r3).trans (by rw [hp3])) ?_
    obtain ⟨x4, q4, h⟩ := h
    refine wpR_val (v := (Value.string x4)) (w' := w1) rfl rfl rfl (x_load1 rfl rfl SH_9 q4) ?_
    refine wpR_val (v := (Value.int .i64 (x4.size : Int))) (w' := w1) rfl rfl rfl (x_lenStr rfl rfl isStrT_9) ?_
    refine wpR_val (v := (Value.bool (decide (65536 < (x4.size : Int))))) (w' := w1) rfl rfl rfl (x_gtr rfl rfl rfl) ?_
    refine wpR_nil ?_
    refine wpC_cond (b := decide (65536 < (x4.size : Int))) rfl (fun hc5 => ?_) (fun hc5 => ?_)
    · replace h := h.1 hc5
      refine wpC_seq ?_
      refine wpC_cut (fun ρ => True) trivial ?_
      rintro ρ -
      refine wpC_region ?_
      refine wpR_val (v := (Value.pointer none)) (w' := w1) rfl rfl rfl (x_assign (v := (Value.pointer none)) rfl rfl) ?_
      refine wpR_val (v := (Value.int .i64 1)) (w' := w1) rfl rfl rfl (x_assign (v := (Value.int .i64 1)) rfl rfl) ?_
      refine wpR_nil ?_
      refine wpC_ret ?_
      exact ⟨.inl rfl, fun a ha => ⟨_, results_rep2 rfl ha rfl rfl, (none, 1), rfl, h⟩⟩
    · replace h := h.2 hc5
      refine wpC_skip ?_
      refine wpC_cut (fun ρ => ρ 0 = (Sl.v p0) ∧ ρ 4 = (Value.int .i64 l1) ∧ True) ⟨e0, e4, trivial⟩ ?_
      rintro ρ ⟨e0, e4, -⟩
      refine wpC_region ?_
      refine wpR_val (v := (Value.int .i64 l1)) (w' := w1) rfl rfl rfl (x_move (v := (Value.int .i64 l1)) rfl e4) ?_
      refine wpR_val (v := (Value.int .i64 (IntKind.i64.wrap (l1 + 1)))) (w' := w1) rfl rfl rfl (x_add rfl rfl rfl) ?_
      refine wpR_val (v := (Value.int .i64 (IntKind.i64.wrap (l1 + 1)))) (w' := w1) rfl rfl rfl (x_assign (v := (Value.int .i64 (IntKind.i64.wrap (l1 + 1)))) rfl rfl) ?_
      refine wpR_nil ?_
      exact ⟨IntKind.i64.wrap (l1 + 1), ⟨rfl, e0, trivial⟩, h⟩
  · replace h := h.2 hc2
    refine wpC_exit ?_
    refine wpC_seq ?_
    refine wpC_cut (fun ρ => ρ 0 = (Sl.v p0) ∧ True) ⟨e0, trivial⟩ ?_
    rintro ρ ⟨e0, -⟩
    refine wpC_region ?_
    refine wpR_enter rfl rfl rfl (x_call (vs := []) rfl rfl mapl_nil Try.func13 NN_13 NB_13) (Calls.mono h ?_)
    rintro _ w2 ⟨r6, rfl, h⟩
    refine ⟨_, rfl, ?_⟩
    refine wpR_val (v := (Value.pointer r6)) (w' := w2) rfl rfl rfl (x_assign (v := (Value.pointer r6)) rfl rfl) ?_
    refine wpR_nil ?_
    refine wpC_seq ?_
    refine wpC_seq ?_
    refine wpC_cut (fun ρ => ρ 0 = (Sl.v p0) ∧ ρ 5 = (Value.pointer r6) ∧ True) ⟨e0, rfl, trivial⟩ ?_
    rintro ρ ⟨e0, e5, -⟩
    refine wpC_region ?_
    refine wpR_val (v := (Value.int .i64 0)) (w' := w2) rfl rfl rfl (x_assign (v := (Value.int .i64 0)) rfl rfl) ?_
    refine wpR_nil ?_
    refine wpC_block ?_
    obtain ⟨I7, μ7, hI7, hr7⟩ := h
    refine wpC_loop (fun (x : Int) ρ => ρ 6 = (Value.int .i64 x) ∧ ρ 0 = (Sl.v p0) ∧ ρ 5 = (Value.pointer r6) ∧ True) I7 μ7 0 ⟨rfl, e0, e5, trivial⟩ hI7 ?_
    rintro l7 ρ w3 ⟨e6, e0, e5, -⟩ h
    replace h := hr7 l7 w3 h
    clear hr7 hI7
    refine wpC_seq ?_
    refine wpC_seq ?_
    refine wpC_region ?_
    refine wpR_val (v := (Value.int .i64 l7)) (w' := w3) rfl rfl rfl (x_move (v := (Value.int .i64 l7)) rfl e6) ?_
    refine wpR_val (v := (Sl.v p0)) (w' := w3) rfl rfl rfl (x_move (v := (Sl.v p0)) rfl e0) ?_
    refine wpR_val (v := (Value.int .i64 (p0.len : Int))) (w' := w3) rfl rfl rfl (x_lenS (s := p0) rfl rfl isSliceT_22) ?_
    refine wpR_val (v := (Value.bool (decide (l7 < (p0.len : Int))))) (w' := w3) rfl rfl rfl (x_lss rfl rfl rfl) ?_
    refine wpR_nil ?_
    refine wpC_cond (b := decide (l7 < (p0.len : Int))) rfl (fun hc8 => ?_) (fun hc8 => ?_)
    · replace h := h.1 hc8
      refine wpC_skip ?_
      refine wpC_seq ?_
      refine wpC_block ?_
      refine wpC_seq ?_
      refine wpC_seq ?_
      refine wpC_cut (fun ρ => ρ 0 = (Sl.v p0) ∧ ρ 5 = (Value.pointer r6) ∧ ρ 6 = (Value.int .i64 l7) ∧ True) ⟨e0, e5, e6, trivial⟩ ?_
      rintro ρ ⟨e0, e5, e6, -⟩
      refine wpC_region ?_
      refine wpR_val (v := (Value.pointer r6)) (w' := w3) rfl rfl rfl (x_move (v := (Value.pointer r6)) rfl e5) ?_
      refine wpR_val (v := (Sl.v p0)) (w' := w3) rfl rfl rfl (x_move (v := (Sl.v p0)) rfl e0) ?_
      refine wpR_val (v := (Value.int .i64 l7)) (w' := w3) rfl rfl rfl (x_move (v := (Value.int .i64 l7)) rfl e6) ?_
      obtain ⟨q9, z9, r9, h⟩ := h
      generalize hp9 : z9.add ((l7 : Int).toNat * 1) = p9 at h
      refine wpR_val (v := (Value.pointer (some p9))) (w' := w3) rfl rfl rfl ((x_indexAddr (s := p0) rfl rfl rfl ES_22 q9 r9).trans (by rw [hp9])) ?_
      obtain ⟨x10, q10, h⟩ := h
      refine wpR_val (v := (Value.string x10)) (w' := w3) rfl rfl rfl (x_load1 rfl rfl SH_9 q10) ?_
      refine wpR_enter rfl rfl rfl (x_call (vs := [(Value.pointer r6), (Value.string x10)]) rfl rfl (mapl_cons rfl (mapl_cons rfl mapl_nil)) Try.func24 NN_24 NB_24) (Calls.mono h ?_)
      rintro _ w4 ⟨r11, rfl, h⟩
      refine ⟨_, rfl, ?_⟩
      refine wpR_val (v := (Value.bool (decide (0 ≤ r11)))) (w' := w4) rfl rfl rfl (x_geq rfl rfl rfl) ?_
      refine wpR_nil ?_
      refine wpC_cond (b := decide (0 ≤ r11)) rfl (fun hc12 => ?_) (fun hc12 => ?_)
      · replace h := h.1 hc12
        refine wpC_seq ?_
        refine wpC_cut (fun ρ => True) trivial ?_
        rintro ρ -
        refine wpC_region ?_
        refine wpR_val (v := (Value.pointer none)) (w' := w4) rfl rfl rfl (x_assign (v := (Value.pointer none)) rfl rfl) ?_
        refine wpR_val (v := (Value.int .i64 5)) (w' := w4) rfl rfl rfl (x_assign (v := (Value.int .i64 5)) rfl rfl) ?_
        refine wpR_nil ?_
        refine wpC_ret ?_
        exact ⟨.inl rfl, fun a ha => ⟨_, results_rep2 rfl ha rfl rfl, (none, 5), rfl, h⟩⟩
      · replace h := h.2 hc12
        refine wpC_skip ?_
        refine wpC_cut (fun ρ => ρ 0 = (Sl.v p0) ∧ ρ 5 = (Value.pointer r6) ∧ ρ 6 = (Value.int .i64 l7) ∧ True) ⟨e0, e5, e6, trivial⟩ ?_
        rintro ρ ⟨e0, e5, e6, -⟩
        obtain ⟨J14, h, hk⟩ := h
        refine wpC_drawJ (by kernel_rfl) (fun (x : Unit) ρ => ρ 0 = (Sl.v p0) ∧ ρ 5 = (Value.pointer r6) ∧ ρ 6 = (Value.int .i64 l7) ∧ True) J14 ?_ ?_
        · clear hk
          unfold tk at h
          generalize w4.drew = w5 at h ⊢
          refine wpD_take (v := (Value.pointer r6)) 0 (fun _ => True) rfl (by kernel_rfl) (by kernel_rfl) (by kernel_rfl) rfl rfl rfl trivial (fun w _ => (x_move (v := (Value.pointer r6)) rfl e5)) ?_
          refine wpD_take (v := (Value.pointer r6)) 1 (fun _ => True) rfl (by kernel_rfl) (by kernel_rfl) (by kernel_rfl) rfl rfl rfl trivial (fun w _ => (x_move (v := (Value.pointer r6)) rfl e5)) ?_
          obtain ⟨a15, q15, h⟩ := h
          refine wpD_take (v := (Value.pointer (some a15))) 2 (fun _ => True) rfl (by kernel_rfl) (by kernel_rfl) (by kernel_rfl) rfl rfl rfl trivial (fun w _ => (x_nilCheck rfl rfl q15)) ?_
          refine wpD_take (v := (Value.pointer (some (a15.add 0)))) 3 (fun _ => True) rfl (by kernel_rfl) (by kernel_rfl) (by kernel_rfl) rfl rfl rfl trivial (fun w _ => (x_fieldAddr rfl rfl FA_47_0)) ?_
          obtain ⟨x16, q16, h⟩ := h
          refine wpD_take (v := (Sl.v x16)) 4 (fun w => w.cell? (a15.add 0) = some (Sl.v x16)) rfl (by kernel_rfl) (by kernel_rfl) (by kernel_rfl) rfl rfl rfl q16 (fun w q16 => (x_load1 rfl rfl SH_22 q16)) ?_
          refine wpD_take (v := (Sl.v p0)) 5 (fun _ => True) rfl (by kernel_rfl) (by kernel_rfl) (by kernel_rfl) rfl rfl rfl trivial (fun w _ => (x_move (v := (Sl.v p0)) rfl e0)) ?_
          refine wpD_take (v := (Value.int .i64 l7)) 6 (fun _ => True) rfl (by kernel_rfl) (by kernel_rfl) (by kernel_rfl) rfl rfl rfl trivial (fun w _ => (x_move (v := (Value.int .i64 l7)) rfl e6)) ?_
          obtain ⟨q17, z17, r17, h⟩ := h
          generalize hp17 : z17.add ((l7 : Int).toNat * 1) = p17 at h
          refine wpD_take (v := (Value.pointer (some p17))) 7 (fun _ => True) rfl (by kernel_rfl) (by kernel_rfl) (by kernel_rfl) rfl rfl rfl trivial (fun w _ => ((x_indexAddr (s := p0) rfl rfl rfl ES_22 q17 r17).trans (by rw [hp17]))) ?_
          obtain ⟨x18, q18, h⟩ := h
          refine wpD_take (v := (Value.string x18)) 8 (fun w => w.cell? p17 = some (Value.string x18)) rfl (by kernel_rfl) (by kernel_rfl) (by kernel_rfl) rfl rfl rfl q18 (fun w q18 => (x_load1 rfl rfl SH_9 q18)) ?_
          refine wpD_all (rs := [9]) (by kernel_rfl) (by simp) (allD_cons ?_ allD_nil)
          obtain ⟨b19, hb19⟩ : ∃ u, u = w5.heap.size := ⟨_, rfl⟩
          obtain ⟨w6, hw19⟩ : ∃ u, u = w5.alloc (.cells #[(Value.string x18)] 9) := ⟨_, rfl⟩
          replace h := h b19 w6 hb19 hw19
          obtain ⟨o4, h⟩ := h
          refine stepD_valL (L' := [(7, fun _ => True), (6, fun _ => True), (5, fun _ => True), (4, fun w => w.cell? (a15.add 0) = some (Sl.v x16)), (3, fun _ => True), (2, fun _ => True), (1, fun _ => True), (0, fun _ => True)]) (v := (Sl.v (⟨some ⟨b19, 0, none⟩, 1, 1⟩ : Sl))) (w' := w6) rfl rfl rfl rfl ((x_buildSlice (qs := [(0, (Value.string x18))]) rfl (by rfl) (BS_22_1_0 x18)).trans (by rw [← hb19, ← hw19])) (by kernel_rfl) (held_cons trivial (held_cons trivial (held_cons trivial (held_cons o4 (held_cons trivial (held_cons trivial (held_cons trivial (held_cons trivial held_nil)))))))) ?_
          refine wpD_all (rs := [10]) (by kernel_rfl) (by simp) (allD_cons ?_ allD_nil)
          obtain ⟨r20, w7, q20, h⟩ := h
          refine stepD_valL (L' := [(7, fun _ => True), (6, fun _ => True), (5, fun _ => True), (3, fun _ => True), (2, fun _ => True), (1, fun _ => True), (0, fun _ => True)]) (v := (Sl.v r20)) (w' := w7) rfl rfl rfl rfl (x_append (s := x16) (u := (⟨some ⟨b19, 0, none⟩, 1, 1⟩ : Sl)) rfl rfl rfl rfl q20) (by kernel_rfl) (held_cons trivial (held_cons trivial (held_cons trivial (held_cons trivial (held_cons trivial (held_cons trivial (held_cons trivial held_nil))))))) ?_
          obtain ⟨a21, q21, h⟩ := h
          refine wpD_take (v := (Value.pointer (some a21))) 11 (fun _ => True) rfl (by kernel_rfl) (by kernel_rfl) (by kernel_rfl) rfl rfl rfl trivial (fun w _ => (x_nilCheck rfl rfl q21)) ?_
          refine wpD_take (v := (Value.pointer (some (a21.add 0)))) 12 (fun _ => True) rfl (by kernel_rfl) (by kernel_rfl) (by kernel_rfl) rfl rfl rfl trivial (fun w _ => (x_fieldAddr rfl rfl FA_47_0)) ?_
          refine wpD_all (rs := [13]) (by kernel_rfl) (by simp) (allD_cons ?_ allD_nil)
          obtain ⟨q22, h⟩ := h
          obtain ⟨w8, hw22⟩ : ∃ u, u = setAll w7 (a21.add 0) [(Sl.v r20)] 0 := ⟨_, rfl⟩
          replace h := h w8 hw22
          refine stepD_skpL (L' := [(11, fun _ => True)]) (w' := w8) rfl rfl rfl ((x_store (v := (Sl.v r20)) rfl rfl rfl SZ_22 (ones (by rfl)) q22).trans (by rw [hw22]; rfl)) (by kernel_rfl) (held_cons trivial held_nil) ?_
          exact wpD_done (by kernel_rfl) ⟨(), ⟨e0, e5, e6, trivial⟩, h⟩
        clear h
        rintro l23 ρ w9 ⟨e0, e5, e6, -⟩ h
        replace h := hk l23 w9 h
        clear hk
        refine wpC_region ?_
        refine wpR_val (v := (Value.int .i64 l7)) (w' := w9) rfl rfl rfl (x_move (v := (Value.int .i64 l7)) rfl e6) ?_
        refine wpR_val (v := (Value.int .i64 (IntKind.i64.wrap (l7 + 1)))) (w' := w9) rfl rfl rfl (x_add rfl rfl rfl) ?_
        refine wpR_val (v := (Value.int .i64 (IntKind.i64.wrap (l7 + 1)))) (w' := w9) rfl rfl rfl (x_assign (v := (Value.int .i64 (IntKind.i64.wrap (l7 + 1)))) rfl rfl) ?_
        refine wpR_nil ?_
        exact ⟨IntKind.i64.wrap (l7 + 1), ⟨rfl, e0, e5, trivial⟩, h⟩
    · replace h := h.2 hc8
      refine wpC_exit ?_
      refine wpC_seq ?_
      refine wpC_cut (fun ρ => ρ 5 = (Value.pointer r6) ∧ True) ⟨e5, trivial⟩ ?_
      rintro ρ ⟨e5, -⟩
      refine wpC_region ?_
      refine wpR_val (v := (Value.pointer r6)) (w' := w3) rfl rfl rfl (x_move (v := (Value.pointer r6)) rfl e5) ?_
      refine wpR_val (v := (Value.pointer r6)) (w' := w3) rfl rfl rfl (x_assign (v := (Value.pointer r6)) rfl rfl) ?_
      refine wpR_val (v := (Value.int .i64 0)) (w' := w3) rfl rfl rfl (x_assign (v := (Value.int .i64 0)) rfl rfl) ?_
      refine wpR_nil ?_
      refine wpC_ret ?_
      exact ⟨.inl rfl, fun a ha => ⟨_, results_rep2 rfl ha rfl rfl, (r6, 0), rfl, h⟩⟩

/-- names.New -/
def F12  (w0 : World) (K : (Option Addr) → World → Prop) : Prop :=
  rn Try.prog (Instr.makeMap 48 none) (fun (r : (Option Nat)) => (Value.map r)) w0 fun r1 w1 =>
  nw 50 #[(Sl.v Sl.nil), (Value.map r1)] w1 fun b2 w2 =>
  K (some (Addr.mk b2 0 none)) w2
set_option maxRecDepth 100000 in
theorem D12  (w0 : World) (K : (Option Addr) → World → Prop) (h : F12  w0 K) : callC Try.prog 12 #[] (fun (r : (Option Addr)) => (Value.pointer r)) w0 K := by
  unfold F12 at h
  refine calls_of_wpC Try.func12 rfl 4 rfl (by simp) ?_
  intro ρ hρ
  clear hρ
  refine wpC_seq ?_
  refine wpC_region ?_
  refine wpR_val (v := (Value.pointer none)) (w' := w0) rfl rfl rfl (x_assign (v := (Value.pointer none)) rfl rfl) ?_
  refine wpR_nil ?_
  refine wpC_seq ?_
  refine wpC_cut (fun ρ => True) trivial ?_
  rintro ρ -
  refine wpC_region ?_
  obtain ⟨r1, w1, q1, h⟩ := h
  refine wpR_val (v := (Value.map r1)) (w' := w1) rfl rfl rfl (x_makeMap rfl rfl q1) ?_
  refine wpR_val (v := (Value.agg #[(Sl.v Sl.nil), (Value.map r1)])) (w' := w1) rfl rfl rfl (x_build (qs := [(1, (Value.map r1))]) rfl (by rfl) (BD_50_1 r1 _)) ?_
  obtain ⟨b2, hb2⟩ : ∃ u, u = w1.heap.size := ⟨_, rfl⟩
  obtain ⟨w2, hw2⟩ : ∃ u, u = w1.alloc (.cells #[(Sl.v Sl.nil), (Value.map r1)] 50) := ⟨_, rfl⟩
  replace h := h b2 w2 hb2 hw2
  refine wpR_val (v := (Value.pointer (some (Addr.mk b2 0 none)))) (w' := w2) rfl rfl rfl ((x_box (v := (Value.agg #[(Sl.v Sl.nil), (Value.map r1)])) rfl rfl).trans (by rw [hb2, hw2]; rfl)) ?_
  refine wpR_val (v := (Value.pointer (some (Addr.mk b2 0 none)))) (w' := w2) rfl rfl rfl (x_assign (v := (Value.pointer (some (Addr.mk b2 0 none)))) rfl rfl) ?_
  refine wpR_nil ?_
  refine wpC_ret ?_
  exact ⟨.inl rfl, fun a ha => ⟨_, results_rep1 rfl ha rfl, some (Addr.mk b2 0 none), rfl, h⟩⟩

/-- linguaref04.New -/
def F13  (w0 : World) (K : (Option Addr) → World → Prop) : Prop :=
  nw 47 #[(Sl.v Sl.nil)] w0 fun b1 w1 =>
  K (some (Addr.mk b1 0 none)) w1
set_option maxRecDepth 100000 in
theorem D13  (w0 : World) (K : (Option Addr) → World → Prop) (h : F13  w0 K) : callC Try.prog 13 #[] (fun (r : (Option Addr)) => (Value.pointer r)) w0 K := by
  unfold F13 at h
  refine calls_of_wpC Try.func13 rfl 3 rfl (by simp) ?_
  intro ρ hρ
  clear hρ
  refine wpC_seq ?_
  refine wpC_region ?_
  refine wpR_val (v := (Value.pointer none)) (w' := w0) rfl rfl rfl (x_assign (v := (Value.pointer none)) rfl rfl) ?_
  refine wpR_nil ?_
  refine wpC_seq ?_
  refine wpC_cut (fun ρ => True) trivial ?_
  rintro ρ -
  refine wpC_region ?_
  refine wpR_val (v := (Value.agg #[(Sl.v Sl.nil)])) (w' := w0) rfl rfl rfl (x_build (qs := []) rfl (by rfl) (BD_47_  _)) ?_
  obtain ⟨b1, hb1⟩ : ∃ u, u = w0.heap.size := ⟨_, rfl⟩
  obtain ⟨w1, hw1⟩ : ∃ u, u = w0.alloc (.cells #[(Sl.v Sl.nil)] 47) := ⟨_, rfl⟩
  replace h := h b1 w1 hb1 hw1
  refine wpR_val (v := (Value.pointer (some (Addr.mk b1 0 none)))) (w' := w1) rfl rfl rfl ((x_box (v := (Value.agg #[(Sl.v Sl.nil)])) rfl rfl).trans (by rw [hb1, hw1]; rfl)) ?_
  refine wpR_val (v := (Value.pointer (some (Addr.mk b1 0 none)))) (w' := w1) rfl rfl rfl (x_assign (v := (Value.pointer (some (Addr.mk b1 0 none)))) rfl rfl) ?_
  refine wpR_nil ?_
  refine wpC_ret ?_
  exact ⟨.inl rfl, fun a ha => ⟨_, results_rep1 rfl ha rfl, some (Addr.mk b1 0 none), rfl, h⟩⟩

/-- (*names.Names).Of -/
def F14 (p0 : Option Addr) (p1 : ByteArray) (w0 : World) (K : Int → World → Prop) : Prop :=
  cnd (decide (65536 < (p1.size : Int)))
    (
    K (-1) w0
    )
    (
    nn p0 fun a2 =>
    ld Value.map (a2.add 1) w0 fun x3 =>
    rn Try.prog (Instr.lookup 48 (Value.map x3) (Value.string p1) true) (fun (r : Int × Bool) => (Value.tuple #[(Value.int .i64 r.1), (Value.bool r.2)])) w0 fun r4 w1 =>
    jn (fun (J5 : Int → World → Prop) =>
      cnd (!r4.2)
        (
        nn p0 fun a8 =>
        ld Sl.v (a8.add 0) w1 fun x9 =>
        nn p0 fun a10 =>
        ld Value.map (a10.add 1) w1 fun x11 =>
        rn0 Try.prog (Instr.mapUpdate 48 (Value.map x11) (Value.string p1) (Value.int .i64 (x9.len : Int))) w1 fun w3 =>
        nn p0 fun a13 =>
        ld Sl.v (a13.add 0) w3 fun x14 =>
        nw 9 #[(Value.string p1)] w3 fun b15 w4 =>
        rn Try.prog (Builtin.append_ #[22, 22] 22 #[Sl.v x14, Sl.v (⟨some ⟨b15, 0, none⟩, 1, 1⟩ : Sl)]) Sl.v w4 fun r16 w5 =>
        nn p0 fun a17 =>
        st (a17.add 0) [(Sl.v r16)] w5 fun w6 =>
        J5 (x9.len : Int) w6
        )
        (
        J5 r4.1 w1
        )
    )
    fun l6 w2 =>
    K l6 w2
    )
set_option maxRecDepth 100000 in
theorem D14 (p0 : Option Addr) (p1 : ByteArray) (w0 : World) (K : Int → World → Prop) (h : F14 p0 p1 w0 K) : callC Try.prog 14 #[(Value.pointer p0), (Value.string p1)] (fun (r : Int) => (Value.int .i64 r)) w0 K := by
  unfold F14 at h
  refine calls_of_wpC Try.func14 rfl 43 rfl (by simp) ?_
  intro ρ hρ
  have e0 : ρ 0 = (Value.pointer p0) := hρ 0
  have e1 : ρ 1 = (Value.string p1) := hρ 1
  clear hρ
  refine wpC_seq ?_
  refine wpC_region ?_
  refine wpR_val (v := (Value.int .i64 0)) (w' := w0) rfl rfl rfl (x_assign (v := (Value.int .i64 0)) rfl rfl) ?_
  refine wpR_nil ?_
  refine wpC_seq ?_
  refine wpC_seq ?_
  refine wpC_cut (fun ρ => ρ 0 = (Value.pointer p0) ∧ ρ 1 = (Value.string p1) ∧ True) ⟨e0, e1, trivial⟩ ?_
  rintro ρ ⟨e0, e1, -⟩
  refine wpC_region ?_
  refine wpR_val (v := (Value.string p1)) (w' := w0) rfl rfl rfl (x_move (v := (Value.string p1)) rfl e1) ?_
  refine wpR_val (v := (Value.int .i64 (p1.size : Int))) (w' := w0) rfl rfl rfl (x_lenStr rfl rfl isStrT_9) ?_
  refine wpR_val (v := (Value.bool (decide (65536 < (p1.size : Int))))) (w' := w0) rfl rfl rfl (x_gtr rfl rfl rfl) ?_
  refine wpR_nil ?_
  refine wpC_cond (b := decide (65536 < (p1.size : Int))) rfl (fun hc1 => ?_) (fun hc1 => ?_)
  · replace h := h.1 hc1
    refine wpC_seq ?_
    refine wpC_cut (fun ρ => True) trivial ?_
    rintro ρ -
    refine wpC_region ?_
    refine wpR_val (v := (Value.int .i64 (-1))) (w' := w0) rfl rfl rfl (x_assign (v := (Value.int .i64 (-1))) rfl rfl) ?_
    refine wpR_nil ?_
    refine wpC_ret ?_
    exact ⟨.inl rfl, fun a ha => ⟨_, results_rep1 rfl ha rfl, (-1), rfl, h⟩⟩
  · replace h := h.2 hc1
    refine wpC_skip ?_
    refine wpC_seq ?_
    refine wpC_cut (fun ρ => ρ 0 = (Value.pointer p0) ∧ ρ 1 = (Value.string p1) ∧ True) ⟨e0, e1, trivial⟩ ?_
    rintro ρ ⟨e0, e1, -⟩
    refine wpC_region ?_
    refine wpR_val (v := (Value.pointer p0)) (w' := w0) rfl rfl rfl (x_move (v := (Value.pointer p0)) rfl e0) ?_
    obtain ⟨a2, q2, h⟩ := h
    refine wpR_val (v := (Value.pointer (some a2))) (w' := w0) rfl rfl rfl (x_nilCheck rfl rfl q2) ?_
    refine wpR_val (v := (Value.pointer (some (a2.add 1)))) (w' := w0) rfl rfl rfl (x_fieldAddr rfl rfl FA_50_1) ?_
    obtain ⟨x3, q3, h⟩ := h
    refine wpR_val (v := (Value.map x3)) (w' := w0) rfl rfl rfl (x_load1 rfl rfl SH_48 q3) ?_
    refine wpR_val (v := (Value.string p1)) (w' := w0) rfl rfl rfl (x_move (v := (Value.string p1)) rfl e1) ?_
    obtain ⟨r4, w1, q4, h⟩ := h
    refine wpR_val (v := (Value.tuple #[(Value.int .i64 r4.1), (Value.bool r4.2)])) (w' := w1) rfl rfl rfl (x_lookup rfl rfl rfl q4) ?_
    refine wpR_val (v := (Value.tuple #[(Value.int .i64 r4.1), (Value.bool r4.2)])) (w' := w1) rfl rfl rfl (x_move (v := (Value.tuple #[(Value.int .i64 r4.1), (Value.bool r4.2)])) rfl rfl) ?_
    refine wpR_val (v := (Value.int .i64 r4.1)) (w' := w1) rfl rfl rfl (x_extract rfl rfl rfl) ?_
    refine wpR_val (v := (Value.bool r4.2)) (w' := w1) rfl rfl rfl (x_extract rfl rfl rfl) ?_
    refine wpR_val (v := (Value.int .i64 r4.1)) (w' := w1) rfl rfl rfl (x_assign (v := (Value.int .i64 r4.1)) rfl rfl) ?_
    refine wpR_val (v := (Value.bool r4.2)) (w' := w1) rfl rfl rfl (x_assign (v := (Value.bool r4.2)) rfl rfl) ?_
    refine wpR_nil ?_
    obtain ⟨J5, h, hk⟩ := h
    refine wpC_seqJ (fun (x : Int) ρ => ρ 5 = (Value.int .i64 x) ∧ True) J5 ?_ ?_
    · clear hk
      refine wpC_seq ?_
      refine wpC_cut (fun ρ => ρ 0 = (Value.pointer p0) ∧ ρ 1 = (Value.string p1) ∧ ρ 5 = (Value.int .i64 r4.1) ∧ ρ 6 = (Value.bool r4.2) ∧ True) ⟨e0, e1, rfl, rfl, trivial⟩ ?_
      rintro ρ ⟨e0, e1, e5, e6, -⟩
      refine wpC_region ?_
      refine wpR_val (v := (Value.bool r4.2)) (w' := w1) rfl rfl rfl (x_move (v := (Value.bool r4.2)) rfl e6) ?_
      refine wpR_val (v := (Value.bool (!r4.2))) (w' := w1) rfl rfl rfl (x_not rfl rfl) ?_
      refine wpR_nil ?_
      refine wpC_cond (b := !r4.2) rfl (fun hc7 => ?_) (fun hc7 => ?_)
      · replace h := h.1 hc7
        refine wpC_seq ?_
        refine wpC_cut (fun ρ => ρ 0 = (Value.pointer p0) ∧ ρ 1 = (Value.string p1) ∧ True) ⟨e0, e1, trivial⟩ ?_
        rintro ρ ⟨e0, e1, -⟩
        refine wpC_region ?_
        refine wpR_val (v := (Value.pointer p0)) (w' := w1) rfl rfl rfl (x_move (v := (Value.pointer p0)) rfl e0) ?_
        obtain ⟨a8, q8, h⟩ := h
        refine wpR_val (v := (Value.pointer (some a8))) (w' := w1) rfl rfl rfl (x_nilCheck rfl rfl q8) ?_
        refine wpR_val (v := (Value.pointer (some (a8.add 0)))) (w' := w1) rfl rfl rfl (x_fieldAddr rfl rfl FA_50_0) ?_
        obtain ⟨x9, q9, h⟩ := h
        refine wpR_val (v := (Sl.v x9)) (w' := w1) rfl rfl rfl (x_load1 rfl rfl SH_22 q9) ?_
        refine wpR_val (v := (Value.int .i64 (x9.len : Int))) (w' := w1) rfl rfl rfl (x_lenS (s := x9) rfl rfl isSliceT_22) ?_
        refine wpR_val (v := (Value.int .i64 (x9.len : Int))) (w' := w1) rfl rfl rfl (x_assign (v := (Value.int .i64 (x9.len : Int))) rfl rfl) ?_
        refine wpR_nil ?_
        refine wpC_seq ?_
        refine wpC_cut (fun ρ => ρ 0 = (Value.pointer p0) ∧ ρ 1 = (Value.string p1) ∧ ρ 5 = (Value.int .i64 (x9.len : Int)) ∧ True) ⟨e0, e1, rfl, trivial⟩ ?_
        rintro ρ ⟨e0, e1, e5, -⟩
        refine wpC_region ?_
        refine wpR_val (v := (Value.pointer p0)) (w' := w1) rfl rfl rfl (x_move (v := (Value.pointer p0)) rfl e0) ?_
        obtain ⟨a10, q10, h⟩ := h
        refine wpR_val (v := (Value.pointer (some a10))) (w' := w1) rfl rfl rfl (x_nilCheck rfl rfl q10) ?_
        refine wpR_val (v := (Value.pointer (some (a10.add 1)))) (w' := w1) rfl rfl rfl (x_fieldAddr rfl rfl FA_50_1) ?_
        obtain ⟨x11, q11, h⟩ := h
        refine wpR_val (v := (Value.map x11)) (w' := w1) rfl rfl rfl (x_load1 rfl rfl SH_48 q11) ?_
        refine wpR_val (v := (Value.string p1)) (w' := w1) rfl rfl rfl (x_move (v := (Value.string p1)) rfl e1) ?_
        refine wpR_val (v := (Value.int .i64 (x9.len : Int))) (w' := w1) rfl rfl rfl (x_move (v := (Value.int .i64 (x9.len : Int))) rfl e5) ?_
        obtain ⟨w3, q12, h⟩ := h
        refine wpR_skp (w' := w3) rfl rfl (x_mapUpdate rfl rfl rfl rfl q12) ?_
        refine wpR_nil ?_
        refine wpC_cut (fun ρ => ρ 0 = (Value.pointer p0) ∧ ρ 1 = (Value.string p1) ∧ ρ 5 = (Value.int .i64 (x9.len : Int)) ∧ True) ⟨e0, e1, e5, trivial⟩ ?_
        rintro ρ ⟨e0, e1, e5, -⟩
        refine wpC_region ?_
        refine wpR_val (v := (Value.pointer p0)) (w' := w3) rfl rfl rfl (x_move (v := (Value.pointer p0)) rfl e0) ?_
        refine wpR_val (v := (Value.pointer p0)) (w' := w3) rfl rfl rfl (x_move (v := (Value.pointer p0)) rfl e0) ?_
        obtain ⟨a13, q13, h⟩ := h
        refine wpR_val (v := (Value.pointer (some a13))) (w' := w3) rfl rfl rfl (x_nilCheck rfl rfl q13) ?_
        refine wpR_val (v := (Value.pointer (some (a13.add 0)))) (w' := w3) rfl rfl rfl (x_fieldAddr rfl rfl FA_50_0) ?_
        obtain ⟨x14, q14, h⟩ := h
        refine wpR_val (v := (Sl.v x14)) (w' := w3) rfl rfl rfl (x_load1 rfl rfl SH_22 q14) ?_
        refine wpR_val (v := (Value.string p1)) (w' := w3) rfl rfl rfl (x_move (v := (Value.string p1)) rfl e1) ?_
        obtain ⟨b15, hb15⟩ : ∃ u, u = w3.heap.size := ⟨_, rfl⟩
        obtain ⟨w4, hw15⟩ : ∃ u, u = w3.alloc (.cells #[(Value.string p1)] 9) := ⟨_, rfl⟩
        replace h := h b15 w4 hb15 hw15
        refine wpR_val (v := (Sl.v (⟨some ⟨b15, 0, none⟩, 1, 1⟩ : Sl))) (w' := w4) rfl rfl rfl ((x_buildSlice (qs := [(0, (Value.string p1))]) rfl (by rfl) (BS_22_1_0 p1)).trans (by rw [← hb15, ← hw15])) ?_
        obtain ⟨r16, w5, q16, h⟩ := h
        refine wpR_val (v := (Sl.v r16)) (w' := w5) rfl rfl rfl (x_append (s := x14) (u := (⟨some ⟨b15, 0, none⟩, 1, 1⟩ : Sl)) rfl rfl rfl rfl q16) ?_
        obtain ⟨a17, q17, h⟩ := h
        refine wpR_val (v := (Value.pointer (some a17))) (w' := w5) rfl rfl rfl (x_nilCheck rfl rfl q17) ?_
        refine wpR_val (v := (Value.pointer (some (a17.add 0)))) (w' := w5) rfl rfl rfl (x_fieldAddr rfl rfl FA_50_0) ?_
        obtain ⟨q18, h⟩ := h
        obtain ⟨w6, hw18⟩ : ∃ u, u = setAll w5 (a17.add 0) [(Sl.v r16)] 0 := ⟨_, rfl⟩
        replace h := h w6 hw18
        refine wpR_skp (w' := w6) rfl rfl ((x_store (v := (Sl.v r16)) rfl rfl rfl SZ_22 (ones (by rfl)) q18).trans (by rw [hw18]; rfl)) ?_
        refine wpR_nil ?_
        exact ⟨(x9.len : Int), ⟨e5, trivial⟩, h⟩
      · replace h := h.2 hc7
        refine wpC_skip ?_
        exact ⟨r4.1, ⟨e5, trivial⟩, h⟩
    clear h
    rintro l6 ρ w2 ⟨e5, -⟩ h
    replace h := hk l6 w2 h
    clear hk
    refine wpC_seq ?_
    refine wpC_region ?_
    refine wpR_val (v := (Value.int .i64 l6)) (w' := w2) rfl rfl rfl (x_move (v := (Value.int .i64 l6)) rfl e5) ?_
    refine wpR_val (v := (Value.int .i64 l6)) (w' := w2) rfl rfl rfl (x_assign (v := (Value.int .i64 l6)) rfl rfl) ?_
    refine wpR_nil ?_
    refine wpC_ret ?_
    exact ⟨.inl rfl, fun a ha => ⟨_, results_rep1 rfl ha rfl, l6, rfl, h⟩⟩

/-- (*linguaref04.Names).Of -/
def F15 (p0 : Option Addr) (p1 : ByteArray) (w0 : World) (K : Int → World → Prop) : Prop :=
  cnd (decide (65536 < (p1.size : Int)))
    (
    K (-1) w0
    )
    (
    callC Try.prog 24 #[(Value.pointer p0), (Value.string p1)] (fun (r : Int) => (Value.int .i64 r)) w0 fun r2 w1 =>
    cnd (decide (r2 < 0))
      (
      nn p0 fun a4 =>
      ld Sl.v (a4.add 0) w1 fun x5 =>
      nw 9 #[(Value.string p1)] w1 fun b6 w2 =>
      rn Try.prog (Builtin.append_ #[22, 22] 22 #[Sl.v x5, Sl.v (⟨some ⟨b6, 0, none⟩, 1, 1⟩ : Sl)]) Sl.v w2 fun r7 w3 =>
      nn p0 fun a8 =>
      st (a8.add 0) [(Sl.v r7)] w3 fun w4 =>
      nn p0 fun a10 =>
      ld Sl.v (a10.add 0) w4 fun x11 =>
      K (IntKind.i64.wrap ((x11.len : Int) - 1)) w4
      )
      (
      K r2 w1
      )
    )
set_option maxRecDepth 100000 in
theorem D15 (p0 : Option Addr) (p1 : ByteArray) (w0 : World) (K : Int → World → Prop) (h : F15 p0 p1 w0 K) : callC Try.prog 15 #[(Value.pointer p0), (Value.string p1)] (fun (r : Int) => (Value.int .i64 r)) w0 K := by
  unfold F15 at h
  refine calls_of_wpC Try.func15 rfl 31 rfl (by simp) ?_
  intro ρ hρ
  have e0 : ρ 0 = (Value.pointer p0) := hρ 0
  have e1 : ρ 1 = (Value.string p1) := hρ 1
  clear hρ
  refine wpC_seq ?_
  refine wpC_region ?_
  refine wpR_val (v := (Value.int .i64 0)) (w' := w0) rfl rfl rfl (x_assign (v := (Value.int .i64 0)) rfl rfl) ?_
  refine wpR_nil ?_
  refine wpC_seq ?_
  refine wpC_seq ?_
  refine wpC_cut (fun ρ => ρ 0 = (Value.pointer p0) ∧ ρ 1 = (Value.string p1) ∧ True) ⟨e0, e1, trivial⟩ ?_
  rintro ρ ⟨e0, e1, -⟩
  refine wpC_region ?_
  refine wpR_val (v := (Value.string p1)) (w' := w0) rfl rfl rfl (x_move (v := (Value.string p1)) rfl e1) ?_
  refine wpR_val (v := (Value.int .i64 (p1.size : Int))) (w' := w0) rfl rfl rfl (x_lenStr rfl rfl isStrT_9) ?_
  refine wpR_val (v := (Value.bool (decide (65536 < (p1.size : Int))))) (w' := w0) rfl rfl rfl (x_gtr rfl rfl rfl) ?_
  refine wpR_nil ?_
  refine wpC_cond (b := decide (65536 < (p1.size : Int))) rfl (fun hc1 => ?_) (fun hc1 => ?_)
  · replace h := h.1 hc1
    refine wpC_seq ?_
    refine wpC_cut (fun ρ => True) trivial ?_
    rintro ρ -
    refine wpC_region ?_
    refine wpR_val (v := (Value.int .i64 (-1))) (w' := w0) rfl rfl rfl (x_assign (v := (Value.int .i64 (-1))) rfl rfl) ?_
    refine wpR_nil ?_
    refine wpC_ret ?_
    exact ⟨.inl rfl, fun a ha => ⟨_, results_rep1 rfl ha rfl, (-1), rfl, h⟩⟩
  · replace h := h.2 hc1
    refine wpC_skip ?_
    refine wpC_seq ?_
    refine wpC_cut (fun ρ => ρ 0 = (Value.pointer p0) ∧ ρ 1 = (Value.string p1) ∧ True) ⟨e0, e1, trivial⟩ ?_
    rintro ρ ⟨e0, e1, -⟩
    refine wpC_region ?_
    refine wpR_val (v := (Value.pointer p0)) (w' := w0) rfl rfl rfl (x_move (v := (Value.pointer p0)) rfl e0) ?_
    refine wpR_val (v := (Value.string p1)) (w' := w0) rfl rfl rfl (x_move (v := (Value.string p1)) rfl e1) ?_
    refine wpR_enter rfl rfl rfl (x_call (vs := [(Value.pointer p0), (Value.string p1)]) rfl rfl (mapl_cons rfl (mapl_cons rfl mapl_nil)) Try.func24 NN_24 NB_24) (Calls.mono h ?_)
    rintro _ w1 ⟨r2, rfl, h⟩
    refine ⟨_, rfl, ?_⟩
    refine wpR_val (v := (Value.int .i64 r2)) (w' := w1) rfl rfl rfl (x_assign (v := (Value.int .i64 r2)) rfl rfl) ?_
    refine wpR_nil ?_
    refine wpC_seq ?_
    refine wpC_seq ?_
    refine wpC_cut (fun ρ => ρ 0 = (Value.pointer p0) ∧ ρ 1 = (Value.string p1) ∧ ρ 5 = (Value.int .i64 r2) ∧ True) ⟨e0, e1, rfl, trivial⟩ ?_
    rintro ρ ⟨e0, e1, e5, -⟩
    refine wpC_region ?_
    refine wpR_val (v := (Value.int .i64 r2)) (w' := w1) rfl rfl rfl (x_move (v := (Value.int .i64 r2)) rfl e5) ?_
    refine wpR_val (v := (Value.bool (decide (r2 < 0)))) (w' := w1) rfl rfl rfl (x_lss rfl rfl rfl) ?_
    refine wpR_nil ?_
    refine wpC_cond (b := decide (r2 < 0)) rfl (fun hc3 => ?_) (fun hc3 => ?_)
    · replace h := h.1 hc3
      refine wpC_seq ?_
      refine wpC_cut (fun ρ => ρ 0 = (Value.pointer p0) ∧ ρ 1 = (Value.string p1) ∧ True) ⟨e0, e1, trivial⟩ ?_
      rintro ρ ⟨e0, e1, -⟩
      refine wpC_region ?_
      refine wpR_val (v := (Value.pointer p0)) (w' := w1) rfl rfl rfl (x_move (v := (Value.pointer p0)) rfl e0) ?_
      refine wpR_val (v := (Value.pointer p0)) (w' := w1) rfl rfl rfl (x_move (v := (Value.pointer p0)) rfl e0) ?_
      obtain ⟨a4, q4, h⟩ := h
      refine wpR_val (v := (Value.pointer (some a4))) (w' := w1) rfl rfl rfl (x_nilCheck rfl rfl q4) ?_
      refine wpR_val (v := (Value.pointer (some (a4.add 0)))) (w' := w1) rfl rfl rfl (x_fieldAddr rfl rfl FA_47_0) ?_
      obtain ⟨x5, q5, h⟩ := h
      refine wpR_val (v := (Sl.v x5)) (w' := w1) rfl rfl rfl (x_load1 rfl rfl SH_22 q5) ?_
      refine wpR_val (v := (Value.string p1)) (w' := w1) rfl rfl rfl (x_move (v := (Value.string p1)) rfl e1) ?_
      obtain ⟨b6, hb6⟩ : ∃ u, u = w1.heap.size := ⟨_, rfl⟩
      obtain ⟨w2, hw6⟩ : ∃ u, u = w1.alloc (.cells #[(Value.string p1)] 9) := ⟨_, rfl⟩
      replace h := h b6 w2 hb6 hw6
      refine wpR_val (v := (Sl.v (⟨some ⟨b6, 0, none⟩, 1, 1⟩ : Sl))) (w' := w2) rfl rfl rfl ((x_buildSlice (qs := [(0, (Value.string p1))]) rfl (by rfl) (BS_22_1_0 p1)).trans (by rw [← hb6, ← hw6])) ?_
      obtain ⟨r7, w3, q7, h⟩ := h
      refine wpR_val (v := (Sl.v r7)) (w' := w3) rfl rfl rfl (x_append (s := x5) (u := (⟨some ⟨b6, 0, none⟩, 1, 1⟩ : Sl)) rfl rfl rfl rfl q7) ?_
      obtain ⟨a8, q8, h⟩ := h
      refine wpR_val (v := (Value.pointer (some a8))) (w' := w3) rfl rfl rfl (x_nilCheck rfl rfl q8) ?_
      refine wpR_val (v := (Value.pointer (some (a8.add 0)))) (w' := w3) rfl rfl rfl (x_fieldAddr rfl rfl FA_47_0) ?_
      obtain ⟨q9, h⟩ := h
      obtain ⟨w4, hw9⟩ : ∃ u, u = setAll w3 (a8.add 0) [(Sl.v r7)] 0 := ⟨_, rfl⟩
      replace h := h w4 hw9
      refine wpR_skp (w' := w4) rfl rfl ((x_store (v := (Sl.v r7)) rfl rfl rfl SZ_22 (ones (by rfl)) q9).trans (by rw [hw9]; rfl)) ?_
      refine wpR_nil ?_
      refine wpC_seq ?_
      refine wpC_cut (fun ρ => ρ 0 = (Value.pointer p0) ∧ True) ⟨e0, trivial⟩ ?_
      rintro ρ ⟨e0, -⟩
      refine wpC_region ?_
      refine wpR_val (v := (Value.pointer p0)) (w' := w4) rfl rfl rfl (x_move (v := (Value.pointer p0)) rfl e0) ?_
      obtain ⟨a10, q10, h⟩ := h
      refine wpR_val (v := (Value.pointer (some a10))) (w' := w4) rfl rfl rfl (x_nilCheck rfl rfl q10) ?_
      refine wpR_val (v := (Value.pointer (some (a10.add 0)))) (w' := w4) rfl rfl rfl (x_fieldAddr rfl rfl FA_47_0) ?_
      obtain ⟨x11, q11, h⟩ := h
      refine wpR_val (v := (Sl.v x11)) (w' := w4) rfl rfl rfl (x_load1 rfl rfl SH_22 q11) ?_
      refine wpR_val (v := (Value.int .i64 (x11.len : Int))) (w' := w4) rfl rfl rfl (x_lenS (s := x11) rfl rfl isSliceT_22) ?_
      refine wpR_val (v := (Value.int .i64 (IntKind.i64.wrap ((x11.len : Int) - 1)))) (w' := w4) rfl rfl rfl (x_sub rfl rfl rfl) ?_
      refine wpR_val (v := (Value.int .i64 (IntKind.i64.wrap ((x11.len : Int) - 1)))) (w' := w4) rfl rfl rfl (x_assign (v := (Value.int .i64 (IntKind.i64.wrap ((x11.len : Int) - 1)))) rfl rfl) ?_
      refine wpR_nil ?_
      refine wpC_ret ?_
      exact ⟨.inl rfl, fun a ha => ⟨_, results_rep1 rfl ha rfl, IntKind.i64.wrap ((x11.len : Int) - 1), rfl, h⟩⟩
    · replace h := h.2 hc3
      refine wpC_skip ?_
      refine wpC_seq ?_
      refine wpC_cut (fun ρ => ρ 5 = (Value.int .i64 r2) ∧ True) ⟨e5, trivial⟩ ?_
      rintro ρ ⟨e5, -⟩
      refine wpC_region ?_
      refine wpR_val (v := (Value.int .i64 r2)) (w' := w1) rfl rfl rfl (x_move (v := (Value.int .i64 r2)) rfl e5) ?_
      refine wpR_val (v := (Value.int .i64 r2)) (w' := w1) rfl rfl rfl (x_assign (v := (Value.int .i64 r2)) rfl rfl) ?_
      refine wpR_nil ?_
      refine wpC_ret ?_
      exact ⟨.inl rfl, fun a ha => ⟨_, results_rep1 rfl ha rfl, r2, rfl, h⟩⟩

/-- (*names.Names).Text -/
def F16 (p0 : Option Addr) (p1 : Int) (w0 : World) (K : (ByteArray × Bool) → World → Prop) : Prop :=
  jp (fun J1 => cnd (decide (p1 < 0))
    (
    J1 true
    )
    (
    nn p0 fun a3 =>
    ld Sl.v (a3.add 0) w0 fun x4 =>
    J1 (decide ((x4.len : Int) ≤ p1))
    ))
  fun c5 =>
  cnd (c5)
    (
    K (ByteArray.mk #[], false) w0
    )
    (
    nn p0 fun a7 =>
    ld Sl.v (a7.add 0) w0 fun x8 =>
    ix x8 p1 1 fun p9 =>
    ld Value.string p9 w0 fun x10 =>
    K (x10, true) w0
    )
set_option maxRecDepth 100000 in
theorem D16 (p0 : Option Addr) (p1 : Int) (w0 : World) (K : (ByteArray × Bool) → World → Prop) (h : F16 p0 p1 w0 K) : callC Try.prog 16 #[(Value.pointer p0), (Value.int .i64 p1)] (fun (r : ByteArray × Bool) => (Value.tuple #[(Value.string r.1), (Value.bool r.2)])) w0 K := by
  unfold F16 at h
  refine calls_of_wpC Try.func16 rfl 24 rfl (by simp) ?_
  intro ρ hρ
  have e0 : ρ 0 = (Value.pointer p0) := hρ 0
  have e1 : ρ 1 = (Value.int .i64 p1) := hρ 1
  clear hρ
  refine wpC_seq ?_
  refine wpC_region ?_
  refine wpR_val (v := (Value.string (ByteArray.mk #[]))) (w' := w0) rfl rfl rfl (x_assign (v := (Value.string (ByteArray.mk #[]))) rfl rfl) ?_
  refine wpR_val (v := (Value.bool false)) (w' := w0) rfl rfl rfl (x_assign (v := (Value.bool false)) rfl rfl) ?_
  refine wpR_nil ?_
  refine wpC_seq ?_
  refine wpC_seq ?_
  refine wpC_cut (fun ρ => ρ 0 = (Value.pointer p0) ∧ ρ 1 = (Value.int .i64 p1) ∧ True) ⟨e0, e1, trivial⟩ ?_
  rintro ρ ⟨e0, e1, -⟩
  refine wpC_region ?_
  refine wpR_val (v := (Value.int .i64 p1)) (w' := w0) rfl rfl rfl (x_move (v := (Value.int .i64 p1)) rfl e1) ?_
  refine wpR_val (v := (Value.bool (decide (p1 < 0)))) (w' := w0) rfl rfl rfl (x_lss rfl rfl rfl) ?_
  refine wpR_val (v := (Value.bool (decide (p1 < 0)))) (w' := w0) rfl rfl rfl (x_move (v := (Value.bool (decide (p1 < 0)))) rfl rfl) ?_
  obtain ⟨J1, h, hk⟩ := h
  refine wpR_joinJ 8 (fun x ρ => ρ 16 = Value.bool x ∧ ρ 0 = (Value.pointer p0) ∧ ρ 1 = (Value.int .i64 p1) ∧ True) (fun x w => J1 x ∧ w0 = w) ?_ ?_
  · clear hk
    rcases Bool.eq_false_or_eq_true (decide (p1 < 0)) with hc2 | hc2
    · replace h := h.1 hc2
      refine wpR_pass (wantN rfl rfl rfl hc2) rfl rfl ?_
      refine wpR_pass (wantN rfl rfl rfl hc2) rfl rfl ?_
      refine wpR_pass (wantN rfl rfl rfl hc2) rfl rfl ?_
      refine wpR_pass (wantN rfl rfl rfl hc2) rfl rfl ?_
      refine wpR_pass (wantN rfl rfl rfl hc2) rfl rfl ?_
      refine wpR_pass (wantN rfl rfl rfl hc2) rfl rfl ?_
      refine wpR_pass (wantN rfl rfl rfl hc2) rfl rfl ?_
      refine wpR_val (v := (Value.bool true)) (w' := w0) rfl rfl rfl (x_pickT (v := (Value.bool true)) rfl rfl hc2 rfl) ?_
      refine wpR_nil ?_
      exact ⟨true, ⟨rfl, e0, e1, trivial⟩, h, rfl⟩
    · replace h := h.2 hc2
      refine wpR_val (v := (Value.int .i64 p1)) (w' := w0) (wantG rfl rfl rfl hc2) rfl rfl (x_move (v := (Value.int .i64 p1)) rfl e1) ?_
      refine wpR_val (v := (Value.pointer p0)) (w' := w0) (wantG rfl rfl rfl hc2) rfl rfl (x_move (v := (Value.pointer p0)) rfl e0) ?_
      obtain ⟨a3, q3, h⟩ := h
      refine wpR_val (v := (Value.pointer (some a3))) (w' := w0) (wantG rfl rfl rfl hc2) rfl rfl (x_nilCheck rfl rfl q3) ?_
      refine wpR_val (v := (Value.pointer (some (a3.add 0)))) (w' := w0) (wantG rfl rfl rfl hc2) rfl rfl (x_fieldAddr rfl rfl FA_50_0) ?_
      obtain ⟨x4, q4, h⟩ := h
      refine wpR_val (v := (Sl.v x4)) (w' := w0) (wantG rfl rfl rfl hc2) rfl rfl (x_load1 rfl rfl SH_22 q4) ?_
      refine wpR_val (v := (Value.int .i64 (x4.len : Int))) (w' := w0) (wantG rfl rfl rfl hc2) rfl rfl (x_lenS (s := x4) rfl rfl isSliceT_22) ?_
      refine wpR_val (v := (Value.bool (decide ((x4.len : Int) ≤ p1)))) (w' := w0) (wantG rfl rfl rfl hc2) rfl rfl (x_geq rfl rfl rfl) ?_
      refine wpR_val (v := (Value.bool (decide ((x4.len : Int) ≤ p1)))) (w' := w0) rfl rfl rfl (x_pickF (v := (Value.bool (decide ((x4.len : Int) ≤ p1)))) rfl rfl hc2 rfl) ?_
      refine wpR_nil ?_
      exact ⟨decide ((x4.len : Int) ≤ p1), ⟨rfl, e0, e1, trivial⟩, h, rfl⟩
  clear h
  rintro c5 ρ wj ⟨e16, e0, e1, -⟩ ⟨h, rfl⟩
  replace h := hk c5 h
  clear hk
  refine wpR_nil ?_
  refine wpC_cond (b := c5) e16 (fun hc6 => ?_) (fun hc6 => ?_)
  · replace h := h.1 hc6
    refine wpC_seq ?_
    refine wpC_region ?_
    refine wpR_val (v := (Value.string (ByteArray.mk #[]))) (w' := w0) rfl rfl rfl (x_assign (v := (Value.string (ByteArray.mk #[]))) rfl rfl) ?_
    refine wpR_val (v := (Value.bool false)) (w' := w0) rfl rfl rfl (x_assign (v := (Value.bool false)) rfl rfl) ?_
    refine wpR_nil ?_
    refine wpC_ret ?_
    exact ⟨.inl rfl, fun a ha => ⟨_, results_rep2 rfl ha rfl rfl, (ByteArray.mk #[], false), rfl, h⟩⟩
  · replace h := h.2 hc6
    refine wpC_skip ?_
    refine wpC_seq ?_
    refine wpC_region ?_
    refine wpR_val (v := (Value.pointer p0)) (w' := w0) rfl rfl rfl (x_move (v := (Value.pointer p0)) rfl e0) ?_
    obtain ⟨a7, q7, h⟩ := h
    refine wpR_val (v := (Value.pointer (some a7))) (w' := w0) rfl rfl rfl (x_nilCheck rfl rfl q7) ?_
    refine wpR_val (v := (Value.pointer (some (a7.add 0)))) (w' := w0) rfl rfl rfl (x_fieldAddr rfl rfl FA_50_0) ?_
    obtain ⟨x8, q8, h⟩ := h
    refine wpR_val (v := (Sl.v x8)) (w' := w0) rfl rfl rfl (x_load1 rfl rfl SH_22 q8) ?_
    refine wpR_val (v := (Value.int .i64 p1)) (w' := w0) rfl rfl rfl (x_move (v := (Value.int .i64 p1)) rfl e1) ?_
    obtain ⟨q9, z9, r9, h⟩ := h
    generalize hp9 : z9.add ((p1 : Int).toNat * 1) = p9 at h
    refine wpR_val (v := (Value.pointer (some p9))) (w' := w0) rfl rfl rfl ((x_indexAddr (s := x8) rfl rfl rfl ES_22 q9 r9).trans (by rw [hp9])) ?_
    obtain ⟨x10, q10, h⟩ := h
    refine wpR_val (v := (Value.string x10)) (w' := w0) rfl rfl rfl (x_load1 rfl rfl SH_9 q10) ?_
    refine wpR_val (v := (Value.string x10)) (w' := w0) rfl rfl rfl (x_assign (v := (Value.string x10)) rfl rfl) ?_
    refine wpR_val (v := (Value.bool true)) (w' := w0) rfl rfl rfl (x_assign (v := (Value.bool true)) rfl rfl) ?_
    refine wpR_nil ?_
    refine wpC_ret ?_
    exact ⟨.inl rfl, fun a ha => ⟨_, results_rep2 rfl ha rfl rfl, (x10, true), rfl, h⟩⟩

/-- (*linguaref04.Names).Text -/
def F17 (p0 : Option Addr) (p1 : Int) (w0 : World) (K : (ByteArray × Bool) → World → Prop) : Prop :=
  jp (fun J1 => cnd (decide (p1 < 0))
    (
    J1 true
    )
    (
    nn p0 fun a3 =>
    ld Sl.v (a3.add 0) w0 fun x4 =>
    J1 (decide ((x4.len : Int) ≤ p1))
    ))
  fun c5 =>
  cnd (c5)
    (
    K (ByteArray.mk #[], false) w0
    )
    (
    nn p0 fun a7 =>
    ld Sl.v (a7.add 0) w0 fun x8 =>
    ix x8 p1 1 fun p9 =>
    ld Value.string p9 w0 fun x10 =>
    K (x10, true) w0
    )
set_option maxRecDepth 100000 in
theorem D17 (p0 : Option Addr) (p1 : Int) (w0 : World) (K : (ByteArray × Bool) → World → Prop) (h : F17 p0 p1 w0 K) : callC Try.prog 17 #[(Value.pointer p0), (Value.int .i64 p1)] (fun (r : ByteArray × Bool) => (Value.tuple #[(Value.string r.1), (Value.bool r.2)])) w0 K := by
  unfold F17 at h
  refine calls_of_wpC Try.func17 rfl 24 rfl (by simp) ?_
  intro ρ hρ
  have e0 : ρ 0 = (Value.pointer p0) := hρ 0
  have e1 : ρ 1 = (Value.int .i64 p1) := hρ 1
  clear hρ
  refine wpC_seq ?_
  refine wpC_region ?_
  refine wpR_val (v := (Value.string (ByteArray.mk #[]))) (w' := w0) rfl rfl rfl (x_assign (v := (Value.string (ByteArray.mk #[]))) rfl rfl) ?_
  refine wpR_val (v := (Value.bool false)) (w' := w0) rfl rfl rfl (x_assign (v := (Value.bool false)) rfl rfl) ?_
  refine wpR_nil ?_
  refine wpC_seq ?_
  refine wpC_seq ?_
  refine wpC_cut (fun ρ => ρ 0 = (Value.pointer p0) ∧ ρ 1 = (Value.int .i64 p1) ∧ True) ⟨e0, e1, trivial⟩ ?_
  rintro ρ ⟨e0, e1, -⟩
  refine wpC_region ?_
  refine wpR_val (v := (Value.int .i64 p1)) (w' := w0) rfl rfl rfl (x_move (v := (Value.int .i64 p1)) rfl e1) ?_
  refine wpR_val (v := (Value.bool (decide (p1 < 0)))) (w' := w0) rfl rfl rfl (x_lss rfl rfl rfl) ?_
  refine wpR_val (v := (Value.bool (decide (p1 < 0)))) (w' := w0) rfl rfl rfl (x_move (v := (Value.bool (decide (p1 < 0)))) rfl rfl) ?_
  obtain ⟨J1, h, hk⟩ := h
  refine wpR_joinJ 8 (fun x ρ => ρ 16 = Value.bool x ∧ ρ 0 = (Value.pointer p0) ∧ ρ 1 = (Value.int .i64 p1) ∧ True) (fun x w => J1 x ∧ w0 = w) ?_ ?_
  · clear hk
    rcases Bool.eq_false_or_eq_true (decide (p1 < 0)) with hc2 | hc2
    · replace h := h.1 hc2
      refine wpR_pass (wantN rfl rfl rfl hc2) rfl rfl ?_
      refine wpR_pass (wantN rfl rfl rfl hc2) rfl rfl ?_
      refine wpR_pass (wantN rfl rfl rfl hc2) rfl rfl ?_
      refine wpR_pass (wantN rfl rfl rfl hc2) rfl rfl ?_
      refine wpR_pass (wantN rfl rfl rfl hc2) rfl rfl ?_
      refine wpR_pass (wantN rfl rfl rfl hc2) rfl rfl ?_
      refine wpR_pass (wantN rfl rfl rfl hc2) rfl rfl ?_
      refine wpR_val (v := (Value.bool true)) (w' := w0) rfl rfl rfl (x_pickT (v := (Value.bool true)) rfl rfl hc2 rfl) ?_
      refine wpR_nil ?_
      exact ⟨true, ⟨rfl, e0, e1, trivial⟩, h, rfl⟩
    · replace h := h.2 hc2
      refine wpR_val (v := (Value.int .i64 p1)) (w' := w0) (wantG rfl rfl rfl hc2) rfl rfl (x_move (v := (Value.int .i64 p1)) rfl e1) ?_
      refine wpR_val (v := (Value.pointer p0)) (w' := w0) (wantG rfl rfl rfl hc2) rfl rfl (x_move (v := (Value.pointer p0)) rfl e0) ?_
      obtain ⟨a3, q3, h⟩ := h
      refine wpR_val (v := (Value.pointer (some a3))) (w' := w0) (wantG rfl rfl rfl hc2) rfl rfl (x_nilCheck rfl rfl q3) ?_
      refine wpR_val (v := (Value.pointer (some (a3.add 0)))) (w' := w0) (wantG rfl rfl rfl hc2) rfl rfl (x_fieldAddr rfl rfl FA_47_0) ?_
      obtain ⟨x4, q4, h⟩ := h
      refine wpR_val (v := (Sl.v x4)) (w' := w0) (wantG rfl rfl rfl hc2) rfl rfl (x_load1 rfl rfl SH_22 q4) ?_
      refine wpR_val (v := (Value.int .i64 (x4.len : Int))) (w' := w0) (wantG rfl rfl rfl hc2) rfl rfl (x_lenS (s := x4) rfl rfl isSliceT_22) ?_
      refine wpR_val (v := (Value.bool (decide ((x4.len : Int) ≤ p1)))) (w' := w0) (wantG rfl rfl rfl hc2) rfl rfl (x_geq rfl rfl rfl) ?_
      refine wpR_val (v := (Value.bool (decide ((x4.len : Int) ≤ p1)))) (w' := w0) rfl rfl rfl (x_pickF (v := (Value.bool (decide ((x4.len : Int) ≤ p1)))) rfl rfl hc2 rfl) ?_
      refine wpR_nil ?_
      exact ⟨decide ((x4.len : Int) ≤ p1), ⟨rfl, e0, e1, trivial⟩, h, rfl⟩
  clear h
  rintro c5 ρ wj ⟨e16, e0, e1, -⟩ ⟨h, rfl⟩
  replace h := hk c5 h
  clear hk
  refine wpR_nil ?_
  refine wpC_cond (b := c5) e16 (fun hc6 => ?_) (fun hc6 => ?_)
  · replace h := h.1 hc6
    refine wpC_seq ?_
    refine wpC_region ?_
    refine wpR_val (v := (Value.string (ByteArray.mk #[]))) (w' := w0) rfl rfl rfl (x_assign (v := (Value.string (ByteArray.mk #[]))) rfl rfl) ?_
    refine wpR_val (v := (Value.bool false)) (w' := w0) rfl rfl rfl (x_assign (v := (Value.bool false)) rfl rfl) ?_
    refine wpR_nil ?_
    refine wpC_ret ?_
    exact ⟨.inl rfl, fun a ha => ⟨_, results_rep2 rfl ha rfl rfl, (ByteArray.mk #[], false), rfl, h⟩⟩
  · replace h := h.2 hc6
    refine wpC_skip ?_
    refine wpC_seq ?_
    refine wpC_region ?_
    refine wpR_val (v := (Value.pointer p0)) (w' := w0) rfl rfl rfl (x_move (v := (Value.pointer p0)) rfl e0) ?_
    obtain ⟨a7, q7, h⟩ := h
    refine wpR_val (v := (Value.pointer (some a7))) (w' := w0) rfl rfl rfl (x_nilCheck rfl rfl q7) ?_
    refine wpR_val (v := (Value.pointer (some (a7.add 0)))) (w' := w0) rfl rfl rfl (x_fieldAddr rfl rfl FA_47_0) ?_
    obtain ⟨x8, q8, h⟩ := h
    refine wpR_val (v := (Sl.v x8)) (w' := w0) rfl rfl rfl (x_load1 rfl rfl SH_22 q8) ?_
    refine wpR_val (v := (Value.int .i64 p1)) (w' := w0) rfl rfl rfl (x_move (v := (Value.int .i64 p1)) rfl e1) ?_
    obtain ⟨q9, z9, r9, h⟩ := h
    generalize hp9 : z9.add ((p1 : Int).toNat * 1) = p9 at h
    refine wpR_val (v := (Value.pointer (some p9))) (w' := w0) rfl rfl rfl ((x_indexAddr (s := x8) rfl rfl rfl ES_22 q9 r9).trans (by rw [hp9])) ?_
    obtain ⟨x10, q10, h⟩ := h
    refine wpR_val (v := (Value.string x10)) (w' := w0) rfl rfl rfl (x_load1 rfl rfl SH_9 q10) ?_
    refine wpR_val (v := (Value.string x10)) (w' := w0) rfl rfl rfl (x_assign (v := (Value.string x10)) rfl rfl) ?_
    refine wpR_val (v := (Value.bool true)) (w' := w0) rfl rfl rfl (x_assign (v := (Value.bool true)) rfl rfl) ?_
    refine wpR_nil ?_
    refine wpC_ret ?_
    exact ⟨.inl rfl, fun a ha => ⟨_, results_rep2 rfl ha rfl rfl, (x10, true), rfl, h⟩⟩

/-- (*names.Names).Len -/
def F18 (p0 : Option Addr) (w0 : World) (K : Int → World → Prop) : Prop :=
  nn p0 fun a1 =>
  ld Sl.v (a1.add 0) w0 fun x2 =>
  K (x2.len : Int) w0
set_option maxRecDepth 100000 in
theorem D18 (p0 : Option Addr) (w0 : World) (K : Int → World → Prop) (h : F18 p0 w0 K) : callC Try.prog 18 #[(Value.pointer p0)] (fun (r : Int) => (Value.int .i64 r)) w0 K := by
  unfold F18 at h
  refine calls_of_wpC Try.func18 rfl 8 rfl (by simp) ?_
  intro ρ hρ
  have e0 : ρ 0 = (Value.pointer p0) := hρ 0
  clear hρ
  refine wpC_seq ?_
  refine wpC_region ?_
  refine wpR_val (v := (Value.int .i64 0)) (w' := w0) rfl rfl rfl (x_assign (v := (Value.int .i64 0)) rfl rfl) ?_
  refine wpR_nil ?_
  refine wpC_seq ?_
  refine wpC_cut (fun ρ => ρ 0 = (Value.pointer p0) ∧ True) ⟨e0, trivial⟩ ?_
  rintro ρ ⟨e0, -⟩
  refine wpC_region ?_
  refine wpR_val (v := (Value.pointer p0)) (w' := w0) rfl rfl rfl (x_move (v := (Value.pointer p0)) rfl e0) ?_
  obtain ⟨a1, q1, h⟩ := h
  refine wpR_val (v := (Value.pointer (some a1))) (w' := w0) rfl rfl rfl (x_nilCheck rfl rfl q1) ?_
  refine wpR_val (v := (Value.pointer (some (a1.add 0)))) (w' := w0) rfl rfl rfl (x_fieldAddr rfl rfl FA_50_0) ?_
  obtain ⟨x2, q2, h⟩ := h
  refine wpR_val (v := (Sl.v x2)) (w' := w0) rfl rfl rfl (x_load1 rfl rfl SH_22 q2) ?_
  refine wpR_val (v := (Value.int .i64 (x2.len : Int))) (w' := w0) rfl rfl rfl (x_lenS (s := x2) rfl rfl isSliceT_22) ?_
  refine wpR_val (v := (Value.int .i64 (x2.len : Int))) (w' := w0) rfl rfl rfl (x_assign (v := (Value.int .i64 (x2.len : Int))) rfl rfl) ?_
  refine wpR_nil ?_
  refine wpC_ret ?_
  exact ⟨.inl rfl, fun a ha => ⟨_, results_rep1 rfl ha rfl, (x2.len : Int), rfl, h⟩⟩

/-- (*linguaref04.Names).Len -/
def F19 (p0 : Option Addr) (w0 : World) (K : Int → World → Prop) : Prop :=
  nn p0 fun a1 =>
  ld Sl.v (a1.add 0) w0 fun x2 =>
  K (x2.len : Int) w0
set_option maxRecDepth 100000 in
theorem D19 (p0 : Option Addr) (w0 : World) (K : Int → World → Prop) (h : F19 p0 w0 K) : callC Try.prog 19 #[(Value.pointer p0)] (fun (r : Int) => (Value.int .i64 r)) w0 K := by
  unfold F19 at h
  refine calls_of_wpC Try.func19 rfl 8 rfl (by simp) ?_
  intro ρ hρ
  have e0 : ρ 0 = (Value.pointer p0) := hρ 0
  clear hρ
  refine wpC_seq ?_
  refine wpC_region ?_
  refine wpR_val (v := (Value.int .i64 0)) (w' := w0) rfl rfl rfl (x_assign (v := (Value.int .i64 0)) rfl rfl) ?_
  refine wpR_nil ?_
  refine wpC_seq ?_
  refine wpC_cut (fun ρ => ρ 0 = (Value.pointer p0) ∧ True) ⟨e0, trivial⟩ ?_
  rintro ρ ⟨e0, -⟩
  refine wpC_region ?_
  refine wpR_val (v := (Value.pointer p0)) (w' := w0) rfl rfl rfl (x_move (v := (Value.pointer p0)) rfl e0) ?_
  obtain ⟨a1, q1, h⟩ := h
  refine wpR_val (v := (Value.pointer (some a1))) (w' := w0) rfl rfl rfl (x_nilCheck rfl rfl q1) ?_
  refine wpR_val (v := (Value.pointer (some (a1.add 0)))) (w' := w0) rfl rfl rfl (x_fieldAddr rfl rfl FA_47_0) ?_
  obtain ⟨x2, q2, h⟩ := h
  refine wpR_val (v := (Sl.v x2)) (w' := w0) rfl rfl rfl (x_load1 rfl rfl SH_22 q2) ?_
  refine wpR_val (v := (Value.int .i64 (x2.len : Int))) (w' := w0) rfl rfl rfl (x_lenS (s := x2) rfl rfl isSliceT_22) ?_
  refine wpR_val (v := (Value.int .i64 (x2.len : Int))) (w' := w0) rfl rfl rfl (x_assign (v := (Value.int .i64 (x2.len : Int))) rfl rfl) ?_
  refine wpR_nil ?_
  refine wpC_ret ?_
  exact ⟨.inl rfl, fun a ha => ⟨_, results_rep1 rfl ha rfl, (x2.len : Int), rfl, h⟩⟩

/-- linguaref04.Strings -/
def F20 (p0 : Sl) (p1 : Sl) (w0 : World) (K : Bool → World → Prop) : Prop :=
  cnd (!decide ((p0.len : Int) = (p1.len : Int)))
    (
    K false w0
    )
    (
    lp (fun (next2 : Int → World → Prop) l2 w1 =>
      cnd (decide (l2 < (p0.len : Int)))
        (
        jn (fun (J5 : Bool → World → Prop) => tk w1 fun w2 =>
          ix p0 l2 1 fun p6 =>
          ld Value.string p6 w2 fun x7 =>
          ix p1 l2 1 fun p8 =>
          ld Value.string p8 w2 fun x9 =>
          J5 (!beqS x7 x9) w2
        )
        fun l10 w3 =>
        cnd (l10)
          (
          K false w3
          )
          (
          next2 (IntKind.i64.wrap (l2 + 1)) w3
          )
        )
        (
        K true w1
        )
    ) 0 w0
    )
set_option maxRecDepth 100000 in
theorem D20 (p0 : Sl) (p1 : Sl) (w0 : World) (K : Bool → World → Prop) (h : F20 p0 p1 w0 K) : callC Try.prog 20 #[(Sl.v p0), (Sl.v p1)] (fun (r : Bool) => (Value.bool r)) w0 K := by
  unfold F20 at h
  refine calls_of_wpC Try.func20 rfl 26 rfl (by simp) ?_
  intro ρ hρ
  have e0 : ρ 0 = (Sl.v p0) := hρ 0
  have e1 : ρ 1 = (Sl.v p1) := hρ 1
  clear hρ
  refine wpC_seq ?_
  refine wpC_region ?_
  refine wpR_val (v := (Value.bool false)) (w' := w0) rfl rfl rfl (x_assign (v := (Value.bool false)) rfl rfl) ?_
  refine wpR_nil ?_
  refine wpC_seq ?_
  refine wpC_seq ?_
  refine wpC_cut (fun ρ => ρ 0 = (Sl.v p0) ∧ ρ 1 = (Sl.v p1) ∧ True) ⟨e0, e1, trivial⟩ ?_
  rintro ρ ⟨e0, e1, -⟩
  refine wpC_region ?_
  refine wpR_val (v := (Sl.v p0)) (w' := w0) rfl rfl rfl (x_move (v := (Sl.v p0)) rfl e0) ?_
  refine wpR_val (v := (Value.int .i64 (p0.len : Int))) (w' := w0) rfl rfl rfl (x_lenS (s := p0) rfl rfl isSliceT_22) ?_
  refine wpR_val (v := (Sl.v p1)) (w' := w0) rfl rfl rfl (x_move (v := (Sl.v p1)) rfl e1) ?_
  refine wpR_val (v := (Value.int .i64 (p1.len : Int))) (w' := w0) rfl rfl rfl (x_lenS (s := p1) rfl rfl isSliceT_22) ?_
  refine wpR_val (v := (Value.bool (!decide ((p0.len : Int) = (p1.len : Int))))) (w' := w0) rfl rfl rfl (x_neq rfl rfl rfl) ?_
  refine wpR_nil ?_
  refine wpC_cond (b := !decide ((p0.len : Int) = (p1.len : Int))) rfl (fun hc1 => ?_) (fun hc1 => ?_)
  · replace h := h.1 hc1
    refine wpC_seq ?_
    refine wpC_cut (fun ρ => True) trivial ?_
    rintro ρ -
    refine wpC_region ?_
    refine wpR_val (v := (Value.bool false)) (w' := w0) rfl rfl rfl (x_assign (v := (Value.bool false)) rfl rfl) ?_
    refine wpR_nil ?_
    refine wpC_ret ?_
    exact ⟨.inl rfl, fun a ha => ⟨_, results_rep1 rfl ha rfl, false, rfl, h⟩⟩
  · replace h := h.2 hc1
    refine wpC_skip ?_
    refine wpC_seq ?_
    refine wpC_seq ?_
    refine wpC_cut (fun ρ => ρ 0 = (Sl.v p0) ∧ ρ 1 = (Sl.v p1) ∧ True) ⟨e0, e1, trivial⟩ ?_
    rintro ρ ⟨e0, e1, -⟩
    refine wpC_region ?_
    refine wpR_val (v := (Value.int .i64 0)) (w' := w0) rfl rfl rfl (x_assign (v := (Value.int .i64 0)) rfl rfl) ?_
    refine wpR_nil ?_
    refine wpC_block ?_
    obtain ⟨I2, μ2, hI2, hr2⟩ := h
    refine wpC_loop (fun (x : Int) ρ => ρ 5 = (Value.int .i64 x) ∧ ρ 0 = (Sl.v p0) ∧ ρ 1 = (Sl.v p1) ∧ True) I2 μ2 0 ⟨rfl, e0, e1, trivial⟩ hI2 ?_
    rintro l2 ρ w1 ⟨e5, e0, e1, -⟩ h
    replace h := hr2 l2 w1 h
    clear hr2 hI2
    refine wpC_seq ?_
    refine wpC_seq ?_
    refine wpC_region ?_
    refine wpR_val (v := (Value.int .i64 l2)) (w' := w1) rfl rfl rfl (x_move (v := (Value.int .i64 l2)) rfl e5) ?_
    refine wpR_val (v := (Sl.v p0)) (w' := w1) rfl rfl rfl (x_move (v := (Sl.v p0)) rfl e0) ?_
    refine wpR_val (v := (Value.int .i64 (p0.len : Int))) (w' := w1) rfl rfl rfl (x_lenS (s := p0) rfl rfl isSliceT_22) ?_
    refine wpR_val (v := (Value.bool (decide (l2 < (p0.len : Int))))) (w' := w1) rfl rfl rfl (x_lss rfl rfl rfl) ?_
    refine wpR_nil ?_
    refine wpC_cond (b := decide (l2 < (p0.len : Int))) rfl (fun hc3 => ?_) (fun hc3 => ?_)
    · replace h := h.1 hc3
      refine wpC_skip ?_
      refine wpC_seq ?_
      refine wpC_block ?_
      refine wpC_seq ?_
      refine wpC_cut (fun ρ => ρ 0 = (Sl.v p0) ∧ ρ 1 = (Sl.v p1) ∧ ρ 5 = (Value.int .i64 l2) ∧ True) ⟨e0, e1, e5, trivial⟩ ?_
      rintro ρ ⟨e0, e1, e5, -⟩
      obtain ⟨J5, h, hk⟩ := h
      refine wpC_drawJ (by kernel_rfl) (fun (x : Bool) ρ => ρ 25 = (Value.bool x) ∧ ρ 0 = (Sl.v p0) ∧ ρ 1 = (Sl.v p1) ∧ ρ 5 = (Value.int .i64 l2) ∧ True) J5 ?_ ?_
      · clear hk
        unfold tk at h
        generalize w1.drew = w2 at h ⊢
        refine wpD_take (v := (Sl.v p0)) 0 (fun _ => True) rfl (by kernel_rfl) (by kernel_rfl) (by kernel_rfl) rfl rfl rfl trivial (fun w _ => (x_move (v := (Sl.v p0)) rfl e0)) ?_
        refine wpD_take (v := (Value.int .i64 l2)) 1 (fun _ => True) rfl (by kernel_rfl) (by kernel_rfl) (by kernel_rfl) rfl rfl rfl trivial (fun w _ => (x_move (v := (Value.int .i64 l2)) rfl e5)) ?_
        obtain ⟨q6, z6, r6, h⟩ := h
        generalize hp6 : z6.add ((l2 : Int).toNat * 1) = p6 at h
        refine wpD_take (v := (Value.pointer (some p6))) 2 (fun _ => True) rfl (by kernel_rfl) (by kernel_rfl) (by kernel_rfl) rfl rfl rfl trivial (fun w _ => ((x_indexAddr (s := p0) rfl rfl rfl ES_22 q6 r6).trans (by rw [hp6]))) ?_
        obtain ⟨x7, q7, h⟩ := h
        refine wpD_take (v := (Value.string x7)) 3 (fun w => w.cell? p6 = some (Value.string x7)) rfl (by kernel_rfl) (by kernel_rfl) (by kernel_rfl) rfl rfl rfl q7 (fun w q7 => (x_load1 rfl rfl SH_9 q7)) ?_
        refine wpD_take (v := (Sl.v p1)) 4 (fun _ => True) rfl (by kernel_rfl) (by kernel_rfl) (by kernel_rfl) rfl rfl rfl trivial (fun w _ => (x_move (v := (Sl.v p1)) rfl e1)) ?_
        refine wpD_take (v := (Value.int .i64 l2)) 5 (fun _ => True) rfl (by kernel_rfl) (by kernel_rfl) (by kernel_rfl) rfl rfl rfl trivial (fun w _ => (x_move (v := (Value.int .i64 l2)) rfl e5)) ?_
        obtain ⟨q8, z8, r8, h⟩ := h
        generalize hp8 : z8.add ((l2 : Int).toNat * 1) = p8 at h
        refine wpD_take (v := (Value.pointer (some p8))) 6 (fun _ => True) rfl (by kernel_rfl) (by kernel_rfl) (by kernel_rfl) rfl rfl rfl trivial (fun w _ => ((x_indexAddr (s := p1) rfl rfl rfl ES_22 q8 r8).trans (by rw [hp8]))) ?_
        obtain ⟨x9, q9, h⟩ := h
        refine wpD_take (v := (Value.string x9)) 7 (fun w => w.cell? p8 = some (Value.string x9)) rfl (by kernel_rfl) (by kernel_rfl) (by kernel_rfl) rfl rfl rfl q9 (fun w q9 => (x_load1 rfl rfl SH_9 q9)) ?_
        refine wpD_take (v := (Value.bool (!beqS x7 x9))) 8 (fun _ => True) rfl (by kernel_rfl) (by kernel_rfl) (by kernel_rfl) rfl rfl rfl trivial (fun w _ => (x_neqS rfl rfl rfl)) ?_
        exact wpD_done (by kernel_rfl) ⟨!beqS x7 x9, ⟨rfl, e0, e1, e5, trivial⟩, h⟩
      clear h
      rintro l10 ρ w3 ⟨e25, e0, e1, e5, -⟩ h
      replace h := hk l10 w3 h
      clear hk
      refine wpC_cond (b := l10) e25 (fun hc11 => ?_) (fun hc11 => ?_)
      · replace h := h.1 hc11
        refine wpC_seq ?_
        refine wpC_region ?_
        refine wpR_val (v := (Value.bool false)) (w' := w3) rfl rfl rfl (x_assign (v := (Value.bool false)) rfl rfl) ?_
        refine wpR_nil ?_
        refine wpC_ret ?_
        exact ⟨.inl rfl, fun a ha => ⟨_, results_rep1 rfl ha rfl, false, rfl, h⟩⟩
      · replace h := h.2 hc11
        refine wpC_skip ?_
        refine wpC_region ?_
        refine wpR_val (v := (Value.int .i64 l2)) (w' := w3) rfl rfl rfl (x_move (v := (Value.int .i64 l2)) rfl e5) ?_
        refine wpR_val (v := (Value.int .i64 (IntKind.i64.wrap (l2 + 1)))) (w' := w3) rfl rfl rfl (x_add rfl rfl rfl) ?_
        refine wpR_val (v := (Value.int .i64 (IntKind.i64.wrap (l2 + 1)))) (w' := w3) rfl rfl rfl (x_assign (v := (Value.int .i64 (IntKind.i64.wrap (l2 + 1)))) rfl rfl) ?_
        refine wpR_nil ?_
        exact ⟨IntKind.i64.wrap (l2 + 1), ⟨rfl, e0, e1, trivial⟩, h⟩
    · replace h := h.2 hc3
      refine wpC_exit ?_
      refine wpC_seq ?_
      refine wpC_cut (fun ρ => True) trivial ?_
      rintro ρ -
      refine wpC_region ?_
      refine wpR_val (v := (Value.bool true)) (w' := w1) rfl rfl rfl (x_assign (v := (Value.bool true)) rfl rfl) ?_
      refine wpR_nil ?_
      refine wpC_ret ?_
      exact ⟨.inl rfl, fun a ha => ⟨_, results_rep1 rfl ha rfl, true, rfl, h⟩⟩

/-- (*names.Names).All -/
def F21 (p0 : Option Addr) (w0 : World) (K : Sl → World → Prop) : Prop :=
  nn p0 fun a1 =>
  ld Sl.v (a1.add 0) w0 fun x2 =>
  callC Try.prog 25 #[(Sl.v x2)] (fun (r : Sl) => (Sl.v r)) w0 fun r3 w1 =>
  K r3 w1
set_option maxRecDepth 100000 in
theorem D21 (p0 : Option Addr) (w0 : World) (K : Sl → World → Prop) (h : F21 p0 w0 K) : callC Try.prog 21 #[(Value.pointer p0)] (fun (r : Sl) => (Sl.v r)) w0 K := by
  unfold F21 at h
  refine calls_of_wpC Try.func21 rfl 8 rfl (by simp) ?_
  intro ρ hρ
  have e0 : ρ 0 = (Value.pointer p0) := hρ 0
  clear hρ
  refine wpC_seq ?_
  refine wpC_region ?_
  refine wpR_val (v := (Sl.v Sl.nil)) (w' := w0) rfl rfl rfl (x_assign (v := (Sl.v Sl.nil)) rfl rfl) ?_
  refine wpR_nil ?_
  refine wpC_seq ?_
  refine wpC_cut (fun ρ => ρ 0 = (Value.pointer p0) ∧ True) ⟨e0, trivial⟩ ?_
  rintro ρ ⟨e0, -⟩
  refine wpC_region ?_
  refine wpR_val (v := (Value.pointer p0)) (w' := w0) rfl rfl rfl (x_move (v := (Value.pointer p0)) rfl e0) ?_
  obtain ⟨a1, q1, h⟩ := h
  refine wpR_val (v := (Value.pointer (some a1))) (w' := w0) rfl rfl rfl (x_nilCheck rfl rfl q1) ?_
  refine wpR_val (v := (Value.pointer (some (a1.add 0)))) (w' := w0) rfl rfl rfl (x_fieldAddr rfl rfl FA_50_0) ?_
  obtain ⟨x2, q2, h⟩ := h
  refine wpR_val (v := (Sl.v x2)) (w' := w0) rfl rfl rfl (x_load1 rfl rfl SH_22 q2) ?_
  refine wpR_enter rfl rfl rfl (x_call (vs := [(Sl.v x2)]) rfl rfl (mapl_cons rfl mapl_nil) Try.func25 NN_25 NB_25) (Calls.mono h ?_)
  rintro _ w1 ⟨r3, rfl, h⟩
  refine ⟨_, rfl, ?_⟩
  refine wpR_val (v := (Sl.v r3)) (w' := w1) rfl rfl rfl (x_assign (v := (Sl.v r3)) rfl rfl) ?_
  refine wpR_nil ?_
  refine wpC_ret ?_
  exact ⟨.inl rfl, fun a ha => ⟨_, results_rep1 rfl ha rfl, r3, rfl, h⟩⟩

/-- (*linguaref04.Names).All -/
def F22 (p0 : Option Addr) (w0 : World) (K : Sl → World → Prop) : Prop :=
  nw 9 #[] w0 fun b1 w1 =>
  nn p0 fun a2 =>
  ld Sl.v (a2.add 0) w1 fun x3 =>
  rn Try.prog (Builtin.append_ #[22, 22] 22 #[Sl.v (⟨some ⟨b1, 0, none⟩, 0, 0⟩ : Sl), Sl.v x3]) Sl.v w1 fun r4 w2 =>
  K r4 w2
set_option maxRecDepth 100000 in
theorem D22 (p0 : Option Addr) (w0 : World) (K : Sl → World → Prop) (h : F22 p0 w0 K) : callC Try.prog 22 #[(Value.pointer p0)] (fun (r : Sl) => (Sl.v r)) w0 K := by
  unfold F22 at h
  refine calls_of_wpC Try.func22 rfl 9 rfl (by simp) ?_
  intro ρ hρ
  have e0 : ρ 0 = (Value.pointer p0) := hρ 0
  clear hρ
  refine wpC_seq ?_
  refine wpC_region ?_
  refine wpR_val (v := (Sl.v Sl.nil)) (w' := w0) rfl rfl rfl (x_assign (v := (Sl.v Sl.nil)) rfl rfl) ?_
  refine wpR_nil ?_
  refine wpC_seq ?_
  refine wpC_cut (fun ρ => ρ 0 = (Value.pointer p0) ∧ True) ⟨e0, trivial⟩ ?_
  rintro ρ ⟨e0, -⟩
  refine wpC_region ?_
  obtain ⟨b1, hb1⟩ : ∃ u, u = w0.heap.size := ⟨_, rfl⟩
  obtain ⟨w1, hw1⟩ : ∃ u, u = w0.alloc (.cells #[] 9) := ⟨_, rfl⟩
  replace h := h b1 w1 hb1 hw1
  refine wpR_val (v := (Sl.v (⟨some ⟨b1, 0, none⟩, 0, 0⟩ : Sl))) (w' := w1) rfl rfl rfl ((x_buildSlice (qs := []) rfl (by rfl) (BS_22_0_ )).trans (by rw [← hb1, ← hw1])) ?_
  refine wpR_val (v := (Value.pointer p0)) (w' := w1) rfl rfl rfl (x_move (v := (Value.pointer p0)) rfl e0) ?_
  obtain ⟨a2, q2, h⟩ := h
  refine wpR_val (v := (Value.pointer (some a2))) (w' := w1) rfl rfl rfl (x_nilCheck rfl rfl q2) ?_
  refine wpR_val (v := (Value.pointer (some (a2.add 0)))) (w' := w1) rfl rfl rfl (x_fieldAddr rfl rfl FA_47_0) ?_
  obtain ⟨x3, q3, h⟩ := h
  refine wpR_val (v := (Sl.v x3)) (w' := w1) rfl rfl rfl (x_load1 rfl rfl SH_22 q3) ?_
  obtain ⟨r4, w2, q4, h⟩ := h
  refine wpR_val (v := (Sl.v r4)) (w' := w2) rfl rfl rfl (x_append (s := (⟨some ⟨b1, 0, none⟩, 0, 0⟩ : Sl)) (u := x3) rfl rfl rfl rfl q4) ?_
  refine wpR_val (v := (Sl.v r4)) (w' := w2) rfl rfl rfl (x_assign (v := (Sl.v r4)) rfl rfl) ?_
  refine wpR_nil ?_
  refine wpC_ret ?_
  exact ⟨.inl rfl, fun a ha => ⟨_, results_rep1 rfl ha rfl, r4, rfl, h⟩⟩

/-- (*names.Names).Copy -/
def F23 (p0 : Option Addr) (w0 : World) (K : (Option Addr) → World → Prop) : Prop :=
  jn (fun (J2 : (Option Addr) → World → Prop) => tk w0 fun w1 =>
    nn p0 fun a3 =>
    ld Value.map (a3.add 1) w1 fun x4 =>
    callC Try.prog 21 #[(Value.pointer p0)] (fun (r : Sl) => (Sl.v r)) w1 fun r5 w2 =>
    (w2.cell? (a3.add 1) = some (Value.map x4)) ∧
    callC Try.prog 26 #[(Value.map x4)] (fun (r : (Option Nat)) => (Value.map r)) w2 fun r6 w3 =>
    nw 50 #[(Sl.v r5), (Value.map r6)] w3 fun b7 w4 =>
    J2 (some (Addr.mk b7 0 none)) w4
  )
  fun l8 w5 =>
  K l8 w5
set_option maxRecDepth 100000 in
theorem D23 (p0 : Option Addr) (w0 : World) (K : (Option Addr) → World → Prop) (h : F23 p0 w0 K) : callC Try.prog 23 #[(Value.pointer p0)] (fun (r : (Option Addr)) => (Value.pointer r)) w0 K := by
  unfold F23 at h
  refine calls_of_wpC Try.func23 rfl 12 rfl (by simp) ?_
  intro ρ hρ
  have e0 : ρ 0 = (Value.pointer p0) := hρ 0
  clear hρ
  refine wpC_seq ?_
  refine wpC_region ?_
  refine wpR_val (v := (Value.pointer none)) (w' := w0) rfl rfl rfl (x_assign (v := (Value.pointer none)) rfl rfl) ?_
  refine wpR_nil ?_
  refine wpC_seq ?_
  refine wpC_cut (fun ρ => ρ 0 = (Value.pointer p0) ∧ True) ⟨e0, trivial⟩ ?_
  rintro ρ ⟨e0, -⟩
  obtain ⟨J2, h, hk⟩ := h
  refine wpC_drawJ (by kernel_rfl) (fun (x : (Option Addr)) ρ => ρ 2 = (Value.pointer x) ∧ True) J2 ?_ ?_
  · clear hk
    unfold tk at h
    generalize w0.drew = w1 at h ⊢
    refine wpD_take (v := (Value.pointer p0)) 0 (fun _ => True) rfl (by kernel_rfl) (by kernel_rfl) (by kernel_rfl) rfl rfl rfl trivial (fun w _ => (x_move (v := (Value.pointer p0)) rfl e0)) ?_
    refine wpD_take (v := (Value.pointer p0)) 2 (fun _ => True) rfl (by kernel_rfl) (by kernel_rfl) (by kernel_rfl) rfl rfl rfl trivial (fun w _ => (x_move (v := (Value.pointer p0)) rfl e0)) ?_
    obtain ⟨a3, q3, h⟩ := h
    refine wpD_take (v := (Value.pointer (some a3))) 3 (fun _ => True) rfl (by kernel_rfl) (by kernel_rfl) (by kernel_rfl) rfl rfl rfl trivial (fun w _ => (x_nilCheck rfl rfl q3)) ?_
    refine wpD_take (v := (Value.pointer (some (a3.add 1)))) 4 (fun _ => True) rfl (by kernel_rfl) (by kernel_rfl) (by kernel_rfl) rfl rfl rfl trivial (fun w _ => (x_fieldAddr rfl rfl FA_50_1)) ?_
    obtain ⟨x4, q4, h⟩ := h
    refine wpD_take (v := (Value.map x4)) 5 (fun w => w.cell? (a3.add 1) = some (Value.map x4)) rfl (by kernel_rfl) (by kernel_rfl) (by kernel_rfl) rfl rfl rfl q4 (fun w q4 => (x_load1 rfl rfl SH_48 q4)) ?_
    refine wpD_all (rs := [1]) (by kernel_rfl) (by simp) (allD_cons ?_ allD_nil)
    refine stepD_enterL (L' := [(5, fun w => w.cell? (a3.add 1) = some (Value.map x4)), (4, fun _ => True), (3, fun _ => True), (2, fun _ => True)]) rfl rfl rfl rfl (x_call (vs := [(Value.pointer p0)]) rfl rfl (mapl_cons rfl mapl_nil) Try.func21 NN_21 NB_21) (by kernel_rfl) (Calls.mono h ?_)
    rintro _ w2 ⟨r5, rfl, h⟩
    obtain ⟨o5, h⟩ := h
    refine ⟨_, rfl, (held_cons o5 (held_cons trivial (held_cons trivial (held_cons trivial held_nil)))), ?_⟩
    refine wpD_all (rs := [6]) (by kernel_rfl) (by simp) (allD_cons ?_ allD_nil)
    refine stepD_enterL (L' := [(4, fun _ => True), (3, fun _ => True), (2, fun _ => True)]) rfl rfl rfl rfl (x_call (vs := [(Value.map x4)]) rfl rfl (mapl_cons rfl mapl_nil) Try.func26 NN_26 NB_26) (by kernel_rfl) (Calls.mono h ?_)
    rintro _ w3 ⟨r6, rfl, h⟩
    refine ⟨_, rfl, (held_cons trivial (held_cons trivial (held_cons trivial held_nil))), ?_⟩
    refine wpD_take (v := (Value.agg #[(Sl.v r5), (Value.map r6)])) 7 (fun _ => True) rfl (by kernel_rfl) (by kernel_rfl) (by kernel_rfl) rfl rfl rfl trivial (fun w _ => (x_build (qs := [(0, (Sl.v r5)), (1, (Value.map r6))]) rfl (by rfl) (BD_50_0_1 r5 r6 _))) ?_
    refine wpD_all (rs := [8]) (by kernel_rfl) (by simp) (allD_cons ?_ allD_nil)
    obtain ⟨b7, hb7⟩ : ∃ u, u = w3.heap.size := ⟨_, rfl⟩
    obtain ⟨w4, hw7⟩ : ∃ u, u = w3.alloc (.cells #[(Sl.v r5), (Value.map r6)] 50) := ⟨_, rfl⟩
    replace h := h b7 w4 hb7 hw7
    refine stepD_valL (L' := [(4, fun _ => True), (3, fun _ => True), (2, fun _ => True)]) (v := (Value.pointer (some (Addr.mk b7 0 none)))) (w' := w4) rfl rfl rfl rfl ((x_box (v := (Value.agg #[(Sl.v r5), (Value.map r6)])) rfl rfl).trans (by rw [hb7, hw7]; rfl)) (by kernel_rfl) (held_cons trivial (held_cons trivial (held_cons trivial held_nil))) ?_
    refine wpD_take (v := (Value.pointer (some (Addr.mk b7 0 none)))) 9 (fun _ => True) rfl (by kernel_rfl) (by kernel_rfl) (by kernel_rfl) rfl rfl rfl trivial (fun w _ => (x_assign (v := (Value.pointer (some (Addr.mk b7 0 none)))) rfl rfl)) ?_
    exact wpD_done (by kernel_rfl) ⟨some (Addr.mk b7 0 none), ⟨rfl, trivial⟩, h⟩
  clear h
  rintro l8 ρ w5 ⟨e2, -⟩ h
  replace h := hk l8 w5 h
  clear hk
  refine wpC_ret ?_
  exact ⟨.inl rfl, fun a ha => ⟨_, results_rep1 rfl ha e2, l8, rfl, h⟩⟩

/-- (*linguaref04.Names).at -/
def F24 (p0 : Option Addr) (p1 : ByteArray) (w0 : World) (K : Int → World → Prop) : Prop :=
  lp (fun (next1 : Int → World → Prop) l1 w1 =>
    nn p0 fun a2 =>
    ld Sl.v (a2.add 0) w1 fun x3 =>
    cnd (decide (l1 < (x3.len : Int)))
      (
      nn p0 fun a5 =>
      ld Sl.v (a5.add 0) w1 fun x6 =>
      ix x6 l1 1 fun p7 =>
      ld Value.string p7 w1 fun x8 =>
      cnd (beqS x8 p1)
        (
        K l1 w1
        )
        (
        next1 (IntKind.i64.wrap (l1 + 1)) w1
        )
      )
      (
      K (-1) w1
      )
  ) 0 w0
set_option maxRecDepth 100000 in
theorem D24 (p0 : Option Addr) (p1 : ByteArray) (w0 : World) (K : Int → World → Prop) (h : F24 p0 p1 w0 K) : callC Try.prog 24 #[(Value.pointer p0), (Value.string p1)] (fun (r : Int) => (Value.int .i64 r)) w0 K := by
  unfold F24 at h
  refine calls_of_wpC Try.func24 rfl 25 rfl (by simp) ?_
  intro ρ hρ
  have e0 : ρ 0 = (Value.pointer p0) := hρ 0
  have e1 : ρ 1 = (Value.string p1) := hρ 1
  clear hρ
  refine wpC_seq ?_
  refine wpC_region ?_
  refine wpR_val (v := (Value.int .i64 0)) (w' := w0) rfl rfl rfl (x_assign (v := (Value.int .i64 0)) rfl rfl) ?_
  refine wpR_nil ?_
  refine wpC_seq ?_
  refine wpC_seq ?_
  refine wpC_cut (fun ρ => ρ 0 = (Value.pointer p0) ∧ ρ 1 = (Value.string p1) ∧ True) ⟨e0, e1, trivial⟩ ?_
  rintro ρ ⟨e0, e1, -⟩
  refine wpC_region ?_
  refine wpR_val (v := (Value.int .i64 0)) (w' := w0) rfl rfl rfl (x_assign (v := (Value.int .i64 0)) rfl rfl) ?_
  refine wpR_nil ?_
  refine wpC_block ?_
  obtain ⟨I1, μ1, hI1, hr1⟩ := h
  refine wpC_loop (fun (x : Int) ρ => ρ 5 = (Value.int .i64 x) ∧ ρ 0 = (Value.pointer p0) ∧ ρ 1 = (Value.string p1) ∧ True) I1 μ1 0 ⟨rfl, e0, e1, trivial⟩ hI1 ?_
  rintro l1 ρ w1 ⟨e5, e0, e1, -⟩ h
  replace h := hr1 l1 w1 h
  clear hr1 hI1
  refine wpC_seq ?_
  refine wpC_seq ?_
  refine wpC_region ?_
  refine wpR_val (v := (Value.int .i64 l1)) (w' := w1) rfl rfl rfl (x_move (v := (Value.int .i64 l1)) rfl e5) ?_
  refine wpR_val (v := (Value.pointer p0)) (w' := w1) rfl rfl rfl (x_move (v := (Value.pointer p0)) rfl e0) ?_
  obtain ⟨a2, q2, h⟩ := h
  refine wpR_val (v := (Value.pointer (some a2))) (w' := w1) rfl rfl rfl (x_nilCheck rfl rfl q2) ?_
  refine wpR_val (v := (Value.pointer (some (a2.add 0)))) (w' := w1) rfl rfl rfl (x_fieldAddr rfl rfl FA_47_0) ?_
  obtain ⟨x3, q3, h⟩ := h
  refine wpR_val (v := (Sl.v x3)) (w' := w1) rfl rfl rfl (x_load1 rfl rfl SH_22 q3) ?_
  refine wpR_val (v := (Value.int .i64 (x3.len : Int))) (w' := w1) rfl rfl rfl (x_lenS (s := x3) rfl rfl isSliceT_22) ?_
  refine wpR_val (v := (Value.bool (decide (l1 < (x3.len : Int))))) (w' := w1) rfl rfl rfl (x_lss rfl rfl rfl) ?_
  refine wpR_nil ?_
  refine wpC_cond (b := decide (l1 < (x3.len : Int))) rfl (fun hc4 => ?_) (fun hc4 => ?_)
  · replace h := h.1 hc4
    refine wpC_skip ?_
    refine wpC_seq ?_
    refine wpC_block ?_
    refine wpC_seq ?_
    refine wpC_cut (fun ρ => ρ 0 = (Value.pointer p0) ∧ ρ 1 = (Value.string p1) ∧ ρ 5 = (Value.int .i64 l1) ∧ True) ⟨e0, e1, e5, trivial⟩ ?_
    rintro ρ ⟨e0, e1, e5, -⟩
    refine wpC_region ?_
    refine wpR_val (v := (Value.pointer p0)) (w' := w1) rfl rfl rfl (x_move (v := (Value.pointer p0)) rfl e0) ?_
    obtain ⟨a5, q5, h⟩ := h
    refine wpR_val (v := (Value.pointer (some a5))) (w' := w1) rfl rfl rfl (x_nilCheck rfl rfl q5) ?_
    refine wpR_val (v := (Value.pointer (some (a5.add 0)))) (w' := w1) rfl rfl rfl (x_fieldAddr rfl rfl FA_47_0) ?_
    obtain ⟨x6, q6, h⟩ := h
    refine wpR_val (v := (Sl.v x6)) (w' := w1) rfl rfl rfl (x_load1 rfl rfl SH_22 q6) ?_
    refine wpR_val (v := (Value.int .i64 l1)) (w' := w1) rfl rfl rfl (x_move (v := (Value.int .i64 l1)) rfl e5) ?_
    obtain ⟨q7, z7, r7, h⟩ := h
    generalize hp7 : z7.add ((l1 : Int).toNat * 1) = p7 at h
    refine wpR_val (v := (Value.pointer (some p7))) (w' := w1) rfl rfl rfl ((x_indexAddr (s := x6) rfl rfl rfl ES_22 q7 r7).trans (by rw [hp7])) ?_
    obtain ⟨x8, q8, h⟩ := h
    refine wpR_val (v := (Value.string x8)) (w' := w1) rfl rfl rfl (x_load1 rfl rfl SH_9 q8) ?_
    refine wpR_val (v := (Value.string p1)) (w' := w1) rfl rfl rfl (x_move (v := (Value.string p1)) rfl e1) ?_
    refine wpR_val (v := (Value.bool (beqS x8 p1))) (w' := w1) rfl rfl rfl (x_eqlS rfl rfl rfl) ?_
    refine wpR_nil ?_
    refine wpC_cond (b := beqS x8 p1) rfl (fun hc9 => ?_) (fun hc9 => ?_)
    · replace h := h.1 hc9
      refine wpC_seq ?_
      refine wpC_cut (fun ρ => ρ 5 = (Value.int .i64 l1) ∧ True) ⟨e5, trivial⟩ ?_
      rintro ρ ⟨e5, -⟩
      refine wpC_region ?_
      refine wpR_val (v := (Value.int .i64 l1)) (w' := w1) rfl rfl rfl (x_move (v := (Value.int .i64 l1)) rfl e5) ?_
      refine wpR_val (v := (Value.int .i64 l1)) (w' := w1) rfl rfl rfl (x_assign (v := (Value.int .i64 l1)) rfl rfl) ?_
      refine wpR_nil ?_
      refine wpC_ret ?_
      exact ⟨.inl rfl, fun a ha => ⟨_, results_rep1 rfl ha rfl, l1, rfl, h⟩⟩
    · replace h := h.2 hc9
      refine wpC_skip ?_
      refine wpC_cut (fun ρ => ρ 0 = (Value.pointer p0) ∧ ρ 1 = (Value.string p1) ∧ ρ 5 = (Value.int .i64 l1) ∧ True) ⟨e0, e1, e5, trivial⟩ ?_
      rintro ρ ⟨e0, e1, e5, -⟩
      refine wpC_region ?_
      refine wpR_val (v := (Value.int .i64 l1)) (w' := w1) rfl rfl rfl (x_move (v := (Value.int .i64 l1)) rfl e5) ?_
      refine wpR_val (v := (Value.int .i64 (IntKind.i64.wrap (l1 + 1)))) (w' := w1) rfl rfl rfl (x_add rfl rfl rfl) ?_
      refine wpR_val (v := (Value.int .i64 (IntKind.i64.wrap (l1 + 1)))) (w' := w1) rfl rfl rfl (x_assign (v := (Value.int .i64 (IntKind.i64.wrap (l1 + 1)))) rfl rfl) ?_
      refine wpR_nil ?_
      exact ⟨IntKind.i64.wrap (l1 + 1), ⟨rfl, e0, e1, trivial⟩, h⟩
  · replace h := h.2 hc4
    refine wpC_exit ?_
    refine wpC_seq ?_
    refine wpC_cut (fun ρ => True) trivial ?_
    rintro ρ -
    refine wpC_region ?_
    refine wpR_val (v := (Value.int .i64 (-1))) (w' := w1) rfl rfl rfl (x_assign (v := (Value.int .i64 (-1))) rfl rfl) ?_
    refine wpR_nil ?_
    refine wpC_ret ?_
    exact ⟨.inl rfl, fun a ha => ⟨_, results_rep1 rfl ha rfl, (-1), rfl, h⟩⟩

/-- slices.Clone[[]string,string] -/
def F25 (p0 : Sl) (w0 : World) (K : Sl → World → Prop) : Prop :=
  cnd (p0.a.isNone)
    (
    K Sl.nil w0
    )
    (
    nw 9 #[] w0 fun b2 w1 =>
    rn Try.prog (Builtin.append_ #[22, 22] 22 #[Sl.v (⟨some ⟨b2, 0, none⟩, 0, 0⟩ : Sl), Sl.v p0]) Sl.v w1 fun r3 w2 =>
    K r3 w2
    )
set_option maxRecDepth 100000 in
theorem D25 (p0 : Sl) (w0 : World) (K : Sl → World → Prop) (h : F25 p0 w0 K) : callC Try.prog 25 #[(Sl.v p0)] (fun (r : Sl) => (Sl.v r)) w0 K := by
  unfold F25 at h
  refine calls_of_wpC Try.func25 rfl 8 rfl (by simp) ?_
  intro ρ hρ
  have e0 : ρ 0 = (Sl.v p0) := hρ 0
  clear hρ
  refine wpC_seq ?_
  refine wpC_region ?_
  refine wpR_val (v := (Sl.v Sl.nil)) (w' := w0) rfl rfl rfl (x_assign (v := (Sl.v Sl.nil)) rfl rfl) ?_
  refine wpR_nil ?_
  refine wpC_seq ?_
  refine wpC_seq ?_
  refine wpC_cut (fun ρ => ρ 0 = (Sl.v p0) ∧ True) ⟨e0, trivial⟩ ?_
  rintro ρ ⟨e0, -⟩
  refine wpC_region ?_
  refine wpR_val (v := (Sl.v p0)) (w' := w0) rfl rfl rfl (x_move (v := (Sl.v p0)) rfl e0) ?_
  refine wpR_val (v := (Value.bool p0.a.isNone)) (w' := w0) rfl rfl rfl (x_eqlNilS (s := p0) rfl rfl rfl isSliceT_22) ?_
  refine wpR_nil ?_
  refine wpC_cond (b := p0.a.isNone) rfl (fun hc1 => ?_) (fun hc1 => ?_)
  · replace h := h.1 hc1
    refine wpC_seq ?_
    refine wpC_cut (fun ρ => True) trivial ?_
    rintro ρ -
    refine wpC_region ?_
    refine wpR_val (v := (Sl.v Sl.nil)) (w' := w0) rfl rfl rfl (x_assign (v := (Sl.v Sl.nil)) rfl rfl) ?_
    refine wpR_nil ?_
    refine wpC_ret ?_
    exact ⟨.inl rfl, fun a ha => ⟨_, results_rep1 rfl ha rfl, Sl.nil, rfl, h⟩⟩
  · replace h := h.2 hc1
    refine wpC_skip ?_
    refine wpC_seq ?_
    refine wpC_cut (fun ρ => ρ 0 = (Sl.v p0) ∧ True) ⟨e0, trivial⟩ ?_
    rintro ρ ⟨e0, -⟩
    refine wpC_region ?_
    obtain ⟨b2, hb2⟩ : ∃ u, u = w0.heap.size := ⟨_, rfl⟩
    obtain ⟨w1, hw2⟩ : ∃ u, u = w0.alloc (.cells #[] 9) := ⟨_, rfl⟩
    replace h := h b2 w1 hb2 hw2
    refine wpR_val (v := (Sl.v (⟨some ⟨b2, 0, none⟩, 0, 0⟩ : Sl))) (w' := w1) rfl rfl rfl ((x_buildSlice (qs := []) rfl (by rfl) (BS_22_0_ )).trans (by rw [← hb2, ← hw2])) ?_
    refine wpR_val (v := (Sl.v p0)) (w' := w1) rfl rfl rfl (x_move (v := (Sl.v p0)) rfl e0) ?_
    obtain ⟨r3, w2, q3, h⟩ := h
    refine wpR_val (v := (Sl.v r3)) (w' := w2) rfl rfl rfl (x_append (s := (⟨some ⟨b2, 0, none⟩, 0, 0⟩ : Sl)) (u := p0) rfl rfl rfl rfl q3) ?_
    refine wpR_val (v := (Sl.v r3)) (w' := w2) rfl rfl rfl (x_assign (v := (Sl.v r3)) rfl rfl) ?_
    refine wpR_nil ?_
    refine wpC_ret ?_
    exact ⟨.inl rfl, fun a ha => ⟨_, results_rep1 rfl ha rfl, r3, rfl, h⟩⟩

/-- maps.Clone[map[string]int,string,int] -/
def F26 (p0 : Option Nat) (w0 : World) (K : (Option Nat) → World → Prop) : Prop :=
  cnd (p0.isNone)
    (
    K none w0
    )
    (
    rn Try.prog (Instr.makeInterface 48 (Value.map p0)) (fun v : Value => v) w0 fun r2 w1 =>
    cx Try.prog 27 [r2] (fun (r : Value) => r) w1 fun r3 w2 =>
    rn Try.prog (Instr.typeAssert r3 20 48 false) (fun (r : (Option Nat)) => (Value.map r)) w2 fun r4 w3 =>
    K r4 w3
    )
set_option maxRecDepth 100000 in
theorem D26 (p0 : Option Nat) (w0 : World) (K : (Option Nat) → World → Prop) (h : F26 p0 w0 K) : callC Try.prog 26 #[(Value.map p0)] (fun (r : (Option Nat)) => (Value.map r)) w0 K := by
  unfold F26 at h
  refine calls_of_wpC Try.func26 rfl 9 rfl (by simp) ?_
  intro ρ hρ
  have e0 : ρ 0 = (Value.map p0) := hρ 0
  clear hρ
  refine wpC_seq ?_
  refine wpC_region ?_
  refine wpR_val (v := (Value.map none)) (w' := w0) rfl rfl rfl (x_assign (v := (Value.map none)) rfl rfl) ?_
  refine wpR_nil ?_
  refine wpC_seq ?_
  refine wpC_seq ?_
  refine wpC_cut (fun ρ => ρ 0 = (Value.map p0) ∧ True) ⟨e0, trivial⟩ ?_
  rintro ρ ⟨e0, -⟩
  refine wpC_region ?_
  refine wpR_val (v := (Value.map p0)) (w' := w0) rfl rfl rfl (x_move (v := (Value.map p0)) rfl e0) ?_
  refine wpR_val (v := (Value.bool p0.isNone)) (w' := w0) rfl rfl rfl (x_eqlNilM rfl rfl rfl isMapT_48) ?_
  refine wpR_nil ?_
  refine wpC_cond (b := p0.isNone) rfl (fun hc1 => ?_) (fun hc1 => ?_)
  · replace h := h.1 hc1
    refine wpC_seq ?_
    refine wpC_cut (fun ρ => True) trivial ?_
    rintro ρ -
    refine wpC_region ?_
    refine wpR_val (v := (Value.map none)) (w' := w0) rfl rfl rfl (x_assign (v := (Value.map none)) rfl rfl) ?_
    refine wpR_nil ?_
    refine wpC_ret ?_
    exact ⟨.inl rfl, fun a ha => ⟨_, results_rep1 rfl ha rfl, none, rfl, h⟩⟩
  · replace h := h.2 hc1
    refine wpC_skip ?_
    refine wpC_seq ?_
    refine wpC_cut (fun ρ => ρ 0 = (Value.map p0) ∧ True) ⟨e0, trivial⟩ ?_
    rintro ρ ⟨e0, -⟩
    refine wpC_region ?_
    refine wpR_val (v := (Value.map p0)) (w' := w0) rfl rfl rfl (x_move (v := (Value.map p0)) rfl e0) ?_
    obtain ⟨r2, w1, q2, h⟩ := h
    refine wpR_val (v := r2) (w' := w1) rfl rfl rfl (x_makeInterface rfl rfl q2) ?_
    obtain ⟨r3, w2, q3, h⟩ := h
    refine wpR_val (v := r3) (w' := w2) rfl rfl rfl (x_callx (vs := [r2]) rfl rfl (mapl_cons rfl mapl_nil) q3) ?_
    obtain ⟨r4, w3, q4, h⟩ := h
    refine wpR_val (v := (Value.map r4)) (w' := w3) rfl rfl rfl (x_typeAssert rfl rfl q4) ?_
    refine wpR_val (v := (Value.map r4)) (w' := w3) rfl rfl rfl (x_assign (v := (Value.map r4)) rfl rfl) ?_
    refine wpR_nil ?_
    refine wpC_ret ?_
    exact ⟨.inl rfl, fun a ha => ⟨_, results_rep1 rfl ha rfl, r4, rfl, h⟩⟩


end Go.Proofs.Ytiohncdkpkonmaa
