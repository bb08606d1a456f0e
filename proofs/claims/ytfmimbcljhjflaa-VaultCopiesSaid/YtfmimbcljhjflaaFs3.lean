import Derived.Test.YtfmimbcljhjflaaRows
import Derived.Test.YtfmimbcljhjflaaFs1
import Derived.Test.YtfmimbcljhjflaaDecOps
namespace Go.Proofs.Ytfmimbcljhjflaa
open Go.Dec
set_option maxHeartbeats 400000

/-- lingualaw05.VaultCopies -/
def F6 (p0 : Sl) (p1 : Sl) (w0 : World) (K : Bool → World → Prop) : Prop :=
  callC Try.prog 7 #[] (fun (r : Bool) => (Value.bool r)) w0 fun r1 w1 =>
  callC Try.prog 8 #[(Sl.v p0), (Value.int .i64 40)] (fun (r : Bool) => (Value.bool r)) w1 fun r2 w2 =>
  jn (fun J3 => cnd (!r2)
    (
    J3 true w2
    )
    (
    callC Try.prog 8 #[(Sl.v p1), (Value.int .i64 20)] (fun (r : Bool) => (Value.bool r)) w2 fun r5 w3 =>
    J3 (!r5) w3
    ))
  fun c6 w4 =>
  cnd (c6)
    (
    K r1 w4
    )
    (
    callC Try.prog 9 #[] (fun (r : (Option Addr)) => (Value.pointer r)) w4 fun r8 w5 =>
    cnd (r8.isNone)
      (
      K false w5
      )
      (
      lp (fun (next10 : Int → World → Prop) l10 w6 =>
        cnd (decide (l10 < (p0.len : Int)))
          (
          ix p0 l10 4 fun p12 =>
          ld (Value.int .i64) (p12.add 0) w6 fun x13 =>
          ld (Value.int .i64) (p12.add 1) w6 fun x14 =>
          ld (Value.int .i64) (p12.add 2) w6 fun x15 =>
          ld Value.string (p12.add 3) w6 fun x16 =>
          callC Try.prog 11 #[(Value.pointer r8), (Value.agg #[(Value.int .i64 x13), (Value.int .i64 x14), (Value.int .i64 x15), (Value.string x16)])] (fun (r : Int × ByteArray × Int) => (Value.agg #[(Value.int .i64 r.1), (Value.string r.2.1), (Value.int .i64 r.2.2)])) w6 fun _r17 w7 =>
          next10 (IntKind.i64.wrap (l10 + 1)) w7
          )
          (
          callC Try.prog 16 #[(Value.pointer r8)] (fun (r : (Option Addr)) => (Value.pointer r)) w6 fun r18 w8 =>
          cnd (r18.isNone)
            (
            K false w8
            )
            (
            callC Try.prog 13 #[(Value.pointer r8)] (fun (r : Int) => (Value.int .i64 r)) w8 fun r20 w9 =>
            callC Try.prog 14 #[(Value.pointer r8)] (fun (r : Int) => (Value.int .i64 r)) w9 fun r21 w10 =>
            lp (fun (next22 : (Sl × Int) → World → Prop) l22 w11 =>
              cnd (decide (l22.2 < (p1.len : Int)))
                (
                ix p1 l22.2 4 fun p24 =>
                ld (Value.int .i64) (p24.add 0) w11 fun x25 =>
                ld (Value.int .i64) (p24.add 1) w11 fun x26 =>
                ld (Value.int .i64) (p24.add 2) w11 fun x27 =>
                ld Value.string (p24.add 3) w11 fun x28 =>
                callC Try.prog 11 #[(Value.pointer r18), (Value.agg #[(Value.int .i64 x25), (Value.int .i64 x26), (Value.int .i64 x27), (Value.string x28)])] (fun (r : Int × ByteArray × Int) => (Value.agg #[(Value.int .i64 r.1), (Value.string r.2.1), (Value.int .i64 r.2.2)])) w11 fun r29 w12 =>
                nw 31 #[(Value.int .i64 r29.1), (Value.string r29.2.1), (Value.int .i64 r29.2.2)] w12 fun b30 w13 =>
                rn Try.prog (Builtin.append_ #[46, 46] 46 #[Sl.v l22.1, Sl.v (⟨some ⟨b30, 0, none⟩, 1, 1⟩ : Sl)]) Sl.v w13 fun r31 w14 =>
                next22 (r31, IntKind.i64.wrap (l22.2 + 1)) w14
                )
                (
                callC Try.prog 13 #[(Value.pointer r8)] (fun (r : Int) => (Value.int .i64 r)) w11 fun r32 w15 =>
                jn (fun J33 => cnd (!decide (r32 = r20))
                  (
                  J33 true w15
                  )
                  (
                  callC Try.prog 14 #[(Value.pointer r8)] (fun (r : Int) => (Value.int .i64 r)) w15 fun r35 w16 =>
                  J33 (!decide (r35 = r21)) w16
                  ))
                fun c36 w17 =>
                cnd (c36)
                  (
                  K false w17
                  )
                  (
                  lp (fun (next38 : Int → World → Prop) l38 w18 =>
                    cnd (decide (l38 < (p1.len : Int)))
                      (
                      jn (fun (J41 : Bool → World → Prop) => tk w18 fun w19 =>
                        ix p1 l38 4 fun p42 =>
                        ld (Value.int .i64) (p42.add 0) w19 fun x43 =>
                        ld (Value.int .i64) (p42.add 1) w19 fun x44 =>
                        ld (Value.int .i64) (p42.add 2) w19 fun x45 =>
                        ld Value.string (p42.add 3) w19 fun x46 =>
                        ix l22.1 l38 3 fun p47 =>
                        ld (Value.int .i64) (p47.add 0) w19 fun x48 =>
                        ld Value.string (p47.add 1) w19 fun x49 =>
                        ld (Value.int .i64) (p47.add 2) w19 fun x50 =>
                        callC Try.prog 11 #[(Value.pointer r8), (Value.agg #[(Value.int .i64 x43), (Value.int .i64 x44), (Value.int .i64 x45), (Value.string x46)])] (fun (r : Int × ByteArray × Int) => (Value.agg #[(Value.int .i64 r.1), (Value.string r.2.1), (Value.int .i64 r.2.2)])) w19 fun r51 w20 =>
                        (w20.cell? (p47.add 0) = some (Value.int .i64 x48) ∧ w20.cell? (p47.add 1) = some (Value.string x49) ∧ w20.cell? (p47.add 2) = some (Value.int .i64 x50)) ∧
                        J41 (!(decide (r51.1 = x48) && (beqS r51.2.1 x49 && (decide (r51.2.2 = x50) && true)))) w20
                      )
                      fun l52 w21 =>
                      cnd (l52)
                        (
                        K false w21
                        )
                        (
                        next38 (IntKind.i64.wrap (l38 + 1)) w21
                        )
                      )
                      (
                      jn (fun J54 => cnd (r1)
                        (
                        callC Try.prog 13 #[(Value.pointer r8)] (fun (r : Int) => (Value.int .i64 r)) w18 fun r56 w22 =>
                        callC Try.prog 13 #[(Value.pointer r18)] (fun (r : Int) => (Value.int .i64 r)) w22 fun r57 w23 =>
                        J54 (decide (r56 = r57)) w23
                        )
                        (
                        J54 false w18
                        ))
                      fun c58 w24 =>
                      jn (fun J59 => cnd (c58)
                        (
                        callC Try.prog 14 #[(Value.pointer r8)] (fun (r : Int) => (Value.int .i64 r)) w24 fun r61 w25 =>
                        callC Try.prog 14 #[(Value.pointer r18)] (fun (r : Int) => (Value.int .i64 r)) w25 fun r62 w26 =>
                        J59 (decide (r61 = r62)) w26
                        )
                        (
                        J59 false w24
                        ))
                      fun c63 w27 =>
                      K c63 w27
                      )
                  ) 0 w17
                  )
                )
            ) (Sl.nil, 0) w10
            )
          )
      ) 0 w5
      )
    )
set_option maxRecDepth 100000 in
theorem D6 (p0 : Sl) (p1 : Sl) (w0 : World) (K : Bool → World → Prop) (h : F6 p0 p1 w0 K) : callC Try.prog 6 #[(Sl.v p0), (Sl.v p1)] (fun (r : Bool) => (Value.bool r)) w0 K := by
  unfold F6 at h
  refine calls_of_wpC Try.func6 rfl 104 rfl (by simp) ?_
  intro ρ hρ
  have e0 : ρ 0 = (Sl.v p0) := hρ 0
  have e1 : ρ 1 = (Sl.v p1) := hρ 1
  clear hρ
  refine wpC_seq ?_
  refine wpC_region ?_
  refine wpR_val (v := (Value.bool false)) (w' := w0) rfl rfl rfl (x_assign (v := (Value.bool false)) rfl rfl) ?_
  refine wpR_nil ?_
  refine wpC_seq ?_
  refine wpC_cut (fun ρ => ρ 0 = (Sl.v p0) ∧ ρ 1 = (Sl.v p1) ∧ True) ⟨e0, e1, trivial⟩ ?_
  rintro ρ ⟨e0, e1, -⟩
  refine wpC_region ?_
  refine wpR_enter rfl rfl rfl (x_call (vs := []) rfl rfl (by rfl) Try.func7 NN_7 NB_7) (Calls.mono h ?_)
  rintro _ w1 ⟨r1, rfl, h⟩
  refine ⟨_, rfl, ?_⟩
  refine wpR_val (v := (Value.bool r1)) (w' := w1) rfl rfl rfl (x_assign (v := (Value.bool r1)) rfl rfl) ?_
  refine wpR_nil ?_
  refine wpC_seq ?_
  refine wpC_seq ?_
  refine wpC_cut (fun ρ => ρ 0 = (Sl.v p0) ∧ ρ 1 = (Sl.v p1) ∧ ρ 5 = (Value.bool r1) ∧ True) ⟨e0, e1, rfl, trivial⟩ ?_
  rintro ρ ⟨e0, e1, e5, -⟩
  refine wpC_region ?_
  refine wpR_val (v := (Sl.v p0)) (w' := w1) rfl rfl rfl (x_move (v := (Sl.v p0)) rfl e0) ?_
  refine wpR_enter rfl rfl rfl (x_call (vs := [(Sl.v p0), (Value.int .i64 40)]) rfl rfl (by rfl) Try.func8 NN_8 NB_8) (Calls.mono h ?_)
  rintro _ w2 ⟨r2, rfl, h⟩
  refine ⟨_, rfl, ?_⟩
  refine wpR_val (v := (Value.bool (!r2))) (w' := w2) rfl rfl rfl (x_not rfl rfl) ?_
  refine wpR_val (v := (Value.bool (!r2))) (w' := w2) rfl rfl rfl (x_move (v := (Value.bool (!r2))) rfl rfl) ?_
  obtain ⟨J3, h, hk⟩ := h
  refine wpR_joinJ 4 (fun x ρ => ρ 22 = Value.bool x ∧ ρ 0 = (Sl.v p0) ∧ ρ 1 = (Sl.v p1) ∧ ρ 5 = (Value.bool r1) ∧ True) (J3) ?_ ?_
  · clear hk
    rcases Bool.eq_false_or_eq_true (!r2) with hc4 | hc4
    · replace h := h.1 hc4
      refine wpR_pass (wantN rfl rfl rfl hc4) rfl rfl ?_
      refine wpR_pass (wantN rfl rfl rfl hc4) rfl rfl ?_
      refine wpR_pass (wantN rfl rfl rfl hc4) rfl rfl ?_
      refine wpR_val (v := (Value.bool true)) (w' := w2) rfl rfl rfl (x_pickT (v := (Value.bool true)) rfl rfl hc4 rfl) ?_
      refine wpR_nil ?_
      exact ⟨true, ⟨rfl, e0, e1, e5, trivial⟩, h⟩
    · replace h := h.2 hc4
      refine wpR_val (v := (Sl.v p1)) (w' := w2) (wantG rfl rfl rfl hc4) rfl rfl (x_move (v := (Sl.v p1)) rfl e1) ?_
      refine wpR_enter (wantG rfl rfl rfl hc4) rfl rfl (x_call (vs := [(Sl.v p1), (Value.int .i64 20)]) rfl rfl (by rfl) Try.func8 NN_8 NB_8) (Calls.mono h ?_)
      rintro _ w3 ⟨r5, rfl, h⟩
      refine ⟨_, rfl, ?_⟩
      refine wpR_val (v := (Value.bool (!r5))) (w' := w3) (wantG rfl rfl rfl hc4) rfl rfl (x_not rfl rfl) ?_
      refine wpR_val (v := (Value.bool (!r5))) (w' := w3) rfl rfl rfl (x_pickF (v := (Value.bool (!r5))) rfl rfl hc4 rfl) ?_
      refine wpR_nil ?_
      exact ⟨!r5, ⟨rfl, e0, e1, e5, trivial⟩, h⟩
  clear h
  rintro c6 ρ w4 ⟨e22, e0, e1, e5, -⟩ h
  replace h := hk c6 w4 h
  clear hk
  refine wpR_nil ?_
  refine wpC_cond (b := c6) e22 (fun hc7 => ?_) (fun hc7 => ?_)
  · replace h := h.1 hc7
    refine wpC_seq ?_
    refine wpC_region ?_
    refine wpR_val (v := (Value.bool r1)) (w' := w4) rfl rfl rfl (x_move (v := (Value.bool r1)) rfl e5) ?_
    refine wpR_val (v := (Value.bool r1)) (w' := w4) rfl rfl rfl (x_assign (v := (Value.bool r1)) rfl rfl) ?_
    refine wpR_nil ?_
    refine wpC_ret ?_
    exact ⟨.inl rfl, fun a ha => ⟨_, results_rep1 rfl ha rfl, r1, rfl, h⟩⟩
  · replace h := h.2 hc7
    refine wpC_skip ?_
    refine wpC_seq ?_
    refine wpC_region ?_
    refine wpR_enter rfl rfl rfl (x_call (vs := []) rfl rfl (by rfl) Try.func9 NN_9 NB_9) (Calls.mono h ?_)
    rintro _ w5 ⟨r8, rfl, h⟩
    refine ⟨_, rfl, ?_⟩
    refine wpR_val (v := (Value.pointer r8)) (w' := w5) rfl rfl rfl (x_assign (v := (Value.pointer r8)) rfl rfl) ?_
    refine wpR_nil ?_
    refine wpC_seq ?_
    refine wpC_seq ?_
    refine wpC_cut (fun ρ => ρ 0 = (Sl.v p0) ∧ ρ 1 = (Sl.v p1) ∧ ρ 5 = (Value.bool r1) ∧ ρ 6 = (Value.pointer r8) ∧ True) ⟨e0, e1, e5, rfl, trivial⟩ ?_
    rintro ρ ⟨e0, e1, e5, e6, -⟩
    refine wpC_region ?_
    refine wpR_val (v := (Value.pointer r8)) (w' := w5) rfl rfl rfl (x_move (v := (Value.pointer r8)) rfl e6) ?_
    refine wpR_val (v := (Value.bool r8.isNone)) (w' := w5) rfl rfl rfl (x_eqlNil rfl rfl rfl isPtrT_25) ?_
    refine wpR_nil ?_
    refine wpC_cond (b := r8.isNone) rfl (fun hc9 => ?_) (fun hc9 => ?_)
    · replace h := h.1 hc9
      refine wpC_seq ?_
      refine wpC_cut (fun ρ => True) trivial ?_
      rintro ρ -
      refine wpC_region ?_
      refine wpR_val (v := (Value.bool false)) (w' := w5) rfl rfl rfl (x_assign (v := (Value.bool false)) rfl rfl) ?_
      refine wpR_nil ?_
      refine wpC_ret ?_
      exact ⟨.inl rfl, fun a ha => ⟨_, results_rep1 rfl ha rfl, false, rfl, h⟩⟩
    · replace h := h.2 hc9
      refine wpC_skip ?_
      refine wpC_seq ?_
      refine wpC_seq ?_
      refine wpC_cut (fun ρ => ρ 0 = (Sl.v p0) ∧ ρ 1 = (Sl.v p1) ∧ ρ 5 = (Value.bool r1) ∧ ρ 6 = (Value.pointer r8) ∧ True) ⟨e0, e1, e5, e6, trivial⟩ ?_
      rintro ρ ⟨e0, e1, e5, e6, -⟩
      refine wpC_region ?_
      refine wpR_val (v := (Value.int .i64 0)) (w' := w5) rfl rfl rfl (x_assign (v := (Value.int .i64 0)) rfl rfl) ?_
      refine wpR_nil ?_
      refine wpC_block ?_
      obtain ⟨I10, μ10, hI10, hr10⟩ := h
      refine wpC_loop (fun (x : Int) ρ => ρ 7 = (Value.int .i64 x) ∧ ρ 0 = (Sl.v p0) ∧ ρ 1 = (Sl.v p1) ∧ ρ 5 = (Value.bool r1) ∧ ρ 6 = (Value.pointer r8) ∧ True) I10 μ10 0 ⟨rfl, e0, e1, e5, e6, trivial⟩ hI10 ?_
      rintro l10 ρ w6 ⟨e7, e0, e1, e5, e6, -⟩ h
      replace h := hr10 l10 w6 h
      clear hr10 hI10
      refine wpC_seq ?_
      refine wpC_seq ?_
      refine wpC_region ?_
      refine wpR_val (v := (Value.int .i64 l10)) (w' := w6) rfl rfl rfl (x_move (v := (Value.int .i64 l10)) rfl e7) ?_
      refine wpR_val (v := (Sl.v p0)) (w' := w6) rfl rfl rfl (x_move (v := (Sl.v p0)) rfl e0) ?_
      refine wpR_val (v := (Value.int .i64 (p0.len : Int))) (w' := w6) rfl rfl rfl (x_lenS (s := p0) rfl rfl isSliceT_22) ?_
      refine wpR_val (v := (Value.bool (decide (l10 < (p0.len : Int))))) (w' := w6) rfl rfl rfl (x_lss rfl rfl rfl) ?_
      refine wpR_nil ?_
      refine wpC_cond (b := decide (l10 < (p0.len : Int))) rfl (fun hc11 => ?_) (fun hc11 => ?_)
      · replace h := h.1 hc11
        refine wpC_skip ?_
        refine wpC_seq ?_
        refine wpC_block ?_
        refine wpC_cut (fun ρ => ρ 0 = (Sl.v p0) ∧ ρ 1 = (Sl.v p1) ∧ ρ 5 = (Value.bool r1) ∧ ρ 6 = (Value.pointer r8) ∧ ρ 7 = (Value.int .i64 l10) ∧ True) ⟨e0, e1, e5, e6, e7, trivial⟩ ?_
        rintro ρ ⟨e0, e1, e5, e6, e7, -⟩
        refine wpC_region ?_
        refine wpR_val (v := (Value.pointer r8)) (w' := w6) rfl rfl rfl (x_move (v := (Value.pointer r8)) rfl e6) ?_
        refine wpR_val (v := (Sl.v p0)) (w' := w6) rfl rfl rfl (x_move (v := (Sl.v p0)) rfl e0) ?_
        refine wpR_val (v := (Value.int .i64 l10)) (w' := w6) rfl rfl rfl (x_move (v := (Value.int .i64 l10)) rfl e7) ?_
        obtain ⟨q12, z12, r12, h⟩ := h
        generalize hp12 : z12.add ((l10).toNat * 4) = p12 at h
        refine wpR_val (v := (Value.pointer (some p12))) (w' := w6) rfl rfl rfl ((x_indexAddr (s := p0) rfl rfl rfl ES_22 q12 r12).trans (by rw [hp12])) ?_
        obtain ⟨x13, q13, h⟩ := h
        obtain ⟨x14, q14, h⟩ := h
        obtain ⟨x15, q15, h⟩ := h
        obtain ⟨x16, q16, h⟩ := h
        refine wpR_val (v := (Value.agg #[(Value.int .i64 x13), (Value.int .i64 x14), (Value.int .i64 x15), (Value.string x16)])) (w' := w6) rfl rfl rfl (x_loadN [(Value.int .i64 x13), (Value.int .i64 x14), (Value.int .i64 x15), (Value.string x16)] rfl rfl SH_34 (CellsAt.out (CellsAt.cons q13 (CellsAt.cons q14 (CellsAt.cons q15 (CellsAt.cons q16 CellsAt.nil)))))) ?_
        refine wpR_enter rfl rfl rfl (x_call (vs := [(Value.pointer r8), (Value.agg #[(Value.int .i64 x13), (Value.int .i64 x14), (Value.int .i64 x15), (Value.string x16)])]) rfl rfl (by rfl) Try.func11 NN_11 NB_11) (Calls.mono h ?_)
        rintro _ w7 ⟨r17, rfl, h⟩
        refine ⟨_, rfl, ?_⟩
        refine wpR_nil ?_
        refine wpC_cut (fun ρ => ρ 0 = (Sl.v p0) ∧ ρ 1 = (Sl.v p1) ∧ ρ 5 = (Value.bool r1) ∧ ρ 6 = (Value.pointer r8) ∧ ρ 7 = (Value.int .i64 l10) ∧ True) ⟨e0, e1, e5, e6, e7, trivial⟩ ?_
        rintro ρ ⟨e0, e1, e5, e6, e7, -⟩
        refine wpC_region ?_
        refine wpR_val (v := (Value.int .i64 l10)) (w' := w7) rfl rfl rfl (x_move (v := (Value.int .i64 l10)) rfl e7) ?_
        refine wpR_val (v := (Value.int .i64 (IntKind.i64.wrap (l10 + 1)))) (w' := w7) rfl rfl rfl (x_add rfl rfl rfl) ?_
        refine wpR_val (v := (Value.int .i64 (IntKind.i64.wrap (l10 + 1)))) (w' := w7) rfl rfl rfl (x_assign (v := (Value.int .i64 (IntKind.i64.wrap (l10 + 1)))) rfl rfl) ?_
        refine wpR_nil ?_
        exact ⟨IntKind.i64.wrap (l10 + 1), ⟨rfl, e0, e1, e5, e6, trivial⟩, h⟩
      · replace h := h.2 hc11
        refine wpC_exit ?_
        refine wpC_seq ?_
        refine wpC_cut (fun ρ => ρ 1 = (Sl.v p1) ∧ ρ 5 = (Value.bool r1) ∧ ρ 6 = (Value.pointer r8) ∧ True) ⟨e1, e5, e6, trivial⟩ ?_
        rintro ρ ⟨e1, e5, e6, -⟩
        refine wpC_region ?_
        refine wpR_val (v := (Value.pointer r8)) (w' := w6) rfl rfl rfl (x_move (v := (Value.pointer r8)) rfl e6) ?_
        refine wpR_enter rfl rfl rfl (x_call (vs := [(Value.pointer r8)]) rfl rfl (by rfl) Try.func16 NN_16 NB_16) (Calls.mono h ?_)
        rintro _ w8 ⟨r18, rfl, h⟩
        refine ⟨_, rfl, ?_⟩
        refine wpR_val (v := (Value.pointer r18)) (w' := w8) rfl rfl rfl (x_assign (v := (Value.pointer r18)) rfl rfl) ?_
        refine wpR_nil ?_
        refine wpC_seq ?_
        refine wpC_seq ?_
        refine wpC_cut (fun ρ => ρ 1 = (Sl.v p1) ∧ ρ 5 = (Value.bool r1) ∧ ρ 6 = (Value.pointer r8) ∧ ρ 8 = (Value.pointer r18) ∧ True) ⟨e1, e5, e6, rfl, trivial⟩ ?_
        rintro ρ ⟨e1, e5, e6, e8, -⟩
        refine wpC_region ?_
        refine wpR_val (v := (Value.pointer r18)) (w' := w8) rfl rfl rfl (x_move (v := (Value.pointer r18)) rfl e8) ?_
        refine wpR_val (v := (Value.bool r18.isNone)) (w' := w8) rfl rfl rfl (x_eqlNil rfl rfl rfl isPtrT_25) ?_
        refine wpR_nil ?_
        refine wpC_cond (b := r18.isNone) rfl (fun hc19 => ?_) (fun hc19 => ?_)
        · replace h := h.1 hc19
          refine wpC_seq ?_
          refine wpC_cut (fun ρ => True) trivial ?_
          rintro ρ -
          refine wpC_region ?_
          refine wpR_val (v := (Value.bool false)) (w' := w8) rfl rfl rfl (x_assign (v := (Value.bool false)) rfl rfl) ?_
          refine wpR_nil ?_
          refine wpC_ret ?_
          exact ⟨.inl rfl, fun a ha => ⟨_, results_rep1 rfl ha rfl, false, rfl, h⟩⟩
        · replace h := h.2 hc19
          refine wpC_skip ?_
          refine wpC_seq ?_
          refine wpC_cut (fun ρ => ρ 1 = (Sl.v p1) ∧ ρ 5 = (Value.bool r1) ∧ ρ 6 = (Value.pointer r8) ∧ ρ 8 = (Value.pointer r18) ∧ True) ⟨e1, e5, e6, e8, trivial⟩ ?_
          rintro ρ ⟨e1, e5, e6, e8, -⟩
          refine wpC_region ?_
          refine wpR_val (v := (Value.pointer r8)) (w' := w8) rfl rfl rfl (x_move (v := (Value.pointer r8)) rfl e6) ?_
          refine wpR_enter rfl rfl rfl (x_call (vs := [(Value.pointer r8)]) rfl rfl (by rfl) Try.func13 NN_13 NB_13) (Calls.mono h ?_)
          rintro _ w9 ⟨r20, rfl, h⟩
          refine ⟨_, rfl, ?_⟩
          refine wpR_val (v := (Value.int .i64 r20)) (w' := w9) rfl rfl rfl (x_assign (v := (Value.int .i64 r20)) rfl rfl) ?_
          refine wpR_nil ?_
          refine wpC_seq ?_
          refine wpC_cut (fun ρ => ρ 1 = (Sl.v p1) ∧ ρ 5 = (Value.bool r1) ∧ ρ 6 = (Value.pointer r8) ∧ ρ 8 = (Value.pointer r18) ∧ ρ 9 = (Value.int .i64 r20) ∧ True) ⟨e1, e5, e6, e8, rfl, trivial⟩ ?_
          rintro ρ ⟨e1, e5, e6, e8, e9, -⟩
          refine wpC_region ?_
          refine wpR_val (v := (Value.pointer r8)) (w' := w9) rfl rfl rfl (x_move (v := (Value.pointer r8)) rfl e6) ?_
          refine wpR_enter rfl rfl rfl (x_call (vs := [(Value.pointer r8)]) rfl rfl (by rfl) Try.func14 NN_14 NB_14) (Calls.mono h ?_)
          rintro _ w10 ⟨r21, rfl, h⟩
          refine ⟨_, rfl, ?_⟩
          refine wpR_val (v := (Value.int .i64 r21)) (w' := w10) rfl rfl rfl (x_assign (v := (Value.int .i64 r21)) rfl rfl) ?_
          refine wpR_nil ?_
          refine wpC_seq ?_
          refine wpC_cut (fun ρ => ρ 1 = (Sl.v p1) ∧ ρ 5 = (Value.bool r1) ∧ ρ 6 = (Value.pointer r8) ∧ ρ 8 = (Value.pointer r18) ∧ ρ 9 = (Value.int .i64 r20) ∧ ρ 10 = (Value.int .i64 r21) ∧ True) ⟨e1, e5, e6, e8, e9, rfl, trivial⟩ ?_
          rintro ρ ⟨e1, e5, e6, e8, e9, e10, -⟩
          refine wpC_region ?_
          refine wpR_val (v := (Sl.v Sl.nil)) (w' := w10) rfl rfl rfl (x_assign (v := (Sl.v Sl.nil)) rfl rfl) ?_
          refine wpR_nil ?_
          refine wpC_seq ?_
          refine wpC_seq ?_
          refine wpC_cut (fun ρ => ρ 1 = (Sl.v p1) ∧ ρ 5 = (Value.bool r1) ∧ ρ 6 = (Value.pointer r8) ∧ ρ 8 = (Value.pointer r18) ∧ ρ 9 = (Value.int .i64 r20) ∧ ρ 10 = (Value.int .i64 r21) ∧ ρ 11 = (Sl.v Sl.nil) ∧ True) ⟨e1, e5, e6, e8, e9, e10, rfl, trivial⟩ ?_
          rintro ρ ⟨e1, e5, e6, e8, e9, e10, e11, -⟩
          refine wpC_region ?_
          refine wpR_val (v := (Value.int .i64 0)) (w' := w10) rfl rfl rfl (x_assign (v := (Value.int .i64 0)) rfl rfl) ?_
          refine wpR_nil ?_
          refine wpC_block ?_
          obtain ⟨I22, μ22, hI22, hr22⟩ := h
          refine wpC_loop (fun (x : Sl × Int) ρ => ρ 11 = (Sl.v x.1) ∧ ρ 12 = (Value.int .i64 x.2) ∧ ρ 1 = (Sl.v p1) ∧ ρ 5 = (Value.bool r1) ∧ ρ 6 = (Value.pointer r8) ∧ ρ 8 = (Value.pointer r18) ∧ ρ 9 = (Value.int .i64 r20) ∧ ρ 10 = (Value.int .i64 r21) ∧ True) I22 μ22 (Sl.nil, 0) ⟨e11, rfl, e1, e5, e6, e8, e9, e10, trivial⟩ hI22 ?_
          rintro l22 ρ w11 ⟨e11, e12, e1, e5, e6, e8, e9, e10, -⟩ h
          replace h := hr22 l22 w11 h
          clear hr22 hI22
          refine wpC_seq ?_
          refine wpC_seq ?_
          refine wpC_region ?_
          refine wpR_val (v := (Value.int .i64 l22.2)) (w' := w11) rfl rfl rfl (x_move (v := (Value.int .i64 l22.2)) rfl e12) ?_
          refine wpR_val (v := (Sl.v p1)) (w' := w11) rfl rfl rfl (x_move (v := (Sl.v p1)) rfl e1) ?_
          refine wpR_val (v := (Value.int .i64 (p1.len : Int))) (w' := w11) rfl rfl rfl (x_lenS (s := p1) rfl rfl isSliceT_22) ?_
          refine wpR_val (v := (Value.bool (decide (l22.2 < (p1.len : Int))))) (w' := w11) rfl rfl rfl (x_lss rfl rfl rfl) ?_
          refine wpR_nil ?_
          refine wpC_cond (b := decide (l22.2 < (p1.len : Int))) rfl (fun hc23 => ?_) (fun hc23 => ?_)
          · replace h := h.1 hc23
            refine wpC_skip ?_
            refine wpC_seq ?_
            refine wpC_block ?_
            refine wpC_cut (fun ρ => ρ 1 = (Sl.v p1) ∧ ρ 5 = (Value.bool r1) ∧ ρ 6 = (Value.pointer r8) ∧ ρ 8 = (Value.pointer r18) ∧ ρ 9 = (Value.int .i64 r20) ∧ ρ 10 = (Value.int .i64 r21) ∧ ρ 11 = (Sl.v l22.1) ∧ ρ 12 = (Value.int .i64 l22.2) ∧ True) ⟨e1, e5, e6, e8, e9, e10, e11, e12, trivial⟩ ?_
            rintro ρ ⟨e1, e5, e6, e8, e9, e10, e11, e12, -⟩
            refine wpC_region ?_
            refine wpR_val (v := (Sl.v l22.1)) (w' := w11) rfl rfl rfl (x_move (v := (Sl.v l22.1)) rfl e11) ?_
            refine wpR_val (v := (Value.pointer r18)) (w' := w11) rfl rfl rfl (x_move (v := (Value.pointer r18)) rfl e8) ?_
            refine wpR_val (v := (Sl.v p1)) (w' := w11) rfl rfl rfl (x_move (v := (Sl.v p1)) rfl e1) ?_
            refine wpR_val (v := (Value.int .i64 l22.2)) (w' := w11) rfl rfl rfl (x_move (v := (Value.int .i64 l22.2)) rfl e12) ?_
            obtain ⟨q24, z24, r24, h⟩ := h
            generalize hp24 : z24.add ((l22.2).toNat * 4) = p24 at h
            refine wpR_val (v := (Value.pointer (some p24))) (w' := w11) rfl rfl rfl ((x_indexAddr (s := p1) rfl rfl rfl ES_22 q24 r24).trans (by rw [hp24])) ?_
            obtain ⟨x25, q25, h⟩ := h
            obtain ⟨x26, q26, h⟩ := h
            obtain ⟨x27, q27, h⟩ := h
            obtain ⟨x28, q28, h⟩ := h
            refine wpR_val (v := (Value.agg #[(Value.int .i64 x25), (Value.int .i64 x26), (Value.int .i64 x27), (Value.string x28)])) (w' := w11) rfl rfl rfl (x_loadN [(Value.int .i64 x25), (Value.int .i64 x26), (Value.int .i64 x27), (Value.string x28)] rfl rfl SH_34 (CellsAt.out (CellsAt.cons q25 (CellsAt.cons q26 (CellsAt.cons q27 (CellsAt.cons q28 CellsAt.nil)))))) ?_
            refine wpR_enter rfl rfl rfl (x_call (vs := [(Value.pointer r18), (Value.agg #[(Value.int .i64 x25), (Value.int .i64 x26), (Value.int .i64 x27), (Value.string x28)])]) rfl rfl (by rfl) Try.func11 NN_11 NB_11) (Calls.mono h ?_)
            rintro _ w12 ⟨r29, rfl, h⟩
            refine ⟨_, rfl, ?_⟩
            obtain ⟨b30, hb30⟩ : ∃ u, u = w12.heap.size := ⟨_, rfl⟩
            obtain ⟨w13, hw30⟩ : ∃ u, u = w12.alloc (.cells #[(Value.int .i64 r29.1), (Value.string r29.2.1), (Value.int .i64 r29.2.2)] 31) := ⟨_, rfl⟩
            replace h := h b30 w13 hb30 hw30
            refine wpR_val (v := (Sl.v (⟨some ⟨b30, 0, none⟩, 1, 1⟩ : Sl))) (w' := w13) rfl rfl rfl ((x_buildSlice (qs := [(0, (Value.agg #[(Value.int .i64 r29.1), (Value.string r29.2.1), (Value.int .i64 r29.2.2)]))]) rfl (by rfl) (BS_46_1_0 r29.1 r29.2.1 r29.2.2)).trans (by rw [← hb30, ← hw30])) ?_
            obtain ⟨r31, w14, q31, h⟩ := h
            refine wpR_val (v := (Sl.v r31)) (w' := w14) rfl rfl rfl (x_append (s := l22.1) (u := (⟨some ⟨b30, 0, none⟩, 1, 1⟩ : Sl)) rfl rfl rfl rfl q31) ?_
            refine wpR_val (v := (Sl.v r31)) (w' := w14) rfl rfl rfl (x_assign (v := (Sl.v r31)) rfl rfl) ?_
            refine wpR_nil ?_
            refine wpC_cut (fun ρ => ρ 1 = (Sl.v p1) ∧ ρ 5 = (Value.bool r1) ∧ ρ 6 = (Value.pointer r8) ∧ ρ 8 = (Value.pointer r18) ∧ ρ 9 = (Value.int .i64 r20) ∧ ρ 10 = (Value.int .i64 r21) ∧ ρ 11 = (Sl.v r31) ∧ ρ 12 = (Value.int .i64 l22.2) ∧ True) ⟨e1, e5, e6, e8, e9, e10, rfl, e12, trivial⟩ ?_
            rintro ρ ⟨e1, e5, e6, e8, e9, e10, e11, e12, -⟩
            refine wpC_region ?_
            refine wpR_val (v := (Value.int .i64 l22.2)) (w' := w14) rfl rfl rfl (x_move (v := (Value.int .i64 l22.2)) rfl e12) ?_
            refine wpR_val (v := (Value.int .i64 (IntKind.i64.wrap (l22.2 + 1)))) (w' := w14) rfl rfl rfl (x_add rfl rfl rfl) ?_
            refine wpR_val (v := (Value.int .i64 (IntKind.i64.wrap (l22.2 + 1)))) (w' := w14) rfl rfl rfl (x_assign (v := (Value.int .i64 (IntKind.i64.wrap (l22.2 + 1)))) rfl rfl) ?_
            refine wpR_nil ?_
            exact ⟨(r31, IntKind.i64.wrap (l22.2 + 1)), ⟨e11, rfl, e1, e5, e6, e8, e9, e10, trivial⟩, h⟩
          · replace h := h.2 hc23
            refine wpC_exit ?_
            refine wpC_seq ?_
            refine wpC_seq ?_
            refine wpC_cut (fun ρ => ρ 1 = (Sl.v p1) ∧ ρ 5 = (Value.bool r1) ∧ ρ 6 = (Value.pointer r8) ∧ ρ 8 = (Value.pointer r18) ∧ ρ 9 = (Value.int .i64 r20) ∧ ρ 10 = (Value.int .i64 r21) ∧ ρ 11 = (Sl.v l22.1) ∧ True) ⟨e1, e5, e6, e8, e9, e10, e11, trivial⟩ ?_
            rintro ρ ⟨e1, e5, e6, e8, e9, e10, e11, -⟩
            refine wpC_region ?_
            refine wpR_val (v := (Value.pointer r8)) (w' := w11) rfl rfl rfl (x_move (v := (Value.pointer r8)) rfl e6) ?_
            refine wpR_enter rfl rfl rfl (x_call (vs := [(Value.pointer r8)]) rfl rfl (by rfl) Try.func13 NN_13 NB_13) (Calls.mono h ?_)
            rintro _ w15 ⟨r32, rfl, h⟩
            refine ⟨_, rfl, ?_⟩
            refine wpR_val (v := (Value.int .i64 r20)) (w' := w15) rfl rfl rfl (x_move (v := (Value.int .i64 r20)) rfl e9) ?_
            refine wpR_val (v := (Value.bool (!decide (r32 = r20)))) (w' := w15) rfl rfl rfl (x_neq rfl rfl rfl) ?_
            refine wpR_val (v := (Value.bool (!decide (r32 = r20)))) (w' := w15) rfl rfl rfl (x_move (v := (Value.bool (!decide (r32 = r20)))) rfl rfl) ?_
            obtain ⟨J33, h, hk⟩ := h
            refine wpR_joinJ 5 (fun x ρ => ρ 71 = Value.bool x ∧ ρ 1 = (Sl.v p1) ∧ ρ 5 = (Value.bool r1) ∧ ρ 6 = (Value.pointer r8) ∧ ρ 8 = (Value.pointer r18) ∧ ρ 11 = (Sl.v l22.1) ∧ True) (J33) ?_ ?_
            · clear hk
              rcases Bool.eq_false_or_eq_true (!decide (r32 = r20)) with hc34 | hc34
              · replace h := h.1 hc34
                refine wpR_pass (wantN rfl rfl rfl hc34) rfl rfl ?_
                refine wpR_pass (wantN rfl rfl rfl hc34) rfl rfl ?_
                refine wpR_pass (wantN rfl rfl rfl hc34) rfl rfl ?_
                refine wpR_pass (wantN rfl rfl rfl hc34) rfl rfl ?_
                refine wpR_val (v := (Value.bool true)) (w' := w15) rfl rfl rfl (x_pickT (v := (Value.bool true)) rfl rfl hc34 rfl) ?_
                refine wpR_nil ?_
                exact ⟨true, ⟨rfl, e1, e5, e6, e8, e11, trivial⟩, h⟩
              · replace h := h.2 hc34
                refine wpR_val (v := (Value.pointer r8)) (w' := w15) (wantG rfl rfl rfl hc34) rfl rfl (x_move (v := (Value.pointer r8)) rfl e6) ?_
                refine wpR_enter (wantG rfl rfl rfl hc34) rfl rfl (x_call (vs := [(Value.pointer r8)]) rfl rfl (by rfl) Try.func14 NN_14 NB_14) (Calls.mono h ?_)
                rintro _ w16 ⟨r35, rfl, h⟩
                refine ⟨_, rfl, ?_⟩
                refine wpR_val (v := (Value.int .i64 r21)) (w' := w16) (wantG rfl rfl rfl hc34) rfl rfl (x_move (v := (Value.int .i64 r21)) rfl e10) ?_
                refine wpR_val (v := (Value.bool (!decide (r35 = r21)))) (w' := w16) (wantG rfl rfl rfl hc34) rfl rfl (x_neq rfl rfl rfl) ?_
                refine wpR_val (v := (Value.bool (!decide (r35 = r21)))) (w' := w16) rfl rfl rfl (x_pickF (v := (Value.bool (!decide (r35 = r21)))) rfl rfl hc34 rfl) ?_
                refine wpR_nil ?_
                exact ⟨!decide (r35 = r21), ⟨rfl, e1, e5, e6, e8, e11, trivial⟩, h⟩
            clear h
            rintro c36 ρ w17 ⟨e71, e1, e5, e6, e8, e11, -⟩ h
            replace h := hk c36 w17 h
            clear hk
            refine wpR_nil ?_
            refine wpC_cond (b := c36) e71 (fun hc37 => ?_) (fun hc37 => ?_)
            · replace h := h.1 hc37
              refine wpC_seq ?_
              refine wpC_region ?_
              refine wpR_val (v := (Value.bool false)) (w' := w17) rfl rfl rfl (x_assign (v := (Value.bool false)) rfl rfl) ?_
              refine wpR_nil ?_
              refine wpC_ret ?_
              exact ⟨.inl rfl, fun a ha => ⟨_, results_rep1 rfl ha rfl, false, rfl, h⟩⟩
            · replace h := h.2 hc37
              refine wpC_skip ?_
              refine wpC_seq ?_
              refine wpC_seq ?_
              refine wpC_region ?_
              refine wpR_val (v := (Value.int .i64 0)) (w' := w17) rfl rfl rfl (x_assign (v := (Value.int .i64 0)) rfl rfl) ?_
              refine wpR_nil ?_
              refine wpC_block ?_
              obtain ⟨I38, μ38, hI38, hr38⟩ := h
              refine wpC_loop (fun (x : Int) ρ => ρ 13 = (Value.int .i64 x) ∧ ρ 1 = (Sl.v p1) ∧ ρ 5 = (Value.bool r1) ∧ ρ 6 = (Value.pointer r8) ∧ ρ 8 = (Value.pointer r18) ∧ ρ 11 = (Sl.v l22.1) ∧ True) I38 μ38 0 ⟨rfl, e1, e5, e6, e8, e11, trivial⟩ hI38 ?_
              rintro l38 ρ w18 ⟨e13, e1, e5, e6, e8, e11, -⟩ h
              replace h := hr38 l38 w18 h
              clear hr38 hI38
              refine wpC_seq ?_
              refine wpC_seq ?_
              refine wpC_region ?_
              refine wpR_val (v := (Value.int .i64 l38)) (w' := w18) rfl rfl rfl (x_move (v := (Value.int .i64 l38)) rfl e13) ?_
              refine wpR_val (v := (Sl.v p1)) (w' := w18) rfl rfl rfl (x_move (v := (Sl.v p1)) rfl e1) ?_
              refine wpR_val (v := (Value.int .i64 (p1.len : Int))) (w' := w18) rfl rfl rfl (x_lenS (s := p1) rfl rfl isSliceT_22) ?_
              refine wpR_val (v := (Value.bool (decide (l38 < (p1.len : Int))))) (w' := w18) rfl rfl rfl (x_lss rfl rfl rfl) ?_
              refine wpR_nil ?_
              refine wpC_cond (b := decide (l38 < (p1.len : Int))) rfl (fun hc39 => ?_) (fun hc39 => ?_)
              · replace h := h.1 hc39
                refine wpC_skip ?_
                refine wpC_seq ?_
                refine wpC_block ?_
                refine wpC_seq ?_
                refine wpC_cut (fun ρ => ρ 1 = (Sl.v p1) ∧ ρ 5 = (Value.bool r1) ∧ ρ 6 = (Value.pointer r8) ∧ ρ 8 = (Value.pointer r18) ∧ ρ 11 = (Sl.v l22.1) ∧ ρ 13 = (Value.int .i64 l38) ∧ True) ⟨e1, e5, e6, e8, e11, e13, trivial⟩ ?_
                rintro ρ ⟨e1, e5, e6, e8, e11, e13, -⟩
                obtain ⟨J41, h, hk⟩ := h
                refine wpC_drawJ (by kernel_rfl) (fun (x : Bool) ρ => ρ 88 = (Value.bool x) ∧ ρ 1 = (Sl.v p1) ∧ ρ 5 = (Value.bool r1) ∧ ρ 6 = (Value.pointer r8) ∧ ρ 8 = (Value.pointer r18) ∧ ρ 11 = (Sl.v l22.1) ∧ ρ 13 = (Value.int .i64 l38) ∧ True) J41 ?_ ?_
                · clear hk
                  unfold tk at h
                  generalize w18.drew = w19 at h ⊢
                  refine wpD_take (v := (Value.pointer r8)) 0 (fun _ => True) rfl (by kernel_rfl) (by kernel_rfl) (by kernel_rfl) rfl rfl rfl trivial (fun w _ => (x_move (v := (Value.pointer r8)) rfl e6)) ?_
                  refine wpD_take (v := (Sl.v p1)) 1 (fun _ => True) rfl (by kernel_rfl) (by kernel_rfl) (by kernel_rfl) rfl rfl rfl trivial (fun w _ => (x_move (v := (Sl.v p1)) rfl e1)) ?_
                  refine wpD_take (v := (Value.int .i64 l38)) 2 (fun _ => True) rfl (by kernel_rfl) (by kernel_rfl) (by kernel_rfl) rfl rfl rfl trivial (fun w _ => (x_move (v := (Value.int .i64 l38)) rfl e13)) ?_
                  obtain ⟨q42, z42, r42, h⟩ := h
                  generalize hp42 : z42.add ((l38).toNat * 4) = p42 at h
                  refine wpD_take (v := (Value.pointer (some p42))) 3 (fun _ => True) rfl (by kernel_rfl) (by kernel_rfl) (by kernel_rfl) rfl rfl rfl trivial (fun w _ => ((x_indexAddr (s := p1) rfl rfl rfl ES_22 q42 r42).trans (by rw [hp42]))) ?_
                  obtain ⟨x43, q43, h⟩ := h
                  obtain ⟨x44, q44, h⟩ := h
                  obtain ⟨x45, q45, h⟩ := h
                  obtain ⟨x46, q46, h⟩ := h
                  refine wpD_take (v := (Value.agg #[(Value.int .i64 x43), (Value.int .i64 x44), (Value.int .i64 x45), (Value.string x46)])) 4 (fun w => w.cell? (p42.add 0) = some (Value.int .i64 x43) ∧ w.cell? (p42.add 1) = some (Value.int .i64 x44) ∧ w.cell? (p42.add 2) = some (Value.int .i64 x45) ∧ w.cell? (p42.add 3) = some (Value.string x46)) rfl (by kernel_rfl) (by kernel_rfl) (by kernel_rfl) rfl rfl rfl ⟨q43, q44, q45, q46⟩ (fun w ⟨q43, q44, q45, q46⟩ => (x_loadN [(Value.int .i64 x43), (Value.int .i64 x44), (Value.int .i64 x45), (Value.string x46)] rfl rfl SH_34 (CellsAt.out (CellsAt.cons q43 (CellsAt.cons q44 (CellsAt.cons q45 (CellsAt.cons q46 CellsAt.nil))))))) ?_
                  refine wpD_take (v := (Sl.v l22.1)) 6 (fun _ => True) rfl (by kernel_rfl) (by kernel_rfl) (by kernel_rfl) rfl rfl rfl trivial (fun w _ => (x_move (v := (Sl.v l22.1)) rfl e11)) ?_
                  refine wpD_take (v := (Value.int .i64 l38)) 7 (fun _ => True) rfl (by kernel_rfl) (by kernel_rfl) (by kernel_rfl) rfl rfl rfl trivial (fun w _ => (x_move (v := (Value.int .i64 l38)) rfl e13)) ?_
                  obtain ⟨q47, z47, r47, h⟩ := h
                  generalize hp47 : z47.add ((l38).toNat * 3) = p47 at h
                  refine wpD_take (v := (Value.pointer (some p47))) 8 (fun _ => True) rfl (by kernel_rfl) (by kernel_rfl) (by kernel_rfl) rfl rfl rfl trivial (fun w _ => ((x_indexAddr (s := l22.1) rfl rfl rfl ES_46 q47 r47).trans (by rw [hp47]))) ?_
                  obtain ⟨x48, q48, h⟩ := h
                  obtain ⟨x49, q49, h⟩ := h
                  obtain ⟨x50, q50, h⟩ := h
                  refine wpD_take (v := (Value.agg #[(Value.int .i64 x48), (Value.string x49), (Value.int .i64 x50)])) 9 (fun w => w.cell? (p47.add 0) = some (Value.int .i64 x48) ∧ w.cell? (p47.add 1) = some (Value.string x49) ∧ w.cell? (p47.add 2) = some (Value.int .i64 x50)) rfl (by kernel_rfl) (by kernel_rfl) (by kernel_rfl) rfl rfl rfl ⟨q48, q49, q50⟩ (fun w ⟨q48, q49, q50⟩ => (x_loadN [(Value.int .i64 x48), (Value.string x49), (Value.int .i64 x50)] rfl rfl SH_31 (CellsAt.out (CellsAt.cons q48 (CellsAt.cons q49 (CellsAt.cons q50 CellsAt.nil)))))) ?_
                  refine wpD_all (rs := [5]) (by kernel_rfl) (by simp) (allD_cons ?_ allD_nil)
                  refine stepD_enterL (L' := [(9, fun w => w.cell? (p47.add 0) = some (Value.int .i64 x48) ∧ w.cell? (p47.add 1) = some (Value.string x49) ∧ w.cell? (p47.add 2) = some (Value.int .i64 x50)), (8, fun _ => True), (7, fun _ => True), (6, fun _ => True), (3, fun _ => True), (2, fun _ => True), (1, fun _ => True)]) rfl rfl rfl rfl (x_call (vs := [(Value.pointer r8), (Value.agg #[(Value.int .i64 x43), (Value.int .i64 x44), (Value.int .i64 x45), (Value.string x46)])]) rfl rfl (by rfl) Try.func11 NN_11 NB_11) (by kernel_rfl) (Calls.mono h ?_)
                  rintro _ w20 ⟨r51, rfl, h⟩
                  obtain ⟨o9, h⟩ := h
                  refine ⟨_, rfl, (held_cons o9 (held_cons trivial (held_cons trivial (held_cons trivial (held_cons trivial (held_cons trivial (held_cons trivial held_nil))))))), ?_⟩
                  refine wpD_take (v := (Value.bool (!(decide (r51.1 = x48) && (beqS r51.2.1 x49 && (decide (r51.2.2 = x50) && true)))))) 10 (fun _ => True) rfl (by kernel_rfl) (by kernel_rfl) (by kernel_rfl) rfl rfl rfl trivial (fun w _ => (x_neqA rfl rfl rfl EQ1_31 EQ2_31 EQ3_31 (EQ_31 r51.1 r51.2.1 r51.2.2 x48 x49 x50))) ?_
                  exact wpD_done (by kernel_rfl) ⟨!(decide (r51.1 = x48) && (beqS r51.2.1 x49 && (decide (r51.2.2 = x50) && true))), ⟨rfl, e1, e5, e6, e8, e11, e13, trivial⟩, h⟩
                clear h
                rintro l52 ρ w21 ⟨e88, e1, e5, e6, e8, e11, e13, -⟩ h
                replace h := hk l52 w21 h
                clear hk
                refine wpC_cond (b := l52) e88 (fun hc53 => ?_) (fun hc53 => ?_)
                · replace h := h.1 hc53
                  refine wpC_seq ?_
                  refine wpC_region ?_
                  refine wpR_val (v := (Value.bool false)) (w' := w21) rfl rfl rfl (x_assign (v := (Value.bool false)) rfl rfl) ?_
                  refine wpR_nil ?_
                  refine wpC_ret ?_
                  exact ⟨.inl rfl, fun a ha => ⟨_, results_rep1 rfl ha rfl, false, rfl, h⟩⟩
                · replace h := h.2 hc53
                  refine wpC_skip ?_
                  refine wpC_region ?_
                  refine wpR_val (v := (Value.int .i64 l38)) (w' := w21) rfl rfl rfl (x_move (v := (Value.int .i64 l38)) rfl e13) ?_
                  refine wpR_val (v := (Value.int .i64 (IntKind.i64.wrap (l38 + 1)))) (w' := w21) rfl rfl rfl (x_add rfl rfl rfl) ?_
                  refine wpR_val (v := (Value.int .i64 (IntKind.i64.wrap (l38 + 1)))) (w' := w21) rfl rfl rfl (x_assign (v := (Value.int .i64 (IntKind.i64.wrap (l38 + 1)))) rfl rfl) ?_
                  refine wpR_nil ?_
                  exact ⟨IntKind.i64.wrap (l38 + 1), ⟨rfl, e1, e5, e6, e8, e11, trivial⟩, h⟩
              · replace h := h.2 hc39
                refine wpC_exit ?_
                refine wpC_seq ?_
                refine wpC_cut (fun ρ => ρ 5 = (Value.bool r1) ∧ ρ 6 = (Value.pointer r8) ∧ ρ 8 = (Value.pointer r18) ∧ True) ⟨e5, e6, e8, trivial⟩ ?_
                rintro ρ ⟨e5, e6, e8, -⟩
                refine wpC_region ?_
                refine wpR_val (v := (Value.bool r1)) (w' := w18) rfl rfl rfl (x_move (v := (Value.bool r1)) rfl e5) ?_
                refine wpR_val (v := (Value.bool r1)) (w' := w18) rfl rfl rfl (x_move (v := (Value.bool r1)) rfl rfl) ?_
                obtain ⟨J54, h, hk⟩ := h
                refine wpR_joinJ 6 (fun x ρ => ρ 96 = Value.bool x ∧ ρ 6 = (Value.pointer r8) ∧ ρ 8 = (Value.pointer r18) ∧ True) (J54) ?_ ?_
                · clear hk
                  rcases Bool.eq_false_or_eq_true (r1) with hc55 | hc55
                  · replace h := h.1 hc55
                    refine wpR_val (v := (Value.pointer r8)) (w' := w18) (wantG rfl rfl rfl hc55) rfl rfl (x_move (v := (Value.pointer r8)) rfl e6) ?_
                    refine wpR_enter (wantG rfl rfl rfl hc55) rfl rfl (x_call (vs := [(Value.pointer r8)]) rfl rfl (by rfl) Try.func13 NN_13 NB_13) (Calls.mono h ?_)
                    rintro _ w22 ⟨r56, rfl, h⟩
                    refine ⟨_, rfl, ?_⟩
                    refine wpR_val (v := (Value.pointer r18)) (w' := w22) (wantG rfl rfl rfl hc55) rfl rfl (x_move (v := (Value.pointer r18)) rfl e8) ?_
                    refine wpR_enter (wantG rfl rfl rfl hc55) rfl rfl (x_call (vs := [(Value.pointer r18)]) rfl rfl (by rfl) Try.func13 NN_13 NB_13) (Calls.mono h ?_)
                    rintro _ w23 ⟨r57, rfl, h⟩
                    refine ⟨_, rfl, ?_⟩
                    refine wpR_val (v := (Value.bool (decide (r56 = r57)))) (w' := w23) (wantG rfl rfl rfl hc55) rfl rfl (x_eql rfl rfl rfl) ?_
                    refine wpR_val (v := (Value.bool (decide (r56 = r57)))) (w' := w23) rfl rfl rfl (x_pickT (v := (Value.bool (decide (r56 = r57)))) rfl rfl hc55 rfl) ?_
                    refine wpR_nil ?_
                    exact ⟨decide (r56 = r57), ⟨rfl, e6, e8, trivial⟩, h⟩
                  · replace h := h.2 hc55
                    refine wpR_pass (wantN rfl rfl rfl hc55) rfl rfl ?_
                    refine wpR_pass (wantN rfl rfl rfl hc55) rfl rfl ?_
                    refine wpR_pass (wantN rfl rfl rfl hc55) rfl rfl ?_
                    refine wpR_pass (wantN rfl rfl rfl hc55) rfl rfl ?_
                    refine wpR_pass (wantN rfl rfl rfl hc55) rfl rfl ?_
                    refine wpR_val (v := (Value.bool false)) (w' := w18) rfl rfl rfl (x_pickF (v := (Value.bool false)) rfl rfl hc55 rfl) ?_
                    refine wpR_nil ?_
                    exact ⟨false, ⟨rfl, e6, e8, trivial⟩, h⟩
                clear h
                rintro c58 ρ w24 ⟨e96, e6, e8, -⟩ h
                replace h := hk c58 w24 h
                clear hk
                refine wpR_val (v := (Value.bool c58)) (w' := w24) rfl rfl rfl (x_move (v := (Value.bool c58)) rfl e96) ?_
                obtain ⟨J59, h, hk⟩ := h
                refine wpR_joinJ 6 (fun x ρ => ρ 103 = Value.bool x ∧ True) (J59) ?_ ?_
                · clear hk
                  rcases Bool.eq_false_or_eq_true (c58) with hc60 | hc60
                  · replace h := h.1 hc60
                    refine wpR_val (v := (Value.pointer r8)) (w' := w24) (wantG rfl rfl rfl hc60) rfl rfl (x_move (v := (Value.pointer r8)) rfl e6) ?_
                    refine wpR_enter (wantG rfl rfl rfl hc60) rfl rfl (x_call (vs := [(Value.pointer r8)]) rfl rfl (by rfl) Try.func14 NN_14 NB_14) (Calls.mono h ?_)
                    rintro _ w25 ⟨r61, rfl, h⟩
                    refine ⟨_, rfl, ?_⟩
                    refine wpR_val (v := (Value.pointer r18)) (w' := w25) (wantG rfl rfl rfl hc60) rfl rfl (x_move (v := (Value.pointer r18)) rfl e8) ?_
                    refine wpR_enter (wantG rfl rfl rfl hc60) rfl rfl (x_call (vs := [(Value.pointer r18)]) rfl rfl (by rfl) Try.func14 NN_14 NB_14) (Calls.mono h ?_)
                    rintro _ w26 ⟨r62, rfl, h⟩
                    refine ⟨_, rfl, ?_⟩
                    refine wpR_val (v := (Value.bool (decide (r61 = r62)))) (w' := w26) (wantG rfl rfl rfl hc60) rfl rfl (x_eql rfl rfl rfl) ?_
                    refine wpR_val (v := (Value.bool (decide (r61 = r62)))) (w' := w26) rfl rfl rfl (x_pickT (v := (Value.bool (decide (r61 = r62)))) rfl rfl hc60 rfl) ?_
                    refine wpR_nil ?_
                    exact ⟨decide (r61 = r62), ⟨rfl, trivial⟩, h⟩
                  · replace h := h.2 hc60
                    refine wpR_pass (wantN rfl rfl rfl hc60) rfl rfl ?_
                    refine wpR_pass (wantN rfl rfl rfl hc60) rfl rfl ?_
                    refine wpR_pass (wantN rfl rfl rfl hc60) rfl rfl ?_
                    refine wpR_pass (wantN rfl rfl rfl hc60) rfl rfl ?_
                    refine wpR_pass (wantN rfl rfl rfl hc60) rfl rfl ?_
                    refine wpR_val (v := (Value.bool false)) (w' := w24) rfl rfl rfl (x_pickF (v := (Value.bool false)) rfl rfl hc60 rfl) ?_
                    refine wpR_nil ?_
                    exact ⟨false, ⟨rfl, trivial⟩, h⟩
                clear h
                rintro c63 ρ w27 ⟨e103, -⟩ h
                replace h := hk c63 w27 h
                clear hk
                refine wpR_val (v := (Value.bool c63)) (w' := w27) rfl rfl rfl (x_assign (v := (Value.bool c63)) rfl e103) ?_
                refine wpR_nil ?_
                refine wpC_ret ?_
                exact ⟨.inl rfl, fun a ha => ⟨_, results_rep1 rfl ha rfl, c63, rfl, h⟩⟩

/-- (*vault.Vault).Copy -/
def F16 (p0 : Option Addr) (w0 : World) (K : (Option Addr) → World → Prop) : Prop :=
  jn (fun (J2 : (Option Addr) → World → Prop) => tk w0 fun w1 =>
    nn p0 fun a3 =>
    ld Sl.v (a3.add 0) w1 fun x4 =>
    nn p0 fun a5 =>
    ld Sl.v (a5.add 1) w1 fun x6 =>
    callC Try.prog 24 #[(Sl.v x4)] (fun (r : Sl) => (Sl.v r)) w1 fun r7 w2 =>
    (w2.cell? (a5.add 1) = some (Sl.v x6)) ∧
    callC Try.prog 25 #[(Sl.v x6)] (fun (r : Sl) => (Sl.v r)) w2 fun r8 w3 =>
    nw 53 #[(Sl.v r7), (Sl.v r8)] w3 fun b9 w4 =>
    J2 (some (Addr.mk b9 0 none)) w4
  )
  fun l10 w5 =>
  K l10 w5
set_option maxRecDepth 100000 in
theorem D16 (p0 : Option Addr) (w0 : World) (K : (Option Addr) → World → Prop) (h : F16 p0 w0 K) : callC Try.prog 16 #[(Value.pointer p0)] (fun (r : (Option Addr)) => (Value.pointer r)) w0 K := by
  unfold F16 at h
  refine calls_of_wpC Try.func16 rfl 15 rfl (by simp) ?_
  intro ρ hρ
  have e0 : ρ 0 = (Value.pointer p0) := hρ 0
  clear hρ
  refine wpC_seq ?_
  refine wpC_region ?_
  refine wpR_val (v := (Value.pointer none)) (w' := w0) rfl rfl rfl (x_assign (v := (Value.pointer none)) rfl rfl) ?_
  refine wpR_nil ?_
  refine wpC_seq ?_
  refine wpC_cut (fun ρ => ρ 0 = (Value.pointer p0) ∧ True) ⟨e0, trivial⟩ ?_
  rintro ρ ⟨e0, -⟩
  obtain ⟨J2, h, hk⟩ := h
  refine wpC_drawJ (by kernel_rfl) (fun (x : (Option Addr)) ρ => ρ 2 = (Value.pointer x) ∧ True) J2 ?_ ?_
  · clear hk
    unfold tk at h
    generalize w0.drew = w1 at h ⊢
    refine wpD_take (v := (Value.pointer p0)) 0 (fun _ => True) rfl (by kernel_rfl) (by kernel_rfl) (by kernel_rfl) rfl rfl rfl trivial (fun w _ => (x_move (v := (Value.pointer p0)) rfl e0)) ?_
    obtain ⟨a3, q3, h⟩ := h
    refine wpD_take (v := (Value.pointer (some a3))) 1 (fun _ => True) rfl (by kernel_rfl) (by kernel_rfl) (by kernel_rfl) rfl rfl rfl trivial (fun w _ => (x_nilCheck rfl rfl q3)) ?_
    refine wpD_take (v := (Value.pointer (some (a3.add 0)))) 2 (fun _ => True) rfl (by kernel_rfl) (by kernel_rfl) (by kernel_rfl) rfl rfl rfl trivial (fun w _ => (x_fieldAddr rfl rfl FA_53_0)) ?_
    obtain ⟨x4, q4, h⟩ := h
    refine wpD_take (v := (Sl.v x4)) 3 (fun w => w.cell? (a3.add 0) = some (Sl.v x4)) rfl (by kernel_rfl) (by kernel_rfl) (by kernel_rfl) rfl rfl rfl q4 (fun w q4 => (x_load1 rfl rfl SH_37 q4)) ?_
    refine wpD_take (v := (Value.pointer p0)) 5 (fun _ => True) rfl (by kernel_rfl) (by kernel_rfl) (by kernel_rfl) rfl rfl rfl trivial (fun w _ => (x_move (v := (Value.pointer p0)) rfl e0)) ?_
    obtain ⟨a5, q5, h⟩ := h
    refine wpD_take (v := (Value.pointer (some a5))) 6 (fun _ => True) rfl (by kernel_rfl) (by kernel_rfl) (by kernel_rfl) rfl rfl rfl trivial (fun w _ => (x_nilCheck rfl rfl q5)) ?_
    refine wpD_take (v := (Value.pointer (some (a5.add 1)))) 7 (fun _ => True) rfl (by kernel_rfl) (by kernel_rfl) (by kernel_rfl) rfl rfl rfl trivial (fun w _ => (x_fieldAddr rfl rfl FA_53_1)) ?_
    obtain ⟨x6, q6, h⟩ := h
    refine wpD_take (v := (Sl.v x6)) 8 (fun w => w.cell? (a5.add 1) = some (Sl.v x6)) rfl (by kernel_rfl) (by kernel_rfl) (by kernel_rfl) rfl rfl rfl q6 (fun w q6 => (x_load1 rfl rfl SH_51 q6)) ?_
    refine wpD_all (rs := [4]) (by kernel_rfl) (by simp) (allD_cons ?_ allD_nil)
    refine stepD_enterL (L' := [(8, fun w => w.cell? (a5.add 1) = some (Sl.v x6)), (7, fun _ => True), (6, fun _ => True), (5, fun _ => True), (2, fun _ => True), (1, fun _ => True), (0, fun _ => True)]) rfl rfl rfl rfl (x_call (vs := [(Sl.v x4)]) rfl rfl (by rfl) Try.func24 NN_24 NB_24) (by kernel_rfl) (Calls.mono h ?_)
    rintro _ w2 ⟨r7, rfl, h⟩
    obtain ⟨o8, h⟩ := h
    refine ⟨_, rfl, (held_cons o8 (held_cons trivial (held_cons trivial (held_cons trivial (held_cons trivial (held_cons trivial (held_cons trivial held_nil))))))), ?_⟩
    refine wpD_all (rs := [9]) (by kernel_rfl) (by simp) (allD_cons ?_ allD_nil)
    refine stepD_enterL (L' := [(7, fun _ => True), (6, fun _ => True), (5, fun _ => True), (2, fun _ => True), (1, fun _ => True), (0, fun _ => True)]) rfl rfl rfl rfl (x_call (vs := [(Sl.v x6)]) rfl rfl (by rfl) Try.func25 NN_25 NB_25) (by kernel_rfl) (Calls.mono h ?_)
    rintro _ w3 ⟨r8, rfl, h⟩
    refine ⟨_, rfl, (held_cons trivial (held_cons trivial (held_cons trivial (held_cons trivial (held_cons trivial (held_cons trivial held_nil)))))), ?_⟩
    refine wpD_take (v := (Value.agg #[(Sl.v r7), (Sl.v r8)])) 10 (fun _ => True) rfl (by kernel_rfl) (by kernel_rfl) (by kernel_rfl) rfl rfl rfl trivial (fun w _ => (x_build (qs := [(0, (Sl.v r7)), (1, (Sl.v r8))]) rfl (by rfl) (BD_53_0_1 r7 r8 _))) ?_
    refine wpD_all (rs := [11]) (by kernel_rfl) (by simp) (allD_cons ?_ allD_nil)
    obtain ⟨b9, hb9⟩ : ∃ u, u = w3.heap.size := ⟨_, rfl⟩
    obtain ⟨w4, hw9⟩ : ∃ u, u = w3.alloc (.cells #[(Sl.v r7), (Sl.v r8)] 53) := ⟨_, rfl⟩
    replace h := h b9 w4 hb9 hw9
    refine stepD_valL (L' := [(7, fun _ => True), (6, fun _ => True), (5, fun _ => True), (2, fun _ => True), (1, fun _ => True), (0, fun _ => True)]) (v := (Value.pointer (some (Addr.mk b9 0 none)))) (w' := w4) rfl rfl rfl rfl ((x_box (v := (Value.agg #[(Sl.v r7), (Sl.v r8)])) rfl rfl).trans (by rw [hb9, hw9]; rfl)) (by kernel_rfl) (held_cons trivial (held_cons trivial (held_cons trivial (held_cons trivial (held_cons trivial (held_cons trivial held_nil)))))) ?_
    refine wpD_take (v := (Value.pointer (some (Addr.mk b9 0 none)))) 12 (fun _ => True) rfl (by kernel_rfl) (by kernel_rfl) (by kernel_rfl) rfl rfl rfl trivial (fun w _ => (x_assign (v := (Value.pointer (some (Addr.mk b9 0 none)))) rfl rfl)) ?_
    exact wpD_done (by kernel_rfl) ⟨some (Addr.mk b9 0 none), ⟨rfl, trivial⟩, h⟩
  clear h
  rintro l10 ρ w5 ⟨e2, -⟩ h
  replace h := hk l10 w5 h
  clear hk
  refine wpC_ret ?_
  exact ⟨.inl rfl, fun a ha => ⟨_, results_rep1 rfl ha e2, l10, rfl, h⟩⟩


end Go.Proofs.Ytfmimbcljhjflaa
