import Derived.Test.YtjmjackeeiglmaaRows
import Derived.Test.YtjmjackeeiglmaaFs1
import Derived.Test.YtjmjackeeiglmaaDecRaw
namespace Go.Proofs.Ytjmjackeeiglmaa
open Go.Dec
set_option maxHeartbeats 400000

/-- lingualaw41.PlacesJoin -/
def F6 (p0 : Sl) (p1 : Sl) (p2 : Sl) (w0 : World) (K : Bool → World → Prop) : Prop :=
  callC Try.prog 8 #[] (fun (r : Bool) => (Value.bool r)) w0 fun r1 w1 =>
  callC Try.prog 9 #[(Sl.v p0), (Value.int .i64 30)] (fun (r : Bool) => (Value.bool r)) w1 fun r2 w2 =>
  jn (fun J7 => cnd (((!r2) || (decide (20 < (p1.len : Int)))) || (decide (20 < (p2.len : Int))))
    (
    J7 true w2
    )
    (
    callC Try.prog 10 #[(Sl.v p0)] (fun (r : Bool) => (Value.bool r)) w2 fun r9 w3 =>
    J7 (!r9) w3
    ))
  fun c10 w4 =>
  cnd (c10)
    (
    K r1 w4
    )
    (
    callC Try.prog 13 #[(Sl.v p0), (Sl.v p1)] (fun (r : Sl) => (Sl.v r)) w4 fun r12 w5 =>
    callC Try.prog 13 #[(Sl.v p0), (Sl.v p2)] (fun (r : Sl) => (Sl.v r)) w5 fun r13 w6 =>
    nw 3 #[] w6 fun b14 w7 =>
    rn Try.prog (Builtin.append_ #[23, 23] 23 #[Sl.v (⟨some ⟨b14, 0, none⟩, 0, 0⟩ : Sl), Sl.v p1]) Sl.v w7 fun r15 w8 =>
    rn Try.prog (Builtin.append_ #[23, 23] 23 #[Sl.v r15, Sl.v p2]) Sl.v w8 fun r16 w9 =>
    callC Try.prog 13 #[(Sl.v p0), (Sl.v r16)] (fun (r : Sl) => (Sl.v r)) w9 fun r17 w10 =>
    lp (fun (next18 : (Sl × Int) → World → Prop) l18 w11 =>
      cnd (decide (l18.2 < (p0.len : Int)))
        (
        jn (fun (J20 : Sl → World → Prop) =>
          callC Try.prog 19 #[(Sl.v r12), (Value.int .i64 l18.2)] (fun (r : Bool) => (Value.bool r)) w11 fun r22 w13 =>
          jn (fun J23 => cnd (r22)
            (
            J23 true w13
            )
            (
            callC Try.prog 19 #[(Sl.v r13), (Value.int .i64 l18.2)] (fun (r : Bool) => (Value.bool r)) w13 fun r25 w14 =>
            J23 r25 w14
            ))
          fun c26 w15 =>
          cnd (c26)
            (
            nw 3 #[(Value.int .i64 l18.2)] w15 fun b28 w16 =>
            rn Try.prog (Builtin.append_ #[23, 23] 23 #[Sl.v l18.1, Sl.v (⟨some ⟨b28, 0, none⟩, 1, 1⟩ : Sl)]) Sl.v w16 fun r29 w17 =>
            J20 r29 w17
            )
            (
            J20 l18.1 w15
            )
        )
        fun l21 w12 =>
        next18 (l21, IntKind.i64.wrap (l18.2 + 1)) w12
        )
        (
        nw 3 #[] w11 fun b30 w18 =>
        rn Try.prog (Builtin.append_ #[23, 23] 23 #[Sl.v (⟨some ⟨b30, 0, none⟩, 0, 0⟩ : Sl), Sl.v r17]) Sl.v w18 fun r31 w19 =>
        rn Try.prog (Builtin.append_ #[23, 23] 23 #[Sl.v r31, Sl.v r17]) Sl.v w19 fun r32 w20 =>
        callC Try.prog 17 #[(Sl.v p0), (Sl.v r32)] (fun (r : Sl) => (Sl.v r)) w20 fun r33 w21 =>
        lp (fun (next34 : (Int × Int) → World → Prop) l34 w22 =>
          cnd (decide (l34.2 < (r33.len : Int)))
            (
            ix r33 l34.2 1 fun p36 =>
            ld (Value.int .i64) p36 w22 fun x37 =>
            next34 (IntKind.i64.wrap (l34.1 + x37), IntKind.i64.wrap (l34.2 + 1)) w22
            )
            (
            jn (fun J38 => cnd (r1)
              (
              callC Try.prog 12 #[(Sl.v r17), (Sl.v l18.1)] (fun (r : Bool) => (Value.bool r)) w22 fun r40 w23 =>
              J38 r40 w23
              )
              (
              J38 false w22
              ))
            fun c41 w24 =>
            jn (fun J42 => cnd (c41)
              (
              callC Try.prog 13 #[(Sl.v p0), (Sl.v r17)] (fun (r : Sl) => (Sl.v r)) w24 fun r44 w25 =>
              callC Try.prog 12 #[(Sl.v r44), (Sl.v r17)] (fun (r : Bool) => (Value.bool r)) w25 fun r45 w26 =>
              J42 r45 w26
              )
              (
              J42 false w24
              ))
            fun c46 w27 =>
            K ((c46 && (decide ((r33.len : Int) = 8))) && (decide (l34.1 = (r17.len : Int)))) w27
            )
        ) (0, 0) w21
        )
    ) (Sl.nil, 0) w10
    )
set_option maxRecDepth 100000 in
theorem D6 (p0 : Sl) (p1 : Sl) (p2 : Sl) (w0 : World) (K : Bool → World → Prop) (h : F6 p0 p1 p2 w0 K) : callC Try.prog 6 #[(Sl.v p0), (Sl.v p1), (Sl.v p2)] (fun (r : Bool) => (Value.bool r)) w0 K := by
  unfold F6 at h
  refine calls_of_wpC Try.func6 rfl 110 rfl (by simp) ?_
  intro ρ hρ
  have e0 : ρ 0 = (Sl.v p0) := hρ 0
  have e1 : ρ 1 = (Sl.v p1) := hρ 1
  have e2 : ρ 2 = (Sl.v p2) := hρ 2
  clear hρ
  refine wpC_seq ?_
  refine wpC_region ?_
  refine wpR_val (v := (Value.bool false)) (w' := w0) rfl rfl rfl (x_assign (v := (Value.bool false)) rfl rfl) ?_
  refine wpR_nil ?_
  refine wpC_seq ?_
  refine wpC_cut (fun ρ => ρ 0 = (Sl.v p0) ∧ ρ 1 = (Sl.v p1) ∧ ρ 2 = (Sl.v p2) ∧ True) ⟨e0, e1, e2, trivial⟩ ?_
  rintro ρ ⟨e0, e1, e2, -⟩
  refine wpC_region ?_
  refine wpR_enter rfl rfl rfl (x_call (vs := []) rfl rfl mapl_nil Try.func8 NN_8 NB_8) (Calls.mono h ?_)
  rintro _ w1 ⟨r1, rfl, h⟩
  refine ⟨_, rfl, ?_⟩
  refine wpR_val (v := (Value.bool r1)) (w' := w1) rfl rfl rfl (x_assign (v := (Value.bool r1)) rfl rfl) ?_
  refine wpR_nil ?_
  refine wpC_seq ?_
  refine wpC_seq ?_
  refine wpC_cut (fun ρ => ρ 0 = (Sl.v p0) ∧ ρ 1 = (Sl.v p1) ∧ ρ 2 = (Sl.v p2) ∧ ρ 7 = (Value.bool r1) ∧ True) ⟨e0, e1, e2, rfl, trivial⟩ ?_
  rintro ρ ⟨e0, e1, e2, e7, -⟩
  refine wpC_region ?_
  refine wpR_val (v := (Sl.v p0)) (w' := w1) rfl rfl rfl (x_move (v := (Sl.v p0)) rfl e0) ?_
  refine wpR_enter rfl rfl rfl (x_call (vs := [(Sl.v p0), (Value.int .i64 30)]) rfl rfl (mapl_cons rfl (mapl_cons rfl mapl_nil)) Try.func9 NN_9 NB_9) (Calls.mono h ?_)
  rintro _ w2 ⟨r2, rfl, h⟩
  refine ⟨_, rfl, ?_⟩
  refine wpR_val (v := (Value.bool (!r2))) (w' := w2) rfl rfl rfl (x_not rfl rfl) ?_
  refine wpR_val (v := (Value.bool (!r2))) (w' := w2) rfl rfl rfl (x_move (v := (Value.bool (!r2))) rfl rfl) ?_
  refine wpR_joinJ 4 (fun (_ : Unit) ρ => ρ 24 = Value.bool ((!r2) || (decide (20 < (p1.len : Int)))) ∧ ρ 0 = (Sl.v p0) ∧ ρ 1 = (Sl.v p1) ∧ ρ 2 = (Sl.v p2) ∧ ρ 7 = (Value.bool r1) ∧ True) (fun _ w => w2 = w) ?_ ?_
  · clear h
    rcases Bool.eq_false_or_eq_true (!r2) with hc4 | hc4
    · skip
      refine wpR_pass (wantN rfl rfl rfl hc4) rfl rfl ?_
      refine wpR_pass (wantN rfl rfl rfl hc4) rfl rfl ?_
      refine wpR_pass (wantN rfl rfl rfl hc4) rfl rfl ?_
      refine wpR_val (v := (Value.bool true)) (w' := w2) rfl rfl rfl (x_pickT (v := (Value.bool true)) rfl rfl hc4 rfl) ?_
      refine wpR_nil ?_
      exact ⟨(), ⟨(by rw [hc4]; rfl), e0, e1, e2, e7, trivial⟩, rfl⟩
    · skip
      refine wpR_val (v := (Sl.v p1)) (w' := w2) (wantG rfl rfl rfl hc4) rfl rfl (x_move (v := (Sl.v p1)) rfl e1) ?_
      refine wpR_val (v := (Value.int .i64 (p1.len : Int))) (w' := w2) (wantG rfl rfl rfl hc4) rfl rfl (x_lenS (s := p1) rfl rfl isSliceT_23) ?_
      refine wpR_val (v := (Value.bool (decide (20 < (p1.len : Int))))) (w' := w2) (wantG rfl rfl rfl hc4) rfl rfl (x_gtr rfl rfl rfl) ?_
      refine wpR_val (v := (Value.bool (decide (20 < (p1.len : Int))))) (w' := w2) rfl rfl rfl (x_pickF (v := (Value.bool (decide (20 < (p1.len : Int))))) rfl rfl hc4 rfl) ?_
      refine wpR_nil ?_
      exact ⟨(), ⟨(by rw [hc4]; rfl), e0, e1, e2, e7, trivial⟩, rfl⟩
  rintro _ ρ wj ⟨e24, e0, e1, e2, e7, -⟩ rfl
  refine wpR_val (v := (Value.bool ((!r2) || (decide (20 < (p1.len : Int)))))) (w' := w2) rfl rfl rfl (x_move (v := (Value.bool ((!r2) || (decide (20 < (p1.len : Int)))))) rfl e24) ?_
  refine wpR_joinJ 4 (fun (_ : Unit) ρ => ρ 29 = Value.bool (((!r2) || (decide (20 < (p1.len : Int)))) || (decide (20 < (p2.len : Int)))) ∧ ρ 0 = (Sl.v p0) ∧ ρ 1 = (Sl.v p1) ∧ ρ 2 = (Sl.v p2) ∧ ρ 7 = (Value.bool r1) ∧ True) (fun _ w => w2 = w) ?_ ?_
  · clear h
    rcases Bool.eq_false_or_eq_true ((!r2) || (decide (20 < (p1.len : Int)))) with hc6 | hc6
    · skip
      refine wpR_pass (wantN rfl rfl rfl hc6) rfl rfl ?_
      refine wpR_pass (wantN rfl rfl rfl hc6) rfl rfl ?_
      refine wpR_pass (wantN rfl rfl rfl hc6) rfl rfl ?_
      refine wpR_val (v := (Value.bool true)) (w' := w2) rfl rfl rfl (x_pickT (v := (Value.bool true)) rfl rfl hc6 rfl) ?_
      refine wpR_nil ?_
      exact ⟨(), ⟨(by rw [hc6]; rfl), e0, e1, e2, e7, trivial⟩, rfl⟩
    · skip
      refine wpR_val (v := (Sl.v p2)) (w' := w2) (wantG rfl rfl rfl hc6) rfl rfl (x_move (v := (Sl.v p2)) rfl e2) ?_
      refine wpR_val (v := (Value.int .i64 (p2.len : Int))) (w' := w2) (wantG rfl rfl rfl hc6) rfl rfl (x_lenS (s := p2) rfl rfl isSliceT_23) ?_
      refine wpR_val (v := (Value.bool (decide (20 < (p2.len : Int))))) (w' := w2) (wantG rfl rfl rfl hc6) rfl rfl (x_gtr rfl rfl rfl) ?_
      refine wpR_val (v := (Value.bool (decide (20 < (p2.len : Int))))) (w' := w2) rfl rfl rfl (x_pickF (v := (Value.bool (decide (20 < (p2.len : Int))))) rfl rfl hc6 rfl) ?_
      refine wpR_nil ?_
      exact ⟨(), ⟨(by rw [hc6]; rfl), e0, e1, e2, e7, trivial⟩, rfl⟩
  rintro _ ρ wj ⟨e29, e0, e1, e2, e7, -⟩ rfl
  refine wpR_val (v := (Value.bool (((!r2) || (decide (20 < (p1.len : Int)))) || (decide (20 < (p2.len : Int)))))) (w' := w2) rfl rfl rfl (x_move (v := (Value.bool (((!r2) || (decide (20 < (p1.len : Int)))) || (decide (20 < (p2.len : Int)))))) rfl e29) ?_
  obtain ⟨J7, h, hk⟩ := h
  refine wpR_joinJ 4 (fun x ρ => ρ 34 = Value.bool x ∧ ρ 0 = (Sl.v p0) ∧ ρ 1 = (Sl.v p1) ∧ ρ 2 = (Sl.v p2) ∧ ρ 7 = (Value.bool r1) ∧ True) (J7) ?_ ?_
  · clear hk
    rcases Bool.eq_false_or_eq_true (((!r2) || (decide (20 < (p1.len : Int)))) || (decide (20 < (p2.len : Int)))) with hc8 | hc8
    · replace h := h.1 hc8
      refine wpR_pass (wantN rfl rfl rfl hc8) rfl rfl ?_
      refine wpR_pass (wantN rfl rfl rfl hc8) rfl rfl ?_
      refine wpR_pass (wantN rfl rfl rfl hc8) rfl rfl ?_
      refine wpR_val (v := (Value.bool true)) (w' := w2) rfl rfl rfl (x_pickT (v := (Value.bool true)) rfl rfl hc8 rfl) ?_
      refine wpR_nil ?_
      exact ⟨true, ⟨rfl, e0, e1, e2, e7, trivial⟩, h⟩
    · replace h := h.2 hc8
      refine wpR_val (v := (Sl.v p0)) (w' := w2) (wantG rfl rfl rfl hc8) rfl rfl (x_move (v := (Sl.v p0)) rfl e0) ?_
      refine wpR_enter (wantG rfl rfl rfl hc8) rfl rfl (x_call (vs := [(Sl.v p0)]) rfl rfl (mapl_cons rfl mapl_nil) Try.func10 NN_10 NB_10) (Calls.mono h ?_)
      rintro _ w3 ⟨r9, rfl, h⟩
      refine ⟨_, rfl, ?_⟩
      refine wpR_val (v := (Value.bool (!r9))) (w' := w3) (wantG rfl rfl rfl hc8) rfl rfl (x_not rfl rfl) ?_
      refine wpR_val (v := (Value.bool (!r9))) (w' := w3) rfl rfl rfl (x_pickF (v := (Value.bool (!r9))) rfl rfl hc8 rfl) ?_
      refine wpR_nil ?_
      exact ⟨!r9, ⟨rfl, e0, e1, e2, e7, trivial⟩, h⟩
  clear h
  rintro c10 ρ w4 ⟨e34, e0, e1, e2, e7, -⟩ h
  replace h := hk c10 w4 h
  clear hk
  refine wpR_nil ?_
  refine wpC_cond (b := c10) e34 (fun hc11 => ?_) (fun hc11 => ?_)
  · replace h := h.1 hc11
    refine wpC_seq ?_
    refine wpC_region ?_
    refine wpR_val (v := (Value.bool r1)) (w' := w4) rfl rfl rfl (x_move (v := (Value.bool r1)) rfl e7) ?_
    refine wpR_val (v := (Value.bool r1)) (w' := w4) rfl rfl rfl (x_assign (v := (Value.bool r1)) rfl rfl) ?_
    refine wpR_nil ?_
    refine wpC_ret ?_
    exact ⟨.inl rfl, fun a ha => ⟨_, results_rep1 rfl ha rfl, r1, rfl, h⟩⟩
  · replace h := h.2 hc11
    refine wpC_skip ?_
    refine wpC_seq ?_
    refine wpC_region ?_
    refine wpR_val (v := (Sl.v p0)) (w' := w4) rfl rfl rfl (x_move (v := (Sl.v p0)) rfl e0) ?_
    refine wpR_val (v := (Sl.v p1)) (w' := w4) rfl rfl rfl (x_move (v := (Sl.v p1)) rfl e1) ?_
    refine wpR_enter rfl rfl rfl (x_call (vs := [(Sl.v p0), (Sl.v p1)]) rfl rfl (mapl_cons rfl (mapl_cons rfl mapl_nil)) Try.func13 NN_13 NB_13) (Calls.mono h ?_)
    rintro _ w5 ⟨r12, rfl, h⟩
    refine ⟨_, rfl, ?_⟩
    refine wpR_val (v := (Sl.v r12)) (w' := w5) rfl rfl rfl (x_assign (v := (Sl.v r12)) rfl rfl) ?_
    refine wpR_nil ?_
    refine wpC_seq ?_
    refine wpC_cut (fun ρ => ρ 0 = (Sl.v p0) ∧ ρ 1 = (Sl.v p1) ∧ ρ 2 = (Sl.v p2) ∧ ρ 7 = (Value.bool r1) ∧ ρ 8 = (Sl.v r12) ∧ True) ⟨e0, e1, e2, e7, rfl, trivial⟩ ?_
    rintro ρ ⟨e0, e1, e2, e7, e8, -⟩
    refine wpC_region ?_
    refine wpR_val (v := (Sl.v p0)) (w' := w5) rfl rfl rfl (x_move (v := (Sl.v p0)) rfl e0) ?_
    refine wpR_val (v := (Sl.v p2)) (w' := w5) rfl rfl rfl (x_move (v := (Sl.v p2)) rfl e2) ?_
    refine wpR_enter rfl rfl rfl (x_call (vs := [(Sl.v p0), (Sl.v p2)]) rfl rfl (mapl_cons rfl (mapl_cons rfl mapl_nil)) Try.func13 NN_13 NB_13) (Calls.mono h ?_)
    rintro _ w6 ⟨r13, rfl, h⟩
    refine ⟨_, rfl, ?_⟩
    refine wpR_val (v := (Sl.v r13)) (w' := w6) rfl rfl rfl (x_assign (v := (Sl.v r13)) rfl rfl) ?_
    refine wpR_nil ?_
    refine wpC_seq ?_
    refine wpC_cut (fun ρ => ρ 0 = (Sl.v p0) ∧ ρ 1 = (Sl.v p1) ∧ ρ 2 = (Sl.v p2) ∧ ρ 7 = (Value.bool r1) ∧ ρ 8 = (Sl.v r12) ∧ ρ 9 = (Sl.v r13) ∧ True) ⟨e0, e1, e2, e7, e8, rfl, trivial⟩ ?_
    rintro ρ ⟨e0, e1, e2, e7, e8, e9, -⟩
    refine wpC_region ?_
    refine wpR_val (v := (Sl.v p0)) (w' := w6) rfl rfl rfl (x_move (v := (Sl.v p0)) rfl e0) ?_
    obtain ⟨b14, hb14⟩ : ∃ u, u = w6.heap.size := ⟨_, rfl⟩
    obtain ⟨w7, hw14⟩ : ∃ u, u = w6.alloc (.cells #[] 3) := ⟨_, rfl⟩
    replace h := h b14 w7 hb14 hw14
    refine wpR_val (v := (Sl.v (⟨some ⟨b14, 0, none⟩, 0, 0⟩ : Sl))) (w' := w7) rfl rfl rfl ((x_buildSlice (qs := []) rfl (by rfl) (BS_23_0_ )).trans (by rw [← hb14, ← hw14])) ?_
    refine wpR_val (v := (Sl.v p1)) (w' := w7) rfl rfl rfl (x_move (v := (Sl.v p1)) rfl e1) ?_
    obtain ⟨r15, w8, q15, h⟩ := h
    refine wpR_val (v := (Sl.v r15)) (w' := w8) rfl rfl rfl (x_append (s := (⟨some ⟨b14, 0, none⟩, 0, 0⟩ : Sl)) (u := p1) rfl rfl rfl rfl q15) ?_
    refine wpR_val (v := (Sl.v p2)) (w' := w8) rfl rfl rfl (x_move (v := (Sl.v p2)) rfl e2) ?_
    obtain ⟨r16, w9, q16, h⟩ := h
    refine wpR_val (v := (Sl.v r16)) (w' := w9) rfl rfl rfl (x_append (s := r15) (u := p2) rfl rfl rfl rfl q16) ?_
    refine wpR_enter rfl rfl rfl (x_call (vs := [(Sl.v p0), (Sl.v r16)]) rfl rfl (mapl_cons rfl (mapl_cons rfl mapl_nil)) Try.func13 NN_13 NB_13) (Calls.mono h ?_)
    rintro _ w10 ⟨r17, rfl, h⟩
    refine ⟨_, rfl, ?_⟩
    refine wpR_val (v := (Sl.v r17)) (w' := w10) rfl rfl rfl (x_assign (v := (Sl.v r17)) rfl rfl) ?_
    refine wpR_nil ?_
    refine wpC_seq ?_
    refine wpC_cut (fun ρ => ρ 0 = (Sl.v p0) ∧ ρ 7 = (Value.bool r1) ∧ ρ 8 = (Sl.v r12) ∧ ρ 9 = (Sl.v r13) ∧ ρ 10 = (Sl.v r17) ∧ True) ⟨e0, e7, e8, e9, rfl, trivial⟩ ?_
    rintro ρ ⟨e0, e7, e8, e9, e10, -⟩
    refine wpC_region ?_
    refine wpR_val (v := (Sl.v Sl.nil)) (w' := w10) rfl rfl rfl (x_assign (v := (Sl.v Sl.nil)) rfl rfl) ?_
    refine wpR_nil ?_
    refine wpC_seq ?_
    refine wpC_seq ?_
    refine wpC_cut (fun ρ => ρ 0 = (Sl.v p0) ∧ ρ 7 = (Value.bool r1) ∧ ρ 8 = (Sl.v r12) ∧ ρ 9 = (Sl.v r13) ∧ ρ 10 = (Sl.v r17) ∧ ρ 11 = (Sl.v Sl.nil) ∧ True) ⟨e0, e7, e8, e9, e10, rfl, trivial⟩ ?_
    rintro ρ ⟨e0, e7, e8, e9, e10, e11, -⟩
    refine wpC_region ?_
    refine wpR_val (v := (Value.int .i64 0)) (w' := w10) rfl rfl rfl (x_assign (v := (Value.int .i64 0)) rfl rfl) ?_
    refine wpR_nil ?_
    refine wpC_block ?_
    obtain ⟨I18, μ18, hI18, hr18⟩ := h
    refine wpC_loop (fun (x : Sl × Int) ρ => ρ 11 = (Sl.v x.1) ∧ ρ 12 = (Value.int .i64 x.2) ∧ ρ 0 = (Sl.v p0) ∧ ρ 7 = (Value.bool r1) ∧ ρ 8 = (Sl.v r12) ∧ ρ 9 = (Sl.v r13) ∧ ρ 10 = (Sl.v r17) ∧ True) I18 μ18 (Sl.nil, 0) ⟨e11, rfl, e0, e7, e8, e9, e10, trivial⟩ hI18 ?_
    rintro l18 ρ w11 ⟨e11, e12, e0, e7, e8, e9, e10, -⟩ h
    replace h := hr18 l18 w11 h
    clear hr18 hI18
    refine wpC_seq ?_
    refine wpC_seq ?_
    refine wpC_region ?_
    refine wpR_val (v := (Value.int .i64 l18.2)) (w' := w11) rfl rfl rfl (x_move (v := (Value.int .i64 l18.2)) rfl e12) ?_
    refine wpR_val (v := (Sl.v p0)) (w' := w11) rfl rfl rfl (x_move (v := (Sl.v p0)) rfl e0) ?_
    refine wpR_val (v := (Value.int .i64 (p0.len : Int))) (w' := w11) rfl rfl rfl (x_lenS (s := p0) rfl rfl isSliceT_22) ?_
    refine wpR_val (v := (Value.bool (decide (l18.2 < (p0.len : Int))))) (w' := w11) rfl rfl rfl (x_lss rfl rfl rfl) ?_
    refine wpR_nil ?_
    refine wpC_cond (b := decide (l18.2 < (p0.len : Int))) rfl (fun hc19 => ?_) (fun hc19 => ?_)
    · replace h := h.1 hc19
      refine wpC_skip ?_
      obtain ⟨J20, h, hk⟩ := h
      refine wpC_seqJ (fun (x : Sl) ρ => ρ 11 = (Sl.v x) ∧ ρ 0 = (Sl.v p0) ∧ ρ 7 = (Value.bool r1) ∧ ρ 8 = (Sl.v r12) ∧ ρ 9 = (Sl.v r13) ∧ ρ 10 = (Sl.v r17) ∧ ρ 12 = (Value.int .i64 l18.2) ∧ True) J20 ?_ ?_
      · clear hk
        refine wpC_block ?_
        refine wpC_seq ?_
        refine wpC_cut (fun ρ => ρ 0 = (Sl.v p0) ∧ ρ 7 = (Value.bool r1) ∧ ρ 8 = (Sl.v r12) ∧ ρ 9 = (Sl.v r13) ∧ ρ 10 = (Sl.v r17) ∧ ρ 11 = (Sl.v l18.1) ∧ ρ 12 = (Value.int .i64 l18.2) ∧ True) ⟨e0, e7, e8, e9, e10, e11, e12, trivial⟩ ?_
        rintro ρ ⟨e0, e7, e8, e9, e10, e11, e12, -⟩
        refine wpC_region ?_
        refine wpR_val (v := (Sl.v r12)) (w' := w11) rfl rfl rfl (x_move (v := (Sl.v r12)) rfl e8) ?_
        refine wpR_val (v := (Value.int .i64 l18.2)) (w' := w11) rfl rfl rfl (x_move (v := (Value.int .i64 l18.2)) rfl e12) ?_
        refine wpR_enter rfl rfl rfl (x_call (vs := [(Sl.v r12), (Value.int .i64 l18.2)]) rfl rfl (mapl_cons rfl (mapl_cons rfl mapl_nil)) Try.func19 NN_19 NB_19) (Calls.mono h ?_)
        rintro _ w13 ⟨r22, rfl, h⟩
        refine ⟨_, rfl, ?_⟩
        refine wpR_val (v := (Value.bool r22)) (w' := w13) rfl rfl rfl (x_move (v := (Value.bool r22)) rfl rfl) ?_
        obtain ⟨J23, h, hk⟩ := h
        refine wpR_joinJ 4 (fun x ρ => ρ 62 = Value.bool x ∧ ρ 0 = (Sl.v p0) ∧ ρ 7 = (Value.bool r1) ∧ ρ 8 = (Sl.v r12) ∧ ρ 9 = (Sl.v r13) ∧ ρ 10 = (Sl.v r17) ∧ ρ 11 = (Sl.v l18.1) ∧ ρ 12 = (Value.int .i64 l18.2) ∧ True) (J23) ?_ ?_
        · clear hk
          rcases Bool.eq_false_or_eq_true (r22) with hc24 | hc24
          · replace h := h.1 hc24
            refine wpR_pass (wantN rfl rfl rfl hc24) rfl rfl ?_
            refine wpR_pass (wantN rfl rfl rfl hc24) rfl rfl ?_
            refine wpR_pass (wantN rfl rfl rfl hc24) rfl rfl ?_
            refine wpR_val (v := (Value.bool true)) (w' := w13) rfl rfl rfl (x_pickT (v := (Value.bool true)) rfl rfl hc24 rfl) ?_
            refine wpR_nil ?_
            exact ⟨true, ⟨rfl, e0, e7, e8, e9, e10, e11, e12, trivial⟩, h⟩
          · replace h := h.2 hc24
            refine wpR_val (v := (Sl.v r13)) (w' := w13) (wantG rfl rfl rfl hc24) rfl rfl (x_move (v := (Sl.v r13)) rfl e9) ?_
            refine wpR_val (v := (Value.int .i64 l18.2)) (w' := w13) (wantG rfl rfl rfl hc24) rfl rfl (x_move (v := (Value.int .i64 l18.2)) rfl e12) ?_
            refine wpR_enter (wantG rfl rfl rfl hc24) rfl rfl (x_call (vs := [(Sl.v r13), (Value.int .i64 l18.2)]) rfl rfl (mapl_cons rfl (mapl_cons rfl mapl_nil)) Try.func19 NN_19 NB_19) (Calls.mono h ?_)
            rintro _ w14 ⟨r25, rfl, h⟩
            refine ⟨_, rfl, ?_⟩
            refine wpR_val (v := (Value.bool r25)) (w' := w14) rfl rfl rfl (x_pickF (v := (Value.bool r25)) rfl rfl hc24 rfl) ?_
            refine wpR_nil ?_
            exact ⟨r25, ⟨rfl, e0, e7, e8, e9, e10, e11, e12, trivial⟩, h⟩
        clear h
        rintro c26 ρ w15 ⟨e62, e0, e7, e8, e9, e10, e11, e12, -⟩ h
        replace h := hk c26 w15 h
        clear hk
        refine wpR_nil ?_
        refine wpC_cond (b := c26) e62 (fun hc27 => ?_) (fun hc27 => ?_)
        · replace h := h.1 hc27
          refine wpC_region ?_
          refine wpR_val (v := (Sl.v l18.1)) (w' := w15) rfl rfl rfl (x_move (v := (Sl.v l18.1)) rfl e11) ?_
          refine wpR_val (v := (Value.int .i64 l18.2)) (w' := w15) rfl rfl rfl (x_move (v := (Value.int .i64 l18.2)) rfl e12) ?_
          obtain ⟨b28, hb28⟩ : ∃ u, u = w15.heap.size := ⟨_, rfl⟩
          obtain ⟨w16, hw28⟩ : ∃ u, u = w15.alloc (.cells #[(Value.int .i64 l18.2)] 3) := ⟨_, rfl⟩
          replace h := h b28 w16 hb28 hw28
          refine wpR_val (v := (Sl.v (⟨some ⟨b28, 0, none⟩, 1, 1⟩ : Sl))) (w' := w16) rfl rfl rfl ((x_buildSlice (qs := [(0, (Value.int .i64 l18.2))]) rfl (by rfl) (BS_23_1_0 l18.2)).trans (by rw [← hb28, ← hw28])) ?_
          obtain ⟨r29, w17, q29, h⟩ := h
          refine wpR_val (v := (Sl.v r29)) (w' := w17) rfl rfl rfl (x_append (s := l18.1) (u := (⟨some ⟨b28, 0, none⟩, 1, 1⟩ : Sl)) rfl rfl rfl rfl q29) ?_
          refine wpR_val (v := (Sl.v r29)) (w' := w17) rfl rfl rfl (x_assign (v := (Sl.v r29)) rfl rfl) ?_
          refine wpR_nil ?_
          exact ⟨r29, ⟨rfl, e0, e7, e8, e9, e10, e12, trivial⟩, h⟩
        · replace h := h.2 hc27
          refine wpC_skip ?_
          exact ⟨l18.1, ⟨e11, e0, e7, e8, e9, e10, e12, trivial⟩, h⟩
      clear h
      rintro l21 ρ w12 ⟨e11, e0, e7, e8, e9, e10, e12, -⟩ h
      replace h := hk l21 w12 h
      clear hk
      refine wpC_region ?_
      refine wpR_val (v := (Value.int .i64 l18.2)) (w' := w12) rfl rfl rfl (x_move (v := (Value.int .i64 l18.2)) rfl e12) ?_
      refine wpR_val (v := (Value.int .i64 (IntKind.i64.wrap (l18.2 + 1)))) (w' := w12) rfl rfl rfl (x_add rfl rfl rfl) ?_
      refine wpR_val (v := (Value.int .i64 (IntKind.i64.wrap (l18.2 + 1)))) (w' := w12) rfl rfl rfl (x_assign (v := (Value.int .i64 (IntKind.i64.wrap (l18.2 + 1)))) rfl rfl) ?_
      refine wpR_nil ?_
      exact ⟨(l21, IntKind.i64.wrap (l18.2 + 1)), ⟨e11, rfl, e0, e7, e8, e9, e10, trivial⟩, h⟩
    · replace h := h.2 hc19
      refine wpC_exit ?_
      refine wpC_seq ?_
      refine wpC_cut (fun ρ => ρ 0 = (Sl.v p0) ∧ ρ 7 = (Value.bool r1) ∧ ρ 10 = (Sl.v r17) ∧ ρ 11 = (Sl.v l18.1) ∧ True) ⟨e0, e7, e10, e11, trivial⟩ ?_
      rintro ρ ⟨e0, e7, e10, e11, -⟩
      refine wpC_region ?_
      refine wpR_val (v := (Sl.v p0)) (w' := w11) rfl rfl rfl (x_move (v := (Sl.v p0)) rfl e0) ?_
      obtain ⟨b30, hb30⟩ : ∃ u, u = w11.heap.size := ⟨_, rfl⟩
      obtain ⟨w18, hw30⟩ : ∃ u, u = w11.alloc (.cells #[] 3) := ⟨_, rfl⟩
      replace h := h b30 w18 hb30 hw30
      refine wpR_val (v := (Sl.v (⟨some ⟨b30, 0, none⟩, 0, 0⟩ : Sl))) (w' := w18) rfl rfl rfl ((x_buildSlice (qs := []) rfl (by rfl) (BS_23_0_ )).trans (by rw [← hb30, ← hw30])) ?_
      refine wpR_val (v := (Sl.v r17)) (w' := w18) rfl rfl rfl (x_move (v := (Sl.v r17)) rfl e10) ?_
      obtain ⟨r31, w19, q31, h⟩ := h
      refine wpR_val (v := (Sl.v r31)) (w' := w19) rfl rfl rfl (x_append (s := (⟨some ⟨b30, 0, none⟩, 0, 0⟩ : Sl)) (u := r17) rfl rfl rfl rfl q31) ?_
      refine wpR_val (v := (Sl.v r17)) (w' := w19) rfl rfl rfl (x_move (v := (Sl.v r17)) rfl e10) ?_
      obtain ⟨r32, w20, q32, h⟩ := h
      refine wpR_val (v := (Sl.v r32)) (w' := w20) rfl rfl rfl (x_append (s := r31) (u := r17) rfl rfl rfl rfl q32) ?_
      refine wpR_enter rfl rfl rfl (x_call (vs := [(Sl.v p0), (Sl.v r32)]) rfl rfl (mapl_cons rfl (mapl_cons rfl mapl_nil)) Try.func17 NN_17 NB_17) (Calls.mono h ?_)
      rintro _ w21 ⟨r33, rfl, h⟩
      refine ⟨_, rfl, ?_⟩
      refine wpR_val (v := (Sl.v r33)) (w' := w21) rfl rfl rfl (x_assign (v := (Sl.v r33)) rfl rfl) ?_
      refine wpR_nil ?_
      refine wpC_seq ?_
      refine wpC_cut (fun ρ => ρ 0 = (Sl.v p0) ∧ ρ 7 = (Value.bool r1) ∧ ρ 10 = (Sl.v r17) ∧ ρ 11 = (Sl.v l18.1) ∧ ρ 13 = (Sl.v r33) ∧ True) ⟨e0, e7, e10, e11, rfl, trivial⟩ ?_
      rintro ρ ⟨e0, e7, e10, e11, e13, -⟩
      refine wpC_region ?_
      refine wpR_val (v := (Value.int .i64 0)) (w' := w21) rfl rfl rfl (x_assign (v := (Value.int .i64 0)) rfl rfl) ?_
      refine wpR_nil ?_
      refine wpC_seq ?_
      refine wpC_seq ?_
      refine wpC_cut (fun ρ => ρ 0 = (Sl.v p0) ∧ ρ 7 = (Value.bool r1) ∧ ρ 10 = (Sl.v r17) ∧ ρ 11 = (Sl.v l18.1) ∧ ρ 13 = (Sl.v r33) ∧ ρ 14 = (Value.int .i64 0) ∧ True) ⟨e0, e7, e10, e11, e13, rfl, trivial⟩ ?_
      rintro ρ ⟨e0, e7, e10, e11, e13, e14, -⟩
      refine wpC_region ?_
      refine wpR_val (v := (Value.int .i64 0)) (w' := w21) rfl rfl rfl (x_assign (v := (Value.int .i64 0)) rfl rfl) ?_
      refine wpR_nil ?_
      refine wpC_block ?_
      obtain ⟨I34, μ34, hI34, hr34⟩ := h
      refine wpC_loop (fun (x : Int × Int) ρ => ρ 14 = (Value.int .i64 x.1) ∧ ρ 15 = (Value.int .i64 x.2) ∧ ρ 0 = (Sl.v p0) ∧ ρ 7 = (Value.bool r1) ∧ ρ 10 = (Sl.v r17) ∧ ρ 11 = (Sl.v l18.1) ∧ ρ 13 = (Sl.v r33) ∧ True) I34 μ34 (0, 0) ⟨e14, rfl, e0, e7, e10, e11, e13, trivial⟩ hI34 ?_
      rintro l34 ρ w22 ⟨e14, e15, e0, e7, e10, e11, e13, -⟩ h
      replace h := hr34 l34 w22 h
      clear hr34 hI34
      refine wpC_seq ?_
      refine wpC_seq ?_
      refine wpC_region ?_
      refine wpR_val (v := (Value.int .i64 l34.2)) (w' := w22) rfl rfl rfl (x_move (v := (Value.int .i64 l34.2)) rfl e15) ?_
      refine wpR_val (v := (Sl.v r33)) (w' := w22) rfl rfl rfl (x_move (v := (Sl.v r33)) rfl e13) ?_
      refine wpR_val (v := (Value.int .i64 (r33.len : Int))) (w' := w22) rfl rfl rfl (x_lenS (s := r33) rfl rfl isSliceT_23) ?_
      refine wpR_val (v := (Value.bool (decide (l34.2 < (r33.len : Int))))) (w' := w22) rfl rfl rfl (x_lss rfl rfl rfl) ?_
      refine wpR_nil ?_
      refine wpC_cond (b := decide (l34.2 < (r33.len : Int))) rfl (fun hc35 => ?_) (fun hc35 => ?_)
      · replace h := h.1 hc35
        refine wpC_skip ?_
        refine wpC_seq ?_
        refine wpC_block ?_
        refine wpC_cut (fun ρ => ρ 0 = (Sl.v p0) ∧ ρ 7 = (Value.bool r1) ∧ ρ 10 = (Sl.v r17) ∧ ρ 11 = (Sl.v l18.1) ∧ ρ 13 = (Sl.v r33) ∧ ρ 14 = (Value.int .i64 l34.1) ∧ ρ 15 = (Value.int .i64 l34.2) ∧ True) ⟨e0, e7, e10, e11, e13, e14, e15, trivial⟩ ?_
        rintro ρ ⟨e0, e7, e10, e11, e13, e14, e15, -⟩
        refine wpC_region ?_
        refine wpR_val (v := (Value.int .i64 l34.1)) (w' := w22) rfl rfl rfl (x_move (v := (Value.int .i64 l34.1)) rfl e14) ?_
        refine wpR_val (v := (Sl.v r33)) (w' := w22) rfl rfl rfl (x_move (v := (Sl.v r33)) rfl e13) ?_
        refine wpR_val (v := (Value.int .i64 l34.2)) (w' := w22) rfl rfl rfl (x_move (v := (Value.int .i64 l34.2)) rfl e15) ?_
        obtain ⟨q36, z36, r36, h⟩ := h
        generalize hp36 : z36.add ((l34.2).toNat * 1) = p36 at h
        refine wpR_val (v := (Value.pointer (some p36))) (w' := w22) rfl rfl rfl ((x_indexAddr (s := r33) rfl rfl rfl ES_23 q36 r36).trans (by rw [hp36])) ?_
        obtain ⟨x37, q37, h⟩ := h
        refine wpR_val (v := (Value.int .i64 x37)) (w' := w22) rfl rfl rfl (x_load1 rfl rfl SH_3 q37) ?_
        refine wpR_val (v := (Value.int .i64 (IntKind.i64.wrap (l34.1 + x37)))) (w' := w22) rfl rfl rfl (x_add rfl rfl rfl) ?_
        refine wpR_val (v := (Value.int .i64 (IntKind.i64.wrap (l34.1 + x37)))) (w' := w22) rfl rfl rfl (x_assign (v := (Value.int .i64 (IntKind.i64.wrap (l34.1 + x37)))) rfl rfl) ?_
        refine wpR_nil ?_
        refine wpC_cut (fun ρ => ρ 0 = (Sl.v p0) ∧ ρ 7 = (Value.bool r1) ∧ ρ 10 = (Sl.v r17) ∧ ρ 11 = (Sl.v l18.1) ∧ ρ 13 = (Sl.v r33) ∧ ρ 14 = (Value.int .i64 (IntKind.i64.wrap (l34.1 + x37))) ∧ ρ 15 = (Value.int .i64 l34.2) ∧ True) ⟨e0, e7, e10, e11, e13, rfl, e15, trivial⟩ ?_
        rintro ρ ⟨e0, e7, e10, e11, e13, e14, e15, -⟩
        refine wpC_region ?_
        refine wpR_val (v := (Value.int .i64 l34.2)) (w' := w22) rfl rfl rfl (x_move (v := (Value.int .i64 l34.2)) rfl e15) ?_
        refine wpR_val (v := (Value.int .i64 (IntKind.i64.wrap (l34.2 + 1)))) (w' := w22) rfl rfl rfl (x_add rfl rfl rfl) ?_
        refine wpR_val (v := (Value.int .i64 (IntKind.i64.wrap (l34.2 + 1)))) (w' := w22) rfl rfl rfl (x_assign (v := (Value.int .i64 (IntKind.i64.wrap (l34.2 + 1)))) rfl rfl) ?_
        refine wpR_nil ?_
        exact ⟨(IntKind.i64.wrap (l34.1 + x37), IntKind.i64.wrap (l34.2 + 1)), ⟨e14, rfl, e0, e7, e10, e11, e13, trivial⟩, h⟩
      · replace h := h.2 hc35
        refine wpC_exit ?_
        refine wpC_seq ?_
        refine wpC_cut (fun ρ => ρ 0 = (Sl.v p0) ∧ ρ 7 = (Value.bool r1) ∧ ρ 10 = (Sl.v r17) ∧ ρ 11 = (Sl.v l18.1) ∧ ρ 13 = (Sl.v r33) ∧ ρ 14 = (Value.int .i64 l34.1) ∧ True) ⟨e0, e7, e10, e11, e13, e14, trivial⟩ ?_
        rintro ρ ⟨e0, e7, e10, e11, e13, e14, -⟩
        refine wpC_region ?_
        refine wpR_val (v := (Value.bool r1)) (w' := w22) rfl rfl rfl (x_move (v := (Value.bool r1)) rfl e7) ?_
        refine wpR_val (v := (Value.bool r1)) (w' := w22) rfl rfl rfl (x_move (v := (Value.bool r1)) rfl rfl) ?_
        obtain ⟨J38, h, hk⟩ := h
        refine wpR_joinJ 4 (fun x ρ => ρ 91 = Value.bool x ∧ ρ 0 = (Sl.v p0) ∧ ρ 10 = (Sl.v r17) ∧ ρ 13 = (Sl.v r33) ∧ ρ 14 = (Value.int .i64 l34.1) ∧ True) (J38) ?_ ?_
        · clear hk
          rcases Bool.eq_false_or_eq_true (r1) with hc39 | hc39
          · replace h := h.1 hc39
            refine wpR_val (v := (Sl.v r17)) (w' := w22) (wantG rfl rfl rfl hc39) rfl rfl (x_move (v := (Sl.v r17)) rfl e10) ?_
            refine wpR_val (v := (Sl.v l18.1)) (w' := w22) (wantG rfl rfl rfl hc39) rfl rfl (x_move (v := (Sl.v l18.1)) rfl e11) ?_
            refine wpR_enter (wantG rfl rfl rfl hc39) rfl rfl (x_call (vs := [(Sl.v r17), (Sl.v l18.1)]) rfl rfl (mapl_cons rfl (mapl_cons rfl mapl_nil)) Try.func12 NN_12 NB_12) (Calls.mono h ?_)
            rintro _ w23 ⟨r40, rfl, h⟩
            refine ⟨_, rfl, ?_⟩
            refine wpR_val (v := (Value.bool r40)) (w' := w23) rfl rfl rfl (x_pickT (v := (Value.bool r40)) rfl rfl hc39 rfl) ?_
            refine wpR_nil ?_
            exact ⟨r40, ⟨rfl, e0, e10, e13, e14, trivial⟩, h⟩
          · replace h := h.2 hc39
            refine wpR_pass (wantN rfl rfl rfl hc39) rfl rfl ?_
            refine wpR_pass (wantN rfl rfl rfl hc39) rfl rfl ?_
            refine wpR_pass (wantN rfl rfl rfl hc39) rfl rfl ?_
            refine wpR_val (v := (Value.bool false)) (w' := w22) rfl rfl rfl (x_pickF (v := (Value.bool false)) rfl rfl hc39 rfl) ?_
            refine wpR_nil ?_
            exact ⟨false, ⟨rfl, e0, e10, e13, e14, trivial⟩, h⟩
        clear h
        rintro c41 ρ w24 ⟨e91, e0, e10, e13, e14, -⟩ h
        replace h := hk c41 w24 h
        clear hk
        refine wpR_val (v := (Value.bool c41)) (w' := w24) rfl rfl rfl (x_move (v := (Value.bool c41)) rfl e91) ?_
        obtain ⟨J42, h, hk⟩ := h
        refine wpR_joinJ 6 (fun x ρ => ρ 98 = Value.bool x ∧ ρ 10 = (Sl.v r17) ∧ ρ 13 = (Sl.v r33) ∧ ρ 14 = (Value.int .i64 l34.1) ∧ True) (J42) ?_ ?_
        · clear hk
          rcases Bool.eq_false_or_eq_true (c41) with hc43 | hc43
          · replace h := h.1 hc43
            refine wpR_val (v := (Sl.v p0)) (w' := w24) (wantG rfl rfl rfl hc43) rfl rfl (x_move (v := (Sl.v p0)) rfl e0) ?_
            refine wpR_val (v := (Sl.v r17)) (w' := w24) (wantG rfl rfl rfl hc43) rfl rfl (x_move (v := (Sl.v r17)) rfl e10) ?_
            refine wpR_enter (wantG rfl rfl rfl hc43) rfl rfl (x_call (vs := [(Sl.v p0), (Sl.v r17)]) rfl rfl (mapl_cons rfl (mapl_cons rfl mapl_nil)) Try.func13 NN_13 NB_13) (Calls.mono h ?_)
            rintro _ w25 ⟨r44, rfl, h⟩
            refine ⟨_, rfl, ?_⟩
            refine wpR_val (v := (Sl.v r17)) (w' := w25) (wantG rfl rfl rfl hc43) rfl rfl (x_move (v := (Sl.v r17)) rfl e10) ?_
            refine wpR_enter (wantG rfl rfl rfl hc43) rfl rfl (x_call (vs := [(Sl.v r44), (Sl.v r17)]) rfl rfl (mapl_cons rfl (mapl_cons rfl mapl_nil)) Try.func12 NN_12 NB_12) (Calls.mono h ?_)
            rintro _ w26 ⟨r45, rfl, h⟩
            refine ⟨_, rfl, ?_⟩
            refine wpR_val (v := (Value.bool r45)) (w' := w26) rfl rfl rfl (x_pickT (v := (Value.bool r45)) rfl rfl hc43 rfl) ?_
            refine wpR_nil ?_
            exact ⟨r45, ⟨rfl, e10, e13, e14, trivial⟩, h⟩
          · replace h := h.2 hc43
            refine wpR_pass (wantN rfl rfl rfl hc43) rfl rfl ?_
            refine wpR_pass (wantN rfl rfl rfl hc43) rfl rfl ?_
            refine wpR_pass (wantN rfl rfl rfl hc43) rfl rfl ?_
            refine wpR_pass (wantN rfl rfl rfl hc43) rfl rfl ?_
            refine wpR_pass (wantN rfl rfl rfl hc43) rfl rfl ?_
            refine wpR_val (v := (Value.bool false)) (w' := w24) rfl rfl rfl (x_pickF (v := (Value.bool false)) rfl rfl hc43 rfl) ?_
            refine wpR_nil ?_
            exact ⟨false, ⟨rfl, e10, e13, e14, trivial⟩, h⟩
        clear h
        rintro c46 ρ w27 ⟨e98, e10, e13, e14, -⟩ h
        replace h := hk c46 w27 h
        clear hk
        refine wpR_val (v := (Value.bool c46)) (w' := w27) rfl rfl rfl (x_move (v := (Value.bool c46)) rfl e98) ?_
        refine wpR_joinJ 4 (fun (_ : Unit) ρ => ρ 103 = Value.bool (c46 && (decide ((r33.len : Int) = 8))) ∧ ρ 10 = (Sl.v r17) ∧ ρ 14 = (Value.int .i64 l34.1) ∧ True) (fun _ w => w27 = w) ?_ ?_
        · clear h
          rcases Bool.eq_false_or_eq_true (c46) with hc48 | hc48
          · skip
            refine wpR_val (v := (Sl.v r33)) (w' := w27) (wantG rfl rfl rfl hc48) rfl rfl (x_move (v := (Sl.v r33)) rfl e13) ?_
            refine wpR_val (v := (Value.int .i64 (r33.len : Int))) (w' := w27) (wantG rfl rfl rfl hc48) rfl rfl (x_lenS (s := r33) rfl rfl isSliceT_23) ?_
            refine wpR_val (v := (Value.bool (decide ((r33.len : Int) = 8)))) (w' := w27) (wantG rfl rfl rfl hc48) rfl rfl (x_eql rfl rfl rfl) ?_
            refine wpR_val (v := (Value.bool (decide ((r33.len : Int) = 8)))) (w' := w27) rfl rfl rfl (x_pickT (v := (Value.bool (decide ((r33.len : Int) = 8)))) rfl rfl hc48 rfl) ?_
            refine wpR_nil ?_
            exact ⟨(), ⟨(by rw [hc48]; rfl), e10, e14, trivial⟩, rfl⟩
          · skip
            refine wpR_pass (wantN rfl rfl rfl hc48) rfl rfl ?_
            refine wpR_pass (wantN rfl rfl rfl hc48) rfl rfl ?_
            refine wpR_pass (wantN rfl rfl rfl hc48) rfl rfl ?_
            refine wpR_val (v := (Value.bool false)) (w' := w27) rfl rfl rfl (x_pickF (v := (Value.bool false)) rfl rfl hc48 rfl) ?_
            refine wpR_nil ?_
            exact ⟨(), ⟨(by rw [hc48]; rfl), e10, e14, trivial⟩, rfl⟩
        rintro _ ρ wj ⟨e103, e10, e14, -⟩ rfl
        refine wpR_val (v := (Value.bool (c46 && (decide ((r33.len : Int) = 8))))) (w' := w27) rfl rfl rfl (x_move (v := (Value.bool (c46 && (decide ((r33.len : Int) = 8))))) rfl e103) ?_
        refine wpR_joinJ 5 (fun (_ : Unit) ρ => ρ 109 = Value.bool ((c46 && (decide ((r33.len : Int) = 8))) && (decide (l34.1 = (r17.len : Int)))) ∧ True) (fun _ w => w27 = w) ?_ ?_
        · clear h
          rcases Bool.eq_false_or_eq_true (c46 && (decide ((r33.len : Int) = 8))) with hc50 | hc50
          · skip
            refine wpR_val (v := (Value.int .i64 l34.1)) (w' := w27) (wantG rfl rfl rfl hc50) rfl rfl (x_move (v := (Value.int .i64 l34.1)) rfl e14) ?_
            refine wpR_val (v := (Sl.v r17)) (w' := w27) (wantG rfl rfl rfl hc50) rfl rfl (x_move (v := (Sl.v r17)) rfl e10) ?_
            refine wpR_val (v := (Value.int .i64 (r17.len : Int))) (w' := w27) (wantG rfl rfl rfl hc50) rfl rfl (x_lenS (s := r17) rfl rfl isSliceT_23) ?_
            refine wpR_val (v := (Value.bool (decide (l34.1 = (r17.len : Int))))) (w' := w27) (wantG rfl rfl rfl hc50) rfl rfl (x_eql rfl rfl rfl) ?_
            refine wpR_val (v := (Value.bool (decide (l34.1 = (r17.len : Int))))) (w' := w27) rfl rfl rfl (x_pickT (v := (Value.bool (decide (l34.1 = (r17.len : Int))))) rfl rfl hc50 rfl) ?_
            refine wpR_nil ?_
            exact ⟨(), ⟨(by rw [hc50]; rfl), trivial⟩, rfl⟩
          · skip
            refine wpR_pass (wantN rfl rfl rfl hc50) rfl rfl ?_
            refine wpR_pass (wantN rfl rfl rfl hc50) rfl rfl ?_
            refine wpR_pass (wantN rfl rfl rfl hc50) rfl rfl ?_
            refine wpR_pass (wantN rfl rfl rfl hc50) rfl rfl ?_
            refine wpR_val (v := (Value.bool false)) (w' := w27) rfl rfl rfl (x_pickF (v := (Value.bool false)) rfl rfl hc50 rfl) ?_
            refine wpR_nil ?_
            exact ⟨(), ⟨(by rw [hc50]; rfl), trivial⟩, rfl⟩
        rintro _ ρ wj ⟨e109, -⟩ rfl
        refine wpR_val (v := (Value.bool ((c46 && (decide ((r33.len : Int) = 8))) && (decide (l34.1 = (r17.len : Int)))))) (w' := w27) rfl rfl rfl (x_assign (v := (Value.bool ((c46 && (decide ((r33.len : Int) = 8))) && (decide (l34.1 = (r17.len : Int)))))) rfl e109) ?_
        refine wpR_nil ?_
        refine wpC_ret ?_
        exact ⟨.inl rfl, fun a ha => ⟨_, results_rep1 rfl ha rfl, (c46 && (decide ((r33.len : Int) = 8))) && (decide (l34.1 = (r17.len : Int))), rfl, h⟩⟩

/-- lingualaw41.PlacesAdds -/
def F7 (p0 : Sl) (p1_0 : Int) (p1_1 : Int) (p1_2 : Sl) (p2 : Sl) (w0 : World) (K : Bool → World → Prop) : Prop :=
  nw 32 #[(Value.int .i64 p1_0), (Value.int .i64 p1_1), (Sl.v p1_2)] w0 fun b1 w1 =>
  callC Try.prog 8 #[] (fun (r : Bool) => (Value.bool r)) w1 fun r2 w2 =>
  jn (fun (J4 : Sl → World → Prop) => tk w2 fun w3 =>
    ld (Value.int .i64) ((Addr.mk b1 0 none).add 0) w3 fun x5 =>
    ld (Value.int .i64) ((Addr.mk b1 0 none).add 1) w3 fun x6 =>
    ld Sl.v ((Addr.mk b1 0 none).add 2) w3 fun x7 =>
    (
      nw 32 #[] w3 fun b8 w4 =>
      (w4.cell? ((Addr.mk b1 0 none).add 0) = some (Value.int .i64 x5) ∧ w4.cell? ((Addr.mk b1 0 none).add 1) = some (Value.int .i64 x6) ∧ w4.cell? ((Addr.mk b1 0 none).add 2) = some (Sl.v x7)) ∧
      (
        rn Try.prog (Builtin.append_ #[22, 22] 22 #[Sl.v (⟨some ⟨b8, 0, none⟩, 0, 0⟩ : Sl), Sl.v p0]) Sl.v w4 fun r9 w5 =>
        (w5.cell? ((Addr.mk b1 0 none).add 0) = some (Value.int .i64 x5) ∧ w5.cell? ((Addr.mk b1 0 none).add 1) = some (Value.int .i64 x6) ∧ w5.cell? ((Addr.mk b1 0 none).add 2) = some (Sl.v x7)) ∧
        nw 32 #[(Value.int .i64 x5), (Value.int .i64 x6), (Sl.v x7)] w5 fun b10 w6 =>
        rn Try.prog (Builtin.append_ #[22, 22] 22 #[Sl.v r9, Sl.v (⟨some ⟨b10, 0, none⟩, 1, 1⟩ : Sl)]) Sl.v w6 fun r11 w7 =>
        J4 r11 w7
      )
      ∧
      (
        nw 32 #[(Value.int .i64 x5), (Value.int .i64 x6), (Sl.v x7)] w4 fun b12 w8 =>
        rn Try.prog (Builtin.append_ #[22, 22] 22 #[Sl.v (⟨some ⟨b8, 0, none⟩, 0, 0⟩ : Sl), Sl.v p0]) Sl.v w8 fun r13 w9 =>
        rn Try.prog (Builtin.append_ #[22, 22] 22 #[Sl.v r13, Sl.v (⟨some ⟨b12, 0, none⟩, 1, 1⟩ : Sl)]) Sl.v w9 fun r14 w10 =>
        J4 r14 w10
      )
    )
    ∧
    (
      nw 32 #[(Value.int .i64 x5), (Value.int .i64 x6), (Sl.v x7)] w3 fun b15 w11 =>
      nw 32 #[] w11 fun b16 w12 =>
      rn Try.prog (Builtin.append_ #[22, 22] 22 #[Sl.v (⟨some ⟨b16, 0, none⟩, 0, 0⟩ : Sl), Sl.v p0]) Sl.v w12 fun r17 w13 =>
      rn Try.prog (Builtin.append_ #[22, 22] 22 #[Sl.v r17, Sl.v (⟨some ⟨b15, 0, none⟩, 1, 1⟩ : Sl)]) Sl.v w13 fun r18 w14 =>
      J4 r18 w14
    )
  )
  fun l19 w15 =>
  callC Try.prog 9 #[(Sl.v l19), (Value.int .i64 30)] (fun (r : Bool) => (Value.bool r)) w15 fun r20 w16 =>
  jn (fun J23 => cnd ((!r20) || (decide (40 < (p2.len : Int))))
    (
    J23 true w16
    )
    (
    callC Try.prog 10 #[(Sl.v p0)] (fun (r : Bool) => (Value.bool r)) w16 fun r25 w17 =>
    J23 (!r25) w17
    ))
  fun c26 w18 =>
  cnd (c26)
    (
    K r2 w18
    )
    (
    ld (Value.int .i64) ((Addr.mk b1 0 none).add 0) w18 fun x28 =>
    jp (fun J29 => cnd (decide (0 ≤ x28))
      (
      ld (Value.int .i64) ((Addr.mk b1 0 none).add 0) w18 fun x31 =>
      J29 (decide (x31 < 8))
      )
      (
      J29 false
      ))
    fun c32 =>
    jp (fun J33 => cnd (c32)
      (
      ld (Value.int .i64) ((Addr.mk b1 0 none).add 1) w18 fun x35 =>
      J33 (decide (0 ≤ x35))
      )
      (
      J33 false
      ))
    fun c36 =>
    jp (fun J37 => cnd (c36)
      (
      ld (Value.int .i64) ((Addr.mk b1 0 none).add 1) w18 fun x39 =>
      J37 (decide (x39 ≤ 1099511627776))
      )
      (
      J37 false
      ))
    fun c40 =>
    lp (fun (next41 : (Bool × Int) → World → Prop) l41 w19 =>
      ld Sl.v ((Addr.mk b1 0 none).add 2) w19 fun x42 =>
      cnd (decide (l41.2 < (x42.len : Int)))
        (
        jn (fun (J45 : Bool → World → Prop) => tk w19 fun w20 =>
          cnd (l41.1)
            (
            ld Sl.v ((Addr.mk b1 0 none).add 2) w20 fun x47 =>
            ix x47 l41.2 1 fun p48 =>
            ld (Value.int .i64) p48 w20 fun x49 =>
            cnd (decide (0 ≤ x49))
              (
              ld Sl.v ((Addr.mk b1 0 none).add 2) w20 fun x51 =>
              ix x51 l41.2 1 fun p52 =>
              ld (Value.int .i64) p52 w20 fun x53 =>
              cnd (decide (x53 < (p0.len : Int)))
                (
                cnd (decide (l41.2 = 0))
                  (
                  J45 true w20
                  )
                  (
                  ld Sl.v ((Addr.mk b1 0 none).add 2) w20 fun x56 =>
                  ix x56 (max (IntKind.i64.wrap (l41.2 - 1)) 0) 1 fun p57 =>
                  ld (Value.int .i64) p57 w20 fun x58 =>
                  ld Sl.v ((Addr.mk b1 0 none).add 2) w20 fun x59 =>
                  ix x59 l41.2 1 fun p60 =>
                  ld (Value.int .i64) p60 w20 fun x61 =>
                  J45 (decide (x58 < x61)) w20
                  )
                )
                (
                J45 false w20
                )
              )
              (
              cnd (false)
                (
                cnd (decide (l41.2 = 0))
                  (
                  J45 true w20
                  )
                  (
                  ld Sl.v ((Addr.mk b1 0 none).add 2) w20 fun x64 =>
                  ix x64 (max (IntKind.i64.wrap (l41.2 - 1)) 0) 1 fun p65 =>
                  ld (Value.int .i64) p65 w20 fun x66 =>
                  ld Sl.v ((Addr.mk b1 0 none).add 2) w20 fun x67 =>
                  ix x67 l41.2 1 fun p68 =>
                  ld (Value.int .i64) p68 w20 fun x69 =>
                  J45 (decide (x66 < x69)) w20
                  )
                )
                (
                J45 false w20
                )
              )
            )
            (
            cnd (false)
              (
              ld Sl.v ((Addr.mk b1 0 none).add 2) w20 fun x71 =>
              ix x71 l41.2 1 fun p72 =>
              ld (Value.int .i64) p72 w20 fun x73 =>
              cnd (decide (x73 < (p0.len : Int)))
                (
                cnd (decide (l41.2 = 0))
                  (
                  J45 true w20
                  )
                  (
                  ld Sl.v ((Addr.mk b1 0 none).add 2) w20 fun x76 =>
                  ix x76 (max (IntKind.i64.wrap (l41.2 - 1)) 0) 1 fun p77 =>
                  ld (Value.int .i64) p77 w20 fun x78 =>
                  ld Sl.v ((Addr.mk b1 0 none).add 2) w20 fun x79 =>
                  ix x79 l41.2 1 fun p80 =>
                  ld (Value.int .i64) p80 w20 fun x81 =>
                  J45 (decide (x78 < x81)) w20
                  )
                )
                (
                J45 false w20
                )
              )
              (
              cnd (false)
                (
                cnd (decide (l41.2 = 0))
                  (
                  J45 true w20
                  )
                  (
                  ld Sl.v ((Addr.mk b1 0 none).add 2) w20 fun x84 =>
                  ix x84 (max (IntKind.i64.wrap (l41.2 - 1)) 0) 1 fun p85 =>
                  ld (Value.int .i64) p85 w20 fun x86 =>
                  ld Sl.v ((Addr.mk b1 0 none).add 2) w20 fun x87 =>
                  ix x87 l41.2 1 fun p88 =>
                  ld (Value.int .i64) p88 w20 fun x89 =>
                  J45 (decide (x86 < x89)) w20
                  )
                )
                (
                J45 false w20
                )
              )
            )
        )
        fun l90 w21 =>
        next41 (l90, IntKind.i64.wrap (l41.2 + 1)) w21
        )
        (
        callC Try.prog 10 #[(Sl.v l19)] (fun (r : Bool) => (Value.bool r)) w19 fun r91 w22 =>
        cnd (!(r91 == l41.1))
          (
          K false w22
          )
          (
          callC Try.prog 13 #[(Sl.v p0), (Sl.v p2)] (fun (r : Sl) => (Sl.v r)) w22 fun r93 w23 =>
          callC Try.prog 13 #[(Sl.v l19), (Sl.v p2)] (fun (r : Sl) => (Sl.v r)) w23 fun r94 w24 =>
          cnd (!l41.1)
            (
            jn (fun J98 => cnd (r2 && (decide ((r94.len : Int) = 0)))
              (
              callC Try.prog 15 #[(Sl.v l19), (Sl.v p2)] (fun (r : Sl) => (Sl.v r)) w24 fun r100 w25 =>
              J98 (decide ((r100.len : Int) = 0)) w25
              )
              (
              J98 false w24
              ))
            fun c101 w26 =>
            jn (fun J102 => cnd (c101)
              (
              callC Try.prog 17 #[(Sl.v l19), (Sl.v p2)] (fun (r : Sl) => (Sl.v r)) w26 fun r104 w27 =>
              J102 (decide ((r104.len : Int) = 0)) w27
              )
              (
              J102 false w26
              ))
            fun c105 w28 =>
            K c105 w28
            )
            (
            callC Try.prog 19 #[(Sl.v p2), (Value.int .i64 (p0.len : Int))] (fun (r : Bool) => (Value.bool r)) w24 fun r106 w29 =>
            lp (fun (next107 : (Bool × Int) → World → Prop) l107 w30 =>
              ld Sl.v ((Addr.mk b1 0 none).add 2) w30 fun x108 =>
              cnd (decide (l107.2 < (x108.len : Int)))
                (
                jn (fun J110 => cnd (l107.1)
                  (
                  J110 true w30
                  )
                  (
                  ld Sl.v ((Addr.mk b1 0 none).add 2) w30 fun x112 =>
                  ix x112 l107.2 1 fun p113 =>
                  ld (Value.int .i64) p113 w30 fun x114 =>
                  callC Try.prog 19 #[(Sl.v r93), (Value.int .i64 x114)] (fun (r : Bool) => (Value.bool r)) w30 fun r115 w31 =>
                  J110 r115 w31
                  ))
                fun c116 w32 =>
                next107 (c116, IntKind.i64.wrap (l107.2 + 1)) w32
                )
                (
                nw 3 #[] w30 fun b117 w33 =>
                rn Try.prog (Builtin.append_ #[23, 23] 23 #[Sl.v (⟨some ⟨b117, 0, none⟩, 0, 0⟩ : Sl), Sl.v r93]) Sl.v w33 fun r118 w34 =>
                jn (fun (J119 : Sl → World → Prop) =>
                  cnd (l107.1)
                    (
                    nw 3 #[(Value.int .i64 (p0.len : Int))] w34 fun b122 w36 =>
                    rn Try.prog (Builtin.append_ #[23, 23] 23 #[Sl.v r118, Sl.v (⟨some ⟨b122, 0, none⟩, 1, 1⟩ : Sl)]) Sl.v w36 fun r123 w37 =>
                    J119 r123 w37
                    )
                    (
                    J119 r118 w34
                    )
                )
                fun l120 w35 =>
                nw 3 #[(Value.int .i64 (p0.len : Int)), (Value.int .i64 (p0.len : Int)), (Value.int .i64 (-1))] w35 fun b124 w38 =>
                callC Try.prog 17 #[(Sl.v l19), (Sl.v (⟨some ⟨b124, 0, none⟩, 3, 3⟩ : Sl))] (fun (r : Sl) => (Sl.v r)) w38 fun r125 w39 =>
                cnd (!decide ((r125.len : Int) = 8))
                  (
                  K false w39
                  )
                  (
                  lp (fun (next127 : Int → World → Prop) l127 w40 =>
                    cnd (decide (l127 < (r125.len : Int)))
                      (
                      ix r125 l127 1 fun p129 =>
                      ld (Value.int .i64) p129 w40 fun x130 =>
                      jp (fun J131 => cnd (!decide (x130 = 0))
                        (
                        ld (Value.int .i64) ((Addr.mk b1 0 none).add 0) w40 fun x133 =>
                        J131 (!decide (l127 = x133))
                        )
                        (
                        J131 false
                        ))
                      fun c134 =>
                      jp (fun J135 => cnd (c134)
                        (
                        J135 true
                        )
                        (
                        ld (Value.int .i64) ((Addr.mk b1 0 none).add 0) w40 fun x137 =>
                        jp (fun J138 => cnd (decide (l127 = x137))
                          (
                          ix r125 l127 1 fun p140 =>
                          ld (Value.int .i64) p140 w40 fun x141 =>
                          J138 (!decide (x141 = 1))
                          )
                          (
                          J138 false
                          ))
                        fun c142 =>
                        J135 c142
                        ))
                      fun c143 =>
                      cnd (c143)
                        (
                        K false w40
                        )
                        (
                        next127 (IntKind.i64.wrap (l127 + 1)) w40
                        )
                      )
                      (
                      jn (fun J145 => cnd (r2)
                        (
                        callC Try.prog 12 #[(Sl.v r94), (Sl.v l120)] (fun (r : Bool) => (Value.bool r)) w40 fun r147 w41 =>
                        J145 r147 w41
                        )
                        (
                        J145 false w40
                        ))
                      fun c148 w42 =>
                      K c148 w42
                      )
                  ) 0 w39
                  )
                )
            ) (r106, 0) w29
            )
          )
        )
    ) (c40, 0) w18
    )
set_option maxRecDepth 100000 in
theorem D7 (p0 : Sl) (p1_0 : Int) (p1_1 : Int) (p1_2 : Sl) (p2 : Sl) (w0 : World) (K : Bool → World → Prop) (h : F7 p0 p1_0 p1_1 p1_2 p2 w0 K) : callC Try.prog 7 #[(Sl.v p0), (Value.agg #[(Value.int .i64 p1_0), (Value.int .i64 p1_1), (Sl.v p1_2)]), (Sl.v p2)] (fun (r : Bool) => (Value.bool r)) w0 K := by
  unfold F7 at h
  refine calls_of_wpC Try.func7 rfl 210 rfl (by simp) ?_
  intro ρ hρ
  have e0 : ρ 0 = (Sl.v p0) := hρ 0
  have e1 : ρ 1 = (Value.agg #[(Value.int .i64 p1_0), (Value.int .i64 p1_1), (Sl.v p1_2)]) := hρ 1
  have e2 : ρ 2 = (Sl.v p2) := hρ 2
  clear hρ
  refine wpC_seq ?_
  refine wpC_region ?_
  obtain ⟨b1, hb1⟩ : ∃ u, u = w0.heap.size := ⟨_, rfl⟩
  obtain ⟨w1, hw1⟩ : ∃ u, u = w0.alloc (.cells #[(Value.int .i64 p1_0), (Value.int .i64 p1_1), (Sl.v p1_2)] 32) := ⟨_, rfl⟩
  replace h := h b1 w1 hb1 hw1
  refine wpR_val (v := (Value.pointer (some (Addr.mk b1 0 none)))) (w' := w1) rfl rfl rfl ((x_box (v := (Value.agg #[(Value.int .i64 p1_0), (Value.int .i64 p1_1), (Sl.v p1_2)])) rfl e1).trans (by rw [hb1, hw1]; rfl)) ?_
  refine wpR_val (v := (Value.bool false)) (w' := w1) rfl rfl rfl (x_assign (v := (Value.bool false)) rfl rfl) ?_
  refine wpR_nil ?_
  refine wpC_seq ?_
  refine wpC_cut (fun ρ => ρ 0 = (Sl.v p0) ∧ ρ 2 = (Sl.v p2) ∧ ρ 4 = (Value.pointer (some (Addr.mk b1 0 none))) ∧ True) ⟨e0, e2, rfl, trivial⟩ ?_
  rintro ρ ⟨e0, e2, e4, -⟩
  refine wpC_region ?_
  refine wpR_enter rfl rfl rfl (x_call (vs := []) rfl rfl mapl_nil Try.func8 NN_8 NB_8) (Calls.mono h ?_)
  rintro _ w2 ⟨r2, rfl, h⟩
  refine ⟨_, rfl, ?_⟩
  refine wpR_val (v := (Value.bool r2)) (w' := w2) rfl rfl rfl (x_assign (v := (Value.bool r2)) rfl rfl) ?_
  refine wpR_nil ?_
  refine wpC_seq ?_
  refine wpC_cut (fun ρ => ρ 0 = (Sl.v p0) ∧ ρ 2 = (Sl.v p2) ∧ ρ 4 = (Value.pointer (some (Addr.mk b1 0 none))) ∧ ρ 7 = (Value.bool r2) ∧ True) ⟨e0, e2, e4, rfl, trivial⟩ ?_
  rintro ρ ⟨e0, e2, e4, e7, -⟩
  obtain ⟨J4, h, hk⟩ := h
  refine wpC_drawJ (by kernel_rfl) (fun (x : Sl) ρ => ρ 8 = (Sl.v x) ∧ ρ 0 = (Sl.v p0) ∧ ρ 2 = (Sl.v p2) ∧ ρ 4 = (Value.pointer (some (Addr.mk b1 0 none))) ∧ ρ 7 = (Value.bool r2) ∧ True) J4 ?_ ?_
  · clear hk
    unfold tk at h
    generalize w2.drew = w3 at h ⊢
    refine wpD_take (v := (Sl.v p0)) 1 (fun _ => True) rfl (by kernel_rfl) (by kernel_rfl) (by kernel_rfl) rfl rfl rfl trivial (fun w _ => (x_move (v := (Sl.v p0)) rfl e0)) ?_
    obtain ⟨x5, q5, h⟩ := h
    obtain ⟨x6, q6, h⟩ := h
    obtain ⟨x7, q7, h⟩ := h
    refine wpD_take (v := (Value.agg #[(Value.int .i64 x5), (Value.int .i64 x6), (Sl.v x7)])) 3 (fun w => w.cell? ((Addr.mk b1 0 none).add 0) = some (Value.int .i64 x5) ∧ w.cell? ((Addr.mk b1 0 none).add 1) = some (Value.int .i64 x6) ∧ w.cell? ((Addr.mk b1 0 none).add 2) = some (Sl.v x7)) rfl (by kernel_rfl) (by kernel_rfl) (by kernel_rfl) rfl rfl rfl ⟨q5, q6, q7⟩ (fun w ⟨q5, q6, q7⟩ => (x_loadN [(Value.int .i64 x5), (Value.int .i64 x6), (Sl.v x7)] rfl e4 SH_32 (CellsAt.out (CellsAt.cons q5 (CellsAt.cons q6 (CellsAt.cons q7 CellsAt.nil)))))) ?_
    refine wpD_all (rs := [0, 4]) (by kernel_rfl) (by simp) (allD_cons ?_ (allD_cons ?_ allD_nil))
    · replace h := h.1
      obtain ⟨b8, hb8⟩ : ∃ u, u = w3.heap.size := ⟨_, rfl⟩
      obtain ⟨w4, hw8⟩ : ∃ u, u = w3.alloc (.cells #[] 32) := ⟨_, rfl⟩
      replace h := h b8 w4 hb8 hw8
      obtain ⟨o3, h⟩ := h
      refine stepD_valL (L' := [(3, fun w => w.cell? ((Addr.mk b1 0 none).add 0) = some (Value.int .i64 x5) ∧ w.cell? ((Addr.mk b1 0 none).add 1) = some (Value.int .i64 x6) ∧ w.cell? ((Addr.mk b1 0 none).add 2) = some (Sl.v x7)), (1, fun _ => True)]) (v := (Sl.v (⟨some ⟨b8, 0, none⟩, 0, 0⟩ : Sl))) (w' := w4) rfl rfl rfl rfl ((x_buildSlice (qs := []) rfl (by rfl) (BS_22_0_ )).trans (by rw [← hb8, ← hw8])) (by kernel_rfl) (held_cons o3 (held_cons trivial held_nil)) ?_
      refine wpD_all (rs := [2, 4]) (by kernel_rfl) (by simp) (allD_cons ?_ (allD_cons ?_ allD_nil))
      · replace h := h.1
        obtain ⟨r9, w5, q9, h⟩ := h
        obtain ⟨o3, h⟩ := h
        refine stepD_valL (L' := [(3, fun w => w.cell? ((Addr.mk b1 0 none).add 0) = some (Value.int .i64 x5) ∧ w.cell? ((Addr.mk b1 0 none).add 1) = some (Value.int .i64 x6) ∧ w.cell? ((Addr.mk b1 0 none).add 2) = some (Sl.v x7))]) (v := (Sl.v r9)) (w' := w5) rfl rfl rfl rfl (x_append (s := (⟨some ⟨b8, 0, none⟩, 0, 0⟩ : Sl)) (u := p0) rfl rfl rfl rfl q9) (by kernel_rfl) (held_cons o3 held_nil) ?_
        refine wpD_all (rs := [4]) (by kernel_rfl) (by simp) (allD_cons ?_ allD_nil)
        obtain ⟨b10, hb10⟩ : ∃ u, u = w5.heap.size := ⟨_, rfl⟩
        obtain ⟨w6, hw10⟩ : ∃ u, u = w5.alloc (.cells #[(Value.int .i64 x5), (Value.int .i64 x6), (Sl.v x7)] 32) := ⟨_, rfl⟩
        replace h := h b10 w6 hb10 hw10
        refine stepD_valL (L' := []) (v := (Sl.v (⟨some ⟨b10, 0, none⟩, 1, 1⟩ : Sl))) (w' := w6) rfl rfl rfl rfl ((x_buildSlice (qs := [(0, (Value.agg #[(Value.int .i64 x5), (Value.int .i64 x6), (Sl.v x7)]))]) rfl (by rfl) (BS_22_1_0 x5 x6 x7)).trans (by rw [← hb10, ← hw10])) (by kernel_rfl) held_nil ?_
        refine wpD_all (rs := [5]) (by kernel_rfl) (by simp) (allD_cons ?_ allD_nil)
        obtain ⟨r11, w7, q11, h⟩ := h
        refine stepD_valL (L' := []) (v := (Sl.v r11)) (w' := w7) rfl rfl rfl rfl (x_append (s := r9) (u := (⟨some ⟨b10, 0, none⟩, 1, 1⟩ : Sl)) rfl rfl rfl rfl q11) (by kernel_rfl) held_nil ?_
        refine wpD_take (v := (Sl.v r11)) 6 (fun _ => True) rfl (by kernel_rfl) (by kernel_rfl) (by kernel_rfl) rfl rfl rfl trivial (fun w _ => (x_assign (v := (Sl.v r11)) rfl rfl)) ?_
        exact wpD_done (by kernel_rfl) ⟨r11, ⟨rfl, e0, e2, e4, e7, trivial⟩, h⟩
      · replace h := h.2
        obtain ⟨b12, hb12⟩ : ∃ u, u = w4.heap.size := ⟨_, rfl⟩
        obtain ⟨w8, hw12⟩ : ∃ u, u = w4.alloc (.cells #[(Value.int .i64 x5), (Value.int .i64 x6), (Sl.v x7)] 32) := ⟨_, rfl⟩
        replace h := h b12 w8 hb12 hw12
        refine stepD_valL (L' := [(1, fun _ => True)]) (v := (Sl.v (⟨some ⟨b12, 0, none⟩, 1, 1⟩ : Sl))) (w' := w8) rfl rfl rfl rfl ((x_buildSlice (qs := [(0, (Value.agg #[(Value.int .i64 x5), (Value.int .i64 x6), (Sl.v x7)]))]) rfl (by rfl) (BS_22_1_0 x5 x6 x7)).trans (by rw [← hb12, ← hw12])) (by kernel_rfl) (held_cons trivial held_nil) ?_
        refine wpD_all (rs := [2]) (by kernel_rfl) (by simp) (allD_cons ?_ allD_nil)
        obtain ⟨r13, w9, q13, h⟩ := h
        refine stepD_valL (L' := []) (v := (Sl.v r13)) (w' := w9) rfl rfl rfl rfl (x_append (s := (⟨some ⟨b8, 0, none⟩, 0, 0⟩ : Sl)) (u := p0) rfl rfl rfl rfl q13) (by kernel_rfl) held_nil ?_
        refine wpD_all (rs := [5]) (by kernel_rfl) (by simp) (allD_cons ?_ allD_nil)
        obtain ⟨r14, w10, q14, h⟩ := h
        refine stepD_valL (L' := []) (v := (Sl.v r14)) (w' := w10) rfl rfl rfl rfl (x_append (s := r13) (u := (⟨some ⟨b12, 0, none⟩, 1, 1⟩ : Sl)) rfl rfl rfl rfl q14) (by kernel_rfl) held_nil ?_
        refine wpD_take (v := (Sl.v r14)) 6 (fun _ => True) rfl (by kernel_rfl) (by kernel_rfl) (by kernel_rfl) rfl rfl rfl trivial (fun w _ => (x_assign (v := (Sl.v r14)) rfl rfl)) ?_
        exact wpD_done (by kernel_rfl) ⟨r14, ⟨rfl, e0, e2, e4, e7, trivial⟩, h⟩
    · replace h := h.2
      obtain ⟨b15, hb15⟩ : ∃ u, u = w3.heap.size := ⟨_, rfl⟩
      obtain ⟨w11, hw15⟩ : ∃ u, u = w3.alloc (.cells #[(Value.int .i64 x5), (Value.int .i64 x6), (Sl.v x7)] 32) := ⟨_, rfl⟩
      replace h := h b15 w11 hb15 hw15
      refine stepD_valL (L' := [(1, fun _ => True)]) (v := (Sl.v (⟨some ⟨b15, 0, none⟩, 1, 1⟩ : Sl))) (w' := w11) rfl rfl rfl rfl ((x_buildSlice (qs := [(0, (Value.agg #[(Value.int .i64 x5), (Value.int .i64 x6), (Sl.v x7)]))]) rfl (by rfl) (BS_22_1_0 x5 x6 x7)).trans (by rw [← hb15, ← hw15])) (by kernel_rfl) (held_cons trivial held_nil) ?_
      refine wpD_all (rs := [0]) (by kernel_rfl) (by simp) (allD_cons ?_ allD_nil)
      obtain ⟨b16, hb16⟩ : ∃ u, u = w11.heap.size := ⟨_, rfl⟩
      obtain ⟨w12, hw16⟩ : ∃ u, u = w11.alloc (.cells #[] 32) := ⟨_, rfl⟩
      replace h := h b16 w12 hb16 hw16
      refine stepD_valL (L' := [(1, fun _ => True)]) (v := (Sl.v (⟨some ⟨b16, 0, none⟩, 0, 0⟩ : Sl))) (w' := w12) rfl rfl rfl rfl ((x_buildSlice (qs := []) rfl (by rfl) (BS_22_0_ )).trans (by rw [← hb16, ← hw16])) (by kernel_rfl) (held_cons trivial held_nil) ?_
      refine wpD_all (rs := [2]) (by kernel_rfl) (by simp) (allD_cons ?_ allD_nil)
      obtain ⟨r17, w13, q17, h⟩ := h
      refine stepD_valL (L' := []) (v := (Sl.v r17)) (w' := w13) rfl rfl rfl rfl (x_append (s := (⟨some ⟨b16, 0, none⟩, 0, 0⟩ : Sl)) (u := p0) rfl rfl rfl rfl q17) (by kernel_rfl) held_nil ?_
      refine wpD_all (rs := [5]) (by kernel_rfl) (by simp) (allD_cons ?_ allD_nil)
      obtain ⟨r18, w14, q18, h⟩ := h
      refine stepD_valL (L' := []) (v := (Sl.v r18)) (w' := w14) rfl rfl rfl rfl (x_append (s := r17) (u := (⟨some ⟨b15, 0, none⟩, 1, 1⟩ : Sl)) rfl rfl rfl rfl q18) (by kernel_rfl) held_nil ?_
      refine wpD_take (v := (Sl.v r18)) 6 (fun _ => True) rfl (by kernel_rfl) (by kernel_rfl) (by kernel_rfl) rfl rfl rfl trivial (fun w _ => (x_assign (v := (Sl.v r18)) rfl rfl)) ?_
      exact wpD_done (by kernel_rfl) ⟨r18, ⟨rfl, e0, e2, e4, e7, trivial⟩, h⟩
  clear h
  rintro l19 ρ w15 ⟨e8, e0, e2, e4, e7, -⟩ h
  replace h := hk l19 w15 h
  clear hk
  refine wpC_seq ?_
  refine wpC_seq ?_
  refine wpC_region ?_
  refine wpR_val (v := (Sl.v l19)) (w' := w15) rfl rfl rfl (x_move (v := (Sl.v l19)) rfl e8) ?_
  refine wpR_enter rfl rfl rfl (x_call (vs := [(Sl.v l19), (Value.int .i64 30)]) rfl rfl (mapl_cons rfl (mapl_cons rfl mapl_nil)) Try.func9 NN_9 NB_9) (Calls.mono h ?_)
  rintro _ w16 ⟨r20, rfl, h⟩
  refine ⟨_, rfl, ?_⟩
  refine wpR_val (v := (Value.bool (!r20))) (w' := w16) rfl rfl rfl (x_not rfl rfl) ?_
  refine wpR_val (v := (Value.bool (!r20))) (w' := w16) rfl rfl rfl (x_move (v := (Value.bool (!r20))) rfl rfl) ?_
  refine wpR_joinJ 4 (fun (_ : Unit) ρ => ρ 32 = Value.bool ((!r20) || (decide (40 < (p2.len : Int)))) ∧ ρ 0 = (Sl.v p0) ∧ ρ 2 = (Sl.v p2) ∧ ρ 4 = (Value.pointer (some (Addr.mk b1 0 none))) ∧ ρ 7 = (Value.bool r2) ∧ ρ 8 = (Sl.v l19) ∧ True) (fun _ w => w16 = w) ?_ ?_
  · clear h
    rcases Bool.eq_false_or_eq_true (!r20) with hc22 | hc22
    · skip
      refine wpR_pass (wantN rfl rfl rfl hc22) rfl rfl ?_
      refine wpR_pass (wantN rfl rfl rfl hc22) rfl rfl ?_
      refine wpR_pass (wantN rfl rfl rfl hc22) rfl rfl ?_
      refine wpR_val (v := (Value.bool true)) (w' := w16) rfl rfl rfl (x_pickT (v := (Value.bool true)) rfl rfl hc22 rfl) ?_
      refine wpR_nil ?_
      exact ⟨(), ⟨(by rw [hc22]; rfl), e0, e2, e4, e7, e8, trivial⟩, rfl⟩
    · skip
      refine wpR_val (v := (Sl.v p2)) (w' := w16) (wantG rfl rfl rfl hc22) rfl rfl (x_move (v := (Sl.v p2)) rfl e2) ?_
      refine wpR_val (v := (Value.int .i64 (p2.len : Int))) (w' := w16) (wantG rfl rfl rfl hc22) rfl rfl (x_lenS (s := p2) rfl rfl isSliceT_23) ?_
      refine wpR_val (v := (Value.bool (decide (40 < (p2.len : Int))))) (w' := w16) (wantG rfl rfl rfl hc22) rfl rfl (x_gtr rfl rfl rfl) ?_
      refine wpR_val (v := (Value.bool (decide (40 < (p2.len : Int))))) (w' := w16) rfl rfl rfl (x_pickF (v := (Value.bool (decide (40 < (p2.len : Int))))) rfl rfl hc22 rfl) ?_
      refine wpR_nil ?_
      exact ⟨(), ⟨(by rw [hc22]; rfl), e0, e2, e4, e7, e8, trivial⟩, rfl⟩
  rintro _ ρ wj ⟨e32, e0, e2, e4, e7, e8, -⟩ rfl
  refine wpR_val (v := (Value.bool ((!r20) || (decide (40 < (p2.len : Int)))))) (w' := w16) rfl rfl rfl (x_move (v := (Value.bool ((!r20) || (decide (40 < (p2.len : Int)))))) rfl e32) ?_
  obtain ⟨J23, h, hk⟩ := h
  refine wpR_joinJ 4 (fun x ρ => ρ 37 = Value.bool x ∧ ρ 0 = (Sl.v p0) ∧ ρ 2 = (Sl.v p2) ∧ ρ 4 = (Value.pointer (some (Addr.mk b1 0 none))) ∧ ρ 7 = (Value.bool r2) ∧ ρ 8 = (Sl.v l19) ∧ True) (J23) ?_ ?_
  · clear hk
    rcases Bool.eq_false_or_eq_true ((!r20) || (decide (40 < (p2.len : Int)))) with hc24 | hc24
    · replace h := h.1 hc24
      refine wpR_pass (wantN rfl rfl rfl hc24) rfl rfl ?_
      refine wpR_pass (wantN rfl rfl rfl hc24) rfl rfl ?_
      refine wpR_pass (wantN rfl rfl rfl hc24) rfl rfl ?_
      refine wpR_val (v := (Value.bool true)) (w' := w16) rfl rfl rfl (x_pickT (v := (Value.bool true)) rfl rfl hc24 rfl) ?_
      refine wpR_nil ?_
      exact ⟨true, ⟨rfl, e0, e2, e4, e7, e8, trivial⟩, h⟩
    · replace h := h.2 hc24
      refine wpR_val (v := (Sl.v p0)) (w' := w16) (wantG rfl rfl rfl hc24) rfl rfl (x_move (v := (Sl.v p0)) rfl e0) ?_
      refine wpR_enter (wantG rfl rfl rfl hc24) rfl rfl (x_call (vs := [(Sl.v p0)]) rfl rfl (mapl_cons rfl mapl_nil) Try.func10 NN_10 NB_10) (Calls.mono h ?_)
      rintro _ w17 ⟨r25, rfl, h⟩
      refine ⟨_, rfl, ?_⟩
      refine wpR_val (v := (Value.bool (!r25))) (w' := w17) (wantG rfl rfl rfl hc24) rfl rfl (x_not rfl rfl) ?_
      refine wpR_val (v := (Value.bool (!r25))) (w' := w17) rfl rfl rfl (x_pickF (v := (Value.bool (!r25))) rfl rfl hc24 rfl) ?_
      refine wpR_nil ?_
      exact ⟨!r25, ⟨rfl, e0, e2, e4, e7, e8, trivial⟩, h⟩
  clear h
  rintro c26 ρ w18 ⟨e37, e0, e2, e4, e7, e8, -⟩ h
  replace h := hk c26 w18 h
  clear hk
  refine wpR_nil ?_
  refine wpC_cond (b := c26) e37 (fun hc27 => ?_) (fun hc27 => ?_)
  · replace h := h.1 hc27
    refine wpC_seq ?_
    refine wpC_region ?_
    refine wpR_val (v := (Value.bool r2)) (w' := w18) rfl rfl rfl (x_move (v := (Value.bool r2)) rfl e7) ?_
    refine wpR_val (v := (Value.bool r2)) (w' := w18) rfl rfl rfl (x_assign (v := (Value.bool r2)) rfl rfl) ?_
    refine wpR_nil ?_
    refine wpC_ret ?_
    exact ⟨.inl rfl, fun a ha => ⟨_, results_rep1 rfl ha rfl, r2, rfl, h⟩⟩
  · replace h := h.2 hc27
    refine wpC_skip ?_
    refine wpC_seq ?_
    refine wpC_region ?_
    refine wpR_val (v := (Value.pointer (some ((Addr.mk b1 0 none).add 0)))) (w' := w18) rfl rfl rfl (x_fieldAddr rfl e4 FA_32_0) ?_
    obtain ⟨x28, q28, h⟩ := h
    refine wpR_val (v := (Value.int .i64 x28)) (w' := w18) rfl rfl rfl (x_load1 rfl rfl SH_3 q28) ?_
    refine wpR_val (v := (Value.bool (decide (0 ≤ x28)))) (w' := w18) rfl rfl rfl (x_geq rfl rfl rfl) ?_
    refine wpR_val (v := (Value.bool (decide (0 ≤ x28)))) (w' := w18) rfl rfl rfl (x_move (v := (Value.bool (decide (0 ≤ x28)))) rfl rfl) ?_
    obtain ⟨J29, h, hk⟩ := h
    refine wpR_joinJ 4 (fun x ρ => ρ 46 = Value.bool x ∧ ρ 0 = (Sl.v p0) ∧ ρ 2 = (Sl.v p2) ∧ ρ 4 = (Value.pointer (some (Addr.mk b1 0 none))) ∧ ρ 7 = (Value.bool r2) ∧ ρ 8 = (Sl.v l19) ∧ True) (fun x w => J29 x ∧ w18 = w) ?_ ?_
    · clear hk
      rcases Bool.eq_false_or_eq_true (decide (0 ≤ x28)) with hc30 | hc30
      · replace h := h.1 hc30
        refine wpR_val (v := (Value.pointer (some ((Addr.mk b1 0 none).add 0)))) (w' := w18) (wantG rfl rfl rfl hc30) rfl rfl (x_fieldAddr rfl e4 FA_32_0) ?_
        obtain ⟨x31, q31, h⟩ := h
        refine wpR_val (v := (Value.int .i64 x31)) (w' := w18) (wantG rfl rfl rfl hc30) rfl rfl (x_load1 rfl rfl SH_3 q31) ?_
        refine wpR_val (v := (Value.bool (decide (x31 < 8)))) (w' := w18) (wantG rfl rfl rfl hc30) rfl rfl (x_lss rfl rfl rfl) ?_
        refine wpR_val (v := (Value.bool (decide (x31 < 8)))) (w' := w18) rfl rfl rfl (x_pickT (v := (Value.bool (decide (x31 < 8)))) rfl rfl hc30 rfl) ?_
        refine wpR_nil ?_
        exact ⟨decide (x31 < 8), ⟨rfl, e0, e2, e4, e7, e8, trivial⟩, h, rfl⟩
      · replace h := h.2 hc30
        refine wpR_pass (wantN rfl rfl rfl hc30) rfl rfl ?_
        refine wpR_pass (wantN rfl rfl rfl hc30) rfl rfl ?_
        refine wpR_pass (wantN rfl rfl rfl hc30) rfl rfl ?_
        refine wpR_val (v := (Value.bool false)) (w' := w18) rfl rfl rfl (x_pickF (v := (Value.bool false)) rfl rfl hc30 rfl) ?_
        refine wpR_nil ?_
        exact ⟨false, ⟨rfl, e0, e2, e4, e7, e8, trivial⟩, h, rfl⟩
    clear h
    rintro c32 ρ wj ⟨e46, e0, e2, e4, e7, e8, -⟩ ⟨h, rfl⟩
    replace h := hk c32 h
    clear hk
    refine wpR_val (v := (Value.bool c32)) (w' := w18) rfl rfl rfl (x_move (v := (Value.bool c32)) rfl e46) ?_
    obtain ⟨J33, h, hk⟩ := h
    refine wpR_joinJ 4 (fun x ρ => ρ 51 = Value.bool x ∧ ρ 0 = (Sl.v p0) ∧ ρ 2 = (Sl.v p2) ∧ ρ 4 = (Value.pointer (some (Addr.mk b1 0 none))) ∧ ρ 7 = (Value.bool r2) ∧ ρ 8 = (Sl.v l19) ∧ True) (fun x w => J33 x ∧ w18 = w) ?_ ?_
    · clear hk
      rcases Bool.eq_false_or_eq_true (c32) with hc34 | hc34
      · replace h := h.1 hc34
        refine wpR_val (v := (Value.pointer (some ((Addr.mk b1 0 none).add 1)))) (w' := w18) (wantG rfl rfl rfl hc34) rfl rfl (x_fieldAddr rfl e4 FA_32_1) ?_
        obtain ⟨x35, q35, h⟩ := h
        refine wpR_val (v := (Value.int .i64 x35)) (w' := w18) (wantG rfl rfl rfl hc34) rfl rfl (x_load1 rfl rfl SH_3 q35) ?_
        refine wpR_val (v := (Value.bool (decide (0 ≤ x35)))) (w' := w18) (wantG rfl rfl rfl hc34) rfl rfl (x_geq rfl rfl rfl) ?_
        refine wpR_val (v := (Value.bool (decide (0 ≤ x35)))) (w' := w18) rfl rfl rfl (x_pickT (v := (Value.bool (decide (0 ≤ x35)))) rfl rfl hc34 rfl) ?_
        refine wpR_nil ?_
        exact ⟨decide (0 ≤ x35), ⟨rfl, e0, e2, e4, e7, e8, trivial⟩, h, rfl⟩
      · replace h := h.2 hc34
        refine wpR_pass (wantN rfl rfl rfl hc34) rfl rfl ?_
        refine wpR_pass (wantN rfl rfl rfl hc34) rfl rfl ?_
        refine wpR_pass (wantN rfl rfl rfl hc34) rfl rfl ?_
        refine wpR_val (v := (Value.bool false)) (w' := w18) rfl rfl rfl (x_pickF (v := (Value.bool false)) rfl rfl hc34 rfl) ?_
        refine wpR_nil ?_
        exact ⟨false, ⟨rfl, e0, e2, e4, e7, e8, trivial⟩, h, rfl⟩
    clear h
    rintro c36 ρ wj ⟨e51, e0, e2, e4, e7, e8, -⟩ ⟨h, rfl⟩
    replace h := hk c36 h
    clear hk
    refine wpR_val (v := (Value.bool c36)) (w' := w18) rfl rfl rfl (x_move (v := (Value.bool c36)) rfl e51) ?_
    obtain ⟨J37, h, hk⟩ := h
    refine wpR_joinJ 4 (fun x ρ => ρ 56 = Value.bool x ∧ ρ 0 = (Sl.v p0) ∧ ρ 2 = (Sl.v p2) ∧ ρ 4 = (Value.pointer (some (Addr.mk b1 0 none))) ∧ ρ 7 = (Value.bool r2) ∧ ρ 8 = (Sl.v l19) ∧ True) (fun x w => J37 x ∧ w18 = w) ?_ ?_
    · clear hk
      rcases Bool.eq_false_or_eq_true (c36) with hc38 | hc38
      · replace h := h.1 hc38
        refine wpR_val (v := (Value.pointer (some ((Addr.mk b1 0 none).add 1)))) (w' := w18) (wantG rfl rfl rfl hc38) rfl rfl (x_fieldAddr rfl e4 FA_32_1) ?_
        obtain ⟨x39, q39, h⟩ := h
        refine wpR_val (v := (Value.int .i64 x39)) (w' := w18) (wantG rfl rfl rfl hc38) rfl rfl (x_load1 rfl rfl SH_3 q39) ?_
        refine wpR_val (v := (Value.bool (decide (x39 ≤ 1099511627776)))) (w' := w18) (wantG rfl rfl rfl hc38) rfl rfl (x_leq rfl rfl rfl) ?_
        refine wpR_val (v := (Value.bool (decide (x39 ≤ 1099511627776)))) (w' := w18) rfl rfl rfl (x_pickT (v := (Value.bool (decide (x39 ≤ 1099511627776)))) rfl rfl hc38 rfl) ?_
        refine wpR_nil ?_
        exact ⟨decide (x39 ≤ 1099511627776), ⟨rfl, e0, e2, e4, e7, e8, trivial⟩, h, rfl⟩
      · replace h := h.2 hc38
        refine wpR_pass (wantN rfl rfl rfl hc38) rfl rfl ?_
        refine wpR_pass (wantN rfl rfl rfl hc38) rfl rfl ?_
        refine wpR_pass (wantN rfl rfl rfl hc38) rfl rfl ?_
        refine wpR_val (v := (Value.bool false)) (w' := w18) rfl rfl rfl (x_pickF (v := (Value.bool false)) rfl rfl hc38 rfl) ?_
        refine wpR_nil ?_
        exact ⟨false, ⟨rfl, e0, e2, e4, e7, e8, trivial⟩, h, rfl⟩
    clear h
    rintro c40 ρ wj ⟨e56, e0, e2, e4, e7, e8, -⟩ ⟨h, rfl⟩
    replace h := hk c40 h
    clear hk
    refine wpR_val (v := (Value.bool c40)) (w' := w18) rfl rfl rfl (x_assign (v := (Value.bool c40)) rfl e56) ?_
    refine wpR_nil ?_
    refine wpC_seq ?_
    refine wpC_seq ?_
    refine wpC_cut (fun ρ => ρ 0 = (Sl.v p0) ∧ ρ 2 = (Sl.v p2) ∧ ρ 4 = (Value.pointer (some (Addr.mk b1 0 none))) ∧ ρ 7 = (Value.bool r2) ∧ ρ 8 = (Sl.v l19) ∧ ρ 9 = (Value.bool c40) ∧ True) ⟨e0, e2, e4, e7, e8, rfl, trivial⟩ ?_
    rintro ρ ⟨e0, e2, e4, e7, e8, e9, -⟩
    refine wpC_region ?_
    refine wpR_val (v := (Value.int .i64 0)) (w' := w18) rfl rfl rfl (x_assign (v := (Value.int .i64 0)) rfl rfl) ?_
    refine wpR_nil ?_
    refine wpC_block ?_
    obtain ⟨I41, μ41, hI41, hr41⟩ := h
    refine wpC_loop (fun (x : Bool × Int) ρ => ρ 9 = (Value.bool x.1) ∧ ρ 10 = (Value.int .i64 x.2) ∧ ρ 0 = (Sl.v p0) ∧ ρ 2 = (Sl.v p2) ∧ ρ 4 = (Value.pointer (some (Addr.mk b1 0 none))) ∧ ρ 7 = (Value.bool r2) ∧ ρ 8 = (Sl.v l19) ∧ True) I41 μ41 (c40, 0) ⟨e9, rfl, e0, e2, e4, e7, e8, trivial⟩ hI41 ?_
    rintro l41 ρ w19 ⟨e9, e10, e0, e2, e4, e7, e8, -⟩ h
    replace h := hr41 l41 w19 h
    clear hr41 hI41
    refine wpC_seq ?_
    refine wpC_seq ?_
    refine wpC_region ?_
    refine wpR_val (v := (Value.int .i64 l41.2)) (w' := w19) rfl rfl rfl (x_move (v := (Value.int .i64 l41.2)) rfl e10) ?_
    refine wpR_val (v := (Value.pointer (some ((Addr.mk b1 0 none).add 2)))) (w' := w19) rfl rfl rfl (x_fieldAddr rfl e4 FA_32_2) ?_
    obtain ⟨x42, q42, h⟩ := h
    refine wpR_val (v := (Sl.v x42)) (w' := w19) rfl rfl rfl (x_load1 rfl rfl SH_23 q42) ?_
    refine wpR_val (v := (Value.int .i64 (x42.len : Int))) (w' := w19) rfl rfl rfl (x_lenS (s := x42) rfl rfl isSliceT_23) ?_
    refine wpR_val (v := (Value.bool (decide (l41.2 < (x42.len : Int))))) (w' := w19) rfl rfl rfl (x_lss rfl rfl rfl) ?_
    refine wpR_nil ?_
    refine wpC_cond (b := decide (l41.2 < (x42.len : Int))) rfl (fun hc43 => ?_) (fun hc43 => ?_)
    · replace h := h.1 hc43
      refine wpC_skip ?_
      refine wpC_seq ?_
      refine wpC_block ?_
      refine wpC_cut (fun ρ => ρ 0 = (Sl.v p0) ∧ ρ 2 = (Sl.v p2) ∧ ρ 4 = (Value.pointer (some (Addr.mk b1 0 none))) ∧ ρ 7 = (Value.bool r2) ∧ ρ 8 = (Sl.v l19) ∧ ρ 9 = (Value.bool l41.1) ∧ ρ 10 = (Value.int .i64 l41.2) ∧ True) ⟨e0, e2, e4, e7, e8, e9, e10, trivial⟩ ?_
      rintro ρ ⟨e0, e2, e4, e7, e8, e9, e10, -⟩
      obtain ⟨J45, h, hk⟩ := h
      refine wpC_drawJ (by kernel_rfl) (fun (x : Bool) ρ => ρ 9 = (Value.bool x) ∧ ρ 0 = (Sl.v p0) ∧ ρ 2 = (Sl.v p2) ∧ ρ 4 = (Value.pointer (some (Addr.mk b1 0 none))) ∧ ρ 7 = (Value.bool r2) ∧ ρ 8 = (Sl.v l19) ∧ ρ 10 = (Value.int .i64 l41.2) ∧ True) J45 ?_ ?_
      · clear hk
        unfold tk at h
        generalize w19.drew = w20 at h ⊢
        refine wpD_take (v := (Value.bool l41.1)) 0 (fun _ => True) rfl (by kernel_rfl) (by kernel_rfl) (by kernel_rfl) rfl rfl rfl trivial (fun w _ => (x_move (v := (Value.bool l41.1)) rfl e9)) ?_
        refine wpD_take (v := (Value.bool l41.1)) 1 (fun _ => True) rfl (by kernel_rfl) (by kernel_rfl) (by kernel_rfl) rfl rfl rfl trivial (fun w _ => (x_move (v := (Value.bool l41.1)) rfl rfl)) ?_
        rcases Bool.eq_false_or_eq_true (l41.1) with hc46 | hc46
        · replace h := h.1 hc46
          refine wpD_take (v := (Value.pointer (some ((Addr.mk b1 0 none).add 2)))) 2 (fun _ => True) rfl (by kernel_rfl) (by kernel_rfl) (by kernel_rfl) (wantG rfl rfl rfl hc46) rfl rfl trivial (fun w _ => (x_fieldAddr rfl e4 FA_32_2)) ?_
          obtain ⟨x47, q47, h⟩ := h
          refine wpD_take (v := (Sl.v x47)) 3 (fun w => w.cell? ((Addr.mk b1 0 none).add 2) = some (Sl.v x47)) rfl (by kernel_rfl) (by kernel_rfl) (by kernel_rfl) (wantG rfl rfl rfl hc46) rfl rfl q47 (fun w q47 => (x_load1 rfl rfl SH_23 q47)) ?_
          refine wpD_take (v := (Value.int .i64 l41.2)) 4 (fun _ => True) rfl (by kernel_rfl) (by kernel_rfl) (by kernel_rfl) (wantG rfl rfl rfl hc46) rfl rfl trivial (fun w _ => (x_move (v := (Value.int .i64 l41.2)) rfl e10)) ?_
          obtain ⟨q48, z48, r48, h⟩ := h
          generalize hp48 : z48.add ((l41.2).toNat * 1) = p48 at h
          refine wpD_take (v := (Value.pointer (some p48))) 5 (fun _ => True) rfl (by kernel_rfl) (by kernel_rfl) (by kernel_rfl) (wantG rfl rfl rfl hc46) rfl rfl trivial (fun w _ => ((x_indexAddr (s := x47) rfl rfl rfl ES_23 q48 r48).trans (by rw [hp48]))) ?_
          obtain ⟨x49, q49, h⟩ := h
          refine wpD_take (v := (Value.int .i64 x49)) 6 (fun w => w.cell? p48 = some (Value.int .i64 x49)) rfl (by kernel_rfl) (by kernel_rfl) (by kernel_rfl) (wantG rfl rfl rfl hc46) rfl rfl q49 (fun w q49 => (x_load1 rfl rfl SH_3 q49)) ?_
          refine wpD_take (v := (Value.bool (decide (0 ≤ x49)))) 7 (fun _ => True) rfl (by kernel_rfl) (by kernel_rfl) (by kernel_rfl) (wantG rfl rfl rfl hc46) rfl rfl trivial (fun w _ => (x_geq rfl rfl rfl)) ?_
          refine wpD_take (v := (Value.bool (decide (0 ≤ x49)))) 8 (fun _ => True) rfl (by kernel_rfl) (by kernel_rfl) (by kernel_rfl) rfl rfl rfl trivial (fun w _ => (x_pickT (v := (Value.bool (decide (0 ≤ x49)))) rfl rfl hc46 rfl)) ?_
          refine wpD_take (v := (Value.bool (decide (0 ≤ x49)))) 9 (fun _ => True) rfl (by kernel_rfl) (by kernel_rfl) (by kernel_rfl) rfl rfl rfl trivial (fun w _ => (x_move (v := (Value.bool (decide (0 ≤ x49)))) rfl rfl)) ?_
          rcases Bool.eq_false_or_eq_true (decide (0 ≤ x49)) with hc50 | hc50
          · replace h := h.1 hc50
            refine wpD_take (v := (Value.pointer (some ((Addr.mk b1 0 none).add 2)))) 10 (fun _ => True) rfl (by kernel_rfl) (by kernel_rfl) (by kernel_rfl) (wantG rfl rfl rfl hc50) rfl rfl trivial (fun w _ => (x_fieldAddr rfl e4 FA_32_2)) ?_
            obtain ⟨x51, q51, h⟩ := h
            refine wpD_take (v := (Sl.v x51)) 11 (fun w => w.cell? ((Addr.mk b1 0 none).add 2) = some (Sl.v x51)) rfl (by kernel_rfl) (by kernel_rfl) (by kernel_rfl) (wantG rfl rfl rfl hc50) rfl rfl q51 (fun w q51 => (x_load1 rfl rfl SH_23 q51)) ?_
            refine wpD_take (v := (Value.int .i64 l41.2)) 12 (fun _ => True) rfl (by kernel_rfl) (by kernel_rfl) (by kernel_rfl) (wantG rfl rfl rfl hc50) rfl rfl trivial (fun w _ => (x_move (v := (Value.int .i64 l41.2)) rfl e10)) ?_
            obtain ⟨q52, z52, r52, h⟩ := h
            generalize hp52 : z52.add ((l41.2).toNat * 1) = p52 at h
            refine wpD_take (v := (Value.pointer (some p52))) 13 (fun _ => True) rfl (by kernel_rfl) (by kernel_rfl) (by kernel_rfl) (wantG rfl rfl rfl hc50) rfl rfl trivial (fun w _ => ((x_indexAddr (s := x51) rfl rfl rfl ES_23 q52 r52).trans (by rw [hp52]))) ?_
            obtain ⟨x53, q53, h⟩ := h
            refine wpD_take (v := (Value.int .i64 x53)) 14 (fun w => w.cell? p52 = some (Value.int .i64 x53)) rfl (by kernel_rfl) (by kernel_rfl) (by kernel_rfl) (wantG rfl rfl rfl hc50) rfl rfl q53 (fun w q53 => (x_load1 rfl rfl SH_3 q53)) ?_
            refine wpD_take (v := (Sl.v p0)) 15 (fun _ => True) rfl (by kernel_rfl) (by kernel_rfl) (by kernel_rfl) (wantG rfl rfl rfl hc50) rfl rfl trivial (fun w _ => (x_move (v := (Sl.v p0)) rfl e0)) ?_
            refine wpD_take (v := (Value.int .i64 (p0.len : Int))) 16 (fun _ => True) rfl (by kernel_rfl) (by kernel_rfl) (by kernel_rfl) (wantG rfl rfl rfl hc50) rfl rfl trivial (fun w _ => (x_lenS (s := p0) rfl rfl isSliceT_22)) ?_
            refine wpD_take (v := (Value.bool (decide (x53 < (p0.len : Int))))) 17 (fun _ => True) rfl (by kernel_rfl) (by kernel_rfl) (by kernel_rfl) (wantG rfl rfl rfl hc50) rfl rfl trivial (fun w _ => (x_lss rfl rfl rfl)) ?_
            refine wpD_take (v := (Value.bool (decide (x53 < (p0.len : Int))))) 18 (fun _ => True) rfl (by kernel_rfl) (by kernel_rfl) (by kernel_rfl) rfl rfl rfl trivial (fun w _ => (x_pickT (v := (Value.bool (decide (x53 < (p0.len : Int))))) rfl rfl hc50 rfl)) ?_
            refine wpD_take (v := (Value.bool (decide (x53 < (p0.len : Int))))) 19 (fun _ => True) rfl (by kernel_rfl) (by kernel_rfl) (by kernel_rfl) rfl rfl rfl trivial (fun w _ => (x_move (v := (Value.bool (decide (x53 < (p0.len : Int))))) rfl rfl)) ?_
            rcases Bool.eq_false_or_eq_true (decide (x53 < (p0.len : Int))) with hc54 | hc54
            · replace h := h.1 hc54
              refine wpD_take (v := (Value.int .i64 l41.2)) 20 (fun _ => True) rfl (by kernel_rfl) (by kernel_rfl) (by kernel_rfl) (wantG rfl rfl rfl hc54) rfl rfl trivial (fun w _ => (x_move (v := (Value.int .i64 l41.2)) rfl e10)) ?_
              refine wpD_take (v := (Value.bool (decide (l41.2 = 0)))) 21 (fun _ => True) rfl (by kernel_rfl) (by kernel_rfl) (by kernel_rfl) (wantG rfl rfl rfl hc54) rfl rfl trivial (fun w _ => (x_eql rfl rfl rfl)) ?_
              refine wpD_take (v := (Value.bool (decide (l41.2 = 0)))) 22 (fun _ => True) rfl (by kernel_rfl) (by kernel_rfl) (by kernel_rfl) (wantG rfl rfl rfl hc54) rfl rfl trivial (fun w _ => (x_move (v := (Value.bool (decide (l41.2 = 0)))) rfl rfl)) ?_
              rcases Bool.eq_false_or_eq_true (decide (l41.2 = 0)) with hc55 | hc55
              · replace h := h.1 hc55
                refine wpD_pass 23 rfl (by kernel_rfl) (by kernel_rfl) (by kernel_rfl) (wantN rfl rfl rfl hc55) rfl rfl ?_
                refine wpD_pass 24 rfl (by kernel_rfl) (by kernel_rfl) (by kernel_rfl) (wantN rfl rfl rfl hc55) rfl rfl ?_
                refine wpD_pass 25 rfl (by kernel_rfl) (by kernel_rfl) (by kernel_rfl) (wantN rfl rfl rfl hc55) rfl rfl ?_
                refine wpD_pass 26 rfl (by kernel_rfl) (by kernel_rfl) (by kernel_rfl) (wantN rfl rfl rfl hc55) rfl rfl ?_
                refine wpD_pass 27 rfl (by kernel_rfl) (by kernel_rfl) (by kernel_rfl) (wantN rfl rfl rfl hc55) rfl rfl ?_
                refine wpD_pass 28 rfl (by kernel_rfl) (by kernel_rfl) (by kernel_rfl) (wantN rfl rfl rfl hc55) rfl rfl ?_
                refine wpD_pass 29 rfl (by kernel_rfl) (by kernel_rfl) (by kernel_rfl) (wantN rfl rfl rfl hc55) rfl rfl ?_
                refine wpD_pass 30 rfl (by kernel_rfl) (by kernel_rfl) (by kernel_rfl) (wantN rfl rfl rfl hc55) rfl rfl ?_
                refine wpD_pass 31 rfl (by kernel_rfl) (by kernel_rfl) (by kernel_rfl) (wantN rfl rfl rfl hc55) rfl rfl ?_
                refine wpD_pass 32 rfl (by kernel_rfl) (by kernel_rfl) (by kernel_rfl) (wantN rfl rfl rfl hc55) rfl rfl ?_
                refine wpD_pass 33 rfl (by kernel_rfl) (by kernel_rfl) (by kernel_rfl) (wantN rfl rfl rfl hc55) rfl rfl ?_
                refine wpD_pass 34 rfl (by kernel_rfl) (by kernel_rfl) (by kernel_rfl) (wantN rfl rfl rfl hc55) rfl rfl ?_
                refine wpD_pass 35 rfl (by kernel_rfl) (by kernel_rfl) (by kernel_rfl) (wantN rfl rfl rfl hc55) rfl rfl ?_
                refine wpD_take (v := (Value.bool true)) 36 (fun _ => True) rfl (by kernel_rfl) (by kernel_rfl) (by kernel_rfl) (wantG rfl rfl rfl hc54) rfl rfl trivial (fun w _ => (x_pickT (v := (Value.bool true)) rfl rfl hc55 rfl)) ?_
                refine wpD_take (v := (Value.bool true)) 37 (fun _ => True) rfl (by kernel_rfl) (by kernel_rfl) (by kernel_rfl) rfl rfl rfl trivial (fun w _ => (x_pickT (v := (Value.bool true)) rfl rfl hc54 rfl)) ?_
                refine wpD_take (v := (Value.bool true)) 38 (fun _ => True) rfl (by kernel_rfl) (by kernel_rfl) (by kernel_rfl) rfl rfl rfl trivial (fun w _ => (x_assign (v := (Value.bool true)) rfl rfl)) ?_
                exact wpD_done (by kernel_rfl) ⟨true, ⟨rfl, e0, e2, e4, e7, e8, e10, trivial⟩, h⟩
              · replace h := h.2 hc55
                refine wpD_take (v := (Value.pointer (some ((Addr.mk b1 0 none).add 2)))) 23 (fun _ => True) rfl (by kernel_rfl) (by kernel_rfl) (by kernel_rfl) (wantG rfl rfl rfl hc55) rfl rfl trivial (fun w _ => (x_fieldAddr rfl e4 FA_32_2)) ?_
                obtain ⟨x56, q56, h⟩ := h
                refine wpD_take (v := (Sl.v x56)) 24 (fun w => w.cell? ((Addr.mk b1 0 none).add 2) = some (Sl.v x56)) rfl (by kernel_rfl) (by kernel_rfl) (by kernel_rfl) (wantG rfl rfl rfl hc55) rfl rfl q56 (fun w q56 => (x_load1 rfl rfl SH_23 q56)) ?_
                refine wpD_take (v := (Value.int .i64 l41.2)) 25 (fun _ => True) rfl (by kernel_rfl) (by kernel_rfl) (by kernel_rfl) (wantG rfl rfl rfl hc55) rfl rfl trivial (fun w _ => (x_move (v := (Value.int .i64 l41.2)) rfl e10)) ?_
                refine wpD_take (v := (Value.int .i64 (IntKind.i64.wrap (l41.2 - 1)))) 26 (fun _ => True) rfl (by kernel_rfl) (by kernel_rfl) (by kernel_rfl) (wantG rfl rfl rfl hc55) rfl rfl trivial (fun w _ => (x_sub rfl rfl rfl)) ?_
                refine wpD_take (v := (Value.int .i64 (max (IntKind.i64.wrap (l41.2 - 1)) 0))) 27 (fun _ => True) rfl (by kernel_rfl) (by kernel_rfl) (by kernel_rfl) (wantG rfl rfl rfl hc55) rfl rfl trivial (fun w _ => (x_max rfl rfl rfl)) ?_
                obtain ⟨q57, z57, r57, h⟩ := h
                generalize hp57 : z57.add ((max (IntKind.i64.wrap (l41.2 - 1)) 0).toNat * 1) = p57 at h
                refine wpD_take (v := (Value.pointer (some p57))) 28 (fun _ => True) rfl (by kernel_rfl) (by kernel_rfl) (by kernel_rfl) (wantG rfl rfl rfl hc55) rfl rfl trivial (fun w _ => ((x_indexAddr (s := x56) rfl rfl rfl ES_23 q57 r57).trans (by rw [hp57]))) ?_
                obtain ⟨x58, q58, h⟩ := h
                refine wpD_take (v := (Value.int .i64 x58)) 29 (fun w => w.cell? p57 = some (Value.int .i64 x58)) rfl (by kernel_rfl) (by kernel_rfl) (by kernel_rfl) (wantG rfl rfl rfl hc55) rfl rfl q58 (fun w q58 => (x_load1 rfl rfl SH_3 q58)) ?_
                refine wpD_take (v := (Value.pointer (some ((Addr.mk b1 0 none).add 2)))) 30 (fun _ => True) rfl (by kernel_rfl) (by kernel_rfl) (by kernel_rfl) (wantG rfl rfl rfl hc55) rfl rfl trivial (fun w _ => (x_fieldAddr rfl e4 FA_32_2)) ?_
                obtain ⟨x59, q59, h⟩ := h
                refine wpD_take (v := (Sl.v x59)) 31 (fun w => w.cell? ((Addr.mk b1 0 none).add 2) = some (Sl.v x59)) rfl (by kernel_rfl) (by kernel_rfl) (by kernel_rfl) (wantG rfl rfl rfl hc55) rfl rfl q59 (fun w q59 => (x_load1 rfl rfl SH_23 q59)) ?_
                refine wpD_take (v := (Value.int .i64 l41.2)) 32 (fun _ => True) rfl (by kernel_rfl) (by kernel_rfl) (by kernel_rfl) (wantG rfl rfl rfl hc55) rfl rfl trivial (fun w _ => (x_move (v := (Value.int .i64 l41.2)) rfl e10)) ?_
                obtain ⟨q60, z60, r60, h⟩ := h
                generalize hp60 : z60.add ((l41.2).toNat * 1) = p60 at h
                refine wpD_take (v := (Value.pointer (some p60))) 33 (fun _ => True) rfl (by kernel_rfl) (by kernel_rfl) (by kernel_rfl) (wantG rfl rfl rfl hc55) rfl rfl trivial (fun w _ => ((x_indexAddr (s := x59) rfl rfl rfl ES_23 q60 r60).trans (by rw [hp60]))) ?_
                obtain ⟨x61, q61, h⟩ := h
                refine wpD_take (v := (Value.int .i64 x61)) 34 (fun w => w.cell? p60 = some (Value.int .i64 x61)) rfl (by kernel_rfl) (by kernel_rfl) (by kernel_rfl) (wantG rfl rfl rfl hc55) rfl rfl q61 (fun w q61 => (x_load1 rfl rfl SH_3 q61)) ?_
                refine wpD_take (v := (Value.bool (decide (x58 < x61)))) 35 (fun _ => True) rfl (by kernel_rfl) (by kernel_rfl) (by kernel_rfl) (wantG rfl rfl rfl hc55) rfl rfl trivial (fun w _ => (x_lss rfl rfl rfl)) ?_
                refine wpD_take (v := (Value.bool (decide (x58 < x61)))) 36 (fun _ => True) rfl (by kernel_rfl) (by kernel_rfl) (by kernel_rfl) (wantG rfl rfl rfl hc54) rfl rfl trivial (fun w _ => (x_pickF (v := (Value.bool (decide (x58 < x61)))) rfl rfl hc55 rfl)) ?_
                refine wpD_take (v := (Value.bool (decide (x58 < x61)))) 37 (fun _ => True) rfl (by kernel_rfl) (by kernel_rfl) (by kernel_rfl) rfl rfl rfl trivial (fun w _ => (x_pickT (v := (Value.bool (decide (x58 < x61)))) rfl rfl hc54 rfl)) ?_
                refine wpD_take (v := (Value.bool (decide (x58 < x61)))) 38 (fun _ => True) rfl (by kernel_rfl) (by kernel_rfl) (by kernel_rfl) rfl rfl rfl trivial (fun w _ => (x_assign (v := (Value.bool (decide (x58 < x61)))) rfl rfl)) ?_
                exact wpD_done (by kernel_rfl) ⟨decide (x58 < x61), ⟨rfl, e0, e2, e4, e7, e8, e10, trivial⟩, h⟩
            · replace h := h.2 hc54
              refine wpD_pass 20 rfl (by kernel_rfl) (by kernel_rfl) (by kernel_rfl) (wantN rfl rfl rfl hc54) rfl rfl ?_
              refine wpD_pass 21 rfl (by kernel_rfl) (by kernel_rfl) (by kernel_rfl) (wantN rfl rfl rfl hc54) rfl rfl ?_
              refine wpD_pass 22 rfl (by kernel_rfl) (by kernel_rfl) (by kernel_rfl) (wantN rfl rfl rfl hc54) rfl rfl ?_
              refine wpD_pass 23 rfl (by kernel_rfl) (by kernel_rfl) (by kernel_rfl) (wantU rfl rfl rfl) rfl rfl ?_
              refine wpD_pass 24 rfl (by kernel_rfl) (by kernel_rfl) (by kernel_rfl) (wantU rfl rfl rfl) rfl rfl ?_
              refine wpD_pass 25 rfl (by kernel_rfl) (by kernel_rfl) (by kernel_rfl) (wantU rfl rfl rfl) rfl rfl ?_
              refine wpD_pass 26 rfl (by kernel_rfl) (by kernel_rfl) (by kernel_rfl) (wantU rfl rfl rfl) rfl rfl ?_
              refine wpD_pass 27 rfl (by kernel_rfl) (by kernel_rfl) (by kernel_rfl) (wantU rfl rfl rfl) rfl rfl ?_
              refine wpD_pass 28 rfl (by kernel_rfl) (by kernel_rfl) (by kernel_rfl) (wantU rfl rfl rfl) rfl rfl ?_
              refine wpD_pass 29 rfl (by kernel_rfl) (by kernel_rfl) (by kernel_rfl) (wantU rfl rfl rfl) rfl rfl ?_
              refine wpD_pass 30 rfl (by kernel_rfl) (by kernel_rfl) (by kernel_rfl) (wantU rfl rfl rfl) rfl rfl ?_
              refine wpD_pass 31 rfl (by kernel_rfl) (by kernel_rfl) (by kernel_rfl) (wantU rfl rfl rfl) rfl rfl ?_
              refine wpD_pass 32 rfl (by kernel_rfl) (by kernel_rfl) (by kernel_rfl) (wantU rfl rfl rfl) rfl rfl ?_
              refine wpD_pass 33 rfl (by kernel_rfl) (by kernel_rfl) (by kernel_rfl) (wantU rfl rfl rfl) rfl rfl ?_
              refine wpD_pass 34 rfl (by kernel_rfl) (by kernel_rfl) (by kernel_rfl) (wantU rfl rfl rfl) rfl rfl ?_
              refine wpD_pass 35 rfl (by kernel_rfl) (by kernel_rfl) (by kernel_rfl) (wantU rfl rfl rfl) rfl rfl ?_
              refine wpD_pass 36 rfl (by kernel_rfl) (by kernel_rfl) (by kernel_rfl) (wantN rfl rfl rfl hc54) rfl rfl ?_
              refine wpD_take (v := (Value.bool false)) 37 (fun _ => True) rfl (by kernel_rfl) (by kernel_rfl) (by kernel_rfl) rfl rfl rfl trivial (fun w _ => (x_pickF (v := (Value.bool false)) rfl rfl hc54 rfl)) ?_
              refine wpD_take (v := (Value.bool false)) 38 (fun _ => True) rfl (by kernel_rfl) (by kernel_rfl) (by kernel_rfl) rfl rfl rfl trivial (fun w _ => (x_assign (v := (Value.bool false)) rfl rfl)) ?_
              exact wpD_done (by kernel_rfl) ⟨false, ⟨rfl, e0, e2, e4, e7, e8, e10, trivial⟩, h⟩
          · replace h := h.2 hc50
            refine wpD_pass 10 rfl (by kernel_rfl) (by kernel_rfl) (by kernel_rfl) (wantN rfl rfl rfl hc50) rfl rfl ?_
            refine wpD_pass 11 rfl (by kernel_rfl) (by kernel_rfl) (by kernel_rfl) (wantN rfl rfl rfl hc50) rfl rfl ?_
            refine wpD_pass 12 rfl (by kernel_rfl) (by kernel_rfl) (by kernel_rfl) (wantN rfl rfl rfl hc50) rfl rfl ?_
            refine wpD_pass 13 rfl (by kernel_rfl) (by kernel_rfl) (by kernel_rfl) (wantN rfl rfl rfl hc50) rfl rfl ?_
            refine wpD_pass 14 rfl (by kernel_rfl) (by kernel_rfl) (by kernel_rfl) (wantN rfl rfl rfl hc50) rfl rfl ?_
            refine wpD_pass 15 rfl (by kernel_rfl) (by kernel_rfl) (by kernel_rfl) (wantN rfl rfl rfl hc50) rfl rfl ?_
            refine wpD_pass 16 rfl (by kernel_rfl) (by kernel_rfl) (by kernel_rfl) (wantN rfl rfl rfl hc50) rfl rfl ?_
            refine wpD_pass 17 rfl (by kernel_rfl) (by kernel_rfl) (by kernel_rfl) (wantN rfl rfl rfl hc50) rfl rfl ?_
            refine wpD_take (v := (Value.bool false)) 18 (fun _ => True) rfl (by kernel_rfl) (by kernel_rfl) (by kernel_rfl) rfl rfl rfl trivial (fun w _ => (x_pickF (v := (Value.bool false)) rfl rfl hc50 rfl)) ?_
            refine wpD_take (v := (Value.bool false)) 19 (fun _ => True) rfl (by kernel_rfl) (by kernel_rfl) (by kernel_rfl) rfl rfl rfl trivial (fun w _ => (x_move (v := (Value.bool false)) rfl rfl)) ?_
            rcases Bool.eq_false_or_eq_true (false) with hc62 | hc62
            · replace h := h.1 hc62
              refine wpD_take (v := (Value.int .i64 l41.2)) 20 (fun _ => True) rfl (by kernel_rfl) (by kernel_rfl) (by kernel_rfl) (wantG rfl rfl rfl hc62) rfl rfl trivial (fun w _ => (x_move (v := (Value.int .i64 l41.2)) rfl e10)) ?_
              refine wpD_take (v := (Value.bool (decide (l41.2 = 0)))) 21 (fun _ => True) rfl (by kernel_rfl) (by kernel_rfl) (by kernel_rfl) (wantG rfl rfl rfl hc62) rfl rfl trivial (fun w _ => (x_eql rfl rfl rfl)) ?_
              refine wpD_take (v := (Value.bool (decide (l41.2 = 0)))) 22 (fun _ => True) rfl (by kernel_rfl) (by kernel_rfl) (by kernel_rfl) (wantG rfl rfl rfl hc62) rfl rfl trivial (fun w _ => (x_move (v := (Value.bool (decide (l41.2 = 0)))) rfl rfl)) ?_
              rcases Bool.eq_false_or_eq_true (decide (l41.2 = 0)) with hc63 | hc63
              · replace h := h.1 hc63
                refine wpD_pass 23 rfl (by kernel_rfl) (by kernel_rfl) (by kernel_rfl) (wantN rfl rfl rfl hc63) rfl rfl ?_
                refine wpD_pass 24 rfl (by kernel_rfl) (by kernel_rfl) (by kernel_rfl) (wantN rfl rfl rfl hc63) rfl rfl ?_
                refine wpD_pass 25 rfl (by kernel_rfl) (by kernel_rfl) (by kernel_rfl) (wantN rfl rfl rfl hc63) rfl rfl ?_
                refine wpD_pass 26 rfl (by kernel_rfl) (by kernel_rfl) (by kernel_rfl) (wantN rfl rfl rfl hc63) rfl rfl ?_
                refine wpD_pass 27 rfl (by kernel_rfl) (by kernel_rfl) (by kernel_rfl) (wantN rfl rfl rfl hc63) rfl rfl ?_
                refine wpD_pass 28 rfl (by kernel_rfl) (by kernel_rfl) (by kernel_rfl) (wantN rfl rfl rfl hc63) rfl rfl ?_
                refine wpD_pass 29 rfl (by kernel_rfl) (by kernel_rfl) (by kernel_rfl) (wantN rfl rfl rfl hc63) rfl rfl ?_
                refine wpD_pass 30 rfl (by kernel_rfl) (by kernel_rfl) (by kernel_rfl) (wantN rfl rfl rfl hc63) rfl rfl ?_
                refine wpD_pass 31 rfl (by kernel_rfl) (by kernel_rfl) (by kernel_rfl) (wantN rfl rfl rfl hc63) rfl rfl ?_
                refine wpD_pass 32 rfl (by kernel_rfl) (by kernel_rfl) (by kernel_rfl) (wantN rfl rfl rfl hc63) rfl rfl ?_
                refine wpD_pass 33 rfl (by kernel_rfl) (by kernel_rfl) (by kernel_rfl) (wantN rfl rfl rfl hc63) rfl rfl ?_
                refine wpD_pass 34 rfl (by kernel_rfl) (by kernel_rfl) (by kernel_rfl) (wantN rfl rfl rfl hc63) rfl rfl ?_
                refine wpD_pass 35 rfl (by kernel_rfl) (by kernel_rfl) (by kernel_rfl) (wantN rfl rfl rfl hc63) rfl rfl ?_
                refine wpD_take (v := (Value.bool true)) 36 (fun _ => True) rfl (by kernel_rfl) (by kernel_rfl) (by kernel_rfl) (wantG rfl rfl rfl hc62) rfl rfl trivial (fun w _ => (x_pickT (v := (Value.bool true)) rfl rfl hc63 rfl)) ?_
                refine wpD_take (v := (Value.bool true)) 37 (fun _ => True) rfl (by kernel_rfl) (by kernel_rfl) (by kernel_rfl) rfl rfl rfl trivial (fun w _ => (x_pickT (v := (Value.bool true)) rfl rfl hc62 rfl)) ?_
                refine wpD_take (v := (Value.bool true)) 38 (fun _ => True) rfl (by kernel_rfl) (by kernel_rfl) (by kernel_rfl) rfl rfl rfl trivial (fun w _ => (x_assign (v := (Value.bool true)) rfl rfl)) ?_
                exact wpD_done (by kernel_rfl) ⟨true, ⟨rfl, e0, e2, e4, e7, e8, e10, trivial⟩, h⟩
              · replace h := h.2 hc63
                refine wpD_take (v := (Value.pointer (some ((Addr.mk b1 0 none).add 2)))) 23 (fun _ => True) rfl (by kernel_rfl) (by kernel_rfl) (by kernel_rfl) (wantG rfl rfl rfl hc63) rfl rfl trivial (fun w _ => (x_fieldAddr rfl e4 FA_32_2)) ?_
                obtain ⟨x64, q64, h⟩ := h
                refine wpD_take (v := (Sl.v x64)) 24 (fun w => w.cell? ((Addr.mk b1 0 none).add 2) = some (Sl.v x64)) rfl (by kernel_rfl) (by kernel_rfl) (by kernel_rfl) (wantG rfl rfl rfl hc63) rfl rfl q64 (fun w q64 => (x_load1 rfl rfl SH_23 q64)) ?_
                refine wpD_take (v := (Value.int .i64 l41.2)) 25 (fun _ => True) rfl (by kernel_rfl) (by kernel_rfl) (by kernel_rfl) (wantG rfl rfl rfl hc63) rfl rfl trivial (fun w _ => (x_move (v := (Value.int .i64 l41.2)) rfl e10)) ?_
                refine wpD_take (v := (Value.int .i64 (IntKind.i64.wrap (l41.2 - 1)))) 26 (fun _ => True) rfl (by kernel_rfl) (by kernel_rfl) (by kernel_rfl) (wantG rfl rfl rfl hc63) rfl rfl trivial (fun w _ => (x_sub rfl rfl rfl)) ?_
                refine wpD_take (v := (Value.int .i64 (max (IntKind.i64.wrap (l41.2 - 1)) 0))) 27 (fun _ => True) rfl (by kernel_rfl) (by kernel_rfl) (by kernel_rfl) (wantG rfl rfl rfl hc63) rfl rfl trivial (fun w _ => (x_max rfl rfl rfl)) ?_
                obtain ⟨q65, z65, r65, h⟩ := h
                generalize hp65 : z65.add ((max (IntKind.i64.wrap (l41.2 - 1)) 0).toNat * 1) = p65 at h
                refine wpD_take (v := (Value.pointer (some p65))) 28 (fun _ => True) rfl (by kernel_rfl) (by kernel_rfl) (by kernel_rfl) (wantG rfl rfl rfl hc63) rfl rfl trivial (fun w _ => ((x_indexAddr (s := x64) rfl rfl rfl ES_23 q65 r65).trans (by rw [hp65]))) ?_
                obtain ⟨x66, q66, h⟩ := h
                refine wpD_take (v := (Value.int .i64 x66)) 29 (fun w => w.cell? p65 = some (Value.int .i64 x66)) rfl (by kernel_rfl) (by kernel_rfl) (by kernel_rfl) (wantG rfl rfl rfl hc63) rfl rfl q66 (fun w q66 => (x_load1 rfl rfl SH_3 q66)) ?_
                refine wpD_take (v := (Value.pointer (some ((Addr.mk b1 0 none).add 2)))) 30 (fun _ => True) rfl (by kernel_rfl) (by kernel_rfl) (by kernel_rfl) (wantG rfl rfl rfl hc63) rfl rfl trivial (fun w _ => (x_fieldAddr rfl e4 FA_32_2)) ?_
                obtain ⟨x67, q67, h⟩ := h
                refine wpD_take (v := (Sl.v x67)) 31 (fun w => w.cell? ((Addr.mk b1 0 none).add 2) = some (Sl.v x67)) rfl (by kernel_rfl) (by kernel_rfl) (by kernel_rfl) (wantG rfl rfl rfl hc63) rfl rfl q67 (fun w q67 => (x_load1 rfl rfl SH_23 q67)) ?_
                refine wpD_take (v := (Value.int .i64 l41.2)) 32 (fun _ => True) rfl (by kernel_rfl) (by kernel_rfl) (by kernel_rfl) (wantG rfl rfl rfl hc63) rfl rfl trivial (fun w _ => (x_move (v := (Value.int .i64 l41.2)) rfl e10)) ?_
                obtain ⟨q68, z68, r68, h⟩ := h
                generalize hp68 : z68.add ((l41.2).toNat * 1) = p68 at h
                refine wpD_take (v := (Value.pointer (some p68))) 33 (fun _ => True) rfl (by kernel_rfl) (by kernel_rfl) (by kernel_rfl) (wantG rfl rfl rfl hc63) rfl rfl trivial (fun w _ => ((x_indexAddr (s := x67) rfl rfl rfl ES_23 q68 r68).trans (by rw [hp68]))) ?_
                obtain ⟨x69, q69, h⟩ := h
                refine wpD_take (v := (Value.int .i64 x69)) 34 (fun w => w.cell? p68 = some (Value.int .i64 x69)) rfl (by kernel_rfl) (by kernel_rfl) (by kernel_rfl) (wantG rfl rfl rfl hc63) rfl rfl q69 (fun w q69 => (x_load1 rfl rfl SH_3 q69)) ?_
                refine wpD_take (v := (Value.bool (decide (x66 < x69)))) 35 (fun _ => True) rfl (by kernel_rfl) (by kernel_rfl) (by kernel_rfl) (wantG rfl rfl rfl hc63) rfl rfl trivial (fun w _ => (x_lss rfl rfl rfl)) ?_
                refine wpD_take (v := (Value.bool (decide (x66 < x69)))) 36 (fun _ => True) rfl (by kernel_rfl) (by kernel_rfl) (by kernel_rfl) (wantG rfl rfl rfl hc62) rfl rfl trivial (fun w _ => (x_pickF (v := (Value.bool (decide (x66 < x69)))) rfl rfl hc63 rfl)) ?_
                refine wpD_take (v := (Value.bool (decide (x66 < x69)))) 37 (fun _ => True) rfl (by kernel_rfl) (by kernel_rfl) (by kernel_rfl) rfl rfl rfl trivial (fun w _ => (x_pickT (v := (Value.bool (decide (x66 < x69)))) rfl rfl hc62 rfl)) ?_
                refine wpD_take (v := (Value.bool (decide (x66 < x69)))) 38 (fun _ => True) rfl (by kernel_rfl) (by kernel_rfl) (by kernel_rfl) rfl rfl rfl trivial (fun w _ => (x_assign (v := (Value.bool (decide (x66 < x69)))) rfl rfl)) ?_
                exact wpD_done (by kernel_rfl) ⟨decide (x66 < x69), ⟨rfl, e0, e2, e4, e7, e8, e10, trivial⟩, h⟩
            · replace h := h.2 hc62
              refine wpD_pass 20 rfl (by kernel_rfl) (by kernel_rfl) (by kernel_rfl) (wantN rfl rfl rfl hc62) rfl rfl ?_
              refine wpD_pass 21 rfl (by kernel_rfl) (by kernel_rfl) (by kernel_rfl) (wantN rfl rfl rfl hc62) rfl rfl ?_
              refine wpD_pass 22 rfl (by kernel_rfl) (by kernel_rfl) (by kernel_rfl) (wantN rfl rfl rfl hc62) rfl rfl ?_
              refine wpD_pass 23 rfl (by kernel_rfl) (by kernel_rfl) (by kernel_rfl) (wantU rfl rfl rfl) rfl rfl ?_
              refine wpD_pass 24 rfl (by kernel_rfl) (by kernel_rfl) (by kernel_rfl) (wantU rfl rfl rfl) rfl rfl ?_
              refine wpD_pass 25 rfl (by kernel_rfl) (by kernel_rfl) (by kernel_rfl) (wantU rfl rfl rfl) rfl rfl ?_
              refine wpD_pass 26 rfl (by kernel_rfl) (by kernel_rfl) (by kernel_rfl) (wantU rfl rfl rfl) rfl rfl ?_
              refine wpD_pass 27 rfl (by kernel_rfl) (by kernel_rfl) (by kernel_rfl) (wantU rfl rfl rfl) rfl rfl ?_
              refine wpD_pass 28 rfl (by kernel_rfl) (by kernel_rfl) (by kernel_rfl) (wantU rfl rfl rfl) rfl rfl ?_
              refine wpD_pass 29 rfl (by kernel_rfl) (by kernel_rfl) (by kernel_rfl) (wantU rfl rfl rfl) rfl rfl ?_
              refine wpD_pass 30 rfl (by kernel_rfl) (by kernel_rfl) (by kernel_rfl) (wantU rfl rfl rfl) rfl rfl ?_
              refine wpD_pass 31 rfl (by kernel_rfl) (by kernel_rfl) (by kernel_rfl) (wantU rfl rfl rfl) rfl rfl ?_
              refine wpD_pass 32 rfl (by kernel_rfl) (by kernel_rfl) (by kernel_rfl) (wantU rfl rfl rfl) rfl rfl ?_
              refine wpD_pass 33 rfl (by kernel_rfl) (by kernel_rfl) (by kernel_rfl) (wantU rfl rfl rfl) rfl rfl ?_
              refine wpD_pass 34 rfl (by kernel_rfl) (by kernel_rfl) (by kernel_rfl) (wantU rfl rfl rfl) rfl rfl ?_
              refine wpD_pass 35 rfl (by kernel_rfl) (by kernel_rfl) (by kernel_rfl) (wantU rfl rfl rfl) rfl rfl ?_
              refine wpD_pass 36 rfl (by kernel_rfl) (by kernel_rfl) (by kernel_rfl) (wantN rfl rfl rfl hc62) rfl rfl ?_
              refine wpD_take (v := (Value.bool false)) 37 (fun _ => True) rfl (by kernel_rfl) (by kernel_rfl) (by kernel_rfl) rfl rfl rfl trivial (fun w _ => (x_pickF (v := (Value.bool false)) rfl rfl hc62 rfl)) ?_
              refine wpD_take (v := (Value.bool false)) 38 (fun _ => True) rfl (by kernel_rfl) (by kernel_rfl) (by kernel_rfl) rfl rfl rfl trivial (fun w _ => (x_assign (v := (Value.bool false)) rfl rfl)) ?_
              exact wpD_done (by kernel_rfl) ⟨false, ⟨rfl, e0, e2, e4, e7, e8, e10, trivial⟩, h⟩
        · replace h := h.2 hc46
          refine wpD_pass 2 rfl (by kernel_rfl) (by kernel_rfl) (by kernel_rfl) (wantN rfl rfl rfl hc46) rfl rfl ?_
          refine wpD_pass 3 rfl (by kernel_rfl) (by kernel_rfl) (by kernel_rfl) (wantN rfl rfl rfl hc46) rfl rfl ?_
          refine wpD_pass 4 rfl (by kernel_rfl) (by kernel_rfl) (by kernel_rfl) (wantN rfl rfl rfl hc46) rfl rfl ?_
          refine wpD_pass 5 rfl (by kernel_rfl) (by kernel_rfl) (by kernel_rfl) (wantN rfl rfl rfl hc46) rfl rfl ?_
          refine wpD_pass 6 rfl (by kernel_rfl) (by kernel_rfl) (by kernel_rfl) (wantN rfl rfl rfl hc46) rfl rfl ?_
          refine wpD_pass 7 rfl (by kernel_rfl) (by kernel_rfl) (by kernel_rfl) (wantN rfl rfl rfl hc46) rfl rfl ?_
          refine wpD_take (v := (Value.bool false)) 8 (fun _ => True) rfl (by kernel_rfl) (by kernel_rfl) (by kernel_rfl) rfl rfl rfl trivial (fun w _ => (x_pickF (v := (Value.bool false)) rfl rfl hc46 rfl)) ?_
          refine wpD_take (v := (Value.bool false)) 9 (fun _ => True) rfl (by kernel_rfl) (by kernel_rfl) (by kernel_rfl) rfl rfl rfl trivial (fun w _ => (x_move (v := (Value.bool false)) rfl rfl)) ?_
          rcases Bool.eq_false_or_eq_true (false) with hc70 | hc70
          · replace h := h.1 hc70
            refine wpD_take (v := (Value.pointer (some ((Addr.mk b1 0 none).add 2)))) 10 (fun _ => True) rfl (by kernel_rfl) (by kernel_rfl) (by kernel_rfl) (wantG rfl rfl rfl hc70) rfl rfl trivial (fun w _ => (x_fieldAddr rfl e4 FA_32_2)) ?_
            obtain ⟨x71, q71, h⟩ := h
            refine wpD_take (v := (Sl.v x71)) 11 (fun w => w.cell? ((Addr.mk b1 0 none).add 2) = some (Sl.v x71)) rfl (by kernel_rfl) (by kernel_rfl) (by kernel_rfl) (wantG rfl rfl rfl hc70) rfl rfl q71 (fun w q71 => (x_load1 rfl rfl SH_23 q71)) ?_
            refine wpD_take (v := (Value.int .i64 l41.2)) 12 (fun _ => True) rfl (by kernel_rfl) (by kernel_rfl) (by kernel_rfl) (wantG rfl rfl rfl hc70) rfl rfl trivial (fun w _ => (x_move (v := (Value.int .i64 l41.2)) rfl e10)) ?_
            obtain ⟨q72, z72, r72, h⟩ := h
            generalize hp72 : z72.add ((l41.2).toNat * 1) = p72 at h
            refine wpD_take (v := (Value.pointer (some p72))) 13 (fun _ => True) rfl (by kernel_rfl) (by kernel_rfl) (by kernel_rfl) (wantG rfl rfl rfl hc70) rfl rfl trivial (fun w _ => ((x_indexAddr (s := x71) rfl rfl rfl ES_23 q72 r72).trans (by rw [hp72]))) ?_
            obtain ⟨x73, q73, h⟩ := h
            refine wpD_take (v := (Value.int .i64 x73)) 14 (fun w => w.cell? p72 = some (Value.int .i64 x73)) rfl (by kernel_rfl) (by kernel_rfl) (by kernel_rfl) (wantG rfl rfl rfl hc70) rfl rfl q73 (fun w q73 => (x_load1 rfl rfl SH_3 q73)) ?_
            refine wpD_take (v := (Sl.v p0)) 15 (fun _ => True) rfl (by kernel_rfl) (by kernel_rfl) (by kernel_rfl) (wantG rfl rfl rfl hc70) rfl rfl trivial (fun w _ => (x_move (v := (Sl.v p0)) rfl e0)) ?_
            refine wpD_take (v := (Value.int .i64 (p0.len : Int))) 16 (fun _ => True) rfl (by kernel_rfl) (by kernel_rfl) (by kernel_rfl) (wantG rfl rfl rfl hc70) rfl rfl trivial (fun w _ => (x_lenS (s := p0) rfl rfl isSliceT_22)) ?_
            refine wpD_take (v := (Value.bool (decide (x73 < (p0.len : Int))))) 17 (fun _ => True) rfl (by kernel_rfl) (by kernel_rfl) (by kernel_rfl) (wantG rfl rfl rfl hc70) rfl rfl trivial (fun w _ => (x_lss rfl rfl rfl)) ?_
            refine wpD_take (v := (Value.bool (decide (x73 < (p0.len : Int))))) 18 (fun _ => True) rfl (by kernel_rfl) (by kernel_rfl) (by kernel_rfl) rfl rfl rfl trivial (fun w _ => (x_pickT (v := (Value.bool (decide (x73 < (p0.len : Int))))) rfl rfl hc70 rfl)) ?_
            refine wpD_take (v := (Value.bool (decide (x73 < (p0.len : Int))))) 19 (fun _ => True) rfl (by kernel_rfl) (by kernel_rfl) (by kernel_rfl) rfl rfl rfl trivial (fun w _ => (x_move (v := (Value.bool (decide (x73 < (p0.len : Int))))) rfl rfl)) ?_
            rcases Bool.eq_false_or_eq_true (decide (x73 < (p0.len : Int))) with hc74 | hc74
            · replace h := h.1 hc74
              refine wpD_take (v := (Value.int .i64 l41.2)) 20 (fun _ => True) rfl (by kernel_rfl) (by kernel_rfl) (by kernel_rfl) (wantG rfl rfl rfl hc74) rfl rfl trivial (fun w _ => (x_move (v := (Value.int .i64 l41.2)) rfl e10)) ?_
              refine wpD_take (v := (Value.bool (decide (l41.2 = 0)))) 21 (fun _ => True) rfl (by kernel_rfl) (by kernel_rfl) (by kernel_rfl) (wantG rfl rfl rfl hc74) rfl rfl trivial (fun w _ => (x_eql rfl rfl rfl)) ?_
              refine wpD_take (v := (Value.bool (decide (l41.2 = 0)))) 22 (fun _ => True) rfl (by kernel_rfl) (by kernel_rfl) (by kernel_rfl) (wantG rfl rfl rfl hc74) rfl rfl trivial (fun w _ => (x_move (v := (Value.bool (decide (l41.2 = 0)))) rfl rfl)) ?_
              rcases Bool.eq_false_or_eq_true (decide (l41.2 = 0)) with hc75 | hc75
              · replace h := h.1 hc75
                refine wpD_pass 23 rfl (by kernel_rfl) (by kernel_rfl) (by kernel_rfl) (wantN rfl rfl rfl hc75) rfl rfl ?_
                refine wpD_pass 24 rfl (by kernel_rfl) (by kernel_rfl) (by kernel_rfl) (wantN rfl rfl rfl hc75) rfl rfl ?_
                refine wpD_pass 25 rfl (by kernel_rfl) (by kernel_rfl) (by kernel_rfl) (wantN rfl rfl rfl hc75) rfl rfl ?_
                refine wpD_pass 26 rfl (by kernel_rfl) (by kernel_rfl) (by kernel_rfl) (wantN rfl rfl rfl hc75) rfl rfl ?_
                refine wpD_pass 27 rfl (by kernel_rfl) (by kernel_rfl) (by kernel_rfl) (wantN rfl rfl rfl hc75) rfl rfl ?_
                refine wpD_pass 28 rfl (by kernel_rfl) (by kernel_rfl) (by kernel_rfl) (wantN rfl rfl rfl hc75) rfl rfl ?_
                refine wpD_pass 29 rfl (by kernel_rfl) (by kernel_rfl) (by kernel_rfl) (wantN rfl rfl rfl hc75) rfl rfl ?_
                refine wpD_pass 30 rfl (by kernel_rfl) (by kernel_rfl) (by kernel_rfl) (wantN rfl rfl rfl hc75) rfl rfl ?_
                refine wpD_pass 31 rfl (by kernel_rfl) (by kernel_rfl) (by kernel_rfl) (wantN rfl rfl rfl hc75) rfl rfl ?_
                refine wpD_pass 32 rfl (by kernel_rfl) (by kernel_rfl) (by kernel_rfl) (wantN rfl rfl rfl hc75) rfl rfl ?_
                refine wpD_pass 33 rfl (by kernel_rfl) (by kernel_rfl) (by kernel_rfl) (wantN rfl rfl rfl hc75) rfl rfl ?_
                refine wpD_pass 34 rfl (by kernel_rfl) (by kernel_rfl) (by kernel_rfl) (wantN rfl rfl rfl hc75) rfl rfl ?_
                refine wpD_pass 35 rfl (by kernel_rfl) (by kernel_rfl) (by kernel_rfl) (wantN rfl rfl rfl hc75) rfl rfl ?_
                refine wpD_take (v := (Value.bool true)) 36 (fun _ => True) rfl (by kernel_rfl) (by kernel_rfl) (by kernel_rfl) (wantG rfl rfl rfl hc74) rfl rfl trivial (fun w _ => (x_pickT (v := (Value.bool true)) rfl rfl hc75 rfl)) ?_
                refine wpD_take (v := (Value.bool true)) 37 (fun _ => True) rfl (by kernel_rfl) (by kernel_rfl) (by kernel_rfl) rfl rfl rfl trivial (fun w _ => (x_pickT (v := (Value.bool true)) rfl rfl hc74 rfl)) ?_
                refine wpD_take (v := (Value.bool true)) 38 (fun _ => True) rfl (by kernel_rfl) (by kernel_rfl) (by kernel_rfl) rfl rfl rfl trivial (fun w _ => (x_assign (v := (Value.bool true)) rfl rfl)) ?_
                exact wpD_done (by kernel_rfl) ⟨true, ⟨rfl, e0, e2, e4, e7, e8, e10, trivial⟩, h⟩
              · replace h := h.2 hc75
                refine wpD_take (v := (Value.pointer (some ((Addr.mk b1 0 none).add 2)))) 23 (fun _ => True) rfl (by kernel_rfl) (by kernel_rfl) (by kernel_rfl) (wantG rfl rfl rfl hc75) rfl rfl trivial (fun w _ => (x_fieldAddr rfl e4 FA_32_2)) ?_
                obtain ⟨x76, q76, h⟩ := h
                refine wpD_take (v := (Sl.v x76)) 24 (fun w => w.cell? ((Addr.mk b1 0 none).add 2) = some (Sl.v x76)) rfl (by kernel_rfl) (by kernel_rfl) (by kernel_rfl) (wantG rfl rfl rfl hc75) rfl rfl q76 (fun w q76 => (x_load1 rfl rfl SH_23 q76)) ?_
                refine wpD_take (v := (Value.int .i64 l41.2)) 25 (fun _ => True) rfl (by kernel_rfl) (by kernel_rfl) (by kernel_rfl) (wantG rfl rfl rfl hc75) rfl rfl trivial (fun w _ => (x_move (v := (Value.int .i64 l41.2)) rfl e10)) ?_
                refine wpD_take (v := (Value.int .i64 (IntKind.i64.wrap (l41.2 - 1)))) 26 (fun _ => True) rfl (by kernel_rfl) (by kernel_rfl) (by kernel_rfl) (wantG rfl rfl rfl hc75) rfl rfl trivial (fun w _ => (x_sub rfl rfl rfl)) ?_
                refine wpD_take (v := (Value.int .i64 (max (IntKind.i64.wrap (l41.2 - 1)) 0))) 27 (fun _ => True) rfl (by kernel_rfl) (by kernel_rfl) (by kernel_rfl) (wantG rfl rfl rfl hc75) rfl rfl trivial (fun w _ => (x_max rfl rfl rfl)) ?_
                obtain ⟨q77, z77, r77, h⟩ := h
                generalize hp77 : z77.add ((max (IntKind.i64.wrap (l41.2 - 1)) 0).toNat * 1) = p77 at h
                refine wpD_take (v := (Value.pointer (some p77))) 28 (fun _ => True) rfl (by kernel_rfl) (by kernel_rfl) (by kernel_rfl) (wantG rfl rfl rfl hc75) rfl rfl trivial (fun w _ => ((x_indexAddr (s := x76) rfl rfl rfl ES_23 q77 r77).trans (by rw [hp77]))) ?_
                obtain ⟨x78, q78, h⟩ := h
                refine wpD_take (v := (Value.int .i64 x78)) 29 (fun w => w.cell? p77 = some (Value.int .i64 x78)) rfl (by kernel_rfl) (by kernel_rfl) (by kernel_rfl) (wantG rfl rfl rfl hc75) rfl rfl q78 (fun w q78 => (x_load1 rfl rfl SH_3 q78)) ?_
                refine wpD_take (v := (Value.pointer (some ((Addr.mk b1 0 none).add 2)))) 30 (fun _ => True) rfl (by kernel_rfl) (by kernel_rfl) (by kernel_rfl) (wantG rfl rfl rfl hc75) rfl rfl trivial (fun w _ => (x_fieldAddr rfl e4 FA_32_2)) ?_
                obtain ⟨x79, q79, h⟩ := h
                refine wpD_take (v := (Sl.v x79)) 31 (fun w => w.cell? ((Addr.mk b1 0 none).add 2) = some (Sl.v x79)) rfl (by kernel_rfl) (by kernel_rfl) (by kernel_rfl) (wantG rfl rfl rfl hc75) rfl rfl q79 (fun w q79 => (x_load1 rfl rfl SH_23 q79)) ?_
                refine wpD_take (v := (Value.int .i64 l41.2)) 32 (fun _ => True) rfl (by kernel_rfl) (by kernel_rfl) (by kernel_rfl) (wantG rfl rfl rfl hc75) rfl rfl trivial (fun w _ => (x_move (v := (Value.int .i64 l41.2)) rfl e10)) ?_
                obtain ⟨q80, z80, r80, h⟩ := h
                generalize hp80 : z80.add ((l41.2).toNat * 1) = p80 at h
                refine wpD_take (v := (Value.pointer (some p80))) 33 (fun _ => True) rfl (by kernel_rfl) (by kernel_rfl) (by kernel_rfl) (wantG rfl rfl rfl hc75) rfl rfl trivial (fun w _ => ((x_indexAddr (s := x79) rfl rfl rfl ES_23 q80 r80).trans (by rw [hp80]))) ?_
                obtain ⟨x81, q81, h⟩ := h
                refine wpD_take (v := (Value.int .i64 x81)) 34 (fun w => w.cell? p80 = some (Value.int .i64 x81)) rfl (by kernel_rfl) (by kernel_rfl) (by kernel_rfl) (wantG rfl rfl rfl hc75) rfl rfl q81 (fun w q81 => (x_load1 rfl rfl SH_3 q81)) ?_
                refine wpD_take (v := (Value.bool (decide (x78 < x81)))) 35 (fun _ => True) rfl (by kernel_rfl) (by kernel_rfl) (by kernel_rfl) (wantG rfl rfl rfl hc75) rfl rfl trivial (fun w _ => (x_lss rfl rfl rfl)) ?_
                refine wpD_take (v := (Value.bool (decide (x78 < x81)))) 36 (fun _ => True) rfl (by kernel_rfl) (by kernel_rfl) (by kernel_rfl) (wantG rfl rfl rfl hc74) rfl rfl trivial (fun w _ => (x_pickF (v := (Value.bool (decide (x78 < x81)))) rfl rfl hc75 rfl)) ?_
                refine wpD_take (v := (Value.bool (decide (x78 < x81)))) 37 (fun _ => True) rfl (by kernel_rfl) (by kernel_rfl) (by kernel_rfl) rfl rfl rfl trivial (fun w _ => (x_pickT (v := (Value.bool (decide (x78 < x81)))) rfl rfl hc74 rfl)) ?_
                refine wpD_take (v := (Value.bool (decide (x78 < x81)))) 38 (fun _ => True) rfl (by kernel_rfl) (by kernel_rfl) (by kernel_rfl) rfl rfl rfl trivial (fun w _ => (x_assign (v := (Value.bool (decide (x78 < x81)))) rfl rfl)) ?_
                exact wpD_done (by kernel_rfl) ⟨decide (x78 < x81), ⟨rfl, e0, e2, e4, e7, e8, e10, trivial⟩, h⟩
            · replace h := h.2 hc74
              refine wpD_pass 20 rfl (by kernel_rfl) (by kernel_rfl) (by kernel_rfl) (wantN rfl rfl rfl hc74) rfl rfl ?_
              refine wpD_pass 21 rfl (by kernel_rfl) (by kernel_rfl) (by kernel_rfl) (wantN rfl rfl rfl hc74) rfl rfl ?_
              refine wpD_pass 22 rfl (by kernel_rfl) (by kernel_rfl) (by kernel_rfl) (wantN rfl rfl rfl hc74) rfl rfl ?_
              refine wpD_pass 23 rfl (by kernel_rfl) (by kernel_rfl) (by kernel_rfl) (wantU rfl rfl rfl) rfl rfl ?_
              refine wpD_pass 24 rfl (by kernel_rfl) (by kernel_rfl) (by kernel_rfl) (wantU rfl rfl rfl) rfl rfl ?_
              refine wpD_pass 25 rfl (by kernel_rfl) (by kernel_rfl) (by kernel_rfl) (wantU rfl rfl rfl) rfl rfl ?_
              refine wpD_pass 26 rfl (by kernel_rfl) (by kernel_rfl) (by kernel_rfl) (wantU rfl rfl rfl) rfl rfl ?_
              refine wpD_pass 27 rfl (by kernel_rfl) (by kernel_rfl) (by kernel_rfl) (wantU rfl rfl rfl) rfl rfl ?_
              refine wpD_pass 28 rfl (by kernel_rfl) (by kernel_rfl) (by kernel_rfl) (wantU rfl rfl rfl) rfl rfl ?_
              refine wpD_pass 29 rfl (by kernel_rfl) (by kernel_rfl) (by kernel_rfl) (wantU rfl rfl rfl) rfl rfl ?_
              refine wpD_pass 30 rfl (by kernel_rfl) (by kernel_rfl) (by kernel_rfl) (wantU rfl rfl rfl) rfl rfl ?_
              refine wpD_pass 31 rfl (by kernel_rfl) (by kernel_rfl) (by kernel_rfl) (wantU rfl rfl rfl) rfl rfl ?_
              refine wpD_pass 32 rfl (by kernel_rfl) (by kernel_rfl) (by kernel_rfl) (wantU rfl rfl rfl) rfl rfl ?_
              refine wpD_pass 33 rfl (by kernel_rfl) (by kernel_rfl) (by kernel_rfl) (wantU rfl rfl rfl) rfl rfl ?_
              refine wpD_pass 34 rfl (by kernel_rfl) (by kernel_rfl) (by kernel_rfl) (wantU rfl rfl rfl) rfl rfl ?_
              refine wpD_pass 35 rfl (by kernel_rfl) (by kernel_rfl) (by kernel_rfl) (wantU rfl rfl rfl) rfl rfl ?_
              refine wpD_pass 36 rfl (by kernel_rfl) (by kernel_rfl) (by kernel_rfl) (wantN rfl rfl rfl hc74) rfl rfl ?_
              refine wpD_take (v := (Value.bool false)) 37 (fun _ => True) rfl (by kernel_rfl) (by kernel_rfl) (by kernel_rfl) rfl rfl rfl trivial (fun w _ => (x_pickF (v := (Value.bool false)) rfl rfl hc74 rfl)) ?_
              refine wpD_take (v := (Value.bool false)) 38 (fun _ => True) rfl (by kernel_rfl) (by kernel_rfl) (by kernel_rfl) rfl rfl rfl trivial (fun w _ => (x_assign (v := (Value.bool false)) rfl rfl)) ?_
              exact wpD_done (by kernel_rfl) ⟨false, ⟨rfl, e0, e2, e4, e7, e8, e10, trivial⟩, h⟩
          · replace h := h.2 hc70
            refine wpD_pass 10 rfl (by kernel_rfl) (by kernel_rfl) (by kernel_rfl) (wantN rfl rfl rfl hc70) rfl rfl ?_
            refine wpD_pass 11 rfl (by kernel_rfl) (by kernel_rfl) (by kernel_rfl) (wantN rfl rfl rfl hc70) rfl rfl ?_
            refine wpD_pass 12 rfl (by kernel_rfl) (by kernel_rfl) (by kernel_rfl) (wantN rfl rfl rfl hc70) rfl rfl ?_
            refine wpD_pass 13 rfl (by kernel_rfl) (by kernel_rfl) (by kernel_rfl) (wantN rfl rfl rfl hc70) rfl rfl ?_
            refine wpD_pass 14 rfl (by kernel_rfl) (by kernel_rfl) (by kernel_rfl) (wantN rfl rfl rfl hc70) rfl rfl ?_
            refine wpD_pass 15 rfl (by kernel_rfl) (by kernel_rfl) (by kernel_rfl) (wantN rfl rfl rfl hc70) rfl rfl ?_
            refine wpD_pass 16 rfl (by kernel_rfl) (by kernel_rfl) (by kernel_rfl) (wantN rfl rfl rfl hc70) rfl rfl ?_
            refine wpD_pass 17 rfl (by kernel_rfl) (by kernel_rfl) (by kernel_rfl) (wantN rfl rfl rfl hc70) rfl rfl ?_
            refine wpD_take (v := (Value.bool false)) 18 (fun _ => True) rfl (by kernel_rfl) (by kernel_rfl) (by kernel_rfl) rfl rfl rfl trivial (fun w _ => (x_pickF (v := (Value.bool false)) rfl rfl hc70 rfl)) ?_
            refine wpD_take (v := (Value.bool false)) 19 (fun _ => True) rfl (by kernel_rfl) (by kernel_rfl) (by kernel_rfl) rfl rfl rfl trivial (fun w _ => (x_move (v := (Value.bool false)) rfl rfl)) ?_
            rcases Bool.eq_false_or_eq_true (false) with hc82 | hc82
            · replace h := h.1 hc82
              refine wpD_take (v := (Value.int .i64 l41.2)) 20 (fun _ => True) rfl (by kernel_rfl) (by kernel_rfl) (by kernel_rfl) (wantG rfl rfl rfl hc82) rfl rfl trivial (fun w _ => (x_move (v := (Value.int .i64 l41.2)) rfl e10)) ?_
              refine wpD_take (v := (Value.bool (decide (l41.2 = 0)))) 21 (fun _ => True) rfl (by kernel_rfl) (by kernel_rfl) (by kernel_rfl) (wantG rfl rfl rfl hc82) rfl rfl trivial (fun w _ => (x_eql rfl rfl rfl)) ?_
              refine wpD_take (v := (Value.bool (decide (l41.2 = 0)))) 22 (fun _ => True) rfl (by kernel_rfl) (by kernel_rfl) (by kernel_rfl) (wantG rfl rfl rfl hc82) rfl rfl trivial (fun w _ => (x_move (v := (Value.bool (decide (l41.2 = 0)))) rfl rfl)) ?_
              rcases Bool.eq_false_or_eq_true (decide (l41.2 = 0)) with hc83 | hc83
              · replace h := h.1 hc83
                refine wpD_pass 23 rfl (by kernel_rfl) (by kernel_rfl) (by kernel_rfl) (wantN rfl rfl rfl hc83) rfl rfl ?_
                refine wpD_pass 24 rfl (by kernel_rfl) (by kernel_rfl) (by kernel_rfl) (wantN rfl rfl rfl hc83) rfl rfl ?_
                refine wpD_pass 25 rfl (by kernel_rfl) (by kernel_rfl) (by kernel_rfl) (wantN rfl rfl rfl hc83) rfl rfl ?_
                refine wpD_pass 26 rfl (by kernel_rfl) (by kernel_rfl) (by kernel_rfl) (wantN rfl rfl rfl hc83) rfl rfl ?_
                refine wpD_pass 27 rfl (by kernel_rfl) (by kernel_rfl) (by kernel_rfl) (wantN rfl rfl rfl hc83) rfl rfl ?_
                refine wpD_pass 28 rfl (by kernel_rfl) (by kernel_rfl) (by kernel_rfl) (wantN rfl rfl rfl hc83) rfl rfl ?_
                refine wpD_pass 29 rfl (by kernel_rfl) (by kernel_rfl) (by kernel_rfl) (wantN rfl rfl rfl hc83) rfl rfl ?_
                refine wpD_pass 30 rfl (by kernel_rfl) (by kernel_rfl) (by kernel_rfl) (wantN rfl rfl rfl hc83) rfl rfl ?_
                refine wpD_pass 31 rfl (by kernel_rfl) (by kernel_rfl) (by kernel_rfl) (wantN rfl rfl rfl hc83) rfl rfl ?_
                refine wpD_pass 32 rfl (by kernel_rfl) (by kernel_rfl) (by kernel_rfl) (wantN rfl rfl rfl hc83) rfl rfl ?_
                refine wpD_pass 33 rfl (by kernel_rfl) (by kernel_rfl) (by kernel_rfl) (wantN rfl rfl rfl hc83) rfl rfl ?_
                refine wpD_pass 34 rfl (by kernel_rfl) (by kernel_rfl) (by kernel_rfl) (wantN rfl rfl rfl hc83) rfl rfl ?_
                refine wpD_pass 35 rfl (by kernel_rfl) (by kernel_rfl) (by kernel_rfl) (wantN rfl rfl rfl hc83) rfl rfl ?_
                refine wpD_take (v := (Value.bool true)) 36 (fun _ => True) rfl (by kernel_rfl) (by kernel_rfl) (by kernel_rfl) (wantG rfl rfl rfl hc82) rfl rfl trivial (fun w _ => (x_pickT (v := (Value.bool true)) rfl rfl hc83 rfl)) ?_
                refine wpD_take (v := (Value.bool true)) 37 (fun _ => True) rfl (by kernel_rfl) (by kernel_rfl) (by kernel_rfl) rfl rfl rfl trivial (fun w _ => (x_pickT (v := (Value.bool true)) rfl rfl hc82 rfl)) ?_
                refine wpD_take (v := (Value.bool true)) 38 (fun _ => True) rfl (by kernel_rfl) (by kernel_rfl) (by kernel_rfl) rfl rfl rfl trivial (fun w _ => (x_assign (v := (Value.bool true)) rfl rfl)) ?_
                exact wpD_done (by kernel_rfl) ⟨true, ⟨rfl, e0, e2, e4, e7, e8, e10, trivial⟩, h⟩
              · replace h := h.2 hc83
                refine wpD_take (v := (Value.pointer (some ((Addr.mk b1 0 none).add 2)))) 23 (fun _ => True) rfl (by kernel_rfl) (by kernel_rfl) (by kernel_rfl) (wantG rfl rfl rfl hc83) rfl rfl trivial (fun w _ => (x_fieldAddr rfl e4 FA_32_2)) ?_
                obtain ⟨x84, q84, h⟩ := h
                refine wpD_take (v := (Sl.v x84)) 24 (fun w => w.cell? ((Addr.mk b1 0 none).add 2) = some (Sl.v x84)) rfl (by kernel_rfl) (by kernel_rfl) (by kernel_rfl) (wantG rfl rfl rfl hc83) rfl rfl q84 (fun w q84 => (x_load1 rfl rfl SH_23 q84)) ?_
                refine wpD_take (v := (Value.int .i64 l41.2)) 25 (fun _ => True) rfl (by kernel_rfl) (by kernel_rfl) (by kernel_rfl) (wantG rfl rfl rfl hc83) rfl rfl trivial (fun w _ => (x_move (v := (Value.int .i64 l41.2)) rfl e10)) ?_
                refine wpD_take (v := (Value.int .i64 (IntKind.i64.wrap (l41.2 - 1)))) 26 (fun _ => True) rfl (by kernel_rfl) (by kernel_rfl) (by kernel_rfl) (wantG rfl rfl rfl hc83) rfl rfl trivial (fun w _ => (x_sub rfl rfl rfl)) ?_
                refine wpD_take (v := (Value.int .i64 (max (IntKind.i64.wrap (l41.2 - 1)) 0))) 27 (fun _ => True) rfl (by kernel_rfl) (by kernel_rfl) (by kernel_rfl) (wantG rfl rfl rfl hc83) rfl rfl trivial (fun w _ => (x_max rfl rfl rfl)) ?_
                obtain ⟨q85, z85, r85, h⟩ := h
                generalize hp85 : z85.add ((max (IntKind.i64.wrap (l41.2 - 1)) 0).toNat * 1) = p85 at h
                refine wpD_take (v := (Value.pointer (some p85))) 28 (fun _ => True) rfl (by kernel_rfl) (by kernel_rfl) (by kernel_rfl) (wantG rfl rfl rfl hc83) rfl rfl trivial (fun w _ => ((x_indexAddr (s := x84) rfl rfl rfl ES_23 q85 r85).trans (by rw [hp85]))) ?_
                obtain ⟨x86, q86, h⟩ := h
                refine wpD_take (v := (Value.int .i64 x86)) 29 (fun w => w.cell? p85 = some (Value.int .i64 x86)) rfl (by kernel_rfl) (by kernel_rfl) (by kernel_rfl) (wantG rfl rfl rfl hc83) rfl rfl q86 (fun w q86 => (x_load1 rfl rfl SH_3 q86)) ?_
                refine wpD_take (v := (Value.pointer (some ((Addr.mk b1 0 none).add 2)))) 30 (fun _ => True) rfl (by kernel_rfl) (by kernel_rfl) (by kernel_rfl) (wantG rfl rfl rfl hc83) rfl rfl trivial (fun w _ => (x_fieldAddr rfl e4 FA_32_2)) ?_
                obtain ⟨x87, q87, h⟩ := h
                refine wpD_take (v := (Sl.v x87)) 31 (fun w => w.cell? ((Addr.mk b1 0 none).add 2) = some (Sl.v x87)) rfl (by kernel_rfl) (by kernel_rfl) (by kernel_rfl) (wantG rfl rfl rfl hc83) rfl rfl q87 (fun w q87 => (x_load1 rfl rfl SH_23 q87)) ?_
                refine wpD_take (v := (Value.int .i64 l41.2)) 32 (fun _ => True) rfl (by kernel_rfl) (by kernel_rfl) (by kernel_rfl) (wantG rfl rfl rfl hc83) rfl rfl trivial (fun w _ => (x_move (v := (Value.int .i64 l41.2)) rfl e10)) ?_
                obtain ⟨q88, z88, r88, h⟩ := h
                generalize hp88 : z88.add ((l41.2).toNat * 1) = p88 at h
                refine wpD_take (v := (Value.pointer (some p88))) 33 (fun _ => True) rfl (by kernel_rfl) (by kernel_rfl) (by kernel_rfl) (wantG rfl rfl rfl hc83) rfl rfl trivial (fun w _ => ((x_indexAddr (s := x87) rfl rfl rfl ES_23 q88 r88).trans (by rw [hp88]))) ?_
                obtain ⟨x89, q89, h⟩ := h
                refine wpD_take (v := (Value.int .i64 x89)) 34 (fun w => w.cell? p88 = some (Value.int .i64 x89)) rfl (by kernel_rfl) (by kernel_rfl) (by kernel_rfl) (wantG rfl rfl rfl hc83) rfl rfl q89 (fun w q89 => (x_load1 rfl rfl SH_3 q89)) ?_
                refine wpD_take (v := (Value.bool (decide (x86 < x89)))) 35 (fun _ => True) rfl (by kernel_rfl) (by kernel_rfl) (by kernel_rfl) (wantG rfl rfl rfl hc83) rfl rfl trivial (fun w _ => (x_lss rfl rfl rfl)) ?_
                refine wpD_take (v := (Value.bool (decide (x86 < x89)))) 36 (fun _ => True) rfl (by kernel_rfl) (by kernel_rfl) (by kernel_rfl) (wantG rfl rfl rfl hc82) rfl rfl trivial (fun w _ => (x_pickF (v := (Value.bool (decide (x86 < x89)))) rfl rfl hc83 rfl)) ?_
                refine wpD_take (v := (Value.bool (decide (x86 < x89)))) 37 (fun _ => True) rfl (by kernel_rfl) (by kernel_rfl) (by kernel_rfl) rfl rfl rfl trivial (fun w _ => (x_pickT (v := (Value.bool (decide (x86 < x89)))) rfl rfl hc82 rfl)) ?_
                refine wpD_take (v := (Value.bool (decide (x86 < x89)))) 38 (fun _ => True) rfl (by kernel_rfl) (by kernel_rfl) (by kernel_rfl) rfl rfl rfl trivial (fun w _ => (x_assign (v := (Value.bool (decide (x86 < x89)))) rfl rfl)) ?_
                exact wpD_done (by kernel_rfl) ⟨decide (x86 < x89), ⟨rfl, e0, e2, e4, e7, e8, e10, trivial⟩, h⟩
            · replace h := h.2 hc82
              refine wpD_pass 20 rfl (by kernel_rfl) (by kernel_rfl) (by kernel_rfl) (wantN rfl rfl rfl hc82) rfl rfl ?_
              refine wpD_pass 21 rfl (by kernel_rfl) (by kernel_rfl) (by kernel_rfl) (wantN rfl rfl rfl hc82) rfl rfl ?_
              refine wpD_pass 22 rfl (by kernel_rfl) (by kernel_rfl) (by kernel_rfl) (wantN rfl rfl rfl hc82) rfl rfl ?_
              refine wpD_pass 23 rfl (by kernel_rfl) (by kernel_rfl) (by kernel_rfl) (wantU rfl rfl rfl) rfl rfl ?_
              refine wpD_pass 24 rfl (by kernel_rfl) (by kernel_rfl) (by kernel_rfl) (wantU rfl rfl rfl) rfl rfl ?_
              refine wpD_pass 25 rfl (by kernel_rfl) (by kernel_rfl) (by kernel_rfl) (wantU rfl rfl rfl) rfl rfl ?_
              refine wpD_pass 26 rfl (by kernel_rfl) (by kernel_rfl) (by kernel_rfl) (wantU rfl rfl rfl) rfl rfl ?_
              refine wpD_pass 27 rfl (by kernel_rfl) (by kernel_rfl) (by kernel_rfl) (wantU rfl rfl rfl) rfl rfl ?_
              refine wpD_pass 28 rfl (by kernel_rfl) (by kernel_rfl) (by kernel_rfl) (wantU rfl rfl rfl) rfl rfl ?_
              refine wpD_pass 29 rfl (by kernel_rfl) (by kernel_rfl) (by kernel_rfl) (wantU rfl rfl rfl) rfl rfl ?_
              refine wpD_pass 30 rfl (by kernel_rfl) (by kernel_rfl) (by kernel_rfl) (wantU rfl rfl rfl) rfl rfl ?_
              refine wpD_pass 31 rfl (by kernel_rfl) (by kernel_rfl) (by kernel_rfl) (wantU rfl rfl rfl) rfl rfl ?_
              refine wpD_pass 32 rfl (by kernel_rfl) (by kernel_rfl) (by kernel_rfl) (wantU rfl rfl rfl) rfl rfl ?_
              refine wpD_pass 33 rfl (by kernel_rfl) (by kernel_rfl) (by kernel_rfl) (wantU rfl rfl rfl) rfl rfl ?_
              refine wpD_pass 34 rfl (by kernel_rfl) (by kernel_rfl) (by kernel_rfl) (wantU rfl rfl rfl) rfl rfl ?_
              refine wpD_pass 35 rfl (by kernel_rfl) (by kernel_rfl) (by kernel_rfl) (wantU rfl rfl rfl) rfl rfl ?_
              refine wpD_pass 36 rfl (by kernel_rfl) (by kernel_rfl) (by kernel_rfl) (wantN rfl rfl rfl hc82) rfl rfl ?_
              refine wpD_take (v := (Value.bool false)) 37 (fun _ => True) rfl (by kernel_rfl) (by kernel_rfl) (by kernel_rfl) rfl rfl rfl trivial (fun w _ => (x_pickF (v := (Value.bool false)) rfl rfl hc82 rfl)) ?_
              refine wpD_take (v := (Value.bool false)) 38 (fun _ => True) rfl (by kernel_rfl) (by kernel_rfl) (by kernel_rfl) rfl rfl rfl trivial (fun w _ => (x_assign (v := (Value.bool false)) rfl rfl)) ?_
              exact wpD_done (by kernel_rfl) ⟨false, ⟨rfl, e0, e2, e4, e7, e8, e10, trivial⟩, h⟩
      clear h
      rintro l90 ρ w21 ⟨e9, e0, e2, e4, e7, e8, e10, -⟩ h
      replace h := hk l90 w21 h
      clear hk
      refine wpC_region ?_
      refine wpR_val (v := (Value.int .i64 l41.2)) (w' := w21) rfl rfl rfl (x_move (v := (Value.int .i64 l41.2)) rfl e10) ?_
      refine wpR_val (v := (Value.int .i64 (IntKind.i64.wrap (l41.2 + 1)))) (w' := w21) rfl rfl rfl (x_add rfl rfl rfl) ?_
      refine wpR_val (v := (Value.int .i64 (IntKind.i64.wrap (l41.2 + 1)))) (w' := w21) rfl rfl rfl (x_assign (v := (Value.int .i64 (IntKind.i64.wrap (l41.2 + 1)))) rfl rfl) ?_
      refine wpR_nil ?_
      exact ⟨(l90, IntKind.i64.wrap (l41.2 + 1)), ⟨e9, rfl, e0, e2, e4, e7, e8, trivial⟩, h⟩
    · replace h := h.2 hc43
      refine wpC_exit ?_
      refine wpC_seq ?_
      refine wpC_seq ?_
      refine wpC_cut (fun ρ => ρ 0 = (Sl.v p0) ∧ ρ 2 = (Sl.v p2) ∧ ρ 4 = (Value.pointer (some (Addr.mk b1 0 none))) ∧ ρ 7 = (Value.bool r2) ∧ ρ 8 = (Sl.v l19) ∧ ρ 9 = (Value.bool l41.1) ∧ True) ⟨e0, e2, e4, e7, e8, e9, trivial⟩ ?_
      rintro ρ ⟨e0, e2, e4, e7, e8, e9, -⟩
      refine wpC_region ?_
      refine wpR_val (v := (Sl.v l19)) (w' := w19) rfl rfl rfl (x_move (v := (Sl.v l19)) rfl e8) ?_
      refine wpR_enter rfl rfl rfl (x_call (vs := [(Sl.v l19)]) rfl rfl (mapl_cons rfl mapl_nil) Try.func10 NN_10 NB_10) (Calls.mono h ?_)
      rintro _ w22 ⟨r91, rfl, h⟩
      refine ⟨_, rfl, ?_⟩
      refine wpR_val (v := (Value.bool l41.1)) (w' := w22) rfl rfl rfl (x_move (v := (Value.bool l41.1)) rfl e9) ?_
      refine wpR_val (v := (Value.bool (!(r91 == l41.1)))) (w' := w22) rfl rfl rfl (x_neqB rfl rfl rfl isBoolT_4) ?_
      refine wpR_nil ?_
      refine wpC_cond (b := !(r91 == l41.1)) rfl (fun hc92 => ?_) (fun hc92 => ?_)
      · replace h := h.1 hc92
        refine wpC_seq ?_
        refine wpC_cut (fun ρ => True) trivial ?_
        rintro ρ -
        refine wpC_region ?_
        refine wpR_val (v := (Value.bool false)) (w' := w22) rfl rfl rfl (x_assign (v := (Value.bool false)) rfl rfl) ?_
        refine wpR_nil ?_
        refine wpC_ret ?_
        exact ⟨.inl rfl, fun a ha => ⟨_, results_rep1 rfl ha rfl, false, rfl, h⟩⟩
      · replace h := h.2 hc92
        refine wpC_skip ?_
        refine wpC_seq ?_
        refine wpC_cut (fun ρ => ρ 0 = (Sl.v p0) ∧ ρ 2 = (Sl.v p2) ∧ ρ 4 = (Value.pointer (some (Addr.mk b1 0 none))) ∧ ρ 7 = (Value.bool r2) ∧ ρ 8 = (Sl.v l19) ∧ ρ 9 = (Value.bool l41.1) ∧ True) ⟨e0, e2, e4, e7, e8, e9, trivial⟩ ?_
        rintro ρ ⟨e0, e2, e4, e7, e8, e9, -⟩
        refine wpC_region ?_
        refine wpR_val (v := (Sl.v p0)) (w' := w22) rfl rfl rfl (x_move (v := (Sl.v p0)) rfl e0) ?_
        refine wpR_val (v := (Sl.v p2)) (w' := w22) rfl rfl rfl (x_move (v := (Sl.v p2)) rfl e2) ?_
        refine wpR_enter rfl rfl rfl (x_call (vs := [(Sl.v p0), (Sl.v p2)]) rfl rfl (mapl_cons rfl (mapl_cons rfl mapl_nil)) Try.func13 NN_13 NB_13) (Calls.mono h ?_)
        rintro _ w23 ⟨r93, rfl, h⟩
        refine ⟨_, rfl, ?_⟩
        refine wpR_val (v := (Sl.v r93)) (w' := w23) rfl rfl rfl (x_assign (v := (Sl.v r93)) rfl rfl) ?_
        refine wpR_nil ?_
        refine wpC_seq ?_
        refine wpC_cut (fun ρ => ρ 0 = (Sl.v p0) ∧ ρ 2 = (Sl.v p2) ∧ ρ 4 = (Value.pointer (some (Addr.mk b1 0 none))) ∧ ρ 7 = (Value.bool r2) ∧ ρ 8 = (Sl.v l19) ∧ ρ 9 = (Value.bool l41.1) ∧ ρ 11 = (Sl.v r93) ∧ True) ⟨e0, e2, e4, e7, e8, e9, rfl, trivial⟩ ?_
        rintro ρ ⟨e0, e2, e4, e7, e8, e9, e11, -⟩
        refine wpC_region ?_
        refine wpR_val (v := (Sl.v l19)) (w' := w23) rfl rfl rfl (x_move (v := (Sl.v l19)) rfl e8) ?_
        refine wpR_val (v := (Sl.v p2)) (w' := w23) rfl rfl rfl (x_move (v := (Sl.v p2)) rfl e2) ?_
        refine wpR_enter rfl rfl rfl (x_call (vs := [(Sl.v l19), (Sl.v p2)]) rfl rfl (mapl_cons rfl (mapl_cons rfl mapl_nil)) Try.func13 NN_13 NB_13) (Calls.mono h ?_)
        rintro _ w24 ⟨r94, rfl, h⟩
        refine ⟨_, rfl, ?_⟩
        refine wpR_val (v := (Sl.v r94)) (w' := w24) rfl rfl rfl (x_assign (v := (Sl.v r94)) rfl rfl) ?_
        refine wpR_nil ?_
        refine wpC_seq ?_
        refine wpC_seq ?_
        refine wpC_cut (fun ρ => ρ 0 = (Sl.v p0) ∧ ρ 2 = (Sl.v p2) ∧ ρ 4 = (Value.pointer (some (Addr.mk b1 0 none))) ∧ ρ 7 = (Value.bool r2) ∧ ρ 8 = (Sl.v l19) ∧ ρ 9 = (Value.bool l41.1) ∧ ρ 11 = (Sl.v r93) ∧ ρ 12 = (Sl.v r94) ∧ True) ⟨e0, e2, e4, e7, e8, e9, e11, rfl, trivial⟩ ?_
        rintro ρ ⟨e0, e2, e4, e7, e8, e9, e11, e12, -⟩
        refine wpC_region ?_
        refine wpR_val (v := (Value.bool l41.1)) (w' := w24) rfl rfl rfl (x_move (v := (Value.bool l41.1)) rfl e9) ?_
        refine wpR_val (v := (Value.bool (!l41.1))) (w' := w24) rfl rfl rfl (x_not rfl rfl) ?_
        refine wpR_nil ?_
        refine wpC_cond (b := !l41.1) rfl (fun hc95 => ?_) (fun hc95 => ?_)
        · replace h := h.1 hc95
          refine wpC_seq ?_
          refine wpC_cut (fun ρ => ρ 2 = (Sl.v p2) ∧ ρ 7 = (Value.bool r2) ∧ ρ 8 = (Sl.v l19) ∧ ρ 12 = (Sl.v r94) ∧ True) ⟨e2, e7, e8, e12, trivial⟩ ?_
          rintro ρ ⟨e2, e7, e8, e12, -⟩
          refine wpC_region ?_
          refine wpR_val (v := (Value.bool r2)) (w' := w24) rfl rfl rfl (x_move (v := (Value.bool r2)) rfl e7) ?_
          refine wpR_val (v := (Value.bool r2)) (w' := w24) rfl rfl rfl (x_move (v := (Value.bool r2)) rfl rfl) ?_
          refine wpR_joinJ 4 (fun (_ : Unit) ρ => ρ 119 = Value.bool (r2 && (decide ((r94.len : Int) = 0))) ∧ ρ 2 = (Sl.v p2) ∧ ρ 8 = (Sl.v l19) ∧ True) (fun _ w => w24 = w) ?_ ?_
          · clear h
            rcases Bool.eq_false_or_eq_true (r2) with hc97 | hc97
            · skip
              refine wpR_val (v := (Sl.v r94)) (w' := w24) (wantG rfl rfl rfl hc97) rfl rfl (x_move (v := (Sl.v r94)) rfl e12) ?_
              refine wpR_val (v := (Value.int .i64 (r94.len : Int))) (w' := w24) (wantG rfl rfl rfl hc97) rfl rfl (x_lenS (s := r94) rfl rfl isSliceT_23) ?_
              refine wpR_val (v := (Value.bool (decide ((r94.len : Int) = 0)))) (w' := w24) (wantG rfl rfl rfl hc97) rfl rfl (x_eql rfl rfl rfl) ?_
              refine wpR_val (v := (Value.bool (decide ((r94.len : Int) = 0)))) (w' := w24) rfl rfl rfl (x_pickT (v := (Value.bool (decide ((r94.len : Int) = 0)))) rfl rfl hc97 rfl) ?_
              refine wpR_nil ?_
              exact ⟨(), ⟨(by rw [hc97]; rfl), e2, e8, trivial⟩, rfl⟩
            · skip
              refine wpR_pass (wantN rfl rfl rfl hc97) rfl rfl ?_
              refine wpR_pass (wantN rfl rfl rfl hc97) rfl rfl ?_
              refine wpR_pass (wantN rfl rfl rfl hc97) rfl rfl ?_
              refine wpR_val (v := (Value.bool false)) (w' := w24) rfl rfl rfl (x_pickF (v := (Value.bool false)) rfl rfl hc97 rfl) ?_
              refine wpR_nil ?_
              exact ⟨(), ⟨(by rw [hc97]; rfl), e2, e8, trivial⟩, rfl⟩
          rintro _ ρ wj ⟨e119, e2, e8, -⟩ rfl
          refine wpR_val (v := (Value.bool (r2 && (decide ((r94.len : Int) = 0))))) (w' := w24) rfl rfl rfl (x_move (v := (Value.bool (r2 && (decide ((r94.len : Int) = 0))))) rfl e119) ?_
          obtain ⟨J98, h, hk⟩ := h
          refine wpR_joinJ 6 (fun x ρ => ρ 126 = Value.bool x ∧ ρ 2 = (Sl.v p2) ∧ ρ 8 = (Sl.v l19) ∧ True) (J98) ?_ ?_
          · clear hk
            rcases Bool.eq_false_or_eq_true (r2 && (decide ((r94.len : Int) = 0))) with hc99 | hc99
            · replace h := h.1 hc99
              refine wpR_val (v := (Sl.v l19)) (w' := w24) (wantG rfl rfl rfl hc99) rfl rfl (x_move (v := (Sl.v l19)) rfl e8) ?_
              refine wpR_val (v := (Sl.v p2)) (w' := w24) (wantG rfl rfl rfl hc99) rfl rfl (x_move (v := (Sl.v p2)) rfl e2) ?_
              refine wpR_enter (wantG rfl rfl rfl hc99) rfl rfl (x_call (vs := [(Sl.v l19), (Sl.v p2)]) rfl rfl (mapl_cons rfl (mapl_cons rfl mapl_nil)) Try.func15 NN_15 NB_15) (Calls.mono h ?_)
              rintro _ w25 ⟨r100, rfl, h⟩
              refine ⟨_, rfl, ?_⟩
              refine wpR_val (v := (Value.int .i64 (r100.len : Int))) (w' := w25) (wantG rfl rfl rfl hc99) rfl rfl (x_lenS (s := r100) rfl rfl isSliceT_23) ?_
              refine wpR_val (v := (Value.bool (decide ((r100.len : Int) = 0)))) (w' := w25) (wantG rfl rfl rfl hc99) rfl rfl (x_eql rfl rfl rfl) ?_
              refine wpR_val (v := (Value.bool (decide ((r100.len : Int) = 0)))) (w' := w25) rfl rfl rfl (x_pickT (v := (Value.bool (decide ((r100.len : Int) = 0)))) rfl rfl hc99 rfl) ?_
              refine wpR_nil ?_
              exact ⟨decide ((r100.len : Int) = 0), ⟨rfl, e2, e8, trivial⟩, h⟩
            · replace h := h.2 hc99
              refine wpR_pass (wantN rfl rfl rfl hc99) rfl rfl ?_
              refine wpR_pass (wantN rfl rfl rfl hc99) rfl rfl ?_
              refine wpR_pass (wantN rfl rfl rfl hc99) rfl rfl ?_
              refine wpR_pass (wantN rfl rfl rfl hc99) rfl rfl ?_
              refine wpR_pass (wantN rfl rfl rfl hc99) rfl rfl ?_
              refine wpR_val (v := (Value.bool false)) (w' := w24) rfl rfl rfl (x_pickF (v := (Value.bool false)) rfl rfl hc99 rfl) ?_
              refine wpR_nil ?_
              exact ⟨false, ⟨rfl, e2, e8, trivial⟩, h⟩
          clear h
          rintro c101 ρ w26 ⟨e126, e2, e8, -⟩ h
          replace h := hk c101 w26 h
          clear hk
          refine wpR_val (v := (Value.bool c101)) (w' := w26) rfl rfl rfl (x_move (v := (Value.bool c101)) rfl e126) ?_
          obtain ⟨J102, h, hk⟩ := h
          refine wpR_joinJ 6 (fun x ρ => ρ 133 = Value.bool x ∧ True) (J102) ?_ ?_
          · clear hk
            rcases Bool.eq_false_or_eq_true (c101) with hc103 | hc103
            · replace h := h.1 hc103
              refine wpR_val (v := (Sl.v l19)) (w' := w26) (wantG rfl rfl rfl hc103) rfl rfl (x_move (v := (Sl.v l19)) rfl e8) ?_
              refine wpR_val (v := (Sl.v p2)) (w' := w26) (wantG rfl rfl rfl hc103) rfl rfl (x_move (v := (Sl.v p2)) rfl e2) ?_
              refine wpR_enter (wantG rfl rfl rfl hc103) rfl rfl (x_call (vs := [(Sl.v l19), (Sl.v p2)]) rfl rfl (mapl_cons rfl (mapl_cons rfl mapl_nil)) Try.func17 NN_17 NB_17) (Calls.mono h ?_)
              rintro _ w27 ⟨r104, rfl, h⟩
              refine ⟨_, rfl, ?_⟩
              refine wpR_val (v := (Value.int .i64 (r104.len : Int))) (w' := w27) (wantG rfl rfl rfl hc103) rfl rfl (x_lenS (s := r104) rfl rfl isSliceT_23) ?_
              refine wpR_val (v := (Value.bool (decide ((r104.len : Int) = 0)))) (w' := w27) (wantG rfl rfl rfl hc103) rfl rfl (x_eql rfl rfl rfl) ?_
              refine wpR_val (v := (Value.bool (decide ((r104.len : Int) = 0)))) (w' := w27) rfl rfl rfl (x_pickT (v := (Value.bool (decide ((r104.len : Int) = 0)))) rfl rfl hc103 rfl) ?_
              refine wpR_nil ?_
              exact ⟨decide ((r104.len : Int) = 0), ⟨rfl, trivial⟩, h⟩
            · replace h := h.2 hc103
              refine wpR_pass (wantN rfl rfl rfl hc103) rfl rfl ?_
              refine wpR_pass (wantN rfl rfl rfl hc103) rfl rfl ?_
              refine wpR_pass (wantN rfl rfl rfl hc103) rfl rfl ?_
              refine wpR_pass (wantN rfl rfl rfl hc103) rfl rfl ?_
              refine wpR_pass (wantN rfl rfl rfl hc103) rfl rfl ?_
              refine wpR_val (v := (Value.bool false)) (w' := w26) rfl rfl rfl (x_pickF (v := (Value.bool false)) rfl rfl hc103 rfl) ?_
              refine wpR_nil ?_
              exact ⟨false, ⟨rfl, trivial⟩, h⟩
          clear h
          rintro c105 ρ w28 ⟨e133, -⟩ h
          replace h := hk c105 w28 h
          clear hk
          refine wpR_val (v := (Value.bool c105)) (w' := w28) rfl rfl rfl (x_assign (v := (Value.bool c105)) rfl e133) ?_
          refine wpR_nil ?_
          refine wpC_ret ?_
          exact ⟨.inl rfl, fun a ha => ⟨_, results_rep1 rfl ha rfl, c105, rfl, h⟩⟩
        · replace h := h.2 hc95
          refine wpC_skip ?_
          refine wpC_seq ?_
          refine wpC_cut (fun ρ => ρ 0 = (Sl.v p0) ∧ ρ 2 = (Sl.v p2) ∧ ρ 4 = (Value.pointer (some (Addr.mk b1 0 none))) ∧ ρ 7 = (Value.bool r2) ∧ ρ 8 = (Sl.v l19) ∧ ρ 11 = (Sl.v r93) ∧ ρ 12 = (Sl.v r94) ∧ True) ⟨e0, e2, e4, e7, e8, e11, e12, trivial⟩ ?_
          rintro ρ ⟨e0, e2, e4, e7, e8, e11, e12, -⟩
          refine wpC_region ?_
          refine wpR_val (v := (Sl.v p2)) (w' := w24) rfl rfl rfl (x_move (v := (Sl.v p2)) rfl e2) ?_
          refine wpR_val (v := (Sl.v p0)) (w' := w24) rfl rfl rfl (x_move (v := (Sl.v p0)) rfl e0) ?_
          refine wpR_val (v := (Value.int .i64 (p0.len : Int))) (w' := w24) rfl rfl rfl (x_lenS (s := p0) rfl rfl isSliceT_22) ?_
          refine wpR_enter rfl rfl rfl (x_call (vs := [(Sl.v p2), (Value.int .i64 (p0.len : Int))]) rfl rfl (mapl_cons rfl (mapl_cons rfl mapl_nil)) Try.func19 NN_19 NB_19) (Calls.mono h ?_)
          rintro _ w29 ⟨r106, rfl, h⟩
          refine ⟨_, rfl, ?_⟩
          refine wpR_val (v := (Value.bool r106)) (w' := w29) rfl rfl rfl (x_assign (v := (Value.bool r106)) rfl rfl) ?_
          refine wpR_nil ?_
          refine wpC_seq ?_
          refine wpC_seq ?_
          refine wpC_cut (fun ρ => ρ 0 = (Sl.v p0) ∧ ρ 4 = (Value.pointer (some (Addr.mk b1 0 none))) ∧ ρ 7 = (Value.bool r2) ∧ ρ 8 = (Sl.v l19) ∧ ρ 11 = (Sl.v r93) ∧ ρ 12 = (Sl.v r94) ∧ ρ 13 = (Value.bool r106) ∧ True) ⟨e0, e4, e7, e8, e11, e12, rfl, trivial⟩ ?_
          rintro ρ ⟨e0, e4, e7, e8, e11, e12, e13, -⟩
          refine wpC_region ?_
          refine wpR_val (v := (Value.int .i64 0)) (w' := w29) rfl rfl rfl (x_assign (v := (Value.int .i64 0)) rfl rfl) ?_
          refine wpR_nil ?_
          refine wpC_block ?_
          obtain ⟨I107, μ107, hI107, hr107⟩ := h
          refine wpC_loop (fun (x : Bool × Int) ρ => ρ 13 = (Value.bool x.1) ∧ ρ 14 = (Value.int .i64 x.2) ∧ ρ 0 = (Sl.v p0) ∧ ρ 4 = (Value.pointer (some (Addr.mk b1 0 none))) ∧ ρ 7 = (Value.bool r2) ∧ ρ 8 = (Sl.v l19) ∧ ρ 11 = (Sl.v r93) ∧ ρ 12 = (Sl.v r94) ∧ True) I107 μ107 (r106, 0) ⟨e13, rfl, e0, e4, e7, e8, e11, e12, trivial⟩ hI107 ?_
          rintro l107 ρ w30 ⟨e13, e14, e0, e4, e7, e8, e11, e12, -⟩ h
          replace h := hr107 l107 w30 h
          clear hr107 hI107
          refine wpC_seq ?_
          refine wpC_seq ?_
          refine wpC_region ?_
          refine wpR_val (v := (Value.int .i64 l107.2)) (w' := w30) rfl rfl rfl (x_move (v := (Value.int .i64 l107.2)) rfl e14) ?_
          refine wpR_val (v := (Value.pointer (some ((Addr.mk b1 0 none).add 2)))) (w' := w30) rfl rfl rfl (x_fieldAddr rfl e4 FA_32_2) ?_
          obtain ⟨x108, q108, h⟩ := h
          refine wpR_val (v := (Sl.v x108)) (w' := w30) rfl rfl rfl (x_load1 rfl rfl SH_23 q108) ?_
          refine wpR_val (v := (Value.int .i64 (x108.len : Int))) (w' := w30) rfl rfl rfl (x_lenS (s := x108) rfl rfl isSliceT_23) ?_
          refine wpR_val (v := (Value.bool (decide (l107.2 < (x108.len : Int))))) (w' := w30) rfl rfl rfl (x_lss rfl rfl rfl) ?_
          refine wpR_nil ?_
          refine wpC_cond (b := decide (l107.2 < (x108.len : Int))) rfl (fun hc109 => ?_) (fun hc109 => ?_)
          · replace h := h.1 hc109
            refine wpC_skip ?_
            refine wpC_seq ?_
            refine wpC_block ?_
            refine wpC_cut (fun ρ => ρ 0 = (Sl.v p0) ∧ ρ 4 = (Value.pointer (some (Addr.mk b1 0 none))) ∧ ρ 7 = (Value.bool r2) ∧ ρ 8 = (Sl.v l19) ∧ ρ 11 = (Sl.v r93) ∧ ρ 12 = (Sl.v r94) ∧ ρ 13 = (Value.bool l107.1) ∧ ρ 14 = (Value.int .i64 l107.2) ∧ True) ⟨e0, e4, e7, e8, e11, e12, e13, e14, trivial⟩ ?_
            rintro ρ ⟨e0, e4, e7, e8, e11, e12, e13, e14, -⟩
            refine wpC_region ?_
            refine wpR_val (v := (Value.bool l107.1)) (w' := w30) rfl rfl rfl (x_move (v := (Value.bool l107.1)) rfl e13) ?_
            refine wpR_val (v := (Value.bool l107.1)) (w' := w30) rfl rfl rfl (x_move (v := (Value.bool l107.1)) rfl rfl) ?_
            obtain ⟨J110, h, hk⟩ := h
            refine wpR_joinJ 8 (fun x ρ => ρ 154 = Value.bool x ∧ ρ 0 = (Sl.v p0) ∧ ρ 4 = (Value.pointer (some (Addr.mk b1 0 none))) ∧ ρ 7 = (Value.bool r2) ∧ ρ 8 = (Sl.v l19) ∧ ρ 11 = (Sl.v r93) ∧ ρ 12 = (Sl.v r94) ∧ ρ 14 = (Value.int .i64 l107.2) ∧ True) (J110) ?_ ?_
            · clear hk
              rcases Bool.eq_false_or_eq_true (l107.1) with hc111 | hc111
              · replace h := h.1 hc111
                refine wpR_pass (wantN rfl rfl rfl hc111) rfl rfl ?_
                refine wpR_pass (wantN rfl rfl rfl hc111) rfl rfl ?_
                refine wpR_pass (wantN rfl rfl rfl hc111) rfl rfl ?_
                refine wpR_pass (wantN rfl rfl rfl hc111) rfl rfl ?_
                refine wpR_pass (wantN rfl rfl rfl hc111) rfl rfl ?_
                refine wpR_pass (wantN rfl rfl rfl hc111) rfl rfl ?_
                refine wpR_pass (wantN rfl rfl rfl hc111) rfl rfl ?_
                refine wpR_val (v := (Value.bool true)) (w' := w30) rfl rfl rfl (x_pickT (v := (Value.bool true)) rfl rfl hc111 rfl) ?_
                refine wpR_nil ?_
                exact ⟨true, ⟨rfl, e0, e4, e7, e8, e11, e12, e14, trivial⟩, h⟩
              · replace h := h.2 hc111
                refine wpR_val (v := (Sl.v r93)) (w' := w30) (wantG rfl rfl rfl hc111) rfl rfl (x_move (v := (Sl.v r93)) rfl e11) ?_
                refine wpR_val (v := (Value.pointer (some ((Addr.mk b1 0 none).add 2)))) (w' := w30) (wantG rfl rfl rfl hc111) rfl rfl (x_fieldAddr rfl e4 FA_32_2) ?_
                obtain ⟨x112, q112, h⟩ := h
                refine wpR_val (v := (Sl.v x112)) (w' := w30) (wantG rfl rfl rfl hc111) rfl rfl (x_load1 rfl rfl SH_23 q112) ?_
                refine wpR_val (v := (Value.int .i64 l107.2)) (w' := w30) (wantG rfl rfl rfl hc111) rfl rfl (x_move (v := (Value.int .i64 l107.2)) rfl e14) ?_
                obtain ⟨q113, z113, r113, h⟩ := h
                generalize hp113 : z113.add ((l107.2).toNat * 1) = p113 at h
                refine wpR_val (v := (Value.pointer (some p113))) (w' := w30) (wantG rfl rfl rfl hc111) rfl rfl ((x_indexAddr (s := x112) rfl rfl rfl ES_23 q113 r113).trans (by rw [hp113])) ?_
                obtain ⟨x114, q114, h⟩ := h
                refine wpR_val (v := (Value.int .i64 x114)) (w' := w30) (wantG rfl rfl rfl hc111) rfl rfl (x_load1 rfl rfl SH_3 q114) ?_
                refine wpR_enter (wantG rfl rfl rfl hc111) rfl rfl (x_call (vs := [(Sl.v r93), (Value.int .i64 x114)]) rfl rfl (mapl_cons rfl (mapl_cons rfl mapl_nil)) Try.func19 NN_19 NB_19) (Calls.mono h ?_)
                rintro _ w31 ⟨r115, rfl, h⟩
                refine ⟨_, rfl, ?_⟩
                refine wpR_val (v := (Value.bool r115)) (w' := w31) rfl rfl rfl (x_pickF (v := (Value.bool r115)) rfl rfl hc111 rfl) ?_
                refine wpR_nil ?_
                exact ⟨r115, ⟨rfl, e0, e4, e7, e8, e11, e12, e14, trivial⟩, h⟩
            clear h
            rintro c116 ρ w32 ⟨e154, e0, e4, e7, e8, e11, e12, e14, -⟩ h
            replace h := hk c116 w32 h
            clear hk
            refine wpR_val (v := (Value.bool c116)) (w' := w32) rfl rfl rfl (x_assign (v := (Value.bool c116)) rfl e154) ?_
            refine wpR_nil ?_
            refine wpC_cut (fun ρ => ρ 0 = (Sl.v p0) ∧ ρ 4 = (Value.pointer (some (Addr.mk b1 0 none))) ∧ ρ 7 = (Value.bool r2) ∧ ρ 8 = (Sl.v l19) ∧ ρ 11 = (Sl.v r93) ∧ ρ 12 = (Sl.v r94) ∧ ρ 13 = (Value.bool c116) ∧ ρ 14 = (Value.int .i64 l107.2) ∧ True) ⟨e0, e4, e7, e8, e11, e12, rfl, e14, trivial⟩ ?_
            rintro ρ ⟨e0, e4, e7, e8, e11, e12, e13, e14, -⟩
            refine wpC_region ?_
            refine wpR_val (v := (Value.int .i64 l107.2)) (w' := w32) rfl rfl rfl (x_move (v := (Value.int .i64 l107.2)) rfl e14) ?_
            refine wpR_val (v := (Value.int .i64 (IntKind.i64.wrap (l107.2 + 1)))) (w' := w32) rfl rfl rfl (x_add rfl rfl rfl) ?_
            refine wpR_val (v := (Value.int .i64 (IntKind.i64.wrap (l107.2 + 1)))) (w' := w32) rfl rfl rfl (x_assign (v := (Value.int .i64 (IntKind.i64.wrap (l107.2 + 1)))) rfl rfl) ?_
            refine wpR_nil ?_
            exact ⟨(c116, IntKind.i64.wrap (l107.2 + 1)), ⟨e13, rfl, e0, e4, e7, e8, e11, e12, trivial⟩, h⟩
          · replace h := h.2 hc109
            refine wpC_exit ?_
            refine wpC_seq ?_
            refine wpC_cut (fun ρ => ρ 0 = (Sl.v p0) ∧ ρ 4 = (Value.pointer (some (Addr.mk b1 0 none))) ∧ ρ 7 = (Value.bool r2) ∧ ρ 8 = (Sl.v l19) ∧ ρ 11 = (Sl.v r93) ∧ ρ 12 = (Sl.v r94) ∧ ρ 13 = (Value.bool l107.1) ∧ True) ⟨e0, e4, e7, e8, e11, e12, e13, trivial⟩ ?_
            rintro ρ ⟨e0, e4, e7, e8, e11, e12, e13, -⟩
            refine wpC_region ?_
            obtain ⟨b117, hb117⟩ : ∃ u, u = w30.heap.size := ⟨_, rfl⟩
            obtain ⟨w33, hw117⟩ : ∃ u, u = w30.alloc (.cells #[] 3) := ⟨_, rfl⟩
            replace h := h b117 w33 hb117 hw117
            refine wpR_val (v := (Sl.v (⟨some ⟨b117, 0, none⟩, 0, 0⟩ : Sl))) (w' := w33) rfl rfl rfl ((x_buildSlice (qs := []) rfl (by rfl) (BS_23_0_ )).trans (by rw [← hb117, ← hw117])) ?_
            refine wpR_val (v := (Sl.v r93)) (w' := w33) rfl rfl rfl (x_move (v := (Sl.v r93)) rfl e11) ?_
            obtain ⟨r118, w34, q118, h⟩ := h
            refine wpR_val (v := (Sl.v r118)) (w' := w34) rfl rfl rfl (x_append (s := (⟨some ⟨b117, 0, none⟩, 0, 0⟩ : Sl)) (u := r93) rfl rfl rfl rfl q118) ?_
            refine wpR_val (v := (Sl.v r118)) (w' := w34) rfl rfl rfl (x_assign (v := (Sl.v r118)) rfl rfl) ?_
            refine wpR_nil ?_
            obtain ⟨J119, h, hk⟩ := h
            refine wpC_seqJ (fun (x : Sl) ρ => ρ 15 = (Sl.v x) ∧ ρ 0 = (Sl.v p0) ∧ ρ 4 = (Value.pointer (some (Addr.mk b1 0 none))) ∧ ρ 7 = (Value.bool r2) ∧ ρ 8 = (Sl.v l19) ∧ ρ 12 = (Sl.v r94) ∧ True) J119 ?_ ?_
            · clear hk
              refine wpC_seq ?_
              refine wpC_cut (fun ρ => ρ 0 = (Sl.v p0) ∧ ρ 4 = (Value.pointer (some (Addr.mk b1 0 none))) ∧ ρ 7 = (Value.bool r2) ∧ ρ 8 = (Sl.v l19) ∧ ρ 12 = (Sl.v r94) ∧ ρ 13 = (Value.bool l107.1) ∧ ρ 15 = (Sl.v r118) ∧ True) ⟨e0, e4, e7, e8, e12, e13, rfl, trivial⟩ ?_
              rintro ρ ⟨e0, e4, e7, e8, e12, e13, e15, -⟩
              refine wpC_region ?_
              refine wpR_val (v := (Value.bool l107.1)) (w' := w34) rfl rfl rfl (x_move (v := (Value.bool l107.1)) rfl e13) ?_
              refine wpR_nil ?_
              refine wpC_cond (b := l107.1) rfl (fun hc121 => ?_) (fun hc121 => ?_)
              · replace h := h.1 hc121
                refine wpC_cut (fun ρ => ρ 0 = (Sl.v p0) ∧ ρ 4 = (Value.pointer (some (Addr.mk b1 0 none))) ∧ ρ 7 = (Value.bool r2) ∧ ρ 8 = (Sl.v l19) ∧ ρ 12 = (Sl.v r94) ∧ ρ 15 = (Sl.v r118) ∧ True) ⟨e0, e4, e7, e8, e12, e15, trivial⟩ ?_
                rintro ρ ⟨e0, e4, e7, e8, e12, e15, -⟩
                refine wpC_region ?_
                refine wpR_val (v := (Sl.v r118)) (w' := w34) rfl rfl rfl (x_move (v := (Sl.v r118)) rfl e15) ?_
                refine wpR_val (v := (Sl.v p0)) (w' := w34) rfl rfl rfl (x_move (v := (Sl.v p0)) rfl e0) ?_
                refine wpR_val (v := (Value.int .i64 (p0.len : Int))) (w' := w34) rfl rfl rfl (x_lenS (s := p0) rfl rfl isSliceT_22) ?_
                obtain ⟨b122, hb122⟩ : ∃ u, u = w34.heap.size := ⟨_, rfl⟩
                obtain ⟨w36, hw122⟩ : ∃ u, u = w34.alloc (.cells #[(Value.int .i64 (p0.len : Int))] 3) := ⟨_, rfl⟩
                replace h := h b122 w36 hb122 hw122
                refine wpR_val (v := (Sl.v (⟨some ⟨b122, 0, none⟩, 1, 1⟩ : Sl))) (w' := w36) rfl rfl rfl ((x_buildSlice (qs := [(0, (Value.int .i64 (p0.len : Int)))]) rfl (by rfl) (BS_23_1_0 (p0.len : Int))).trans (by rw [← hb122, ← hw122])) ?_
                obtain ⟨r123, w37, q123, h⟩ := h
                refine wpR_val (v := (Sl.v r123)) (w' := w37) rfl rfl rfl (x_append (s := r118) (u := (⟨some ⟨b122, 0, none⟩, 1, 1⟩ : Sl)) rfl rfl rfl rfl q123) ?_
                refine wpR_val (v := (Sl.v r123)) (w' := w37) rfl rfl rfl (x_assign (v := (Sl.v r123)) rfl rfl) ?_
                refine wpR_nil ?_
                exact ⟨r123, ⟨rfl, e0, e4, e7, e8, e12, trivial⟩, h⟩
              · replace h := h.2 hc121
                refine wpC_skip ?_
                exact ⟨r118, ⟨e15, e0, e4, e7, e8, e12, trivial⟩, h⟩
            clear h
            rintro l120 ρ w35 ⟨e15, e0, e4, e7, e8, e12, -⟩ h
            replace h := hk l120 w35 h
            clear hk
            refine wpC_seq ?_
            refine wpC_region ?_
            refine wpR_val (v := (Sl.v l19)) (w' := w35) rfl rfl rfl (x_move (v := (Sl.v l19)) rfl e8) ?_
            refine wpR_val (v := (Sl.v p0)) (w' := w35) rfl rfl rfl (x_move (v := (Sl.v p0)) rfl e0) ?_
            refine wpR_val (v := (Value.int .i64 (p0.len : Int))) (w' := w35) rfl rfl rfl (x_lenS (s := p0) rfl rfl isSliceT_22) ?_
            refine wpR_val (v := (Sl.v p0)) (w' := w35) rfl rfl rfl (x_move (v := (Sl.v p0)) rfl e0) ?_
            refine wpR_val (v := (Value.int .i64 (p0.len : Int))) (w' := w35) rfl rfl rfl (x_lenS (s := p0) rfl rfl isSliceT_22) ?_
            obtain ⟨b124, hb124⟩ : ∃ u, u = w35.heap.size := ⟨_, rfl⟩
            obtain ⟨w38, hw124⟩ : ∃ u, u = w35.alloc (.cells #[(Value.int .i64 (p0.len : Int)), (Value.int .i64 (p0.len : Int)), (Value.int .i64 (-1))] 3) := ⟨_, rfl⟩
            replace h := h b124 w38 hb124 hw124
            refine wpR_val (v := (Sl.v (⟨some ⟨b124, 0, none⟩, 3, 3⟩ : Sl))) (w' := w38) rfl rfl rfl ((x_buildSlice (qs := [(0, (Value.int .i64 (p0.len : Int))), (1, (Value.int .i64 (p0.len : Int))), (2, (Value.int .i64 (-1)))]) rfl (by rfl) (BS_23_3_0_1_2 (p0.len : Int) (p0.len : Int) (-1))).trans (by rw [← hb124, ← hw124])) ?_
            refine wpR_enter rfl rfl rfl (x_call (vs := [(Sl.v l19), (Sl.v (⟨some ⟨b124, 0, none⟩, 3, 3⟩ : Sl))]) rfl rfl (mapl_cons rfl (mapl_cons rfl mapl_nil)) Try.func17 NN_17 NB_17) (Calls.mono h ?_)
            rintro _ w39 ⟨r125, rfl, h⟩
            refine ⟨_, rfl, ?_⟩
            refine wpR_val (v := (Sl.v r125)) (w' := w39) rfl rfl rfl (x_assign (v := (Sl.v r125)) rfl rfl) ?_
            refine wpR_nil ?_
            refine wpC_seq ?_
            refine wpC_seq ?_
            refine wpC_cut (fun ρ => ρ 4 = (Value.pointer (some (Addr.mk b1 0 none))) ∧ ρ 7 = (Value.bool r2) ∧ ρ 12 = (Sl.v r94) ∧ ρ 15 = (Sl.v l120) ∧ ρ 16 = (Sl.v r125) ∧ True) ⟨e4, e7, e12, e15, rfl, trivial⟩ ?_
            rintro ρ ⟨e4, e7, e12, e15, e16, -⟩
            refine wpC_region ?_
            refine wpR_val (v := (Sl.v r125)) (w' := w39) rfl rfl rfl (x_move (v := (Sl.v r125)) rfl e16) ?_
            refine wpR_val (v := (Value.int .i64 (r125.len : Int))) (w' := w39) rfl rfl rfl (x_lenS (s := r125) rfl rfl isSliceT_23) ?_
            refine wpR_val (v := (Value.bool (!decide ((r125.len : Int) = 8)))) (w' := w39) rfl rfl rfl (x_neq rfl rfl rfl) ?_
            refine wpR_nil ?_
            refine wpC_cond (b := !decide ((r125.len : Int) = 8)) rfl (fun hc126 => ?_) (fun hc126 => ?_)
            · replace h := h.1 hc126
              refine wpC_seq ?_
              refine wpC_cut (fun ρ => True) trivial ?_
              rintro ρ -
              refine wpC_region ?_
              refine wpR_val (v := (Value.bool false)) (w' := w39) rfl rfl rfl (x_assign (v := (Value.bool false)) rfl rfl) ?_
              refine wpR_nil ?_
              refine wpC_ret ?_
              exact ⟨.inl rfl, fun a ha => ⟨_, results_rep1 rfl ha rfl, false, rfl, h⟩⟩
            · replace h := h.2 hc126
              refine wpC_skip ?_
              refine wpC_seq ?_
              refine wpC_seq ?_
              refine wpC_cut (fun ρ => ρ 4 = (Value.pointer (some (Addr.mk b1 0 none))) ∧ ρ 7 = (Value.bool r2) ∧ ρ 12 = (Sl.v r94) ∧ ρ 15 = (Sl.v l120) ∧ ρ 16 = (Sl.v r125) ∧ True) ⟨e4, e7, e12, e15, e16, trivial⟩ ?_
              rintro ρ ⟨e4, e7, e12, e15, e16, -⟩
              refine wpC_region ?_
              refine wpR_val (v := (Value.int .i64 0)) (w' := w39) rfl rfl rfl (x_assign (v := (Value.int .i64 0)) rfl rfl) ?_
              refine wpR_nil ?_
              refine wpC_block ?_
              obtain ⟨I127, μ127, hI127, hr127⟩ := h
              refine wpC_loop (fun (x : Int) ρ => ρ 17 = (Value.int .i64 x) ∧ ρ 4 = (Value.pointer (some (Addr.mk b1 0 none))) ∧ ρ 7 = (Value.bool r2) ∧ ρ 12 = (Sl.v r94) ∧ ρ 15 = (Sl.v l120) ∧ ρ 16 = (Sl.v r125) ∧ True) I127 μ127 0 ⟨rfl, e4, e7, e12, e15, e16, trivial⟩ hI127 ?_
              rintro l127 ρ w40 ⟨e17, e4, e7, e12, e15, e16, -⟩ h
              replace h := hr127 l127 w40 h
              clear hr127 hI127
              refine wpC_seq ?_
              refine wpC_seq ?_
              refine wpC_region ?_
              refine wpR_val (v := (Value.int .i64 l127)) (w' := w40) rfl rfl rfl (x_move (v := (Value.int .i64 l127)) rfl e17) ?_
              refine wpR_val (v := (Sl.v r125)) (w' := w40) rfl rfl rfl (x_move (v := (Sl.v r125)) rfl e16) ?_
              refine wpR_val (v := (Value.int .i64 (r125.len : Int))) (w' := w40) rfl rfl rfl (x_lenS (s := r125) rfl rfl isSliceT_23) ?_
              refine wpR_val (v := (Value.bool (decide (l127 < (r125.len : Int))))) (w' := w40) rfl rfl rfl (x_lss rfl rfl rfl) ?_
              refine wpR_nil ?_
              refine wpC_cond (b := decide (l127 < (r125.len : Int))) rfl (fun hc128 => ?_) (fun hc128 => ?_)
              · replace h := h.1 hc128
                refine wpC_skip ?_
                refine wpC_seq ?_
                refine wpC_block ?_
                refine wpC_seq ?_
                refine wpC_cut (fun ρ => ρ 4 = (Value.pointer (some (Addr.mk b1 0 none))) ∧ ρ 7 = (Value.bool r2) ∧ ρ 12 = (Sl.v r94) ∧ ρ 15 = (Sl.v l120) ∧ ρ 16 = (Sl.v r125) ∧ ρ 17 = (Value.int .i64 l127) ∧ True) ⟨e4, e7, e12, e15, e16, e17, trivial⟩ ?_
                rintro ρ ⟨e4, e7, e12, e15, e16, e17, -⟩
                refine wpC_region ?_
                refine wpR_val (v := (Sl.v r125)) (w' := w40) rfl rfl rfl (x_move (v := (Sl.v r125)) rfl e16) ?_
                refine wpR_val (v := (Value.int .i64 l127)) (w' := w40) rfl rfl rfl (x_move (v := (Value.int .i64 l127)) rfl e17) ?_
                obtain ⟨q129, z129, r129, h⟩ := h
                generalize hp129 : z129.add ((l127).toNat * 1) = p129 at h
                refine wpR_val (v := (Value.pointer (some p129))) (w' := w40) rfl rfl rfl ((x_indexAddr (s := r125) rfl rfl rfl ES_23 q129 r129).trans (by rw [hp129])) ?_
                obtain ⟨x130, q130, h⟩ := h
                refine wpR_val (v := (Value.int .i64 x130)) (w' := w40) rfl rfl rfl (x_load1 rfl rfl SH_3 q130) ?_
                refine wpR_val (v := (Value.bool (!decide (x130 = 0)))) (w' := w40) rfl rfl rfl (x_neq rfl rfl rfl) ?_
                refine wpR_val (v := (Value.bool (!decide (x130 = 0)))) (w' := w40) rfl rfl rfl (x_move (v := (Value.bool (!decide (x130 = 0)))) rfl rfl) ?_
                obtain ⟨J131, h, hk⟩ := h
                refine wpR_joinJ 5 (fun x ρ => ρ 190 = Value.bool x ∧ ρ 4 = (Value.pointer (some (Addr.mk b1 0 none))) ∧ ρ 7 = (Value.bool r2) ∧ ρ 12 = (Sl.v r94) ∧ ρ 15 = (Sl.v l120) ∧ ρ 16 = (Sl.v r125) ∧ ρ 17 = (Value.int .i64 l127) ∧ True) (fun x w => J131 x ∧ w40 = w) ?_ ?_
                · clear hk
                  rcases Bool.eq_false_or_eq_true (!decide (x130 = 0)) with hc132 | hc132
                  · replace h := h.1 hc132
                    refine wpR_val (v := (Value.int .i64 l127)) (w' := w40) (wantG rfl rfl rfl hc132) rfl rfl (x_move (v := (Value.int .i64 l127)) rfl e17) ?_
                    refine wpR_val (v := (Value.pointer (some ((Addr.mk b1 0 none).add 0)))) (w' := w40) (wantG rfl rfl rfl hc132) rfl rfl (x_fieldAddr rfl e4 FA_32_0) ?_
                    obtain ⟨x133, q133, h⟩ := h
                    refine wpR_val (v := (Value.int .i64 x133)) (w' := w40) (wantG rfl rfl rfl hc132) rfl rfl (x_load1 rfl rfl SH_3 q133) ?_
                    refine wpR_val (v := (Value.bool (!decide (l127 = x133)))) (w' := w40) (wantG rfl rfl rfl hc132) rfl rfl (x_neq rfl rfl rfl) ?_
                    refine wpR_val (v := (Value.bool (!decide (l127 = x133)))) (w' := w40) rfl rfl rfl (x_pickT (v := (Value.bool (!decide (l127 = x133)))) rfl rfl hc132 rfl) ?_
                    refine wpR_nil ?_
                    exact ⟨!decide (l127 = x133), ⟨rfl, e4, e7, e12, e15, e16, e17, trivial⟩, h, rfl⟩
                  · replace h := h.2 hc132
                    refine wpR_pass (wantN rfl rfl rfl hc132) rfl rfl ?_
                    refine wpR_pass (wantN rfl rfl rfl hc132) rfl rfl ?_
                    refine wpR_pass (wantN rfl rfl rfl hc132) rfl rfl ?_
                    refine wpR_pass (wantN rfl rfl rfl hc132) rfl rfl ?_
                    refine wpR_val (v := (Value.bool false)) (w' := w40) rfl rfl rfl (x_pickF (v := (Value.bool false)) rfl rfl hc132 rfl) ?_
                    refine wpR_nil ?_
                    exact ⟨false, ⟨rfl, e4, e7, e12, e15, e16, e17, trivial⟩, h, rfl⟩
                clear h
                rintro c134 ρ wj ⟨e190, e4, e7, e12, e15, e16, e17, -⟩ ⟨h, rfl⟩
                replace h := hk c134 h
                clear hk
                refine wpR_val (v := (Value.bool c134)) (w' := w40) rfl rfl rfl (x_move (v := (Value.bool c134)) rfl e190) ?_
                obtain ⟨J135, h, hk⟩ := h
                refine wpR_joinJ 12 (fun x ρ => ρ 203 = Value.bool x ∧ ρ 4 = (Value.pointer (some (Addr.mk b1 0 none))) ∧ ρ 7 = (Value.bool r2) ∧ ρ 12 = (Sl.v r94) ∧ ρ 15 = (Sl.v l120) ∧ ρ 16 = (Sl.v r125) ∧ ρ 17 = (Value.int .i64 l127) ∧ True) (fun x w => J135 x ∧ w40 = w) ?_ ?_
                · clear hk
                  rcases Bool.eq_false_or_eq_true (c134) with hc136 | hc136
                  · replace h := h.1 hc136
                    refine wpR_pass (wantN rfl rfl rfl hc136) rfl rfl ?_
                    refine wpR_pass (wantN rfl rfl rfl hc136) rfl rfl ?_
                    refine wpR_pass (wantN rfl rfl rfl hc136) rfl rfl ?_
                    refine wpR_pass (wantN rfl rfl rfl hc136) rfl rfl ?_
                    refine wpR_pass (wantN rfl rfl rfl hc136) rfl rfl ?_
                    refine wpR_pass (wantU rfl rfl rfl) rfl rfl ?_
                    refine wpR_pass (wantU rfl rfl rfl) rfl rfl ?_
                    refine wpR_pass (wantU rfl rfl rfl) rfl rfl ?_
                    refine wpR_pass (wantU rfl rfl rfl) rfl rfl ?_
                    refine wpR_pass (wantU rfl rfl rfl) rfl rfl ?_
                    refine wpR_pass (wantN rfl rfl rfl hc136) rfl rfl ?_
                    refine wpR_val (v := (Value.bool true)) (w' := w40) rfl rfl rfl (x_pickT (v := (Value.bool true)) rfl rfl hc136 rfl) ?_
                    refine wpR_nil ?_
                    exact ⟨true, ⟨rfl, e4, e7, e12, e15, e16, e17, trivial⟩, h, rfl⟩
                  · replace h := h.2 hc136
                    refine wpR_val (v := (Value.int .i64 l127)) (w' := w40) (wantG rfl rfl rfl hc136) rfl rfl (x_move (v := (Value.int .i64 l127)) rfl e17) ?_
                    refine wpR_val (v := (Value.pointer (some ((Addr.mk b1 0 none).add 0)))) (w' := w40) (wantG rfl rfl rfl hc136) rfl rfl (x_fieldAddr rfl e4 FA_32_0) ?_
                    obtain ⟨x137, q137, h⟩ := h
                    refine wpR_val (v := (Value.int .i64 x137)) (w' := w40) (wantG rfl rfl rfl hc136) rfl rfl (x_load1 rfl rfl SH_3 q137) ?_
                    refine wpR_val (v := (Value.bool (decide (l127 = x137)))) (w' := w40) (wantG rfl rfl rfl hc136) rfl rfl (x_eql rfl rfl rfl) ?_
                    refine wpR_val (v := (Value.bool (decide (l127 = x137)))) (w' := w40) (wantG rfl rfl rfl hc136) rfl rfl (x_move (v := (Value.bool (decide (l127 = x137)))) rfl rfl) ?_
                    obtain ⟨J138, h, hk⟩ := h
                    refine wpR_joinJ 6 (fun x ρ => ρ 202 = Value.bool x ∧ ρ 4 = (Value.pointer (some (Addr.mk b1 0 none))) ∧ ρ 7 = (Value.bool r2) ∧ ρ 12 = (Sl.v r94) ∧ ρ 15 = (Sl.v l120) ∧ ρ 16 = (Sl.v r125) ∧ ρ 17 = (Value.int .i64 l127) ∧ ρ 191 = (Value.bool c134) ∧ True) (fun x w => J138 x ∧ w40 = w) ?_ ?_
                    · clear hk
                      rcases Bool.eq_false_or_eq_true (decide (l127 = x137)) with hc139 | hc139
                      · replace h := h.1 hc139
                        refine wpR_val (v := (Sl.v r125)) (w' := w40) (wantG rfl rfl rfl hc139) rfl rfl (x_move (v := (Sl.v r125)) rfl e16) ?_
                        refine wpR_val (v := (Value.int .i64 l127)) (w' := w40) (wantG rfl rfl rfl hc139) rfl rfl (x_move (v := (Value.int .i64 l127)) rfl e17) ?_
                        obtain ⟨q140, z140, r140, h⟩ := h
                        generalize hp140 : z140.add ((l127).toNat * 1) = p140 at h
                        refine wpR_val (v := (Value.pointer (some p140))) (w' := w40) (wantG rfl rfl rfl hc139) rfl rfl ((x_indexAddr (s := r125) rfl rfl rfl ES_23 q140 r140).trans (by rw [hp140])) ?_
                        obtain ⟨x141, q141, h⟩ := h
                        refine wpR_val (v := (Value.int .i64 x141)) (w' := w40) (wantG rfl rfl rfl hc139) rfl rfl (x_load1 rfl rfl SH_3 q141) ?_
                        refine wpR_val (v := (Value.bool (!decide (x141 = 1)))) (w' := w40) (wantG rfl rfl rfl hc139) rfl rfl (x_neq rfl rfl rfl) ?_
                        refine wpR_val (v := (Value.bool (!decide (x141 = 1)))) (w' := w40) (wantG rfl rfl rfl hc136) rfl rfl (x_pickT (v := (Value.bool (!decide (x141 = 1)))) rfl rfl hc139 rfl) ?_
                        refine wpR_nil ?_
                        exact ⟨!decide (x141 = 1), ⟨rfl, e4, e7, e12, e15, e16, e17, rfl, trivial⟩, h, rfl⟩
                      · replace h := h.2 hc139
                        refine wpR_pass (wantN rfl rfl rfl hc139) rfl rfl ?_
                        refine wpR_pass (wantN rfl rfl rfl hc139) rfl rfl ?_
                        refine wpR_pass (wantN rfl rfl rfl hc139) rfl rfl ?_
                        refine wpR_pass (wantN rfl rfl rfl hc139) rfl rfl ?_
                        refine wpR_pass (wantN rfl rfl rfl hc139) rfl rfl ?_
                        refine wpR_val (v := (Value.bool false)) (w' := w40) (wantG rfl rfl rfl hc136) rfl rfl (x_pickF (v := (Value.bool false)) rfl rfl hc139 rfl) ?_
                        refine wpR_nil ?_
                        exact ⟨false, ⟨rfl, e4, e7, e12, e15, e16, e17, rfl, trivial⟩, h, rfl⟩
                    clear h
                    rintro c142 ρ wj ⟨e202, e4, e7, e12, e15, e16, e17, e191, -⟩ ⟨h, rfl⟩
                    replace h := hk c142 h
                    clear hk
                    refine wpR_val (v := (Value.bool c142)) (w' := w40) rfl rfl rfl (x_pickF (v := (Value.bool c142)) rfl e191 hc136 e202) ?_
                    refine wpR_nil ?_
                    exact ⟨c142, ⟨rfl, e4, e7, e12, e15, e16, e17, trivial⟩, h, rfl⟩
                clear h
                rintro c143 ρ wj ⟨e203, e4, e7, e12, e15, e16, e17, -⟩ ⟨h, rfl⟩
                replace h := hk c143 h
                clear hk
                refine wpR_nil ?_
                refine wpC_cond (b := c143) e203 (fun hc144 => ?_) (fun hc144 => ?_)
                · replace h := h.1 hc144
                  refine wpC_seq ?_
                  refine wpC_region ?_
                  refine wpR_val (v := (Value.bool false)) (w' := w40) rfl rfl rfl (x_assign (v := (Value.bool false)) rfl rfl) ?_
                  refine wpR_nil ?_
                  refine wpC_ret ?_
                  exact ⟨.inl rfl, fun a ha => ⟨_, results_rep1 rfl ha rfl, false, rfl, h⟩⟩
                · replace h := h.2 hc144
                  refine wpC_skip ?_
                  refine wpC_region ?_
                  refine wpR_val (v := (Value.int .i64 l127)) (w' := w40) rfl rfl rfl (x_move (v := (Value.int .i64 l127)) rfl e17) ?_
                  refine wpR_val (v := (Value.int .i64 (IntKind.i64.wrap (l127 + 1)))) (w' := w40) rfl rfl rfl (x_add rfl rfl rfl) ?_
                  refine wpR_val (v := (Value.int .i64 (IntKind.i64.wrap (l127 + 1)))) (w' := w40) rfl rfl rfl (x_assign (v := (Value.int .i64 (IntKind.i64.wrap (l127 + 1)))) rfl rfl) ?_
                  refine wpR_nil ?_
                  exact ⟨IntKind.i64.wrap (l127 + 1), ⟨rfl, e4, e7, e12, e15, e16, trivial⟩, h⟩
              · replace h := h.2 hc128
                refine wpC_exit ?_
                refine wpC_seq ?_
                refine wpC_cut (fun ρ => ρ 7 = (Value.bool r2) ∧ ρ 12 = (Sl.v r94) ∧ ρ 15 = (Sl.v l120) ∧ True) ⟨e7, e12, e15, trivial⟩ ?_
                rintro ρ ⟨e7, e12, e15, -⟩
                refine wpC_region ?_
                refine wpR_val (v := (Value.bool r2)) (w' := w40) rfl rfl rfl (x_move (v := (Value.bool r2)) rfl e7) ?_
                refine wpR_val (v := (Value.bool r2)) (w' := w40) rfl rfl rfl (x_move (v := (Value.bool r2)) rfl rfl) ?_
                obtain ⟨J145, h, hk⟩ := h
                refine wpR_joinJ 4 (fun x ρ => ρ 209 = Value.bool x ∧ True) (J145) ?_ ?_
                · clear hk
                  rcases Bool.eq_false_or_eq_true (r2) with hc146 | hc146
                  · replace h := h.1 hc146
                    refine wpR_val (v := (Sl.v r94)) (w' := w40) (wantG rfl rfl rfl hc146) rfl rfl (x_move (v := (Sl.v r94)) rfl e12) ?_
                    refine wpR_val (v := (Sl.v l120)) (w' := w40) (wantG rfl rfl rfl hc146) rfl rfl (x_move (v := (Sl.v l120)) rfl e15) ?_
                    refine wpR_enter (wantG rfl rfl rfl hc146) rfl rfl (x_call (vs := [(Sl.v r94), (Sl.v l120)]) rfl rfl (mapl_cons rfl (mapl_cons rfl mapl_nil)) Try.func12 NN_12 NB_12) (Calls.mono h ?_)
                    rintro _ w41 ⟨r147, rfl, h⟩
                    refine ⟨_, rfl, ?_⟩
                    refine wpR_val (v := (Value.bool r147)) (w' := w41) rfl rfl rfl (x_pickT (v := (Value.bool r147)) rfl rfl hc146 rfl) ?_
                    refine wpR_nil ?_
                    exact ⟨r147, ⟨rfl, trivial⟩, h⟩
                  · replace h := h.2 hc146
                    refine wpR_pass (wantN rfl rfl rfl hc146) rfl rfl ?_
                    refine wpR_pass (wantN rfl rfl rfl hc146) rfl rfl ?_
                    refine wpR_pass (wantN rfl rfl rfl hc146) rfl rfl ?_
                    refine wpR_val (v := (Value.bool false)) (w' := w40) rfl rfl rfl (x_pickF (v := (Value.bool false)) rfl rfl hc146 rfl) ?_
                    refine wpR_nil ?_
                    exact ⟨false, ⟨rfl, trivial⟩, h⟩
                clear h
                rintro c148 ρ w42 ⟨e209, -⟩ h
                replace h := hk c148 w42 h
                clear hk
                refine wpR_val (v := (Value.bool c148)) (w' := w42) rfl rfl rfl (x_assign (v := (Value.bool c148)) rfl e209) ?_
                refine wpR_nil ?_
                refine wpC_ret ?_
                exact ⟨.inl rfl, fun a ha => ⟨_, results_rep1 rfl ha rfl, c148, rfl, h⟩⟩

/-- lingualaw41.small -/
def F8  (w0 : World) (K : Bool → World → Prop) : Prop :=
  callC Try.prog 21 #[] (fun (r : Sl) => (Sl.v r)) w0 fun r1 w1 =>
  nw 3 #[(Value.int .i64 0)] w1 fun b2 w2 =>
  callC Try.prog 13 #[(Sl.v r1), (Sl.v (⟨some ⟨b2, 0, none⟩, 1, 1⟩ : Sl))] (fun (r : Sl) => (Sl.v r)) w2 fun r3 w3 =>
  nw 3 #[(Value.int .i64 0), (Value.int .i64 1), (Value.int .i64 3), (Value.int .i64 4)] w3 fun b4 w4 =>
  callC Try.prog 12 #[(Sl.v r3), (Sl.v (⟨some ⟨b4, 0, none⟩, 4, 4⟩ : Sl))] (fun (r : Bool) => (Value.bool r)) w4 fun r5 w5 =>
  jn (fun J6 => cnd (r5)
    (
    nw 3 #[(Value.int .i64 2)] w5 fun b8 w6 =>
    callC Try.prog 13 #[(Sl.v r1), (Sl.v (⟨some ⟨b8, 0, none⟩, 1, 1⟩ : Sl))] (fun (r : Sl) => (Sl.v r)) w6 fun r9 w7 =>
    nw 3 #[(Value.int .i64 2), (Value.int .i64 3)] w7 fun b10 w8 =>
    callC Try.prog 12 #[(Sl.v r9), (Sl.v (⟨some ⟨b10, 0, none⟩, 2, 2⟩ : Sl))] (fun (r : Bool) => (Value.bool r)) w8 fun r11 w9 =>
    J6 r11 w9
    )
    (
    J6 false w5
    ))
  fun c12 w10 =>
  jn (fun J13 => cnd (c12)
    (
    nw 3 #[(Value.int .i64 0), (Value.int .i64 1), (Value.int .i64 3), (Value.int .i64 4)] w10 fun b15 w11 =>
    callC Try.prog 15 #[(Sl.v r1), (Sl.v (⟨some ⟨b15, 0, none⟩, 4, 4⟩ : Sl))] (fun (r : Sl) => (Sl.v r)) w11 fun r16 w12 =>
    nw 3 #[(Value.int .i64 4), (Value.int .i64 3), (Value.int .i64 1), (Value.int .i64 0)] w12 fun b17 w13 =>
    callC Try.prog 12 #[(Sl.v r16), (Sl.v (⟨some ⟨b17, 0, none⟩, 4, 4⟩ : Sl))] (fun (r : Bool) => (Value.bool r)) w13 fun r18 w14 =>
    J13 r18 w14
    )
    (
    J13 false w10
    ))
  fun c19 w15 =>
  jn (fun J20 => cnd (c19)
    (
    nw 3 #[(Value.int .i64 0), (Value.int .i64 1), (Value.int .i64 3), (Value.int .i64 4)] w15 fun b22 w16 =>
    callC Try.prog 17 #[(Sl.v r1), (Sl.v (⟨some ⟨b22, 0, none⟩, 4, 4⟩ : Sl))] (fun (r : Sl) => (Sl.v r)) w16 fun r23 w17 =>
    nw 3 #[(Value.int .i64 1), (Value.int .i64 1), (Value.int .i64 0), (Value.int .i64 1), (Value.int .i64 0), (Value.int .i64 0), (Value.int .i64 1), (Value.int .i64 0)] w17 fun b24 w18 =>
    callC Try.prog 12 #[(Sl.v r23), (Sl.v (⟨some ⟨b24, 0, none⟩, 8, 8⟩ : Sl))] (fun (r : Bool) => (Value.bool r)) w18 fun r25 w19 =>
    J20 r25 w19
    )
    (
    J20 false w15
    ))
  fun c26 w20 =>
  jn (fun J27 => cnd (c26)
    (
    callC Try.prog 10 #[(Sl.v r1)] (fun (r : Bool) => (Value.bool r)) w20 fun r29 w21 =>
    J27 r29 w21
    )
    (
    J27 false w20
    ))
  fun c30 w22 =>
  K c30 w22
set_option maxRecDepth 100000 in
theorem D8  (w0 : World) (K : Bool → World → Prop) (h : F8  w0 K) : callC Try.prog 8 #[] (fun (r : Bool) => (Value.bool r)) w0 K := by
  unfold F8 at h
  refine calls_of_wpC Try.func8 rfl 35 rfl (by simp) ?_
  intro ρ hρ
  clear hρ
  refine wpC_seq ?_
  refine wpC_region ?_
  refine wpR_val (v := (Value.bool false)) (w' := w0) rfl rfl rfl (x_assign (v := (Value.bool false)) rfl rfl) ?_
  refine wpR_nil ?_
  refine wpC_seq ?_
  refine wpC_cut (fun ρ => True) trivial ?_
  rintro ρ -
  refine wpC_region ?_
  refine wpR_enter rfl rfl rfl (x_call (vs := []) rfl rfl mapl_nil Try.func21 NN_21 NB_21) (Calls.mono h ?_)
  rintro _ w1 ⟨r1, rfl, h⟩
  refine ⟨_, rfl, ?_⟩
  refine wpR_val (v := (Sl.v r1)) (w' := w1) rfl rfl rfl (x_assign (v := (Sl.v r1)) rfl rfl) ?_
  refine wpR_nil ?_
  refine wpC_seq ?_
  refine wpC_cut (fun ρ => ρ 1 = (Sl.v r1) ∧ True) ⟨rfl, trivial⟩ ?_
  rintro ρ ⟨e1, -⟩
  refine wpC_region ?_
  refine wpR_val (v := (Sl.v r1)) (w' := w1) rfl rfl rfl (x_move (v := (Sl.v r1)) rfl e1) ?_
  obtain ⟨b2, hb2⟩ : ∃ u, u = w1.heap.size := ⟨_, rfl⟩
  obtain ⟨w2, hw2⟩ : ∃ u, u = w1.alloc (.cells #[(Value.int .i64 0)] 3) := ⟨_, rfl⟩
  replace h := h b2 w2 hb2 hw2
  refine wpR_val (v := (Sl.v (⟨some ⟨b2, 0, none⟩, 1, 1⟩ : Sl))) (w' := w2) rfl rfl rfl ((x_buildSlice (qs := [(0, (Value.int .i64 0))]) rfl (by rfl) (BS_23_1_0 0)).trans (by rw [← hb2, ← hw2])) ?_
  refine wpR_enter rfl rfl rfl (x_call (vs := [(Sl.v r1), (Sl.v (⟨some ⟨b2, 0, none⟩, 1, 1⟩ : Sl))]) rfl rfl (mapl_cons rfl (mapl_cons rfl mapl_nil)) Try.func13 NN_13 NB_13) (Calls.mono h ?_)
  rintro _ w3 ⟨r3, rfl, h⟩
  refine ⟨_, rfl, ?_⟩
  obtain ⟨b4, hb4⟩ : ∃ u, u = w3.heap.size := ⟨_, rfl⟩
  obtain ⟨w4, hw4⟩ : ∃ u, u = w3.alloc (.cells #[(Value.int .i64 0), (Value.int .i64 1), (Value.int .i64 3), (Value.int .i64 4)] 3) := ⟨_, rfl⟩
  replace h := h b4 w4 hb4 hw4
  refine wpR_val (v := (Sl.v (⟨some ⟨b4, 0, none⟩, 4, 4⟩ : Sl))) (w' := w4) rfl rfl rfl ((x_buildSlice (qs := [(0, (Value.int .i64 0)), (1, (Value.int .i64 1)), (2, (Value.int .i64 3)), (3, (Value.int .i64 4))]) rfl (by rfl) (BS_23_4_0_1_2_3 0 1 3 4)).trans (by rw [← hb4, ← hw4])) ?_
  refine wpR_enter rfl rfl rfl (x_call (vs := [(Sl.v r3), (Sl.v (⟨some ⟨b4, 0, none⟩, 4, 4⟩ : Sl))]) rfl rfl (mapl_cons rfl (mapl_cons rfl mapl_nil)) Try.func12 NN_12 NB_12) (Calls.mono h ?_)
  rintro _ w5 ⟨r5, rfl, h⟩
  refine ⟨_, rfl, ?_⟩
  refine wpR_val (v := (Value.bool r5)) (w' := w5) rfl rfl rfl (x_move (v := (Value.bool r5)) rfl rfl) ?_
  obtain ⟨J6, h, hk⟩ := h
  refine wpR_joinJ 6 (fun x ρ => ρ 15 = Value.bool x ∧ ρ 1 = (Sl.v r1) ∧ True) (J6) ?_ ?_
  · clear hk
    rcases Bool.eq_false_or_eq_true (r5) with hc7 | hc7
    · replace h := h.1 hc7
      refine wpR_val (v := (Sl.v r1)) (w' := w5) (wantG rfl rfl rfl hc7) rfl rfl (x_move (v := (Sl.v r1)) rfl e1) ?_
      obtain ⟨b8, hb8⟩ : ∃ u, u = w5.heap.size := ⟨_, rfl⟩
      obtain ⟨w6, hw8⟩ : ∃ u, u = w5.alloc (.cells #[(Value.int .i64 2)] 3) := ⟨_, rfl⟩
      replace h := h b8 w6 hb8 hw8
      refine wpR_val (v := (Sl.v (⟨some ⟨b8, 0, none⟩, 1, 1⟩ : Sl))) (w' := w6) (wantG rfl rfl rfl hc7) rfl rfl ((x_buildSlice (qs := [(0, (Value.int .i64 2))]) rfl (by rfl) (BS_23_1_0 2)).trans (by rw [← hb8, ← hw8])) ?_
      refine wpR_enter (wantG rfl rfl rfl hc7) rfl rfl (x_call (vs := [(Sl.v r1), (Sl.v (⟨some ⟨b8, 0, none⟩, 1, 1⟩ : Sl))]) rfl rfl (mapl_cons rfl (mapl_cons rfl mapl_nil)) Try.func13 NN_13 NB_13) (Calls.mono h ?_)
      rintro _ w7 ⟨r9, rfl, h⟩
      refine ⟨_, rfl, ?_⟩
      obtain ⟨b10, hb10⟩ : ∃ u, u = w7.heap.size := ⟨_, rfl⟩
      obtain ⟨w8, hw10⟩ : ∃ u, u = w7.alloc (.cells #[(Value.int .i64 2), (Value.int .i64 3)] 3) := ⟨_, rfl⟩
      replace h := h b10 w8 hb10 hw10
      refine wpR_val (v := (Sl.v (⟨some ⟨b10, 0, none⟩, 2, 2⟩ : Sl))) (w' := w8) (wantG rfl rfl rfl hc7) rfl rfl ((x_buildSlice (qs := [(0, (Value.int .i64 2)), (1, (Value.int .i64 3))]) rfl (by rfl) (BS_23_2_0_1 2 3)).trans (by rw [← hb10, ← hw10])) ?_
      refine wpR_enter (wantG rfl rfl rfl hc7) rfl rfl (x_call (vs := [(Sl.v r9), (Sl.v (⟨some ⟨b10, 0, none⟩, 2, 2⟩ : Sl))]) rfl rfl (mapl_cons rfl (mapl_cons rfl mapl_nil)) Try.func12 NN_12 NB_12) (Calls.mono h ?_)
      rintro _ w9 ⟨r11, rfl, h⟩
      refine ⟨_, rfl, ?_⟩
      refine wpR_val (v := (Value.bool r11)) (w' := w9) rfl rfl rfl (x_pickT (v := (Value.bool r11)) rfl rfl hc7 rfl) ?_
      refine wpR_nil ?_
      exact ⟨r11, ⟨rfl, e1, trivial⟩, h⟩
    · replace h := h.2 hc7
      refine wpR_pass (wantN rfl rfl rfl hc7) rfl rfl ?_
      refine wpR_pass (wantN rfl rfl rfl hc7) rfl rfl ?_
      refine wpR_pass (wantN rfl rfl rfl hc7) rfl rfl ?_
      refine wpR_pass (wantN rfl rfl rfl hc7) rfl rfl ?_
      refine wpR_pass (wantN rfl rfl rfl hc7) rfl rfl ?_
      refine wpR_val (v := (Value.bool false)) (w' := w5) rfl rfl rfl (x_pickF (v := (Value.bool false)) rfl rfl hc7 rfl) ?_
      refine wpR_nil ?_
      exact ⟨false, ⟨rfl, e1, trivial⟩, h⟩
  clear h
  rintro c12 ρ w10 ⟨e15, e1, -⟩ h
  replace h := hk c12 w10 h
  clear hk
  refine wpR_val (v := (Value.bool c12)) (w' := w10) rfl rfl rfl (x_assign (v := (Value.bool c12)) rfl e15) ?_
  refine wpR_nil ?_
  refine wpC_seq ?_
  refine wpC_cut (fun ρ => ρ 1 = (Sl.v r1) ∧ ρ 2 = (Value.bool c12) ∧ True) ⟨e1, rfl, trivial⟩ ?_
  rintro ρ ⟨e1, e2, -⟩
  refine wpC_region ?_
  refine wpR_val (v := (Value.bool c12)) (w' := w10) rfl rfl rfl (x_move (v := (Value.bool c12)) rfl e2) ?_
  refine wpR_val (v := (Value.bool c12)) (w' := w10) rfl rfl rfl (x_move (v := (Value.bool c12)) rfl rfl) ?_
  obtain ⟨J13, h, hk⟩ := h
  refine wpR_joinJ 6 (fun x ρ => ρ 23 = Value.bool x ∧ ρ 1 = (Sl.v r1) ∧ True) (J13) ?_ ?_
  · clear hk
    rcases Bool.eq_false_or_eq_true (c12) with hc14 | hc14
    · replace h := h.1 hc14
      refine wpR_val (v := (Sl.v r1)) (w' := w10) (wantG rfl rfl rfl hc14) rfl rfl (x_move (v := (Sl.v r1)) rfl e1) ?_
      obtain ⟨b15, hb15⟩ : ∃ u, u = w10.heap.size := ⟨_, rfl⟩
      obtain ⟨w11, hw15⟩ : ∃ u, u = w10.alloc (.cells #[(Value.int .i64 0), (Value.int .i64 1), (Value.int .i64 3), (Value.int .i64 4)] 3) := ⟨_, rfl⟩
      replace h := h b15 w11 hb15 hw15
      refine wpR_val (v := (Sl.v (⟨some ⟨b15, 0, none⟩, 4, 4⟩ : Sl))) (w' := w11) (wantG rfl rfl rfl hc14) rfl rfl ((x_buildSlice (qs := [(0, (Value.int .i64 0)), (1, (Value.int .i64 1)), (2, (Value.int .i64 3)), (3, (Value.int .i64 4))]) rfl (by rfl) (BS_23_4_0_1_2_3 0 1 3 4)).trans (by rw [← hb15, ← hw15])) ?_
      refine wpR_enter (wantG rfl rfl rfl hc14) rfl rfl (x_call (vs := [(Sl.v r1), (Sl.v (⟨some ⟨b15, 0, none⟩, 4, 4⟩ : Sl))]) rfl rfl (mapl_cons rfl (mapl_cons rfl mapl_nil)) Try.func15 NN_15 NB_15) (Calls.mono h ?_)
      rintro _ w12 ⟨r16, rfl, h⟩
      refine ⟨_, rfl, ?_⟩
      obtain ⟨b17, hb17⟩ : ∃ u, u = w12.heap.size := ⟨_, rfl⟩
      obtain ⟨w13, hw17⟩ : ∃ u, u = w12.alloc (.cells #[(Value.int .i64 4), (Value.int .i64 3), (Value.int .i64 1), (Value.int .i64 0)] 3) := ⟨_, rfl⟩
      replace h := h b17 w13 hb17 hw17
      refine wpR_val (v := (Sl.v (⟨some ⟨b17, 0, none⟩, 4, 4⟩ : Sl))) (w' := w13) (wantG rfl rfl rfl hc14) rfl rfl ((x_buildSlice (qs := [(0, (Value.int .i64 4)), (1, (Value.int .i64 3)), (2, (Value.int .i64 1)), (3, (Value.int .i64 0))]) rfl (by rfl) (BS_23_4_0_1_2_3 4 3 1 0)).trans (by rw [← hb17, ← hw17])) ?_
      refine wpR_enter (wantG rfl rfl rfl hc14) rfl rfl (x_call (vs := [(Sl.v r16), (Sl.v (⟨some ⟨b17, 0, none⟩, 4, 4⟩ : Sl))]) rfl rfl (mapl_cons rfl (mapl_cons rfl mapl_nil)) Try.func12 NN_12 NB_12) (Calls.mono h ?_)
      rintro _ w14 ⟨r18, rfl, h⟩
      refine ⟨_, rfl, ?_⟩
      refine wpR_val (v := (Value.bool r18)) (w' := w14) rfl rfl rfl (x_pickT (v := (Value.bool r18)) rfl rfl hc14 rfl) ?_
      refine wpR_nil ?_
      exact ⟨r18, ⟨rfl, e1, trivial⟩, h⟩
    · replace h := h.2 hc14
      refine wpR_pass (wantN rfl rfl rfl hc14) rfl rfl ?_
      refine wpR_pass (wantN rfl rfl rfl hc14) rfl rfl ?_
      refine wpR_pass (wantN rfl rfl rfl hc14) rfl rfl ?_
      refine wpR_pass (wantN rfl rfl rfl hc14) rfl rfl ?_
      refine wpR_pass (wantN rfl rfl rfl hc14) rfl rfl ?_
      refine wpR_val (v := (Value.bool false)) (w' := w10) rfl rfl rfl (x_pickF (v := (Value.bool false)) rfl rfl hc14 rfl) ?_
      refine wpR_nil ?_
      exact ⟨false, ⟨rfl, e1, trivial⟩, h⟩
  clear h
  rintro c19 ρ w15 ⟨e23, e1, -⟩ h
  replace h := hk c19 w15 h
  clear hk
  refine wpR_val (v := (Value.bool c19)) (w' := w15) rfl rfl rfl (x_move (v := (Value.bool c19)) rfl e23) ?_
  obtain ⟨J20, h, hk⟩ := h
  refine wpR_joinJ 6 (fun x ρ => ρ 30 = Value.bool x ∧ ρ 1 = (Sl.v r1) ∧ True) (J20) ?_ ?_
  · clear hk
    rcases Bool.eq_false_or_eq_true (c19) with hc21 | hc21
    · replace h := h.1 hc21
      refine wpR_val (v := (Sl.v r1)) (w' := w15) (wantG rfl rfl rfl hc21) rfl rfl (x_move (v := (Sl.v r1)) rfl e1) ?_
      obtain ⟨b22, hb22⟩ : ∃ u, u = w15.heap.size := ⟨_, rfl⟩
      obtain ⟨w16, hw22⟩ : ∃ u, u = w15.alloc (.cells #[(Value.int .i64 0), (Value.int .i64 1), (Value.int .i64 3), (Value.int .i64 4)] 3) := ⟨_, rfl⟩
      replace h := h b22 w16 hb22 hw22
      refine wpR_val (v := (Sl.v (⟨some ⟨b22, 0, none⟩, 4, 4⟩ : Sl))) (w' := w16) (wantG rfl rfl rfl hc21) rfl rfl ((x_buildSlice (qs := [(0, (Value.int .i64 0)), (1, (Value.int .i64 1)), (2, (Value.int .i64 3)), (3, (Value.int .i64 4))]) rfl (by rfl) (BS_23_4_0_1_2_3 0 1 3 4)).trans (by rw [← hb22, ← hw22])) ?_
      refine wpR_enter (wantG rfl rfl rfl hc21) rfl rfl (x_call (vs := [(Sl.v r1), (Sl.v (⟨some ⟨b22, 0, none⟩, 4, 4⟩ : Sl))]) rfl rfl (mapl_cons rfl (mapl_cons rfl mapl_nil)) Try.func17 NN_17 NB_17) (Calls.mono h ?_)
      rintro _ w17 ⟨r23, rfl, h⟩
      refine ⟨_, rfl, ?_⟩
      obtain ⟨b24, hb24⟩ : ∃ u, u = w17.heap.size := ⟨_, rfl⟩
      obtain ⟨w18, hw24⟩ : ∃ u, u = w17.alloc (.cells #[(Value.int .i64 1), (Value.int .i64 1), (Value.int .i64 0), (Value.int .i64 1), (Value.int .i64 0), (Value.int .i64 0), (Value.int .i64 1), (Value.int .i64 0)] 3) := ⟨_, rfl⟩
      replace h := h b24 w18 hb24 hw24
      refine wpR_val (v := (Sl.v (⟨some ⟨b24, 0, none⟩, 8, 8⟩ : Sl))) (w' := w18) (wantG rfl rfl rfl hc21) rfl rfl ((x_buildSlice (qs := [(0, (Value.int .i64 1)), (1, (Value.int .i64 1)), (2, (Value.int .i64 0)), (3, (Value.int .i64 1)), (4, (Value.int .i64 0)), (5, (Value.int .i64 0)), (6, (Value.int .i64 1)), (7, (Value.int .i64 0))]) rfl (by rfl) (BS_23_8_0_1_2_3_4_5_6_7 1 1 0 1 0 0 1 0)).trans (by rw [← hb24, ← hw24])) ?_
      refine wpR_enter (wantG rfl rfl rfl hc21) rfl rfl (x_call (vs := [(Sl.v r23), (Sl.v (⟨some ⟨b24, 0, none⟩, 8, 8⟩ : Sl))]) rfl rfl (mapl_cons rfl (mapl_cons rfl mapl_nil)) Try.func12 NN_12 NB_12) (Calls.mono h ?_)
      rintro _ w19 ⟨r25, rfl, h⟩
      refine ⟨_, rfl, ?_⟩
      refine wpR_val (v := (Value.bool r25)) (w' := w19) rfl rfl rfl (x_pickT (v := (Value.bool r25)) rfl rfl hc21 rfl) ?_
      refine wpR_nil ?_
      exact ⟨r25, ⟨rfl, e1, trivial⟩, h⟩
    · replace h := h.2 hc21
      refine wpR_pass (wantN rfl rfl rfl hc21) rfl rfl ?_
      refine wpR_pass (wantN rfl rfl rfl hc21) rfl rfl ?_
      refine wpR_pass (wantN rfl rfl rfl hc21) rfl rfl ?_
      refine wpR_pass (wantN rfl rfl rfl hc21) rfl rfl ?_
      refine wpR_pass (wantN rfl rfl rfl hc21) rfl rfl ?_
      refine wpR_val (v := (Value.bool false)) (w' := w15) rfl rfl rfl (x_pickF (v := (Value.bool false)) rfl rfl hc21 rfl) ?_
      refine wpR_nil ?_
      exact ⟨false, ⟨rfl, e1, trivial⟩, h⟩
  clear h
  rintro c26 ρ w20 ⟨e30, e1, -⟩ h
  replace h := hk c26 w20 h
  clear hk
  refine wpR_val (v := (Value.bool c26)) (w' := w20) rfl rfl rfl (x_move (v := (Value.bool c26)) rfl e30) ?_
  obtain ⟨J27, h, hk⟩ := h
  refine wpR_joinJ 3 (fun x ρ => ρ 34 = Value.bool x ∧ True) (J27) ?_ ?_
  · clear hk
    rcases Bool.eq_false_or_eq_true (c26) with hc28 | hc28
    · replace h := h.1 hc28
      refine wpR_val (v := (Sl.v r1)) (w' := w20) (wantG rfl rfl rfl hc28) rfl rfl (x_move (v := (Sl.v r1)) rfl e1) ?_
      refine wpR_enter (wantG rfl rfl rfl hc28) rfl rfl (x_call (vs := [(Sl.v r1)]) rfl rfl (mapl_cons rfl mapl_nil) Try.func10 NN_10 NB_10) (Calls.mono h ?_)
      rintro _ w21 ⟨r29, rfl, h⟩
      refine ⟨_, rfl, ?_⟩
      refine wpR_val (v := (Value.bool r29)) (w' := w21) rfl rfl rfl (x_pickT (v := (Value.bool r29)) rfl rfl hc28 rfl) ?_
      refine wpR_nil ?_
      exact ⟨r29, ⟨rfl, trivial⟩, h⟩
    · replace h := h.2 hc28
      refine wpR_pass (wantN rfl rfl rfl hc28) rfl rfl ?_
      refine wpR_pass (wantN rfl rfl rfl hc28) rfl rfl ?_
      refine wpR_val (v := (Value.bool false)) (w' := w20) rfl rfl rfl (x_pickF (v := (Value.bool false)) rfl rfl hc28 rfl) ?_
      refine wpR_nil ?_
      exact ⟨false, ⟨rfl, trivial⟩, h⟩
  clear h
  rintro c30 ρ w22 ⟨e34, -⟩ h
  replace h := hk c30 w22 h
  clear hk
  refine wpR_val (v := (Value.bool c30)) (w' := w22) rfl rfl rfl (x_assign (v := (Value.bool c30)) rfl e34) ?_
  refine wpR_nil ?_
  refine wpC_ret ?_
  exact ⟨.inl rfl, fun a ha => ⟨_, results_rep1 rfl ha rfl, c30, rfl, h⟩⟩

/-- linguaref41.Few -/
def F9 (p0 : Sl) (p1 : Int) (w0 : World) (K : Bool → World → Prop) : Prop :=
  lp (fun (next1 : Int → World → Prop) l1 w1 =>
    cnd ((decide (l1 < (p0.len : Int))) && (decide (l1 ≤ p1)))
      (
      ix p0 l1 3 fun p5 =>
      ld Sl.v (p5.add 2) w1 fun x6 =>
      cnd (decide (40 < (x6.len : Int)))
        (
        K false w1
        )
        (
        next1 (IntKind.i64.wrap (l1 + 1)) w1
        )
      )
      (
      K (decide ((p0.len : Int) ≤ p1)) w1
      )
  ) 0 w0
set_option maxRecDepth 100000 in
theorem D9 (p0 : Sl) (p1 : Int) (w0 : World) (K : Bool → World → Prop) (h : F9 p0 p1 w0 K) : callC Try.prog 9 #[(Sl.v p0), (Value.int .i64 p1)] (fun (r : Bool) => (Value.bool r)) w0 K := by
  unfold F9 at h
  refine calls_of_wpC Try.func9 rfl 28 rfl (by simp) ?_
  intro ρ hρ
  have e0 : ρ 0 = (Sl.v p0) := hρ 0
  have e1 : ρ 1 = (Value.int .i64 p1) := hρ 1
  clear hρ
  refine wpC_seq ?_
  refine wpC_region ?_
  refine wpR_val (v := (Value.bool false)) (w' := w0) rfl rfl rfl (x_assign (v := (Value.bool false)) rfl rfl) ?_
  refine wpR_nil ?_
  refine wpC_seq ?_
  refine wpC_seq ?_
  refine wpC_cut (fun ρ => ρ 0 = (Sl.v p0) ∧ ρ 1 = (Value.int .i64 p1) ∧ True) ⟨e0, e1, trivial⟩ ?_
  rintro ρ ⟨e0, e1, -⟩
  refine wpC_region ?_
  refine wpR_val (v := (Value.int .i64 0)) (w' := w0) rfl rfl rfl (x_assign (v := (Value.int .i64 0)) rfl rfl) ?_
  refine wpR_nil ?_
  refine wpC_block ?_
  obtain ⟨I1, μ1, hI1, hr1⟩ := h
  refine wpC_loop (fun (x : Int) ρ => ρ 5 = (Value.int .i64 x) ∧ ρ 0 = (Sl.v p0) ∧ ρ 1 = (Value.int .i64 p1) ∧ True) I1 μ1 0 ⟨rfl, e0, e1, trivial⟩ hI1 ?_
  rintro l1 ρ w1 ⟨e5, e0, e1, -⟩ h
  replace h := hr1 l1 w1 h
  clear hr1 hI1
  refine wpC_seq ?_
  refine wpC_seq ?_
  refine wpC_region ?_
  refine wpR_val (v := (Value.int .i64 l1)) (w' := w1) rfl rfl rfl (x_move (v := (Value.int .i64 l1)) rfl e5) ?_
  refine wpR_val (v := (Sl.v p0)) (w' := w1) rfl rfl rfl (x_move (v := (Sl.v p0)) rfl e0) ?_
  refine wpR_val (v := (Value.int .i64 (p0.len : Int))) (w' := w1) rfl rfl rfl (x_lenS (s := p0) rfl rfl isSliceT_22) ?_
  refine wpR_val (v := (Value.bool (decide (l1 < (p0.len : Int))))) (w' := w1) rfl rfl rfl (x_lss rfl rfl rfl) ?_
  refine wpR_val (v := (Value.bool (decide (l1 < (p0.len : Int))))) (w' := w1) rfl rfl rfl (x_move (v := (Value.bool (decide (l1 < (p0.len : Int))))) rfl rfl) ?_
  refine wpR_joinJ 4 (fun (_ : Unit) ρ => ρ 14 = Value.bool ((decide (l1 < (p0.len : Int))) && (decide (l1 ≤ p1))) ∧ ρ 0 = (Sl.v p0) ∧ ρ 1 = (Value.int .i64 p1) ∧ ρ 5 = (Value.int .i64 l1) ∧ True) (fun _ w => w1 = w) ?_ ?_
  · clear h
    rcases Bool.eq_false_or_eq_true (decide (l1 < (p0.len : Int))) with hc3 | hc3
    · skip
      refine wpR_val (v := (Value.int .i64 l1)) (w' := w1) (wantG rfl rfl rfl hc3) rfl rfl (x_move (v := (Value.int .i64 l1)) rfl e5) ?_
      refine wpR_val (v := (Value.int .i64 p1)) (w' := w1) (wantG rfl rfl rfl hc3) rfl rfl (x_move (v := (Value.int .i64 p1)) rfl e1) ?_
      refine wpR_val (v := (Value.bool (decide (l1 ≤ p1)))) (w' := w1) (wantG rfl rfl rfl hc3) rfl rfl (x_leq rfl rfl rfl) ?_
      refine wpR_val (v := (Value.bool (decide (l1 ≤ p1)))) (w' := w1) rfl rfl rfl (x_pickT (v := (Value.bool (decide (l1 ≤ p1)))) rfl rfl hc3 rfl) ?_
      refine wpR_nil ?_
      exact ⟨(), ⟨(by rw [hc3]; rfl), e0, e1, e5, trivial⟩, rfl⟩
    · skip
      refine wpR_pass (wantN rfl rfl rfl hc3) rfl rfl ?_
      refine wpR_pass (wantN rfl rfl rfl hc3) rfl rfl ?_
      refine wpR_pass (wantN rfl rfl rfl hc3) rfl rfl ?_
      refine wpR_val (v := (Value.bool false)) (w' := w1) rfl rfl rfl (x_pickF (v := (Value.bool false)) rfl rfl hc3 rfl) ?_
      refine wpR_nil ?_
      exact ⟨(), ⟨(by rw [hc3]; rfl), e0, e1, e5, trivial⟩, rfl⟩
  rintro _ ρ wj ⟨e14, e0, e1, e5, -⟩ rfl
  refine wpR_nil ?_
  refine wpC_cond (b := (decide (l1 < (p0.len : Int))) && (decide (l1 ≤ p1))) e14 (fun hc4 => ?_) (fun hc4 => ?_)
  · replace h := h.1 hc4
    refine wpC_skip ?_
    refine wpC_seq ?_
    refine wpC_block ?_
    refine wpC_seq ?_
    refine wpC_region ?_
    refine wpR_val (v := (Sl.v p0)) (w' := w1) rfl rfl rfl (x_move (v := (Sl.v p0)) rfl e0) ?_
    refine wpR_val (v := (Value.int .i64 l1)) (w' := w1) rfl rfl rfl (x_move (v := (Value.int .i64 l1)) rfl e5) ?_
    obtain ⟨q5, z5, r5, h⟩ := h
    generalize hp5 : z5.add ((l1).toNat * 3) = p5 at h
    refine wpR_val (v := (Value.pointer (some p5))) (w' := w1) rfl rfl rfl ((x_indexAddr (s := p0) rfl rfl rfl ES_22 q5 r5).trans (by rw [hp5])) ?_
    refine wpR_val (v := (Value.pointer (some (p5.add 2)))) (w' := w1) rfl rfl rfl (x_fieldAddr rfl rfl FA_32_2) ?_
    obtain ⟨x6, q6, h⟩ := h
    refine wpR_val (v := (Sl.v x6)) (w' := w1) rfl rfl rfl (x_load1 rfl rfl SH_23 q6) ?_
    refine wpR_val (v := (Value.int .i64 (x6.len : Int))) (w' := w1) rfl rfl rfl (x_lenS (s := x6) rfl rfl isSliceT_23) ?_
    refine wpR_val (v := (Value.bool (decide (40 < (x6.len : Int))))) (w' := w1) rfl rfl rfl (x_gtr rfl rfl rfl) ?_
    refine wpR_nil ?_
    refine wpC_cond (b := decide (40 < (x6.len : Int))) rfl (fun hc7 => ?_) (fun hc7 => ?_)
    · replace h := h.1 hc7
      refine wpC_seq ?_
      refine wpC_cut (fun ρ => True) trivial ?_
      rintro ρ -
      refine wpC_region ?_
      refine wpR_val (v := (Value.bool false)) (w' := w1) rfl rfl rfl (x_assign (v := (Value.bool false)) rfl rfl) ?_
      refine wpR_nil ?_
      refine wpC_ret ?_
      exact ⟨.inl rfl, fun a ha => ⟨_, results_rep1 rfl ha rfl, false, rfl, h⟩⟩
    · replace h := h.2 hc7
      refine wpC_skip ?_
      refine wpC_cut (fun ρ => ρ 0 = (Sl.v p0) ∧ ρ 1 = (Value.int .i64 p1) ∧ ρ 5 = (Value.int .i64 l1) ∧ True) ⟨e0, e1, e5, trivial⟩ ?_
      rintro ρ ⟨e0, e1, e5, -⟩
      refine wpC_region ?_
      refine wpR_val (v := (Value.int .i64 l1)) (w' := w1) rfl rfl rfl (x_move (v := (Value.int .i64 l1)) rfl e5) ?_
      refine wpR_val (v := (Value.int .i64 (IntKind.i64.wrap (l1 + 1)))) (w' := w1) rfl rfl rfl (x_add rfl rfl rfl) ?_
      refine wpR_val (v := (Value.int .i64 (IntKind.i64.wrap (l1 + 1)))) (w' := w1) rfl rfl rfl (x_assign (v := (Value.int .i64 (IntKind.i64.wrap (l1 + 1)))) rfl rfl) ?_
      refine wpR_nil ?_
      exact ⟨IntKind.i64.wrap (l1 + 1), ⟨rfl, e0, e1, trivial⟩, h⟩
  · replace h := h.2 hc4
    refine wpC_exit ?_
    refine wpC_seq ?_
    refine wpC_region ?_
    refine wpR_val (v := (Sl.v p0)) (w' := w1) rfl rfl rfl (x_move (v := (Sl.v p0)) rfl e0) ?_
    refine wpR_val (v := (Value.int .i64 (p0.len : Int))) (w' := w1) rfl rfl rfl (x_lenS (s := p0) rfl rfl isSliceT_22) ?_
    refine wpR_val (v := (Value.int .i64 p1)) (w' := w1) rfl rfl rfl (x_move (v := (Value.int .i64 p1)) rfl e1) ?_
    refine wpR_val (v := (Value.bool (decide ((p0.len : Int) ≤ p1)))) (w' := w1) rfl rfl rfl (x_leq rfl rfl rfl) ?_
    refine wpR_val (v := (Value.bool (decide ((p0.len : Int) ≤ p1)))) (w' := w1) rfl rfl rfl (x_assign (v := (Value.bool (decide ((p0.len : Int) ≤ p1)))) rfl rfl) ?_
    refine wpR_nil ?_
    refine wpC_ret ?_
    exact ⟨.inl rfl, fun a ha => ⟨_, results_rep1 rfl ha rfl, decide ((p0.len : Int) ≤ p1), rfl, h⟩⟩


end Go.Proofs.Ytjmjackeeiglmaa
