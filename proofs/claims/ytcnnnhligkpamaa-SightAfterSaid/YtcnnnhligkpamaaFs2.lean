import Derived.Test.YtcnnnhligkpamaaRows
import Derived.Test.YtcnnnhligkpamaaFs1
import Derived.Test.YtcnnnhligkpamaaDecRaw
namespace Go.Proofs.Ytcnnnhligkpamaa
open Go.Dec
set_option maxHeartbeats 400000

/-- lingualaw18.SightAfter -/
def F6 (p0 : Sl) (p1 : Sl) (p2 : Int) (p3 : Int) (w0 : World) (K : Bool → World → Prop) : Prop :=
  callC Try.prog 7 #[] (fun (r : Bool) => (Value.bool r)) w0 fun r1 w1 =>
  callC Try.prog 8 #[(Sl.v p0), (Sl.v p1), (Value.int .i64 20)] (fun (r : Bool) => (Value.bool r)) w1 fun r2 w2 =>
  cnd ((!r2) || (decide ((p0.len : Int) = 0)))
    (
    K r1 w2
    )
    (
    callC Try.prog 17 #[(Sl.v p1)] (fun (r : Sl) => (Sl.v r)) w2 fun r6 w3 =>
    lp (fun (next7 : (Bool × Bool × Int) → World → Prop) l7 w4 =>
      cnd (decide (l7.2.2 < (p0.len : Int)))
        (
        jp (fun J9 => cnd (l7.1)
          (
          ix p0 l7.2.2 22 fun p11 =>
          ld (Value.int .i64) (p11.add 14) w4 fun x12 =>
          J9 (decide (x12 = 1))
          )
          (
          J9 false
          ))
        fun c13 =>
        jp (fun J14 => cnd (l7.2.1)
          (
          ix p0 l7.2.2 22 fun p16 =>
          ld (Value.int .i64) (p16.add 15) w4 fun x17 =>
          J14 (decide (x17 = 1))
          )
          (
          J14 false
          ))
        fun c18 =>
        next7 (c13, c18, IntKind.i64.wrap (l7.2.2 + 1)) w4
        )
        (
        lp (fun (next19 : Int → World → Prop) l19 w5 =>
          cnd (decide (l19 < (p1.len : Int)))
            (
            callC Try.prog 9 #[(Sl.v p0), (Sl.v p1), (Value.int .i64 p2), (Value.int .i64 l19)] (fun (r : Bool) => (Value.bool r)) w5 fun r21 w6 =>
            callC Try.prog 18 #[(Value.int .i64 p2)] (fun (r : Int) => (Value.int .i64 r)) w6 fun r22 w7 =>
            jp (fun J23 => cnd (decide (0 ≤ r22))
              (
              ix p1 l19 12 fun p25 =>
              ld (Value.int .i64) (p25.add 0) w7 fun x26 =>
              J23 (decide (x26 = p2))
              )
              (
              J23 false
              ))
            fun c27 =>
            ix p1 l19 12 fun p28 =>
            ld (Value.int .i64) (p28.add 0) w7 fun x29 =>
            callC Try.prog 18 #[(Value.int .i64 x29)] (fun (r : Int) => (Value.int .i64 r)) w7 fun r30 w8 =>
            lp (fun (next31 : (Bool × Bool × Int) → World → Prop) l31 w9 =>
              cnd (decide (l31.2.2 < (r6.len : Int)))
                (
                jn (fun (J33 : (Bool × Bool) → World → Prop) =>
                  ix r6 l31.2.2 4 fun p35 =>
                  ld (Value.int .i64) (p35.add 0) w9 fun x36 =>
                  ld (Value.int .i64) (p35.add 1) w9 fun x37 =>
                  ld (Value.int .i64) (p35.add 2) w9 fun x38 =>
                  ld (Value.int .i64) (p35.add 3) w9 fun x39 =>
                  nw 43 #[(Value.int .i64 0), (Value.int .i64 0), (Value.int .i64 0), (Value.int .i64 0)] w9 fun b40 w11 =>
                  st (Addr.mk b40 0 none) [(Value.int .i64 x36), (Value.int .i64 x37), (Value.int .i64 x38), (Value.int .i64 x39)] w11 fun w12 =>
                  jn (fun (J43 : Bool → World → Prop) => tk w12 fun w13 =>
                    ld (Value.int .i64) ((Addr.mk b40 0 none).add 1) w13 fun x44 =>
                    ix p1 l19 12 fun p45 =>
                    ld (Value.int .i64) (p45.add 4) w13 fun x46 =>
                    J43 (!decide (x44 = x46)) w13
                  )
                  fun l47 w14 =>
                  cnd (l47)
                    (
                    J33 (l31.1, l31.2.1) w14
                    )
                    (
                    ld (Value.int .i64) ((Addr.mk b40 0 none).add 3) w14 fun x49 =>
                    lp (fun (next50 : (Bool × Int) → World → Prop) l50 w15 =>
                      jp (fun J51 => cnd (decide (l50.2 ≤ l19))
                        (
                        ld (Value.int .i64) ((Addr.mk b40 0 none).add 3) w15 fun x53 =>
                        J51 (decide (0 ≤ x53))
                        )
                        (
                        J51 false
                        ))
                      fun c54 =>
                      cnd (c54)
                        (
                        jn (fun (J57 : Bool → World → Prop) => tk w15 fun w16 =>
                          cnd (l50.1)
                            (
                            J57 true w16
                            )
                            (
                            ix p1 l50.2 12 fun p59 =>
                            ld (Value.int .i64) (p59.add 3) w16 fun x60 =>
                            cnd (decide (x60 = 8))
                              (
                              ix p1 l50.2 12 fun p62 =>
                              ld (Value.int .i64) (p62.add 4) w16 fun x63 =>
                              ld (Value.int .i64) ((Addr.mk b40 0 none).add 1) w16 fun x64 =>
                              J57 (decide (x63 = x64)) w16
                              )
                              (
                              J57 false w16
                              )
                            )
                        )
                        fun l65 w17 =>
                        next50 (l65, IntKind.i64.wrap (l50.2 + 1)) w17
                        )
                        (
                        jp (fun J66 => cnd (l7.1)
                          (
                          J66 true
                          )
                          (
                          ld (Value.int .i64) ((Addr.mk b40 0 none).add 2) w15 fun x68 =>
                          J66 (decide (x68 < l19))
                          ))
                        fun c69 =>
                        jp (fun J70 => cnd (c69)
                          (
                          ld (Value.int .i64) ((Addr.mk b40 0 none).add 3) w15 fun x72 =>
                          jp (fun J73 => cnd (decide (x72 = (-1)))
                            (
                            J73 true
                            )
                            (
                            ld (Value.int .i64) ((Addr.mk b40 0 none).add 3) w15 fun x75 =>
                            J73 (decide (l19 < x75))
                            ))
                          fun c76 =>
                          J70 (c76 || (l7.2.1 && (!l50.1)))
                          )
                          (
                          J70 false
                          ))
                        fun c85 =>
                        jn (fun J86 => cnd (l31.1)
                          (
                          J86 true w15
                          )
                          (
                          jp (fun J88 => cnd (c85)
                            (
                            ld (Value.int .i64) ((Addr.mk b40 0 none).add 0) w15 fun x90 =>
                            J88 (decide (x90 = p2))
                            )
                            (
                            J88 false
                            ))
                          fun c91 =>
                          jn (fun J92 => cnd (c91)
                            (
                            callC Try.prog 18 #[(Value.int .i64 p2)] (fun (r : Int) => (Value.int .i64 r)) w15 fun r94 w18 =>
                            J92 (decide (0 ≤ r94)) w18
                            )
                            (
                            J92 false w15
                            ))
                          fun c95 w19 =>
                          J86 c95 w19
                          ))
                        fun c96 w20 =>
                        jn (fun J97 => cnd (l31.2.1)
                          (
                          J97 true w20
                          )
                          (
                          jn (fun J99 => cnd (c85)
                            (
                            ld (Value.int .i64) ((Addr.mk b40 0 none).add 0) w20 fun x101 =>
                            callC Try.prog 18 #[(Value.int .i64 x101)] (fun (r : Int) => (Value.int .i64 r)) w20 fun r102 w21 =>
                            J99 (decide (r102 = (IntKind.i64.wrap p3))) w21
                            )
                            (
                            J99 false w20
                            ))
                          fun c103 w22 =>
                          J97 c103 w22
                          ))
                        fun c104 w23 =>
                        J33 (c96, c104) w23
                        )
                    ) (false, IntKind.i64.wrap ((max x49 0) + 1)) w14
                    )
                )
                fun l34 w10 =>
                next31 (l34.1, l34.2, IntKind.i64.wrap (l31.2.2 + 1)) w10
                )
                (
                jn (fun J105 => cnd (!(r21 == l31.1))
                  (
                  J105 true w9
                  )
                  (
                  callC Try.prog 11 #[(Sl.v p0), (Sl.v p1), (Value.int .i64 (IntKind.i64.wrap p3)), (Value.int .i64 l19)] (fun (r : Bool) => (Value.bool r)) w9 fun r107 w24 =>
                  J105 (!(r107 == l31.2.1)) w24
                  ))
                fun c108 w25 =>
                cnd (c108)
                  (
                  K false w25
                  )
                  (
                  next19 (IntKind.i64.wrap (l19 + 1)) w25
                  )
                )
            ) (c27, decide (r30 = (IntKind.i64.wrap p3)), 0) w8
            )
            (
            K r1 w5
            )
        ) 0 w4
        )
    ) (true, true, 0) w3
    )
set_option maxRecDepth 100000 in
theorem D6 (p0 : Sl) (p1 : Sl) (p2 : Int) (p3 : Int) (w0 : World) (K : Bool → World → Prop) (h : F6 p0 p1 p2 p3 w0 K) : callC Try.prog 6 #[(Sl.v p0), (Sl.v p1), (Value.int .i64 p2), (Value.int .u8 p3)] (fun (r : Bool) => (Value.bool r)) w0 K := by
  unfold F6 at h
  refine calls_of_wpC Try.func6 rfl 209 rfl (by simp) ?_
  intro ρ hρ
  have e0 : ρ 0 = (Sl.v p0) := hρ 0
  have e1 : ρ 1 = (Sl.v p1) := hρ 1
  have e2 : ρ 2 = (Value.int .i64 p2) := hρ 2
  have e3 : ρ 3 = (Value.int .u8 p3) := hρ 3
  clear hρ
  refine wpC_seq ?_
  refine wpC_region ?_
  refine wpR_val (v := (Value.bool false)) (w' := w0) rfl rfl rfl (x_assign (v := (Value.bool false)) rfl rfl) ?_
  refine wpR_nil ?_
  refine wpC_seq ?_
  refine wpC_cut (fun ρ => ρ 0 = (Sl.v p0) ∧ ρ 1 = (Sl.v p1) ∧ ρ 2 = (Value.int .i64 p2) ∧ ρ 3 = (Value.int .u8 p3) ∧ True) ⟨e0, e1, e2, e3, trivial⟩ ?_
  rintro ρ ⟨e0, e1, e2, e3, -⟩
  refine wpC_region ?_
  refine wpR_enter rfl rfl rfl (x_call (vs := []) rfl rfl mapl_nil Try.func7 NN_7 NB_7) (Calls.mono h ?_)
  rintro _ w1 ⟨r1, rfl, h⟩
  refine ⟨_, rfl, ?_⟩
  refine wpR_val (v := (Value.bool r1)) (w' := w1) rfl rfl rfl (x_assign (v := (Value.bool r1)) rfl rfl) ?_
  refine wpR_nil ?_
  refine wpC_seq ?_
  refine wpC_seq ?_
  refine wpC_cut (fun ρ => ρ 0 = (Sl.v p0) ∧ ρ 1 = (Sl.v p1) ∧ ρ 2 = (Value.int .i64 p2) ∧ ρ 3 = (Value.int .u8 p3) ∧ ρ 9 = (Value.bool r1) ∧ True) ⟨e0, e1, e2, e3, rfl, trivial⟩ ?_
  rintro ρ ⟨e0, e1, e2, e3, e9, -⟩
  refine wpC_region ?_
  refine wpR_val (v := (Sl.v p0)) (w' := w1) rfl rfl rfl (x_move (v := (Sl.v p0)) rfl e0) ?_
  refine wpR_val (v := (Sl.v p1)) (w' := w1) rfl rfl rfl (x_move (v := (Sl.v p1)) rfl e1) ?_
  refine wpR_enter rfl rfl rfl (x_call (vs := [(Sl.v p0), (Sl.v p1), (Value.int .i64 20)]) rfl rfl (mapl_cons rfl (mapl_cons rfl (mapl_cons rfl mapl_nil))) Try.func8 NN_8 NB_8) (Calls.mono h ?_)
  rintro _ w2 ⟨r2, rfl, h⟩
  refine ⟨_, rfl, ?_⟩
  refine wpR_val (v := (Value.bool (!r2))) (w' := w2) rfl rfl rfl (x_not rfl rfl) ?_
  refine wpR_val (v := (Value.bool (!r2))) (w' := w2) rfl rfl rfl (x_move (v := (Value.bool (!r2))) rfl rfl) ?_
  refine wpR_joinJ 4 (fun (_ : Unit) ρ => ρ 32 = Value.bool ((!r2) || (decide ((p0.len : Int) = 0))) ∧ ρ 0 = (Sl.v p0) ∧ ρ 1 = (Sl.v p1) ∧ ρ 2 = (Value.int .i64 p2) ∧ ρ 3 = (Value.int .u8 p3) ∧ ρ 9 = (Value.bool r1) ∧ True) (fun _ w => w2 = w) ?_ ?_
  · clear h
    rcases Bool.eq_false_or_eq_true (!r2) with hc4 | hc4
    · skip
      refine wpR_pass (wantN rfl rfl rfl hc4) rfl rfl ?_
      refine wpR_pass (wantN rfl rfl rfl hc4) rfl rfl ?_
      refine wpR_pass (wantN rfl rfl rfl hc4) rfl rfl ?_
      refine wpR_val (v := (Value.bool true)) (w' := w2) rfl rfl rfl (x_pickT (v := (Value.bool true)) rfl rfl hc4 rfl) ?_
      refine wpR_nil ?_
      exact ⟨(), ⟨(by rw [hc4]; rfl), e0, e1, e2, e3, e9, trivial⟩, rfl⟩
    · skip
      refine wpR_val (v := (Sl.v p0)) (w' := w2) (wantG rfl rfl rfl hc4) rfl rfl (x_move (v := (Sl.v p0)) rfl e0) ?_
      refine wpR_val (v := (Value.int .i64 (p0.len : Int))) (w' := w2) (wantG rfl rfl rfl hc4) rfl rfl (x_lenS (s := p0) rfl rfl isSliceT_22) ?_
      refine wpR_val (v := (Value.bool (decide ((p0.len : Int) = 0)))) (w' := w2) (wantG rfl rfl rfl hc4) rfl rfl (x_eql rfl rfl rfl) ?_
      refine wpR_val (v := (Value.bool (decide ((p0.len : Int) = 0)))) (w' := w2) rfl rfl rfl (x_pickF (v := (Value.bool (decide ((p0.len : Int) = 0)))) rfl rfl hc4 rfl) ?_
      refine wpR_nil ?_
      exact ⟨(), ⟨(by rw [hc4]; rfl), e0, e1, e2, e3, e9, trivial⟩, rfl⟩
  rintro _ ρ wj ⟨e32, e0, e1, e2, e3, e9, -⟩ rfl
  refine wpR_nil ?_
  refine wpC_cond (b := (!r2) || (decide ((p0.len : Int) = 0))) e32 (fun hc5 => ?_) (fun hc5 => ?_)
  · replace h := h.1 hc5
    refine wpC_seq ?_
    refine wpC_region ?_
    refine wpR_val (v := (Value.bool r1)) (w' := w2) rfl rfl rfl (x_move (v := (Value.bool r1)) rfl e9) ?_
    refine wpR_val (v := (Value.bool r1)) (w' := w2) rfl rfl rfl (x_assign (v := (Value.bool r1)) rfl rfl) ?_
    refine wpR_nil ?_
    refine wpC_ret ?_
    exact ⟨.inl rfl, fun a ha => ⟨_, results_rep1 rfl ha rfl, r1, rfl, h⟩⟩
  · replace h := h.2 hc5
    refine wpC_skip ?_
    refine wpC_seq ?_
    refine wpC_region ?_
    refine wpR_val (v := (Sl.v p1)) (w' := w2) rfl rfl rfl (x_move (v := (Sl.v p1)) rfl e1) ?_
    refine wpR_enter rfl rfl rfl (x_call (vs := [(Sl.v p1)]) rfl rfl (mapl_cons rfl mapl_nil) Try.func17 NN_17 NB_17) (Calls.mono h ?_)
    rintro _ w3 ⟨r6, rfl, h⟩
    refine ⟨_, rfl, ?_⟩
    refine wpR_val (v := (Sl.v r6)) (w' := w3) rfl rfl rfl (x_assign (v := (Sl.v r6)) rfl rfl) ?_
    refine wpR_nil ?_
    refine wpC_seq ?_
    refine wpC_cut (fun ρ => ρ 0 = (Sl.v p0) ∧ ρ 1 = (Sl.v p1) ∧ ρ 2 = (Value.int .i64 p2) ∧ ρ 3 = (Value.int .u8 p3) ∧ ρ 9 = (Value.bool r1) ∧ ρ 10 = (Sl.v r6) ∧ True) ⟨e0, e1, e2, e3, e9, rfl, trivial⟩ ?_
    rintro ρ ⟨e0, e1, e2, e3, e9, e10, -⟩
    refine wpC_region ?_
    refine wpR_val (v := (Value.bool true)) (w' := w3) rfl rfl rfl (x_assign (v := (Value.bool true)) rfl rfl) ?_
    refine wpR_nil ?_
    refine wpC_seq ?_
    refine wpC_cut (fun ρ => ρ 0 = (Sl.v p0) ∧ ρ 1 = (Sl.v p1) ∧ ρ 2 = (Value.int .i64 p2) ∧ ρ 3 = (Value.int .u8 p3) ∧ ρ 9 = (Value.bool r1) ∧ ρ 10 = (Sl.v r6) ∧ ρ 11 = (Value.bool true) ∧ True) ⟨e0, e1, e2, e3, e9, e10, rfl, trivial⟩ ?_
    rintro ρ ⟨e0, e1, e2, e3, e9, e10, e11, -⟩
    refine wpC_region ?_
    refine wpR_val (v := (Value.bool true)) (w' := w3) rfl rfl rfl (x_assign (v := (Value.bool true)) rfl rfl) ?_
    refine wpR_nil ?_
    refine wpC_seq ?_
    refine wpC_seq ?_
    refine wpC_cut (fun ρ => ρ 0 = (Sl.v p0) ∧ ρ 1 = (Sl.v p1) ∧ ρ 2 = (Value.int .i64 p2) ∧ ρ 3 = (Value.int .u8 p3) ∧ ρ 9 = (Value.bool r1) ∧ ρ 10 = (Sl.v r6) ∧ ρ 11 = (Value.bool true) ∧ ρ 12 = (Value.bool true) ∧ True) ⟨e0, e1, e2, e3, e9, e10, e11, rfl, trivial⟩ ?_
    rintro ρ ⟨e0, e1, e2, e3, e9, e10, e11, e12, -⟩
    refine wpC_region ?_
    refine wpR_val (v := (Value.int .i64 0)) (w' := w3) rfl rfl rfl (x_assign (v := (Value.int .i64 0)) rfl rfl) ?_
    refine wpR_nil ?_
    refine wpC_block ?_
    obtain ⟨I7, μ7, hI7, hr7⟩ := h
    refine wpC_loop (fun (x : Bool × Bool × Int) ρ => ρ 11 = (Value.bool x.1) ∧ ρ 12 = (Value.bool x.2.1) ∧ ρ 13 = (Value.int .i64 x.2.2) ∧ ρ 0 = (Sl.v p0) ∧ ρ 1 = (Sl.v p1) ∧ ρ 2 = (Value.int .i64 p2) ∧ ρ 3 = (Value.int .u8 p3) ∧ ρ 9 = (Value.bool r1) ∧ ρ 10 = (Sl.v r6) ∧ True) I7 μ7 (true, true, 0) ⟨e11, e12, rfl, e0, e1, e2, e3, e9, e10, trivial⟩ hI7 ?_
    rintro l7 ρ w4 ⟨e11, e12, e13, e0, e1, e2, e3, e9, e10, -⟩ h
    replace h := hr7 l7 w4 h
    clear hr7 hI7
    refine wpC_seq ?_
    refine wpC_seq ?_
    refine wpC_region ?_
    refine wpR_val (v := (Value.int .i64 l7.2.2)) (w' := w4) rfl rfl rfl (x_move (v := (Value.int .i64 l7.2.2)) rfl e13) ?_
    refine wpR_val (v := (Sl.v p0)) (w' := w4) rfl rfl rfl (x_move (v := (Sl.v p0)) rfl e0) ?_
    refine wpR_val (v := (Value.int .i64 (p0.len : Int))) (w' := w4) rfl rfl rfl (x_lenS (s := p0) rfl rfl isSliceT_22) ?_
    refine wpR_val (v := (Value.bool (decide (l7.2.2 < (p0.len : Int))))) (w' := w4) rfl rfl rfl (x_lss rfl rfl rfl) ?_
    refine wpR_nil ?_
    refine wpC_cond (b := decide (l7.2.2 < (p0.len : Int))) rfl (fun hc8 => ?_) (fun hc8 => ?_)
    · replace h := h.1 hc8
      refine wpC_skip ?_
      refine wpC_seq ?_
      refine wpC_block ?_
      refine wpC_seq ?_
      refine wpC_cut (fun ρ => ρ 0 = (Sl.v p0) ∧ ρ 1 = (Sl.v p1) ∧ ρ 2 = (Value.int .i64 p2) ∧ ρ 3 = (Value.int .u8 p3) ∧ ρ 9 = (Value.bool r1) ∧ ρ 10 = (Sl.v r6) ∧ ρ 11 = (Value.bool l7.1) ∧ ρ 12 = (Value.bool l7.2.1) ∧ ρ 13 = (Value.int .i64 l7.2.2) ∧ True) ⟨e0, e1, e2, e3, e9, e10, e11, e12, e13, trivial⟩ ?_
      rintro ρ ⟨e0, e1, e2, e3, e9, e10, e11, e12, e13, -⟩
      refine wpC_region ?_
      refine wpR_val (v := (Value.bool l7.1)) (w' := w4) rfl rfl rfl (x_move (v := (Value.bool l7.1)) rfl e11) ?_
      refine wpR_val (v := (Value.bool l7.1)) (w' := w4) rfl rfl rfl (x_move (v := (Value.bool l7.1)) rfl rfl) ?_
      obtain ⟨J9, h, hk⟩ := h
      refine wpR_joinJ 7 (fun x ρ => ρ 50 = Value.bool x ∧ ρ 0 = (Sl.v p0) ∧ ρ 1 = (Sl.v p1) ∧ ρ 2 = (Value.int .i64 p2) ∧ ρ 3 = (Value.int .u8 p3) ∧ ρ 9 = (Value.bool r1) ∧ ρ 10 = (Sl.v r6) ∧ ρ 12 = (Value.bool l7.2.1) ∧ ρ 13 = (Value.int .i64 l7.2.2) ∧ True) (fun x w => J9 x ∧ w4 = w) ?_ ?_
      · clear hk
        rcases Bool.eq_false_or_eq_true (l7.1) with hc10 | hc10
        · replace h := h.1 hc10
          refine wpR_val (v := (Sl.v p0)) (w' := w4) (wantG rfl rfl rfl hc10) rfl rfl (x_move (v := (Sl.v p0)) rfl e0) ?_
          refine wpR_val (v := (Value.int .i64 l7.2.2)) (w' := w4) (wantG rfl rfl rfl hc10) rfl rfl (x_move (v := (Value.int .i64 l7.2.2)) rfl e13) ?_
          obtain ⟨q11, z11, r11, h⟩ := h
          generalize hp11 : z11.add ((l7.2.2 : Int).toNat * 22) = p11 at h
          refine wpR_val (v := (Value.pointer (some p11))) (w' := w4) (wantG rfl rfl rfl hc10) rfl rfl ((x_indexAddr (s := p0) rfl rfl rfl ES_22 q11 r11).trans (by rw [hp11])) ?_
          refine wpR_val (v := (Value.pointer (some (p11.add 14)))) (w' := w4) (wantG rfl rfl rfl hc10) rfl rfl (x_fieldAddr rfl rfl FA_33_14) ?_
          obtain ⟨x12, q12, h⟩ := h
          refine wpR_val (v := (Value.int .i64 x12)) (w' := w4) (wantG rfl rfl rfl hc10) rfl rfl (x_load1 rfl rfl SH_3 q12) ?_
          refine wpR_val (v := (Value.bool (decide (x12 = 1)))) (w' := w4) (wantG rfl rfl rfl hc10) rfl rfl (x_eql rfl rfl rfl) ?_
          refine wpR_val (v := (Value.bool (decide (x12 = 1)))) (w' := w4) rfl rfl rfl (x_pickT (v := (Value.bool (decide (x12 = 1)))) rfl rfl hc10 rfl) ?_
          refine wpR_nil ?_
          exact ⟨decide (x12 = 1), ⟨rfl, e0, e1, e2, e3, e9, e10, e12, e13, trivial⟩, h, rfl⟩
        · replace h := h.2 hc10
          refine wpR_pass (wantN rfl rfl rfl hc10) rfl rfl ?_
          refine wpR_pass (wantN rfl rfl rfl hc10) rfl rfl ?_
          refine wpR_pass (wantN rfl rfl rfl hc10) rfl rfl ?_
          refine wpR_pass (wantN rfl rfl rfl hc10) rfl rfl ?_
          refine wpR_pass (wantN rfl rfl rfl hc10) rfl rfl ?_
          refine wpR_pass (wantN rfl rfl rfl hc10) rfl rfl ?_
          refine wpR_val (v := (Value.bool false)) (w' := w4) rfl rfl rfl (x_pickF (v := (Value.bool false)) rfl rfl hc10 rfl) ?_
          refine wpR_nil ?_
          exact ⟨false, ⟨rfl, e0, e1, e2, e3, e9, e10, e12, e13, trivial⟩, h, rfl⟩
      clear h
      rintro c13 ρ wj ⟨e50, e0, e1, e2, e3, e9, e10, e12, e13, -⟩ ⟨h, rfl⟩
      replace h := hk c13 h
      clear hk
      refine wpR_val (v := (Value.bool c13)) (w' := w4) rfl rfl rfl (x_assign (v := (Value.bool c13)) rfl e50) ?_
      refine wpR_nil ?_
      refine wpC_cut (fun ρ => ρ 0 = (Sl.v p0) ∧ ρ 1 = (Sl.v p1) ∧ ρ 2 = (Value.int .i64 p2) ∧ ρ 3 = (Value.int .u8 p3) ∧ ρ 9 = (Value.bool r1) ∧ ρ 10 = (Sl.v r6) ∧ ρ 11 = (Value.bool c13) ∧ ρ 12 = (Value.bool l7.2.1) ∧ ρ 13 = (Value.int .i64 l7.2.2) ∧ True) ⟨e0, e1, e2, e3, e9, e10, rfl, e12, e13, trivial⟩ ?_
      rintro ρ ⟨e0, e1, e2, e3, e9, e10, e11, e12, e13, -⟩
      refine wpC_region ?_
      refine wpR_val (v := (Value.bool l7.2.1)) (w' := w4) rfl rfl rfl (x_move (v := (Value.bool l7.2.1)) rfl e12) ?_
      refine wpR_val (v := (Value.bool l7.2.1)) (w' := w4) rfl rfl rfl (x_move (v := (Value.bool l7.2.1)) rfl rfl) ?_
      obtain ⟨J14, h, hk⟩ := h
      refine wpR_joinJ 7 (fun x ρ => ρ 59 = Value.bool x ∧ ρ 0 = (Sl.v p0) ∧ ρ 1 = (Sl.v p1) ∧ ρ 2 = (Value.int .i64 p2) ∧ ρ 3 = (Value.int .u8 p3) ∧ ρ 9 = (Value.bool r1) ∧ ρ 10 = (Sl.v r6) ∧ ρ 11 = (Value.bool c13) ∧ ρ 13 = (Value.int .i64 l7.2.2) ∧ True) (fun x w => J14 x ∧ w4 = w) ?_ ?_
      · clear hk
        rcases Bool.eq_false_or_eq_true (l7.2.1) with hc15 | hc15
        · replace h := h.1 hc15
          refine wpR_val (v := (Sl.v p0)) (w' := w4) (wantG rfl rfl rfl hc15) rfl rfl (x_move (v := (Sl.v p0)) rfl e0) ?_
          refine wpR_val (v := (Value.int .i64 l7.2.2)) (w' := w4) (wantG rfl rfl rfl hc15) rfl rfl (x_move (v := (Value.int .i64 l7.2.2)) rfl e13) ?_
          obtain ⟨q16, z16, r16, h⟩ := h
          generalize hp16 : z16.add ((l7.2.2 : Int).toNat * 22) = p16 at h
          refine wpR_val (v := (Value.pointer (some p16))) (w' := w4) (wantG rfl rfl rfl hc15) rfl rfl ((x_indexAddr (s := p0) rfl rfl rfl ES_22 q16 r16).trans (by rw [hp16])) ?_
          refine wpR_val (v := (Value.pointer (some (p16.add 15)))) (w' := w4) (wantG rfl rfl rfl hc15) rfl rfl (x_fieldAddr rfl rfl FA_33_15) ?_
          obtain ⟨x17, q17, h⟩ := h
          refine wpR_val (v := (Value.int .i64 x17)) (w' := w4) (wantG rfl rfl rfl hc15) rfl rfl (x_load1 rfl rfl SH_3 q17) ?_
          refine wpR_val (v := (Value.bool (decide (x17 = 1)))) (w' := w4) (wantG rfl rfl rfl hc15) rfl rfl (x_eql rfl rfl rfl) ?_
          refine wpR_val (v := (Value.bool (decide (x17 = 1)))) (w' := w4) rfl rfl rfl (x_pickT (v := (Value.bool (decide (x17 = 1)))) rfl rfl hc15 rfl) ?_
          refine wpR_nil ?_
          exact ⟨decide (x17 = 1), ⟨rfl, e0, e1, e2, e3, e9, e10, e11, e13, trivial⟩, h, rfl⟩
        · replace h := h.2 hc15
          refine wpR_pass (wantN rfl rfl rfl hc15) rfl rfl ?_
          refine wpR_pass (wantN rfl rfl rfl hc15) rfl rfl ?_
          refine wpR_pass (wantN rfl rfl rfl hc15) rfl rfl ?_
          refine wpR_pass (wantN rfl rfl rfl hc15) rfl rfl ?_
          refine wpR_pass (wantN rfl rfl rfl hc15) rfl rfl ?_
          refine wpR_pass (wantN rfl rfl rfl hc15) rfl rfl ?_
          refine wpR_val (v := (Value.bool false)) (w' := w4) rfl rfl rfl (x_pickF (v := (Value.bool false)) rfl rfl hc15 rfl) ?_
          refine wpR_nil ?_
          exact ⟨false, ⟨rfl, e0, e1, e2, e3, e9, e10, e11, e13, trivial⟩, h, rfl⟩
      clear h
      rintro c18 ρ wj ⟨e59, e0, e1, e2, e3, e9, e10, e11, e13, -⟩ ⟨h, rfl⟩
      replace h := hk c18 h
      clear hk
      refine wpR_val (v := (Value.bool c18)) (w' := w4) rfl rfl rfl (x_assign (v := (Value.bool c18)) rfl e59) ?_
      refine wpR_nil ?_
      refine wpC_cut (fun ρ => ρ 0 = (Sl.v p0) ∧ ρ 1 = (Sl.v p1) ∧ ρ 2 = (Value.int .i64 p2) ∧ ρ 3 = (Value.int .u8 p3) ∧ ρ 9 = (Value.bool r1) ∧ ρ 10 = (Sl.v r6) ∧ ρ 11 = (Value.bool c13) ∧ ρ 12 = (Value.bool c18) ∧ ρ 13 = (Value.int .i64 l7.2.2) ∧ True) ⟨e0, e1, e2, e3, e9, e10, e11, rfl, e13, trivial⟩ ?_
      rintro ρ ⟨e0, e1, e2, e3, e9, e10, e11, e12, e13, -⟩
      refine wpC_region ?_
      refine wpR_val (v := (Value.int .i64 l7.2.2)) (w' := w4) rfl rfl rfl (x_move (v := (Value.int .i64 l7.2.2)) rfl e13) ?_
      refine wpR_val (v := (Value.int .i64 (IntKind.i64.wrap (l7.2.2 + 1)))) (w' := w4) rfl rfl rfl (x_add rfl rfl rfl) ?_
      refine wpR_val (v := (Value.int .i64 (IntKind.i64.wrap (l7.2.2 + 1)))) (w' := w4) rfl rfl rfl (x_assign (v := (Value.int .i64 (IntKind.i64.wrap (l7.2.2 + 1)))) rfl rfl) ?_
      refine wpR_nil ?_
      exact ⟨(c13, c18, IntKind.i64.wrap (l7.2.2 + 1)), ⟨e11, e12, rfl, e0, e1, e2, e3, e9, e10, trivial⟩, h⟩
    · replace h := h.2 hc8
      refine wpC_exit ?_
      refine wpC_seq ?_
      refine wpC_seq ?_
      refine wpC_cut (fun ρ => ρ 0 = (Sl.v p0) ∧ ρ 1 = (Sl.v p1) ∧ ρ 2 = (Value.int .i64 p2) ∧ ρ 3 = (Value.int .u8 p3) ∧ ρ 9 = (Value.bool r1) ∧ ρ 10 = (Sl.v r6) ∧ ρ 11 = (Value.bool l7.1) ∧ ρ 12 = (Value.bool l7.2.1) ∧ True) ⟨e0, e1, e2, e3, e9, e10, e11, e12, trivial⟩ ?_
      rintro ρ ⟨e0, e1, e2, e3, e9, e10, e11, e12, -⟩
      refine wpC_region ?_
      refine wpR_val (v := (Value.int .i64 0)) (w' := w4) rfl rfl rfl (x_assign (v := (Value.int .i64 0)) rfl rfl) ?_
      refine wpR_nil ?_
      refine wpC_block ?_
      obtain ⟨I19, μ19, hI19, hr19⟩ := h
      refine wpC_loop (fun (x : Int) ρ => ρ 14 = (Value.int .i64 x) ∧ ρ 0 = (Sl.v p0) ∧ ρ 1 = (Sl.v p1) ∧ ρ 2 = (Value.int .i64 p2) ∧ ρ 3 = (Value.int .u8 p3) ∧ ρ 9 = (Value.bool r1) ∧ ρ 10 = (Sl.v r6) ∧ ρ 11 = (Value.bool l7.1) ∧ ρ 12 = (Value.bool l7.2.1) ∧ True) I19 μ19 0 ⟨rfl, e0, e1, e2, e3, e9, e10, e11, e12, trivial⟩ hI19 ?_
      rintro l19 ρ w5 ⟨e14, e0, e1, e2, e3, e9, e10, e11, e12, -⟩ h
      replace h := hr19 l19 w5 h
      clear hr19 hI19
      refine wpC_seq ?_
      refine wpC_seq ?_
      refine wpC_region ?_
      refine wpR_val (v := (Value.int .i64 l19)) (w' := w5) rfl rfl rfl (x_move (v := (Value.int .i64 l19)) rfl e14) ?_
      refine wpR_val (v := (Sl.v p1)) (w' := w5) rfl rfl rfl (x_move (v := (Sl.v p1)) rfl e1) ?_
      refine wpR_val (v := (Value.int .i64 (p1.len : Int))) (w' := w5) rfl rfl rfl (x_lenS (s := p1) rfl rfl isSliceT_23) ?_
      refine wpR_val (v := (Value.bool (decide (l19 < (p1.len : Int))))) (w' := w5) rfl rfl rfl (x_lss rfl rfl rfl) ?_
      refine wpR_nil ?_
      refine wpC_cond (b := decide (l19 < (p1.len : Int))) rfl (fun hc20 => ?_) (fun hc20 => ?_)
      · replace h := h.1 hc20
        refine wpC_skip ?_
        refine wpC_seq ?_
        refine wpC_block ?_
        refine wpC_seq ?_
        refine wpC_cut (fun ρ => ρ 0 = (Sl.v p0) ∧ ρ 1 = (Sl.v p1) ∧ ρ 2 = (Value.int .i64 p2) ∧ ρ 3 = (Value.int .u8 p3) ∧ ρ 9 = (Value.bool r1) ∧ ρ 10 = (Sl.v r6) ∧ ρ 11 = (Value.bool l7.1) ∧ ρ 12 = (Value.bool l7.2.1) ∧ ρ 14 = (Value.int .i64 l19) ∧ True) ⟨e0, e1, e2, e3, e9, e10, e11, e12, e14, trivial⟩ ?_
        rintro ρ ⟨e0, e1, e2, e3, e9, e10, e11, e12, e14, -⟩
        refine wpC_region ?_
        refine wpR_val (v := (Sl.v p0)) (w' := w5) rfl rfl rfl (x_move (v := (Sl.v p0)) rfl e0) ?_
        refine wpR_val (v := (Sl.v p1)) (w' := w5) rfl rfl rfl (x_move (v := (Sl.v p1)) rfl e1) ?_
        refine wpR_val (v := (Value.int .i64 p2)) (w' := w5) rfl rfl rfl (x_move (v := (Value.int .i64 p2)) rfl e2) ?_
        refine wpR_val (v := (Value.int .i64 l19)) (w' := w5) rfl rfl rfl (x_move (v := (Value.int .i64 l19)) rfl e14) ?_
        refine wpR_enter rfl rfl rfl (x_call (vs := [(Sl.v p0), (Sl.v p1), (Value.int .i64 p2), (Value.int .i64 l19)]) rfl rfl (mapl_cons rfl (mapl_cons rfl (mapl_cons rfl (mapl_cons rfl mapl_nil)))) Try.func9 NN_9 NB_9) (Calls.mono h ?_)
        rintro _ w6 ⟨r21, rfl, h⟩
        refine ⟨_, rfl, ?_⟩
        refine wpR_val (v := (Value.bool r21)) (w' := w6) rfl rfl rfl (x_assign (v := (Value.bool r21)) rfl rfl) ?_
        refine wpR_nil ?_
        refine wpC_seq ?_
        refine wpC_cut (fun ρ => ρ 0 = (Sl.v p0) ∧ ρ 1 = (Sl.v p1) ∧ ρ 2 = (Value.int .i64 p2) ∧ ρ 3 = (Value.int .u8 p3) ∧ ρ 9 = (Value.bool r1) ∧ ρ 10 = (Sl.v r6) ∧ ρ 11 = (Value.bool l7.1) ∧ ρ 12 = (Value.bool l7.2.1) ∧ ρ 14 = (Value.int .i64 l19) ∧ ρ 15 = (Value.bool r21) ∧ True) ⟨e0, e1, e2, e3, e9, e10, e11, e12, e14, rfl, trivial⟩ ?_
        rintro ρ ⟨e0, e1, e2, e3, e9, e10, e11, e12, e14, e15, -⟩
        refine wpC_region ?_
        refine wpR_val (v := (Value.int .i64 p2)) (w' := w6) rfl rfl rfl (x_move (v := (Value.int .i64 p2)) rfl e2) ?_
        refine wpR_enter rfl rfl rfl (x_call (vs := [(Value.int .i64 p2)]) rfl rfl (mapl_cons rfl mapl_nil) Try.func18 NN_18 NB_18) (Calls.mono h ?_)
        rintro _ w7 ⟨r22, rfl, h⟩
        refine ⟨_, rfl, ?_⟩
        refine wpR_val (v := (Value.bool (decide (0 ≤ r22)))) (w' := w7) rfl rfl rfl (x_geq rfl rfl rfl) ?_
        refine wpR_val (v := (Value.bool (decide (0 ≤ r22)))) (w' := w7) rfl rfl rfl (x_move (v := (Value.bool (decide (0 ≤ r22)))) rfl rfl) ?_
        obtain ⟨J23, h, hk⟩ := h
        refine wpR_joinJ 8 (fun x ρ => ρ 82 = Value.bool x ∧ ρ 0 = (Sl.v p0) ∧ ρ 1 = (Sl.v p1) ∧ ρ 2 = (Value.int .i64 p2) ∧ ρ 3 = (Value.int .u8 p3) ∧ ρ 9 = (Value.bool r1) ∧ ρ 10 = (Sl.v r6) ∧ ρ 11 = (Value.bool l7.1) ∧ ρ 12 = (Value.bool l7.2.1) ∧ ρ 14 = (Value.int .i64 l19) ∧ ρ 15 = (Value.bool r21) ∧ True) (fun x w => J23 x ∧ w7 = w) ?_ ?_
        · clear hk
          rcases Bool.eq_false_or_eq_true (decide (0 ≤ r22)) with hc24 | hc24
          · replace h := h.1 hc24
            refine wpR_val (v := (Sl.v p1)) (w' := w7) (wantG rfl rfl rfl hc24) rfl rfl (x_move (v := (Sl.v p1)) rfl e1) ?_
            refine wpR_val (v := (Value.int .i64 l19)) (w' := w7) (wantG rfl rfl rfl hc24) rfl rfl (x_move (v := (Value.int .i64 l19)) rfl e14) ?_
            obtain ⟨q25, z25, r25, h⟩ := h
            generalize hp25 : z25.add ((l19 : Int).toNat * 12) = p25 at h
            refine wpR_val (v := (Value.pointer (some p25))) (w' := w7) (wantG rfl rfl rfl hc24) rfl rfl ((x_indexAddr (s := p1) rfl rfl rfl ES_23 q25 r25).trans (by rw [hp25])) ?_
            refine wpR_val (v := (Value.pointer (some (p25.add 0)))) (w' := w7) (wantG rfl rfl rfl hc24) rfl rfl (x_fieldAddr rfl rfl FA_41_0) ?_
            obtain ⟨x26, q26, h⟩ := h
            refine wpR_val (v := (Value.int .i64 x26)) (w' := w7) (wantG rfl rfl rfl hc24) rfl rfl (x_load1 rfl rfl SH_3 q26) ?_
            refine wpR_val (v := (Value.int .i64 p2)) (w' := w7) (wantG rfl rfl rfl hc24) rfl rfl (x_move (v := (Value.int .i64 p2)) rfl e2) ?_
            refine wpR_val (v := (Value.bool (decide (x26 = p2)))) (w' := w7) (wantG rfl rfl rfl hc24) rfl rfl (x_eql rfl rfl rfl) ?_
            refine wpR_val (v := (Value.bool (decide (x26 = p2)))) (w' := w7) rfl rfl rfl (x_pickT (v := (Value.bool (decide (x26 = p2)))) rfl rfl hc24 rfl) ?_
            refine wpR_nil ?_
            exact ⟨decide (x26 = p2), ⟨rfl, e0, e1, e2, e3, e9, e10, e11, e12, e14, e15, trivial⟩, h, rfl⟩
          · replace h := h.2 hc24
            refine wpR_pass (wantN rfl rfl rfl hc24) rfl rfl ?_
            refine wpR_pass (wantN rfl rfl rfl hc24) rfl rfl ?_
            refine wpR_pass (wantN rfl rfl rfl hc24) rfl rfl ?_
            refine wpR_pass (wantN rfl rfl rfl hc24) rfl rfl ?_
            refine wpR_pass (wantN rfl rfl rfl hc24) rfl rfl ?_
            refine wpR_pass (wantN rfl rfl rfl hc24) rfl rfl ?_
            refine wpR_pass (wantN rfl rfl rfl hc24) rfl rfl ?_
            refine wpR_val (v := (Value.bool false)) (w' := w7) rfl rfl rfl (x_pickF (v := (Value.bool false)) rfl rfl hc24 rfl) ?_
            refine wpR_nil ?_
            exact ⟨false, ⟨rfl, e0, e1, e2, e3, e9, e10, e11, e12, e14, e15, trivial⟩, h, rfl⟩
        clear h
        rintro c27 ρ wj ⟨e82, e0, e1, e2, e3, e9, e10, e11, e12, e14, e15, -⟩ ⟨h, rfl⟩
        replace h := hk c27 h
        clear hk
        refine wpR_val (v := (Value.bool c27)) (w' := w7) rfl rfl rfl (x_assign (v := (Value.bool c27)) rfl e82) ?_
        refine wpR_nil ?_
        refine wpC_seq ?_
        refine wpC_cut (fun ρ => ρ 0 = (Sl.v p0) ∧ ρ 1 = (Sl.v p1) ∧ ρ 2 = (Value.int .i64 p2) ∧ ρ 3 = (Value.int .u8 p3) ∧ ρ 9 = (Value.bool r1) ∧ ρ 10 = (Sl.v r6) ∧ ρ 11 = (Value.bool l7.1) ∧ ρ 12 = (Value.bool l7.2.1) ∧ ρ 14 = (Value.int .i64 l19) ∧ ρ 15 = (Value.bool r21) ∧ ρ 16 = (Value.bool c27) ∧ True) ⟨e0, e1, e2, e3, e9, e10, e11, e12, e14, e15, rfl, trivial⟩ ?_
        rintro ρ ⟨e0, e1, e2, e3, e9, e10, e11, e12, e14, e15, e16, -⟩
        refine wpC_region ?_
        refine wpR_val (v := (Sl.v p1)) (w' := w7) rfl rfl rfl (x_move (v := (Sl.v p1)) rfl e1) ?_
        refine wpR_val (v := (Value.int .i64 l19)) (w' := w7) rfl rfl rfl (x_move (v := (Value.int .i64 l19)) rfl e14) ?_
        obtain ⟨q28, z28, r28, h⟩ := h
        generalize hp28 : z28.add ((l19 : Int).toNat * 12) = p28 at h
        refine wpR_val (v := (Value.pointer (some p28))) (w' := w7) rfl rfl rfl ((x_indexAddr (s := p1) rfl rfl rfl ES_23 q28 r28).trans (by rw [hp28])) ?_
        refine wpR_val (v := (Value.pointer (some (p28.add 0)))) (w' := w7) rfl rfl rfl (x_fieldAddr rfl rfl FA_41_0) ?_
        obtain ⟨x29, q29, h⟩ := h
        refine wpR_val (v := (Value.int .i64 x29)) (w' := w7) rfl rfl rfl (x_load1 rfl rfl SH_3 q29) ?_
        refine wpR_enter rfl rfl rfl (x_call (vs := [(Value.int .i64 x29)]) rfl rfl (mapl_cons rfl mapl_nil) Try.func18 NN_18 NB_18) (Calls.mono h ?_)
        rintro _ w8 ⟨r30, rfl, h⟩
        refine ⟨_, rfl, ?_⟩
        refine wpR_val (v := (Value.int .u8 p3)) (w' := w8) rfl rfl rfl (x_move (v := (Value.int .u8 p3)) rfl e3) ?_
        refine wpR_val (v := (Value.int .i64 (IntKind.i64.wrap p3))) (w' := w8) rfl rfl rfl (x_convI rfl rfl IK_3 IK_5) ?_
        refine wpR_val (v := (Value.bool (decide (r30 = (IntKind.i64.wrap p3))))) (w' := w8) rfl rfl rfl (x_eql rfl rfl rfl) ?_
        refine wpR_val (v := (Value.bool (decide (r30 = (IntKind.i64.wrap p3))))) (w' := w8) rfl rfl rfl (x_assign (v := (Value.bool (decide (r30 = (IntKind.i64.wrap p3))))) rfl rfl) ?_
        refine wpR_nil ?_
        refine wpC_seq ?_
        refine wpC_seq ?_
        refine wpC_cut (fun ρ => ρ 0 = (Sl.v p0) ∧ ρ 1 = (Sl.v p1) ∧ ρ 2 = (Value.int .i64 p2) ∧ ρ 3 = (Value.int .u8 p3) ∧ ρ 9 = (Value.bool r1) ∧ ρ 10 = (Sl.v r6) ∧ ρ 11 = (Value.bool l7.1) ∧ ρ 12 = (Value.bool l7.2.1) ∧ ρ 14 = (Value.int .i64 l19) ∧ ρ 15 = (Value.bool r21) ∧ ρ 16 = (Value.bool c27) ∧ ρ 17 = (Value.bool (decide (r30 = (IntKind.i64.wrap p3)))) ∧ True) ⟨e0, e1, e2, e3, e9, e10, e11, e12, e14, e15, e16, rfl, trivial⟩ ?_
        rintro ρ ⟨e0, e1, e2, e3, e9, e10, e11, e12, e14, e15, e16, e17, -⟩
        refine wpC_region ?_
        refine wpR_val (v := (Value.int .i64 0)) (w' := w8) rfl rfl rfl (x_assign (v := (Value.int .i64 0)) rfl rfl) ?_
        refine wpR_nil ?_
        refine wpC_block ?_
        obtain ⟨I31, μ31, hI31, hr31⟩ := h
        refine wpC_loop (fun (x : Bool × Bool × Int) ρ => ρ 16 = (Value.bool x.1) ∧ ρ 17 = (Value.bool x.2.1) ∧ ρ 18 = (Value.int .i64 x.2.2) ∧ ρ 0 = (Sl.v p0) ∧ ρ 1 = (Sl.v p1) ∧ ρ 2 = (Value.int .i64 p2) ∧ ρ 3 = (Value.int .u8 p3) ∧ ρ 9 = (Value.bool r1) ∧ ρ 10 = (Sl.v r6) ∧ ρ 11 = (Value.bool l7.1) ∧ ρ 12 = (Value.bool l7.2.1) ∧ ρ 14 = (Value.int .i64 l19) ∧ ρ 15 = (Value.bool r21) ∧ True) I31 μ31 (c27, decide (r30 = (IntKind.i64.wrap p3)), 0) ⟨e16, e17, rfl, e0, e1, e2, e3, e9, e10, e11, e12, e14, e15, trivial⟩ hI31 ?_
        rintro l31 ρ w9 ⟨e16, e17, e18, e0, e1, e2, e3, e9, e10, e11, e12, e14, e15, -⟩ h
        replace h := hr31 l31 w9 h
        clear hr31 hI31
        refine wpC_seq ?_
        refine wpC_seq ?_
        refine wpC_region ?_
        refine wpR_val (v := (Value.int .i64 l31.2.2)) (w' := w9) rfl rfl rfl (x_move (v := (Value.int .i64 l31.2.2)) rfl e18) ?_
        refine wpR_val (v := (Sl.v r6)) (w' := w9) rfl rfl rfl (x_move (v := (Sl.v r6)) rfl e10) ?_
        refine wpR_val (v := (Value.int .i64 (r6.len : Int))) (w' := w9) rfl rfl rfl (x_lenS (s := r6) rfl rfl isSliceT_37) ?_
        refine wpR_val (v := (Value.bool (decide (l31.2.2 < (r6.len : Int))))) (w' := w9) rfl rfl rfl (x_lss rfl rfl rfl) ?_
        refine wpR_nil ?_
        refine wpC_cond (b := decide (l31.2.2 < (r6.len : Int))) rfl (fun hc32 => ?_) (fun hc32 => ?_)
        · replace h := h.1 hc32
          refine wpC_skip ?_
          obtain ⟨J33, h, hk⟩ := h
          refine wpC_seqJ (fun (x : Bool × Bool) ρ => ρ 16 = (Value.bool x.1) ∧ ρ 17 = (Value.bool x.2) ∧ ρ 0 = (Sl.v p0) ∧ ρ 1 = (Sl.v p1) ∧ ρ 2 = (Value.int .i64 p2) ∧ ρ 3 = (Value.int .u8 p3) ∧ ρ 9 = (Value.bool r1) ∧ ρ 10 = (Sl.v r6) ∧ ρ 11 = (Value.bool l7.1) ∧ ρ 12 = (Value.bool l7.2.1) ∧ ρ 14 = (Value.int .i64 l19) ∧ ρ 15 = (Value.bool r21) ∧ ρ 18 = (Value.int .i64 l31.2.2) ∧ True) J33 ?_ ?_
          · clear hk
            refine wpC_block ?_
            refine wpC_seq ?_
            refine wpC_cut (fun ρ => ρ 0 = (Sl.v p0) ∧ ρ 1 = (Sl.v p1) ∧ ρ 2 = (Value.int .i64 p2) ∧ ρ 3 = (Value.int .u8 p3) ∧ ρ 9 = (Value.bool r1) ∧ ρ 10 = (Sl.v r6) ∧ ρ 11 = (Value.bool l7.1) ∧ ρ 12 = (Value.bool l7.2.1) ∧ ρ 14 = (Value.int .i64 l19) ∧ ρ 15 = (Value.bool r21) ∧ ρ 16 = (Value.bool l31.1) ∧ ρ 17 = (Value.bool l31.2.1) ∧ ρ 18 = (Value.int .i64 l31.2.2) ∧ True) ⟨e0, e1, e2, e3, e9, e10, e11, e12, e14, e15, e16, e17, e18, trivial⟩ ?_
            rintro ρ ⟨e0, e1, e2, e3, e9, e10, e11, e12, e14, e15, e16, e17, e18, -⟩
            refine wpC_region ?_
            refine wpR_val (v := (Sl.v r6)) (w' := w9) rfl rfl rfl (x_move (v := (Sl.v r6)) rfl e10) ?_
            refine wpR_val (v := (Value.int .i64 l31.2.2)) (w' := w9) rfl rfl rfl (x_move (v := (Value.int .i64 l31.2.2)) rfl e18) ?_
            obtain ⟨q35, z35, r35, h⟩ := h
            generalize hp35 : z35.add ((l31.2.2 : Int).toNat * 4) = p35 at h
            refine wpR_val (v := (Value.pointer (some p35))) (w' := w9) rfl rfl rfl ((x_indexAddr (s := r6) rfl rfl rfl ES_37 q35 r35).trans (by rw [hp35])) ?_
            obtain ⟨x36, q36, h⟩ := h
            obtain ⟨x37, q37, h⟩ := h
            obtain ⟨x38, q38, h⟩ := h
            obtain ⟨x39, q39, h⟩ := h
            refine wpR_val (v := (Value.agg #[(Value.int .i64 x36), (Value.int .i64 x37), (Value.int .i64 x38), (Value.int .i64 x39)])) (w' := w9) rfl rfl rfl (x_loadN [(Value.int .i64 x36), (Value.int .i64 x37), (Value.int .i64 x38), (Value.int .i64 x39)] rfl rfl SH_43 (CellsAt.out (CellsAt.cons q36 (CellsAt.cons q37 (CellsAt.cons q38 (CellsAt.cons q39 CellsAt.nil)))))) ?_
            obtain ⟨b40, hb40⟩ : ∃ u, u = w9.heap.size := ⟨_, rfl⟩
            obtain ⟨w11, hw40⟩ : ∃ u, u = w9.alloc (.cells #[(Value.int .i64 0), (Value.int .i64 0), (Value.int .i64 0), (Value.int .i64 0)] 43) := ⟨_, rfl⟩
            replace h := h b40 w11 hb40 hw40
            refine wpR_val (v := (Value.pointer (some (Addr.mk b40 0 none)))) (w' := w11) rfl rfl rfl ((x_alloc rfl ZV_43).trans (by rw [hb40, hw40]; rfl)) ?_
            obtain ⟨q41, h⟩ := h
            obtain ⟨w12, hw41⟩ : ∃ u, u = setAll w11 (Addr.mk b40 0 none) [(Value.int .i64 x36), (Value.int .i64 x37), (Value.int .i64 x38), (Value.int .i64 x39)] 0 := ⟨_, rfl⟩
            replace h := h w12 hw41
            refine wpR_skp (w' := w12) rfl rfl ((x_store (v := (Value.agg #[(Value.int .i64 x36), (Value.int .i64 x37), (Value.int .i64 x38), (Value.int .i64 x39)])) rfl rfl rfl SZ_43 (ones (by rfl)) q41).trans (by rw [hw41]; rfl)) ?_
            refine wpR_nil ?_
            refine wpC_seq ?_
            refine wpC_seq ?_
            refine wpC_cut (fun ρ => ρ 0 = (Sl.v p0) ∧ ρ 1 = (Sl.v p1) ∧ ρ 2 = (Value.int .i64 p2) ∧ ρ 3 = (Value.int .u8 p3) ∧ ρ 9 = (Value.bool r1) ∧ ρ 10 = (Sl.v r6) ∧ ρ 11 = (Value.bool l7.1) ∧ ρ 12 = (Value.bool l7.2.1) ∧ ρ 14 = (Value.int .i64 l19) ∧ ρ 15 = (Value.bool r21) ∧ ρ 16 = (Value.bool l31.1) ∧ ρ 17 = (Value.bool l31.2.1) ∧ ρ 18 = (Value.int .i64 l31.2.2) ∧ ρ 19 = (Value.pointer (some (Addr.mk b40 0 none))) ∧ True) ⟨e0, e1, e2, e3, e9, e10, e11, e12, e14, e15, e16, e17, e18, rfl, trivial⟩ ?_
            rintro ρ ⟨e0, e1, e2, e3, e9, e10, e11, e12, e14, e15, e16, e17, e18, e19, -⟩
            obtain ⟨J43, h, hk⟩ := h
            refine wpC_drawJ (by kernel_rfl) (fun (x : Bool) ρ => ρ 109 = (Value.bool x) ∧ ρ 0 = (Sl.v p0) ∧ ρ 1 = (Sl.v p1) ∧ ρ 2 = (Value.int .i64 p2) ∧ ρ 3 = (Value.int .u8 p3) ∧ ρ 9 = (Value.bool r1) ∧ ρ 10 = (Sl.v r6) ∧ ρ 11 = (Value.bool l7.1) ∧ ρ 12 = (Value.bool l7.2.1) ∧ ρ 14 = (Value.int .i64 l19) ∧ ρ 15 = (Value.bool r21) ∧ ρ 16 = (Value.bool l31.1) ∧ ρ 17 = (Value.bool l31.2.1) ∧ ρ 18 = (Value.int .i64 l31.2.2) ∧ ρ 19 = (Value.pointer (some (Addr.mk b40 0 none))) ∧ True) J43 ?_ ?_
            · clear hk
              unfold tk at h
              generalize w12.drew = w13 at h ⊢
              refine wpD_take (v := (Value.pointer (some ((Addr.mk b40 0 none).add 1)))) 0 (fun _ => True) rfl (by kernel_rfl) (by kernel_rfl) (by kernel_rfl) rfl rfl rfl trivial (fun w _ => (x_fieldAddr rfl e19 FA_43_1)) ?_
              obtain ⟨x44, q44, h⟩ := h
              refine wpD_take (v := (Value.int .i64 x44)) 1 (fun w => w.cell? ((Addr.mk b40 0 none).add 1) = some (Value.int .i64 x44)) rfl (by kernel_rfl) (by kernel_rfl) (by kernel_rfl) rfl rfl rfl q44 (fun w q44 => (x_load1 rfl rfl SH_3 q44)) ?_
              refine wpD_take (v := (Sl.v p1)) 2 (fun _ => True) rfl (by kernel_rfl) (by kernel_rfl) (by kernel_rfl) rfl rfl rfl trivial (fun w _ => (x_move (v := (Sl.v p1)) rfl e1)) ?_
              refine wpD_take (v := (Value.int .i64 l19)) 3 (fun _ => True) rfl (by kernel_rfl) (by kernel_rfl) (by kernel_rfl) rfl rfl rfl trivial (fun w _ => (x_move (v := (Value.int .i64 l19)) rfl e14)) ?_
              obtain ⟨q45, z45, r45, h⟩ := h
              generalize hp45 : z45.add ((l19 : Int).toNat * 12) = p45 at h
              refine wpD_take (v := (Value.pointer (some p45))) 4 (fun _ => True) rfl (by kernel_rfl) (by kernel_rfl) (by kernel_rfl) rfl rfl rfl trivial (fun w _ => ((x_indexAddr (s := p1) rfl rfl rfl ES_23 q45 r45).trans (by rw [hp45]))) ?_
              refine wpD_take (v := (Value.pointer (some (p45.add 4)))) 5 (fun _ => True) rfl (by kernel_rfl) (by kernel_rfl) (by kernel_rfl) rfl rfl rfl trivial (fun w _ => (x_fieldAddr rfl rfl FA_41_4)) ?_
              obtain ⟨x46, q46, h⟩ := h
              refine wpD_take (v := (Value.int .i64 x46)) 6 (fun w => w.cell? (p45.add 4) = some (Value.int .i64 x46)) rfl (by kernel_rfl) (by kernel_rfl) (by kernel_rfl) rfl rfl rfl q46 (fun w q46 => (x_load1 rfl rfl SH_3 q46)) ?_
              refine wpD_take (v := (Value.bool (!decide (x44 = x46)))) 7 (fun _ => True) rfl (by kernel_rfl) (by kernel_rfl) (by kernel_rfl) rfl rfl rfl trivial (fun w _ => (x_neq rfl rfl rfl)) ?_
              exact wpD_done (by kernel_rfl) ⟨!decide (x44 = x46), ⟨rfl, e0, e1, e2, e3, e9, e10, e11, e12, e14, e15, e16, e17, e18, e19, trivial⟩, h⟩
            clear h
            rintro l47 ρ w14 ⟨e109, e0, e1, e2, e3, e9, e10, e11, e12, e14, e15, e16, e17, e18, e19, -⟩ h
            replace h := hk l47 w14 h
            clear hk
            refine wpC_cond (b := l47) e109 (fun hc48 => ?_) (fun hc48 => ?_)
            · replace h := h.1 hc48
              refine wpC_exit ?_
              exact ⟨(l31.1, l31.2.1), ⟨e16, e17, e0, e1, e2, e3, e9, e10, e11, e12, e14, e15, e18, trivial⟩, h⟩
            · replace h := h.2 hc48
              refine wpC_skip ?_
              refine wpC_seq ?_
              refine wpC_region ?_
              refine wpR_val (v := (Value.bool false)) (w' := w14) rfl rfl rfl (x_assign (v := (Value.bool false)) rfl rfl) ?_
              refine wpR_nil ?_
              refine wpC_seq ?_
              refine wpC_seq ?_
              refine wpC_cut (fun ρ => ρ 0 = (Sl.v p0) ∧ ρ 1 = (Sl.v p1) ∧ ρ 2 = (Value.int .i64 p2) ∧ ρ 3 = (Value.int .u8 p3) ∧ ρ 9 = (Value.bool r1) ∧ ρ 10 = (Sl.v r6) ∧ ρ 11 = (Value.bool l7.1) ∧ ρ 12 = (Value.bool l7.2.1) ∧ ρ 14 = (Value.int .i64 l19) ∧ ρ 15 = (Value.bool r21) ∧ ρ 16 = (Value.bool l31.1) ∧ ρ 17 = (Value.bool l31.2.1) ∧ ρ 18 = (Value.int .i64 l31.2.2) ∧ ρ 19 = (Value.pointer (some (Addr.mk b40 0 none))) ∧ ρ 20 = (Value.bool false) ∧ True) ⟨e0, e1, e2, e3, e9, e10, e11, e12, e14, e15, e16, e17, e18, e19, rfl, trivial⟩ ?_
              rintro ρ ⟨e0, e1, e2, e3, e9, e10, e11, e12, e14, e15, e16, e17, e18, e19, e20, -⟩
              refine wpC_region ?_
              refine wpR_val (v := (Value.pointer (some ((Addr.mk b40 0 none).add 3)))) (w' := w14) rfl rfl rfl (x_fieldAddr rfl e19 FA_43_3) ?_
              obtain ⟨x49, q49, h⟩ := h
              refine wpR_val (v := (Value.int .i64 x49)) (w' := w14) rfl rfl rfl (x_load1 rfl rfl SH_3 q49) ?_
              refine wpR_val (v := (Value.int .i64 (max x49 0))) (w' := w14) rfl rfl rfl (x_max rfl rfl rfl) ?_
              refine wpR_val (v := (Value.int .i64 (IntKind.i64.wrap ((max x49 0) + 1)))) (w' := w14) rfl rfl rfl (x_add rfl rfl rfl) ?_
              refine wpR_val (v := (Value.int .i64 (IntKind.i64.wrap ((max x49 0) + 1)))) (w' := w14) rfl rfl rfl (x_assign (v := (Value.int .i64 (IntKind.i64.wrap ((max x49 0) + 1)))) rfl rfl) ?_
              refine wpR_nil ?_
              refine wpC_block ?_
              obtain ⟨I50, μ50, hI50, hr50⟩ := h
              refine wpC_loop (fun (x : Bool × Int) ρ => ρ 20 = (Value.bool x.1) ∧ ρ 21 = (Value.int .i64 x.2) ∧ ρ 0 = (Sl.v p0) ∧ ρ 1 = (Sl.v p1) ∧ ρ 2 = (Value.int .i64 p2) ∧ ρ 3 = (Value.int .u8 p3) ∧ ρ 9 = (Value.bool r1) ∧ ρ 10 = (Sl.v r6) ∧ ρ 11 = (Value.bool l7.1) ∧ ρ 12 = (Value.bool l7.2.1) ∧ ρ 14 = (Value.int .i64 l19) ∧ ρ 15 = (Value.bool r21) ∧ ρ 16 = (Value.bool l31.1) ∧ ρ 17 = (Value.bool l31.2.1) ∧ ρ 18 = (Value.int .i64 l31.2.2) ∧ ρ 19 = (Value.pointer (some (Addr.mk b40 0 none))) ∧ True) I50 μ50 (false, IntKind.i64.wrap ((max x49 0) + 1)) ⟨e20, rfl, e0, e1, e2, e3, e9, e10, e11, e12, e14, e15, e16, e17, e18, e19, trivial⟩ hI50 ?_
              rintro l50 ρ w15 ⟨e20, e21, e0, e1, e2, e3, e9, e10, e11, e12, e14, e15, e16, e17, e18, e19, -⟩ h
              replace h := hr50 l50 w15 h
              clear hr50 hI50
              refine wpC_seq ?_
              refine wpC_seq ?_
              refine wpC_region ?_
              refine wpR_val (v := (Value.int .i64 l50.2)) (w' := w15) rfl rfl rfl (x_move (v := (Value.int .i64 l50.2)) rfl e21) ?_
              refine wpR_val (v := (Value.int .i64 l19)) (w' := w15) rfl rfl rfl (x_move (v := (Value.int .i64 l19)) rfl e14) ?_
              refine wpR_val (v := (Value.bool (decide (l50.2 ≤ l19)))) (w' := w15) rfl rfl rfl (x_leq rfl rfl rfl) ?_
              refine wpR_val (v := (Value.bool (decide (l50.2 ≤ l19)))) (w' := w15) rfl rfl rfl (x_move (v := (Value.bool (decide (l50.2 ≤ l19)))) rfl rfl) ?_
              obtain ⟨J51, h, hk⟩ := h
              refine wpR_joinJ 4 (fun x ρ => ρ 121 = Value.bool x ∧ ρ 0 = (Sl.v p0) ∧ ρ 1 = (Sl.v p1) ∧ ρ 2 = (Value.int .i64 p2) ∧ ρ 3 = (Value.int .u8 p3) ∧ ρ 9 = (Value.bool r1) ∧ ρ 10 = (Sl.v r6) ∧ ρ 11 = (Value.bool l7.1) ∧ ρ 12 = (Value.bool l7.2.1) ∧ ρ 14 = (Value.int .i64 l19) ∧ ρ 15 = (Value.bool r21) ∧ ρ 16 = (Value.bool l31.1) ∧ ρ 17 = (Value.bool l31.2.1) ∧ ρ 18 = (Value.int .i64 l31.2.2) ∧ ρ 19 = (Value.pointer (some (Addr.mk b40 0 none))) ∧ ρ 20 = (Value.bool l50.1) ∧ ρ 21 = (Value.int .i64 l50.2) ∧ True) (fun x w => J51 x ∧ w15 = w) ?_ ?_
              · clear hk
                rcases Bool.eq_false_or_eq_true (decide (l50.2 ≤ l19)) with hc52 | hc52
                · replace h := h.1 hc52
                  refine wpR_val (v := (Value.pointer (some ((Addr.mk b40 0 none).add 3)))) (w' := w15) (wantG rfl rfl rfl hc52) rfl rfl (x_fieldAddr rfl e19 FA_43_3) ?_
                  obtain ⟨x53, q53, h⟩ := h
                  refine wpR_val (v := (Value.int .i64 x53)) (w' := w15) (wantG rfl rfl rfl hc52) rfl rfl (x_load1 rfl rfl SH_3 q53) ?_
                  refine wpR_val (v := (Value.bool (decide (0 ≤ x53)))) (w' := w15) (wantG rfl rfl rfl hc52) rfl rfl (x_geq rfl rfl rfl) ?_
                  refine wpR_val (v := (Value.bool (decide (0 ≤ x53)))) (w' := w15) rfl rfl rfl (x_pickT (v := (Value.bool (decide (0 ≤ x53)))) rfl rfl hc52 rfl) ?_
                  refine wpR_nil ?_
                  exact ⟨decide (0 ≤ x53), ⟨rfl, e0, e1, e2, e3, e9, e10, e11, e12, e14, e15, e16, e17, e18, e19, e20, e21, trivial⟩, h, rfl⟩
                · replace h := h.2 hc52
                  refine wpR_pass (wantN rfl rfl rfl hc52) rfl rfl ?_
                  refine wpR_pass (wantN rfl rfl rfl hc52) rfl rfl ?_
                  refine wpR_pass (wantN rfl rfl rfl hc52) rfl rfl ?_
                  refine wpR_val (v := (Value.bool false)) (w' := w15) rfl rfl rfl (x_pickF (v := (Value.bool false)) rfl rfl hc52 rfl) ?_
                  refine wpR_nil ?_
                  exact ⟨false, ⟨rfl, e0, e1, e2, e3, e9, e10, e11, e12, e14, e15, e16, e17, e18, e19, e20, e21, trivial⟩, h, rfl⟩
              clear h
              rintro c54 ρ wj ⟨e121, e0, e1, e2, e3, e9, e10, e11, e12, e14, e15, e16, e17, e18, e19, e20, e21, -⟩ ⟨h, rfl⟩
              replace h := hk c54 h
              clear hk
              refine wpR_nil ?_
              refine wpC_cond (b := c54) e121 (fun hc55 => ?_) (fun hc55 => ?_)
              · replace h := h.1 hc55
                refine wpC_skip ?_
                refine wpC_seq ?_
                refine wpC_block ?_
                obtain ⟨J57, h, hk⟩ := h
                refine wpC_drawJ (by kernel_rfl) (fun (x : Bool) ρ => ρ 20 = (Value.bool x) ∧ ρ 0 = (Sl.v p0) ∧ ρ 1 = (Sl.v p1) ∧ ρ 2 = (Value.int .i64 p2) ∧ ρ 3 = (Value.int .u8 p3) ∧ ρ 9 = (Value.bool r1) ∧ ρ 10 = (Sl.v r6) ∧ ρ 11 = (Value.bool l7.1) ∧ ρ 12 = (Value.bool l7.2.1) ∧ ρ 14 = (Value.int .i64 l19) ∧ ρ 15 = (Value.bool r21) ∧ ρ 16 = (Value.bool l31.1) ∧ ρ 17 = (Value.bool l31.2.1) ∧ ρ 18 = (Value.int .i64 l31.2.2) ∧ ρ 19 = (Value.pointer (some (Addr.mk b40 0 none))) ∧ ρ 21 = (Value.int .i64 l50.2) ∧ True) J57 ?_ ?_
                · clear hk
                  unfold tk at h
                  generalize w15.drew = w16 at h ⊢
                  refine wpD_take (v := (Value.bool l50.1)) 0 (fun _ => True) rfl (by kernel_rfl) (by kernel_rfl) (by kernel_rfl) rfl rfl rfl trivial (fun w _ => (x_move (v := (Value.bool l50.1)) rfl e20)) ?_
                  refine wpD_take (v := (Value.bool l50.1)) 1 (fun _ => True) rfl (by kernel_rfl) (by kernel_rfl) (by kernel_rfl) rfl rfl rfl trivial (fun w _ => (x_move (v := (Value.bool l50.1)) rfl rfl)) ?_
                  rcases Bool.eq_false_or_eq_true (l50.1) with hc58 | hc58
                  · replace h := h.1 hc58
                    refine wpD_pass 2 rfl (by kernel_rfl) (by kernel_rfl) (by kernel_rfl) (wantN rfl rfl rfl hc58) rfl rfl ?_
                    refine wpD_pass 3 rfl (by kernel_rfl) (by kernel_rfl) (by kernel_rfl) (wantN rfl rfl rfl hc58) rfl rfl ?_
                    refine wpD_pass 4 rfl (by kernel_rfl) (by kernel_rfl) (by kernel_rfl) (wantN rfl rfl rfl hc58) rfl rfl ?_
                    refine wpD_pass 5 rfl (by kernel_rfl) (by kernel_rfl) (by kernel_rfl) (wantN rfl rfl rfl hc58) rfl rfl ?_
                    refine wpD_pass 6 rfl (by kernel_rfl) (by kernel_rfl) (by kernel_rfl) (wantN rfl rfl rfl hc58) rfl rfl ?_
                    refine wpD_pass 7 rfl (by kernel_rfl) (by kernel_rfl) (by kernel_rfl) (wantN rfl rfl rfl hc58) rfl rfl ?_
                    refine wpD_pass 8 rfl (by kernel_rfl) (by kernel_rfl) (by kernel_rfl) (wantN rfl rfl rfl hc58) rfl rfl ?_
                    refine wpD_pass 9 rfl (by kernel_rfl) (by kernel_rfl) (by kernel_rfl) (wantU rfl rfl rfl) rfl rfl ?_
                    refine wpD_pass 10 rfl (by kernel_rfl) (by kernel_rfl) (by kernel_rfl) (wantU rfl rfl rfl) rfl rfl ?_
                    refine wpD_pass 11 rfl (by kernel_rfl) (by kernel_rfl) (by kernel_rfl) (wantU rfl rfl rfl) rfl rfl ?_
                    refine wpD_pass 12 rfl (by kernel_rfl) (by kernel_rfl) (by kernel_rfl) (wantU rfl rfl rfl) rfl rfl ?_
                    refine wpD_pass 13 rfl (by kernel_rfl) (by kernel_rfl) (by kernel_rfl) (wantU rfl rfl rfl) rfl rfl ?_
                    refine wpD_pass 14 rfl (by kernel_rfl) (by kernel_rfl) (by kernel_rfl) (wantU rfl rfl rfl) rfl rfl ?_
                    refine wpD_pass 15 rfl (by kernel_rfl) (by kernel_rfl) (by kernel_rfl) (wantU rfl rfl rfl) rfl rfl ?_
                    refine wpD_pass 16 rfl (by kernel_rfl) (by kernel_rfl) (by kernel_rfl) (wantU rfl rfl rfl) rfl rfl ?_
                    refine wpD_pass 17 rfl (by kernel_rfl) (by kernel_rfl) (by kernel_rfl) (wantN rfl rfl rfl hc58) rfl rfl ?_
                    refine wpD_take (v := (Value.bool true)) 18 (fun _ => True) rfl (by kernel_rfl) (by kernel_rfl) (by kernel_rfl) rfl rfl rfl trivial (fun w _ => (x_pickT (v := (Value.bool true)) rfl rfl hc58 rfl)) ?_
                    refine wpD_take (v := (Value.bool true)) 19 (fun _ => True) rfl (by kernel_rfl) (by kernel_rfl) (by kernel_rfl) rfl rfl rfl trivial (fun w _ => (x_assign (v := (Value.bool true)) rfl rfl)) ?_
                    exact wpD_done (by kernel_rfl) ⟨true, ⟨rfl, e0, e1, e2, e3, e9, e10, e11, e12, e14, e15, e16, e17, e18, e19, e21, trivial⟩, h⟩
                  · replace h := h.2 hc58
                    refine wpD_take (v := (Sl.v p1)) 2 (fun _ => True) rfl (by kernel_rfl) (by kernel_rfl) (by kernel_rfl) (wantG rfl rfl rfl hc58) rfl rfl trivial (fun w _ => (x_move (v := (Sl.v p1)) rfl e1)) ?_
                    refine wpD_take (v := (Value.int .i64 l50.2)) 3 (fun _ => True) rfl (by kernel_rfl) (by kernel_rfl) (by kernel_rfl) (wantG rfl rfl rfl hc58) rfl rfl trivial (fun w _ => (x_move (v := (Value.int .i64 l50.2)) rfl e21)) ?_
                    obtain ⟨q59, z59, r59, h⟩ := h
                    generalize hp59 : z59.add ((l50.2 : Int).toNat * 12) = p59 at h
                    refine wpD_take (v := (Value.pointer (some p59))) 4 (fun _ => True) rfl (by kernel_rfl) (by kernel_rfl) (by kernel_rfl) (wantG rfl rfl rfl hc58) rfl rfl trivial (fun w _ => ((x_indexAddr (s := p1) rfl rfl rfl ES_23 q59 r59).trans (by rw [hp59]))) ?_
                    refine wpD_take (v := (Value.pointer (some (p59.add 3)))) 5 (fun _ => True) rfl (by kernel_rfl) (by kernel_rfl) (by kernel_rfl) (wantG rfl rfl rfl hc58) rfl rfl trivial (fun w _ => (x_fieldAddr rfl rfl FA_41_3)) ?_
                    obtain ⟨x60, q60, h⟩ := h
                    refine wpD_take (v := (Value.int .i64 x60)) 6 (fun w => w.cell? (p59.add 3) = some (Value.int .i64 x60)) rfl (by kernel_rfl) (by kernel_rfl) (by kernel_rfl) (wantG rfl rfl rfl hc58) rfl rfl q60 (fun w q60 => (x_load1 rfl rfl SH_3 q60)) ?_
                    refine wpD_take (v := (Value.bool (decide (x60 = 8)))) 7 (fun _ => True) rfl (by kernel_rfl) (by kernel_rfl) (by kernel_rfl) (wantG rfl rfl rfl hc58) rfl rfl trivial (fun w _ => (x_eql rfl rfl rfl)) ?_
                    refine wpD_take (v := (Value.bool (decide (x60 = 8)))) 8 (fun _ => True) rfl (by kernel_rfl) (by kernel_rfl) (by kernel_rfl) (wantG rfl rfl rfl hc58) rfl rfl trivial (fun w _ => (x_move (v := (Value.bool (decide (x60 = 8)))) rfl rfl)) ?_
                    rcases Bool.eq_false_or_eq_true (decide (x60 = 8)) with hc61 | hc61
                    · replace h := h.1 hc61
                      refine wpD_take (v := (Sl.v p1)) 9 (fun _ => True) rfl (by kernel_rfl) (by kernel_rfl) (by kernel_rfl) (wantG rfl rfl rfl hc61) rfl rfl trivial (fun w _ => (x_move (v := (Sl.v p1)) rfl e1)) ?_
                      refine wpD_take (v := (Value.int .i64 l50.2)) 10 (fun _ => True) rfl (by kernel_rfl) (by kernel_rfl) (by kernel_rfl) (wantG rfl rfl rfl hc61) rfl rfl trivial (fun w _ => (x_move (v := (Value.int .i64 l50.2)) rfl e21)) ?_
                      obtain ⟨q62, z62, r62, h⟩ := h
                      generalize hp62 : z62.add ((l50.2 : Int).toNat * 12) = p62 at h
                      refine wpD_take (v := (Value.pointer (some p62))) 11 (fun _ => True) rfl (by kernel_rfl) (by kernel_rfl) (by kernel_rfl) (wantG rfl rfl rfl hc61) rfl rfl trivial (fun w _ => ((x_indexAddr (s := p1) rfl rfl rfl ES_23 q62 r62).trans (by rw [hp62]))) ?_
                      refine wpD_take (v := (Value.pointer (some (p62.add 4)))) 12 (fun _ => True) rfl (by kernel_rfl) (by kernel_rfl) (by kernel_rfl) (wantG rfl rfl rfl hc61) rfl rfl trivial (fun w _ => (x_fieldAddr rfl rfl FA_41_4)) ?_
                      obtain ⟨x63, q63, h⟩ := h
                      refine wpD_take (v := (Value.int .i64 x63)) 13 (fun w => w.cell? (p62.add 4) = some (Value.int .i64 x63)) rfl (by kernel_rfl) (by kernel_rfl) (by kernel_rfl) (wantG rfl rfl rfl hc61) rfl rfl q63 (fun w q63 => (x_load1 rfl rfl SH_3 q63)) ?_
                      refine wpD_take (v := (Value.pointer (some ((Addr.mk b40 0 none).add 1)))) 14 (fun _ => True) rfl (by kernel_rfl) (by kernel_rfl) (by kernel_rfl) (wantG rfl rfl rfl hc61) rfl rfl trivial (fun w _ => (x_fieldAddr rfl e19 FA_43_1)) ?_
                      obtain ⟨x64, q64, h⟩ := h
                      refine wpD_take (v := (Value.int .i64 x64)) 15 (fun w => w.cell? ((Addr.mk b40 0 none).add 1) = some (Value.int .i64 x64)) rfl (by kernel_rfl) (by kernel_rfl) (by kernel_rfl) (wantG rfl rfl rfl hc61) rfl rfl q64 (fun w q64 => (x_load1 rfl rfl SH_3 q64)) ?_
                      refine wpD_take (v := (Value.bool (decide (x63 = x64)))) 16 (fun _ => True) rfl (by kernel_rfl) (by kernel_rfl) (by kernel_rfl) (wantG rfl rfl rfl hc61) rfl rfl trivial (fun w _ => (x_eql rfl rfl rfl)) ?_
                      refine wpD_take (v := (Value.bool (decide (x63 = x64)))) 17 (fun _ => True) rfl (by kernel_rfl) (by kernel_rfl) (by kernel_rfl) (wantG rfl rfl rfl hc58) rfl rfl trivial (fun w _ => (x_pickT (v := (Value.bool (decide (x63 = x64)))) rfl rfl hc61 rfl)) ?_
                      refine wpD_take (v := (Value.bool (decide (x63 = x64)))) 18 (fun _ => True) rfl (by kernel_rfl) (by kernel_rfl) (by kernel_rfl) rfl rfl rfl trivial (fun w _ => (x_pickF (v := (Value.bool (decide (x63 = x64)))) rfl rfl hc58 rfl)) ?_
                      refine wpD_take (v := (Value.bool (decide (x63 = x64)))) 19 (fun _ => True) rfl (by kernel_rfl) (by kernel_rfl) (by kernel_rfl) rfl rfl rfl trivial (fun w _ => (x_assign (v := (Value.bool (decide (x63 = x64)))) rfl rfl)) ?_
                      exact wpD_done (by kernel_rfl) ⟨decide (x63 = x64), ⟨rfl, e0, e1, e2, e3, e9, e10, e11, e12, e14, e15, e16, e17, e18, e19, e21, trivial⟩, h⟩
                    · replace h := h.2 hc61
                      refine wpD_pass 9 rfl (by kernel_rfl) (by kernel_rfl) (by kernel_rfl) (wantN rfl rfl rfl hc61) rfl rfl ?_
                      refine wpD_pass 10 rfl (by kernel_rfl) (by kernel_rfl) (by kernel_rfl) (wantN rfl rfl rfl hc61) rfl rfl ?_
                      refine wpD_pass 11 rfl (by kernel_rfl) (by kernel_rfl) (by kernel_rfl) (wantN rfl rfl rfl hc61) rfl rfl ?_
                      refine wpD_pass 12 rfl (by kernel_rfl) (by kernel_rfl) (by kernel_rfl) (wantN rfl rfl rfl hc61) rfl rfl ?_
                      refine wpD_pass 13 rfl (by kernel_rfl) (by kernel_rfl) (by kernel_rfl) (wantN rfl rfl rfl hc61) rfl rfl ?_
                      refine wpD_pass 14 rfl (by kernel_rfl) (by kernel_rfl) (by kernel_rfl) (wantN rfl rfl rfl hc61) rfl rfl ?_
                      refine wpD_pass 15 rfl (by kernel_rfl) (by kernel_rfl) (by kernel_rfl) (wantN rfl rfl rfl hc61) rfl rfl ?_
                      refine wpD_pass 16 rfl (by kernel_rfl) (by kernel_rfl) (by kernel_rfl) (wantN rfl rfl rfl hc61) rfl rfl ?_
                      refine wpD_take (v := (Value.bool false)) 17 (fun _ => True) rfl (by kernel_rfl) (by kernel_rfl) (by kernel_rfl) (wantG rfl rfl rfl hc58) rfl rfl trivial (fun w _ => (x_pickF (v := (Value.bool false)) rfl rfl hc61 rfl)) ?_
                      refine wpD_take (v := (Value.bool false)) 18 (fun _ => True) rfl (by kernel_rfl) (by kernel_rfl) (by kernel_rfl) rfl rfl rfl trivial (fun w _ => (x_pickF (v := (Value.bool false)) rfl rfl hc58 rfl)) ?_
                      refine wpD_take (v := (Value.bool false)) 19 (fun _ => True) rfl (by kernel_rfl) (by kernel_rfl) (by kernel_rfl) rfl rfl rfl trivial (fun w _ => (x_assign (v := (Value.bool false)) rfl rfl)) ?_
                      exact wpD_done (by kernel_rfl) ⟨false, ⟨rfl, e0, e1, e2, e3, e9, e10, e11, e12, e14, e15, e16, e17, e18, e19, e21, trivial⟩, h⟩
                clear h
                rintro l65 ρ w17 ⟨e20, e0, e1, e2, e3, e9, e10, e11, e12, e14, e15, e16, e17, e18, e19, e21, -⟩ h
                replace h := hk l65 w17 h
                clear hk
                refine wpC_region ?_
                refine wpR_val (v := (Value.int .i64 l50.2)) (w' := w17) rfl rfl rfl (x_move (v := (Value.int .i64 l50.2)) rfl e21) ?_
                refine wpR_val (v := (Value.int .i64 (IntKind.i64.wrap (l50.2 + 1)))) (w' := w17) rfl rfl rfl (x_add rfl rfl rfl) ?_
                refine wpR_val (v := (Value.int .i64 (IntKind.i64.wrap (l50.2 + 1)))) (w' := w17) rfl rfl rfl (x_assign (v := (Value.int .i64 (IntKind.i64.wrap (l50.2 + 1)))) rfl rfl) ?_
                refine wpR_nil ?_
                exact ⟨(l65, IntKind.i64.wrap (l50.2 + 1)), ⟨e20, rfl, e0, e1, e2, e3, e9, e10, e11, e12, e14, e15, e16, e17, e18, e19, trivial⟩, h⟩
              · replace h := h.2 hc55
                refine wpC_exit ?_
                refine wpC_seq ?_
                refine wpC_region ?_
                refine wpR_val (v := (Value.bool l7.1)) (w' := w15) rfl rfl rfl (x_move (v := (Value.bool l7.1)) rfl e11) ?_
                refine wpR_val (v := (Value.bool l7.1)) (w' := w15) rfl rfl rfl (x_move (v := (Value.bool l7.1)) rfl rfl) ?_
                obtain ⟨J66, h, hk⟩ := h
                refine wpR_joinJ 5 (fun x ρ => ρ 149 = Value.bool x ∧ ρ 0 = (Sl.v p0) ∧ ρ 1 = (Sl.v p1) ∧ ρ 2 = (Value.int .i64 p2) ∧ ρ 3 = (Value.int .u8 p3) ∧ ρ 9 = (Value.bool r1) ∧ ρ 10 = (Sl.v r6) ∧ ρ 11 = (Value.bool l7.1) ∧ ρ 12 = (Value.bool l7.2.1) ∧ ρ 14 = (Value.int .i64 l19) ∧ ρ 15 = (Value.bool r21) ∧ ρ 16 = (Value.bool l31.1) ∧ ρ 17 = (Value.bool l31.2.1) ∧ ρ 18 = (Value.int .i64 l31.2.2) ∧ ρ 19 = (Value.pointer (some (Addr.mk b40 0 none))) ∧ ρ 20 = (Value.bool l50.1) ∧ True) (fun x w => J66 x ∧ w15 = w) ?_ ?_
                · clear hk
                  rcases Bool.eq_false_or_eq_true (l7.1) with hc67 | hc67
                  · replace h := h.1 hc67
                    refine wpR_pass (wantN rfl rfl rfl hc67) rfl rfl ?_
                    refine wpR_pass (wantN rfl rfl rfl hc67) rfl rfl ?_
                    refine wpR_pass (wantN rfl rfl rfl hc67) rfl rfl ?_
                    refine wpR_pass (wantN rfl rfl rfl hc67) rfl rfl ?_
                    refine wpR_val (v := (Value.bool true)) (w' := w15) rfl rfl rfl (x_pickT (v := (Value.bool true)) rfl rfl hc67 rfl) ?_
                    refine wpR_nil ?_
                    exact ⟨true, ⟨rfl, e0, e1, e2, e3, e9, e10, e11, e12, e14, e15, e16, e17, e18, e19, e20, trivial⟩, h, rfl⟩
                  · replace h := h.2 hc67
                    refine wpR_val (v := (Value.int .i64 l19)) (w' := w15) (wantG rfl rfl rfl hc67) rfl rfl (x_move (v := (Value.int .i64 l19)) rfl e14) ?_
                    refine wpR_val (v := (Value.pointer (some ((Addr.mk b40 0 none).add 2)))) (w' := w15) (wantG rfl rfl rfl hc67) rfl rfl (x_fieldAddr rfl e19 FA_43_2) ?_
                    obtain ⟨x68, q68, h⟩ := h
                    refine wpR_val (v := (Value.int .i64 x68)) (w' := w15) (wantG rfl rfl rfl hc67) rfl rfl (x_load1 rfl rfl SH_3 q68) ?_
                    refine wpR_val (v := (Value.bool (decide (x68 < l19)))) (w' := w15) (wantG rfl rfl rfl hc67) rfl rfl (x_gtr rfl rfl rfl) ?_
                    refine wpR_val (v := (Value.bool (decide (x68 < l19)))) (w' := w15) rfl rfl rfl (x_pickF (v := (Value.bool (decide (x68 < l19)))) rfl rfl hc67 rfl) ?_
                    refine wpR_nil ?_
                    exact ⟨decide (x68 < l19), ⟨rfl, e0, e1, e2, e3, e9, e10, e11, e12, e14, e15, e16, e17, e18, e19, e20, trivial⟩, h, rfl⟩
                clear h
                rintro c69 ρ wj ⟨e149, e0, e1, e2, e3, e9, e10, e11, e12, e14, e15, e16, e17, e18, e19, e20, -⟩ ⟨h, rfl⟩
                replace h := hk c69 h
                clear hk
                refine wpR_val (v := (Value.bool c69)) (w' := w15) rfl rfl rfl (x_move (v := (Value.bool c69)) rfl e149) ?_
                obtain ⟨J70, h, hk⟩ := h
                refine wpR_joinJ 17 (fun x ρ => ρ 167 = Value.bool x ∧ ρ 0 = (Sl.v p0) ∧ ρ 1 = (Sl.v p1) ∧ ρ 2 = (Value.int .i64 p2) ∧ ρ 3 = (Value.int .u8 p3) ∧ ρ 9 = (Value.bool r1) ∧ ρ 10 = (Sl.v r6) ∧ ρ 11 = (Value.bool l7.1) ∧ ρ 12 = (Value.bool l7.2.1) ∧ ρ 14 = (Value.int .i64 l19) ∧ ρ 15 = (Value.bool r21) ∧ ρ 16 = (Value.bool l31.1) ∧ ρ 17 = (Value.bool l31.2.1) ∧ ρ 18 = (Value.int .i64 l31.2.2) ∧ ρ 19 = (Value.pointer (some (Addr.mk b40 0 none))) ∧ True) (fun x w => J70 x ∧ w15 = w) ?_ ?_
                · clear hk
                  rcases Bool.eq_false_or_eq_true (c69) with hc71 | hc71
                  · replace h := h.1 hc71
                    refine wpR_val (v := (Value.pointer (some ((Addr.mk b40 0 none).add 3)))) (w' := w15) (wantG rfl rfl rfl hc71) rfl rfl (x_fieldAddr rfl e19 FA_43_3) ?_
                    obtain ⟨x72, q72, h⟩ := h
                    refine wpR_val (v := (Value.int .i64 x72)) (w' := w15) (wantG rfl rfl rfl hc71) rfl rfl (x_load1 rfl rfl SH_3 q72) ?_
                    refine wpR_val (v := (Value.bool (decide (x72 = (-1))))) (w' := w15) (wantG rfl rfl rfl hc71) rfl rfl (x_eql rfl rfl rfl) ?_
                    refine wpR_val (v := (Value.bool (decide (x72 = (-1))))) (w' := w15) (wantG rfl rfl rfl hc71) rfl rfl (x_move (v := (Value.bool (decide (x72 = (-1))))) rfl rfl) ?_
                    obtain ⟨J73, h, hk⟩ := h
                    refine wpR_joinJ 5 (fun x ρ => ρ 159 = Value.bool x ∧ ρ 0 = (Sl.v p0) ∧ ρ 1 = (Sl.v p1) ∧ ρ 2 = (Value.int .i64 p2) ∧ ρ 3 = (Value.int .u8 p3) ∧ ρ 9 = (Value.bool r1) ∧ ρ 10 = (Sl.v r6) ∧ ρ 11 = (Value.bool l7.1) ∧ ρ 12 = (Value.bool l7.2.1) ∧ ρ 14 = (Value.int .i64 l19) ∧ ρ 15 = (Value.bool r21) ∧ ρ 16 = (Value.bool l31.1) ∧ ρ 17 = (Value.bool l31.2.1) ∧ ρ 18 = (Value.int .i64 l31.2.2) ∧ ρ 19 = (Value.pointer (some (Addr.mk b40 0 none))) ∧ ρ 20 = (Value.bool l50.1) ∧ ρ 150 = (Value.bool c69) ∧ True) (fun x w => J73 x ∧ w15 = w) ?_ ?_
                    · clear hk
                      rcases Bool.eq_false_or_eq_true (decide (x72 = (-1))) with hc74 | hc74
                      · replace h := h.1 hc74
                        refine wpR_pass (wantN rfl rfl rfl hc74) rfl rfl ?_
                        refine wpR_pass (wantN rfl rfl rfl hc74) rfl rfl ?_
                        refine wpR_pass (wantN rfl rfl rfl hc74) rfl rfl ?_
                        refine wpR_pass (wantN rfl rfl rfl hc74) rfl rfl ?_
                        refine wpR_val (v := (Value.bool true)) (w' := w15) (wantG rfl rfl rfl hc71) rfl rfl (x_pickT (v := (Value.bool true)) rfl rfl hc74 rfl) ?_
                        refine wpR_nil ?_
                        exact ⟨true, ⟨rfl, e0, e1, e2, e3, e9, e10, e11, e12, e14, e15, e16, e17, e18, e19, e20, rfl, trivial⟩, h, rfl⟩
                      · replace h := h.2 hc74
                        refine wpR_val (v := (Value.int .i64 l19)) (w' := w15) (wantG rfl rfl rfl hc74) rfl rfl (x_move (v := (Value.int .i64 l19)) rfl e14) ?_
                        refine wpR_val (v := (Value.pointer (some ((Addr.mk b40 0 none).add 3)))) (w' := w15) (wantG rfl rfl rfl hc74) rfl rfl (x_fieldAddr rfl e19 FA_43_3) ?_
                        obtain ⟨x75, q75, h⟩ := h
                        refine wpR_val (v := (Value.int .i64 x75)) (w' := w15) (wantG rfl rfl rfl hc74) rfl rfl (x_load1 rfl rfl SH_3 q75) ?_
                        refine wpR_val (v := (Value.bool (decide (l19 < x75)))) (w' := w15) (wantG rfl rfl rfl hc74) rfl rfl (x_lss rfl rfl rfl) ?_
                        refine wpR_val (v := (Value.bool (decide (l19 < x75)))) (w' := w15) (wantG rfl rfl rfl hc71) rfl rfl (x_pickF (v := (Value.bool (decide (l19 < x75)))) rfl rfl hc74 rfl) ?_
                        refine wpR_nil ?_
                        exact ⟨decide (l19 < x75), ⟨rfl, e0, e1, e2, e3, e9, e10, e11, e12, e14, e15, e16, e17, e18, e19, e20, rfl, trivial⟩, h, rfl⟩
                    clear h
                    rintro c76 ρ wj ⟨e159, e0, e1, e2, e3, e9, e10, e11, e12, e14, e15, e16, e17, e18, e19, e20, e150, -⟩ ⟨h, rfl⟩
                    replace h := hk c76 h
                    clear hk
                    refine wpR_val (v := (Value.bool c76)) (w' := w15) (wantG rfl rfl e150 hc71) rfl rfl (x_move (v := (Value.bool c76)) rfl e159) ?_
                    refine wpR_joinJ 6 (fun (_ : Unit) ρ => ρ 166 = Value.bool (c76 || (l7.2.1 && (!l50.1))) ∧ ρ 0 = (Sl.v p0) ∧ ρ 1 = (Sl.v p1) ∧ ρ 2 = (Value.int .i64 p2) ∧ ρ 3 = (Value.int .u8 p3) ∧ ρ 9 = (Value.bool r1) ∧ ρ 10 = (Sl.v r6) ∧ ρ 11 = (Value.bool l7.1) ∧ ρ 12 = (Value.bool l7.2.1) ∧ ρ 14 = (Value.int .i64 l19) ∧ ρ 15 = (Value.bool r21) ∧ ρ 16 = (Value.bool l31.1) ∧ ρ 17 = (Value.bool l31.2.1) ∧ ρ 18 = (Value.int .i64 l31.2.2) ∧ ρ 19 = (Value.pointer (some (Addr.mk b40 0 none))) ∧ ρ 150 = (Value.bool c69) ∧ True) (fun _ w => w15 = w) ?_ ?_
                    · clear h
                      rcases Bool.eq_false_or_eq_true (c76) with hc78 | hc78
                      · skip
                        refine wpR_pass (wantN rfl rfl rfl hc78) rfl rfl ?_
                        refine wpR_pass (wantN rfl rfl rfl hc78) rfl rfl ?_
                        refine wpR_pass (wantU rfl rfl rfl) rfl rfl ?_
                        refine wpR_pass (wantU rfl rfl rfl) rfl rfl ?_
                        refine wpR_pass (wantN rfl rfl rfl hc78) rfl rfl ?_
                        refine wpR_val (v := (Value.bool true)) (w' := w15) (wantG rfl rfl e150 hc71) rfl rfl (x_pickT (v := (Value.bool true)) rfl rfl hc78 rfl) ?_
                        refine wpR_nil ?_
                        exact ⟨(), ⟨(by rw [hc78]; rfl), e0, e1, e2, e3, e9, e10, e11, e12, e14, e15, e16, e17, e18, e19, e150, trivial⟩, rfl⟩
                      · skip
                        refine wpR_val (v := (Value.bool l7.2.1)) (w' := w15) (wantG rfl rfl rfl hc78) rfl rfl (x_move (v := (Value.bool l7.2.1)) rfl e12) ?_
                        refine wpR_val (v := (Value.bool l7.2.1)) (w' := w15) (wantG rfl rfl rfl hc78) rfl rfl (x_move (v := (Value.bool l7.2.1)) rfl rfl) ?_
                        refine wpR_joinJ 3 (fun (_ : Unit) ρ => ρ 165 = Value.bool (l7.2.1 && (!l50.1)) ∧ ρ 0 = (Sl.v p0) ∧ ρ 1 = (Sl.v p1) ∧ ρ 2 = (Value.int .i64 p2) ∧ ρ 3 = (Value.int .u8 p3) ∧ ρ 9 = (Value.bool r1) ∧ ρ 10 = (Sl.v r6) ∧ ρ 11 = (Value.bool l7.1) ∧ ρ 12 = (Value.bool l7.2.1) ∧ ρ 14 = (Value.int .i64 l19) ∧ ρ 15 = (Value.bool r21) ∧ ρ 16 = (Value.bool l31.1) ∧ ρ 17 = (Value.bool l31.2.1) ∧ ρ 18 = (Value.int .i64 l31.2.2) ∧ ρ 19 = (Value.pointer (some (Addr.mk b40 0 none))) ∧ ρ 150 = (Value.bool c69) ∧ ρ 160 = (Value.bool c76) ∧ True) (fun _ w => w15 = w) ?_ ?_
                        · clear h
                          rcases Bool.eq_false_or_eq_true (l7.2.1) with hc84 | hc84
                          · skip
                            refine wpR_val (v := (Value.bool l50.1)) (w' := w15) (wantG rfl rfl rfl hc84) rfl rfl (x_move (v := (Value.bool l50.1)) rfl e20) ?_
                            refine wpR_val (v := (Value.bool (!l50.1))) (w' := w15) (wantG rfl rfl rfl hc84) rfl rfl (x_not rfl rfl) ?_
                            refine wpR_val (v := (Value.bool (!l50.1))) (w' := w15) (wantG rfl rfl rfl hc78) rfl rfl (x_pickT (v := (Value.bool (!l50.1))) rfl rfl hc84 rfl) ?_
                            refine wpR_nil ?_
                            exact ⟨(), ⟨(by rw [hc84]; rfl), e0, e1, e2, e3, e9, e10, e11, e12, e14, e15, e16, e17, e18, e19, e150, rfl, trivial⟩, rfl⟩
                          · skip
                            refine wpR_pass (wantN rfl rfl rfl hc84) rfl rfl ?_
                            refine wpR_pass (wantN rfl rfl rfl hc84) rfl rfl ?_
                            refine wpR_val (v := (Value.bool false)) (w' := w15) (wantG rfl rfl rfl hc78) rfl rfl (x_pickF (v := (Value.bool false)) rfl rfl hc84 rfl) ?_
                            refine wpR_nil ?_
                            exact ⟨(), ⟨(by rw [hc84]; rfl), e0, e1, e2, e3, e9, e10, e11, e12, e14, e15, e16, e17, e18, e19, e150, rfl, trivial⟩, rfl⟩
                        rintro _ ρ wj ⟨e165, e0, e1, e2, e3, e9, e10, e11, e12, e14, e15, e16, e17, e18, e19, e150, e160, -⟩ rfl
                        refine wpR_val (v := (Value.bool (l7.2.1 && (!l50.1)))) (w' := w15) (wantG rfl rfl e150 hc71) rfl rfl (x_pickF (v := (Value.bool (l7.2.1 && (!l50.1)))) rfl e160 hc78 e165) ?_
                        refine wpR_nil ?_
                        exact ⟨(), ⟨(by rw [hc78]; rfl), e0, e1, e2, e3, e9, e10, e11, e12, e14, e15, e16, e17, e18, e19, e150, trivial⟩, rfl⟩
                    rintro _ ρ wj ⟨e166, e0, e1, e2, e3, e9, e10, e11, e12, e14, e15, e16, e17, e18, e19, e150, -⟩ rfl
                    refine wpR_val (v := (Value.bool (c76 || (l7.2.1 && (!l50.1))))) (w' := w15) rfl rfl rfl (x_pickT (v := (Value.bool (c76 || (l7.2.1 && (!l50.1))))) rfl e150 hc71 e166) ?_
                    refine wpR_nil ?_
                    exact ⟨c76 || (l7.2.1 && (!l50.1)), ⟨rfl, e0, e1, e2, e3, e9, e10, e11, e12, e14, e15, e16, e17, e18, e19, trivial⟩, h, rfl⟩
                  · replace h := h.2 hc71
                    refine wpR_pass (wantN rfl rfl rfl hc71) rfl rfl ?_
                    refine wpR_pass (wantN rfl rfl rfl hc71) rfl rfl ?_
                    refine wpR_pass (wantN rfl rfl rfl hc71) rfl rfl ?_
                    refine wpR_pass (wantN rfl rfl rfl hc71) rfl rfl ?_
                    refine wpR_pass (wantU rfl rfl rfl) rfl rfl ?_
                    refine wpR_pass (wantU rfl rfl rfl) rfl rfl ?_
                    refine wpR_pass (wantU rfl rfl rfl) rfl rfl ?_
                    refine wpR_pass (wantU rfl rfl rfl) rfl rfl ?_
                    refine wpR_pass (wantN rfl rfl rfl hc71) rfl rfl ?_
                    refine wpR_pass (wantN rfl rfl rfl hc71) rfl rfl ?_
                    refine wpR_pass (wantU rfl rfl rfl) rfl rfl ?_
                    refine wpR_pass (wantU rfl rfl rfl) rfl rfl ?_
                    refine wpR_pass (wantU rfl rfl rfl) rfl rfl ?_
                    refine wpR_pass (wantU rfl rfl rfl) rfl rfl ?_
                    refine wpR_pass (wantU rfl rfl rfl) rfl rfl ?_
                    refine wpR_pass (wantN rfl rfl rfl hc71) rfl rfl ?_
                    refine wpR_val (v := (Value.bool false)) (w' := w15) rfl rfl rfl (x_pickF (v := (Value.bool false)) rfl rfl hc71 rfl) ?_
                    refine wpR_nil ?_
                    exact ⟨false, ⟨rfl, e0, e1, e2, e3, e9, e10, e11, e12, e14, e15, e16, e17, e18, e19, trivial⟩, h, rfl⟩
                clear h
                rintro c85 ρ wj ⟨e167, e0, e1, e2, e3, e9, e10, e11, e12, e14, e15, e16, e17, e18, e19, -⟩ ⟨h, rfl⟩
                replace h := hk c85 h
                clear hk
                refine wpR_val (v := (Value.bool c85)) (w' := w15) rfl rfl rfl (x_assign (v := (Value.bool c85)) rfl e167) ?_
                refine wpR_nil ?_
                refine wpC_seq ?_
                refine wpC_cut (fun ρ => ρ 0 = (Sl.v p0) ∧ ρ 1 = (Sl.v p1) ∧ ρ 2 = (Value.int .i64 p2) ∧ ρ 3 = (Value.int .u8 p3) ∧ ρ 9 = (Value.bool r1) ∧ ρ 10 = (Sl.v r6) ∧ ρ 11 = (Value.bool l7.1) ∧ ρ 12 = (Value.bool l7.2.1) ∧ ρ 14 = (Value.int .i64 l19) ∧ ρ 15 = (Value.bool r21) ∧ ρ 16 = (Value.bool l31.1) ∧ ρ 17 = (Value.bool l31.2.1) ∧ ρ 18 = (Value.int .i64 l31.2.2) ∧ ρ 19 = (Value.pointer (some (Addr.mk b40 0 none))) ∧ ρ 22 = (Value.bool c85) ∧ True) ⟨e0, e1, e2, e3, e9, e10, e11, e12, e14, e15, e16, e17, e18, e19, rfl, trivial⟩ ?_
                rintro ρ ⟨e0, e1, e2, e3, e9, e10, e11, e12, e14, e15, e16, e17, e18, e19, e22, -⟩
                refine wpC_region ?_
                refine wpR_val (v := (Value.bool l31.1)) (w' := w15) rfl rfl rfl (x_move (v := (Value.bool l31.1)) rfl e16) ?_
                refine wpR_val (v := (Value.bool l31.1)) (w' := w15) rfl rfl rfl (x_move (v := (Value.bool l31.1)) rfl rfl) ?_
                obtain ⟨J86, h, hk⟩ := h
                refine wpR_joinJ 13 (fun x ρ => ρ 182 = Value.bool x ∧ ρ 0 = (Sl.v p0) ∧ ρ 1 = (Sl.v p1) ∧ ρ 2 = (Value.int .i64 p2) ∧ ρ 3 = (Value.int .u8 p3) ∧ ρ 9 = (Value.bool r1) ∧ ρ 10 = (Sl.v r6) ∧ ρ 11 = (Value.bool l7.1) ∧ ρ 12 = (Value.bool l7.2.1) ∧ ρ 14 = (Value.int .i64 l19) ∧ ρ 15 = (Value.bool r21) ∧ ρ 17 = (Value.bool l31.2.1) ∧ ρ 18 = (Value.int .i64 l31.2.2) ∧ ρ 19 = (Value.pointer (some (Addr.mk b40 0 none))) ∧ ρ 22 = (Value.bool c85) ∧ True) (J86) ?_ ?_
                · clear hk
                  rcases Bool.eq_false_or_eq_true (l31.1) with hc87 | hc87
                  · replace h := h.1 hc87
                    refine wpR_pass (wantN rfl rfl rfl hc87) rfl rfl ?_
                    refine wpR_pass (wantN rfl rfl rfl hc87) rfl rfl ?_
                    refine wpR_pass (wantU rfl rfl rfl) rfl rfl ?_
                    refine wpR_pass (wantU rfl rfl rfl) rfl rfl ?_
                    refine wpR_pass (wantU rfl rfl rfl) rfl rfl ?_
                    refine wpR_pass (wantU rfl rfl rfl) rfl rfl ?_
                    refine wpR_pass (wantN rfl rfl rfl hc87) rfl rfl ?_
                    refine wpR_pass (wantN rfl rfl rfl hc87) rfl rfl ?_
                    refine wpR_pass (wantU rfl rfl rfl) rfl rfl ?_
                    refine wpR_pass (wantU rfl rfl rfl) rfl rfl ?_
                    refine wpR_pass (wantU rfl rfl rfl) rfl rfl ?_
                    refine wpR_pass (wantN rfl rfl rfl hc87) rfl rfl ?_
                    refine wpR_val (v := (Value.bool true)) (w' := w15) rfl rfl rfl (x_pickT (v := (Value.bool true)) rfl rfl hc87 rfl) ?_
                    refine wpR_nil ?_
                    exact ⟨true, ⟨rfl, e0, e1, e2, e3, e9, e10, e11, e12, e14, e15, e17, e18, e19, e22, trivial⟩, h⟩
                  · replace h := h.2 hc87
                    refine wpR_val (v := (Value.bool c85)) (w' := w15) (wantG rfl rfl rfl hc87) rfl rfl (x_move (v := (Value.bool c85)) rfl e22) ?_
                    refine wpR_val (v := (Value.bool c85)) (w' := w15) (wantG rfl rfl rfl hc87) rfl rfl (x_move (v := (Value.bool c85)) rfl rfl) ?_
                    obtain ⟨J88, h, hk⟩ := h
                    refine wpR_joinJ 5 (fun x ρ => ρ 176 = Value.bool x ∧ ρ 0 = (Sl.v p0) ∧ ρ 1 = (Sl.v p1) ∧ ρ 2 = (Value.int .i64 p2) ∧ ρ 3 = (Value.int .u8 p3) ∧ ρ 9 = (Value.bool r1) ∧ ρ 10 = (Sl.v r6) ∧ ρ 11 = (Value.bool l7.1) ∧ ρ 12 = (Value.bool l7.2.1) ∧ ρ 14 = (Value.int .i64 l19) ∧ ρ 15 = (Value.bool r21) ∧ ρ 17 = (Value.bool l31.2.1) ∧ ρ 18 = (Value.int .i64 l31.2.2) ∧ ρ 19 = (Value.pointer (some (Addr.mk b40 0 none))) ∧ ρ 22 = (Value.bool c85) ∧ ρ 169 = (Value.bool l31.1) ∧ True) (fun x w => J88 x ∧ w15 = w) ?_ ?_
                    · clear hk
                      rcases Bool.eq_false_or_eq_true (c85) with hc89 | hc89
                      · replace h := h.1 hc89
                        refine wpR_val (v := (Value.pointer (some ((Addr.mk b40 0 none).add 0)))) (w' := w15) (wantG rfl rfl rfl hc89) rfl rfl (x_fieldAddr rfl e19 FA_43_0) ?_
                        obtain ⟨x90, q90, h⟩ := h
                        refine wpR_val (v := (Value.int .i64 x90)) (w' := w15) (wantG rfl rfl rfl hc89) rfl rfl (x_load1 rfl rfl SH_3 q90) ?_
                        refine wpR_val (v := (Value.int .i64 p2)) (w' := w15) (wantG rfl rfl rfl hc89) rfl rfl (x_move (v := (Value.int .i64 p2)) rfl e2) ?_
                        refine wpR_val (v := (Value.bool (decide (x90 = p2)))) (w' := w15) (wantG rfl rfl rfl hc89) rfl rfl (x_eql rfl rfl rfl) ?_
                        refine wpR_val (v := (Value.bool (decide (x90 = p2)))) (w' := w15) (wantG rfl rfl rfl hc87) rfl rfl (x_pickT (v := (Value.bool (decide (x90 = p2)))) rfl rfl hc89 rfl) ?_
                        refine wpR_nil ?_
                        exact ⟨decide (x90 = p2), ⟨rfl, e0, e1, e2, e3, e9, e10, e11, e12, e14, e15, e17, e18, e19, e22, rfl, trivial⟩, h, rfl⟩
                      · replace h := h.2 hc89
                        refine wpR_pass (wantN rfl rfl rfl hc89) rfl rfl ?_
                        refine wpR_pass (wantN rfl rfl rfl hc89) rfl rfl ?_
                        refine wpR_pass (wantN rfl rfl rfl hc89) rfl rfl ?_
                        refine wpR_pass (wantN rfl rfl rfl hc89) rfl rfl ?_
                        refine wpR_val (v := (Value.bool false)) (w' := w15) (wantG rfl rfl rfl hc87) rfl rfl (x_pickF (v := (Value.bool false)) rfl rfl hc89 rfl) ?_
                        refine wpR_nil ?_
                        exact ⟨false, ⟨rfl, e0, e1, e2, e3, e9, e10, e11, e12, e14, e15, e17, e18, e19, e22, rfl, trivial⟩, h, rfl⟩
                    clear h
                    rintro c91 ρ wj ⟨e176, e0, e1, e2, e3, e9, e10, e11, e12, e14, e15, e17, e18, e19, e22, e169, -⟩ ⟨h, rfl⟩
                    replace h := hk c91 h
                    clear hk
                    refine wpR_val (v := (Value.bool c91)) (w' := w15) (wantG rfl rfl e169 hc87) rfl rfl (x_move (v := (Value.bool c91)) rfl e176) ?_
                    obtain ⟨J92, h, hk⟩ := h
                    refine wpR_joinJ 4 (fun x ρ => ρ 181 = Value.bool x ∧ ρ 0 = (Sl.v p0) ∧ ρ 1 = (Sl.v p1) ∧ ρ 2 = (Value.int .i64 p2) ∧ ρ 3 = (Value.int .u8 p3) ∧ ρ 9 = (Value.bool r1) ∧ ρ 10 = (Sl.v r6) ∧ ρ 11 = (Value.bool l7.1) ∧ ρ 12 = (Value.bool l7.2.1) ∧ ρ 14 = (Value.int .i64 l19) ∧ ρ 15 = (Value.bool r21) ∧ ρ 17 = (Value.bool l31.2.1) ∧ ρ 18 = (Value.int .i64 l31.2.2) ∧ ρ 19 = (Value.pointer (some (Addr.mk b40 0 none))) ∧ ρ 22 = (Value.bool c85) ∧ ρ 169 = (Value.bool l31.1) ∧ True) (J92) ?_ ?_
                    · clear hk
                      rcases Bool.eq_false_or_eq_true (c91) with hc93 | hc93
                      · replace h := h.1 hc93
                        refine wpR_val (v := (Value.int .i64 p2)) (w' := w15) (wantG rfl rfl rfl hc93) rfl rfl (x_move (v := (Value.int .i64 p2)) rfl e2) ?_
                        refine wpR_enter (wantG rfl rfl rfl hc93) rfl rfl (x_call (vs := [(Value.int .i64 p2)]) rfl rfl (mapl_cons rfl mapl_nil) Try.func18 NN_18 NB_18) (Calls.mono h ?_)
                        rintro _ w18 ⟨r94, rfl, h⟩
                        refine ⟨_, rfl, ?_⟩
                        refine wpR_val (v := (Value.bool (decide (0 ≤ r94)))) (w' := w18) (wantG rfl rfl rfl hc93) rfl rfl (x_geq rfl rfl rfl) ?_
                        refine wpR_val (v := (Value.bool (decide (0 ≤ r94)))) (w' := w18) (wantG rfl rfl e169 hc87) rfl rfl (x_pickT (v := (Value.bool (decide (0 ≤ r94)))) rfl rfl hc93 rfl) ?_
                        refine wpR_nil ?_
                        exact ⟨decide (0 ≤ r94), ⟨rfl, e0, e1, e2, e3, e9, e10, e11, e12, e14, e15, e17, e18, e19, e22, e169, trivial⟩, h⟩
                      · replace h := h.2 hc93
                        refine wpR_pass (wantN rfl rfl rfl hc93) rfl rfl ?_
                        refine wpR_pass (wantN rfl rfl rfl hc93) rfl rfl ?_
                        refine wpR_pass (wantN rfl rfl rfl hc93) rfl rfl ?_
                        refine wpR_val (v := (Value.bool false)) (w' := w15) (wantG rfl rfl e169 hc87) rfl rfl (x_pickF (v := (Value.bool false)) rfl rfl hc93 rfl) ?_
                        refine wpR_nil ?_
                        exact ⟨false, ⟨rfl, e0, e1, e2, e3, e9, e10, e11, e12, e14, e15, e17, e18, e19, e22, e169, trivial⟩, h⟩
                    clear h
                    rintro c95 ρ w19 ⟨e181, e0, e1, e2, e3, e9, e10, e11, e12, e14, e15, e17, e18, e19, e22, e169, -⟩ h
                    replace h := hk c95 w19 h
                    clear hk
                    refine wpR_val (v := (Value.bool c95)) (w' := w19) rfl rfl rfl (x_pickF (v := (Value.bool c95)) rfl e169 hc87 e181) ?_
                    refine wpR_nil ?_
                    exact ⟨c95, ⟨rfl, e0, e1, e2, e3, e9, e10, e11, e12, e14, e15, e17, e18, e19, e22, trivial⟩, h⟩
                clear h
                rintro c96 ρ w20 ⟨e182, e0, e1, e2, e3, e9, e10, e11, e12, e14, e15, e17, e18, e19, e22, -⟩ h
                replace h := hk c96 w20 h
                clear hk
                refine wpR_val (v := (Value.bool c96)) (w' := w20) rfl rfl rfl (x_assign (v := (Value.bool c96)) rfl e182) ?_
                refine wpR_nil ?_
                refine wpC_cut (fun ρ => ρ 0 = (Sl.v p0) ∧ ρ 1 = (Sl.v p1) ∧ ρ 2 = (Value.int .i64 p2) ∧ ρ 3 = (Value.int .u8 p3) ∧ ρ 9 = (Value.bool r1) ∧ ρ 10 = (Sl.v r6) ∧ ρ 11 = (Value.bool l7.1) ∧ ρ 12 = (Value.bool l7.2.1) ∧ ρ 14 = (Value.int .i64 l19) ∧ ρ 15 = (Value.bool r21) ∧ ρ 16 = (Value.bool c96) ∧ ρ 17 = (Value.bool l31.2.1) ∧ ρ 18 = (Value.int .i64 l31.2.2) ∧ ρ 19 = (Value.pointer (some (Addr.mk b40 0 none))) ∧ ρ 22 = (Value.bool c85) ∧ True) ⟨e0, e1, e2, e3, e9, e10, e11, e12, e14, e15, rfl, e17, e18, e19, e22, trivial⟩ ?_
                rintro ρ ⟨e0, e1, e2, e3, e9, e10, e11, e12, e14, e15, e16, e17, e18, e19, e22, -⟩
                refine wpC_region ?_
                refine wpR_val (v := (Value.bool l31.2.1)) (w' := w20) rfl rfl rfl (x_move (v := (Value.bool l31.2.1)) rfl e17) ?_
                refine wpR_val (v := (Value.bool l31.2.1)) (w' := w20) rfl rfl rfl (x_move (v := (Value.bool l31.2.1)) rfl rfl) ?_
                obtain ⟨J97, h, hk⟩ := h
                refine wpR_joinJ 10 (fun x ρ => ρ 194 = Value.bool x ∧ ρ 0 = (Sl.v p0) ∧ ρ 1 = (Sl.v p1) ∧ ρ 2 = (Value.int .i64 p2) ∧ ρ 3 = (Value.int .u8 p3) ∧ ρ 9 = (Value.bool r1) ∧ ρ 10 = (Sl.v r6) ∧ ρ 11 = (Value.bool l7.1) ∧ ρ 12 = (Value.bool l7.2.1) ∧ ρ 14 = (Value.int .i64 l19) ∧ ρ 15 = (Value.bool r21) ∧ ρ 16 = (Value.bool c96) ∧ ρ 18 = (Value.int .i64 l31.2.2) ∧ True) (J97) ?_ ?_
                · clear hk
                  rcases Bool.eq_false_or_eq_true (l31.2.1) with hc98 | hc98
                  · replace h := h.1 hc98
                    refine wpR_pass (wantN rfl rfl rfl hc98) rfl rfl ?_
                    refine wpR_pass (wantN rfl rfl rfl hc98) rfl rfl ?_
                    refine wpR_pass (wantU rfl rfl rfl) rfl rfl ?_
                    refine wpR_pass (wantU rfl rfl rfl) rfl rfl ?_
                    refine wpR_pass (wantU rfl rfl rfl) rfl rfl ?_
                    refine wpR_pass (wantU rfl rfl rfl) rfl rfl ?_
                    refine wpR_pass (wantU rfl rfl rfl) rfl rfl ?_
                    refine wpR_pass (wantU rfl rfl rfl) rfl rfl ?_
                    refine wpR_pass (wantN rfl rfl rfl hc98) rfl rfl ?_
                    refine wpR_val (v := (Value.bool true)) (w' := w20) rfl rfl rfl (x_pickT (v := (Value.bool true)) rfl rfl hc98 rfl) ?_
                    refine wpR_nil ?_
                    exact ⟨true, ⟨rfl, e0, e1, e2, e3, e9, e10, e11, e12, e14, e15, e16, e18, trivial⟩, h⟩
                  · replace h := h.2 hc98
                    refine wpR_val (v := (Value.bool c85)) (w' := w20) (wantG rfl rfl rfl hc98) rfl rfl (x_move (v := (Value.bool c85)) rfl e22) ?_
                    refine wpR_val (v := (Value.bool c85)) (w' := w20) (wantG rfl rfl rfl hc98) rfl rfl (x_move (v := (Value.bool c85)) rfl rfl) ?_
                    obtain ⟨J99, h, hk⟩ := h
                    refine wpR_joinJ 7 (fun x ρ => ρ 193 = Value.bool x ∧ ρ 0 = (Sl.v p0) ∧ ρ 1 = (Sl.v p1) ∧ ρ 2 = (Value.int .i64 p2) ∧ ρ 3 = (Value.int .u8 p3) ∧ ρ 9 = (Value.bool r1) ∧ ρ 10 = (Sl.v r6) ∧ ρ 11 = (Value.bool l7.1) ∧ ρ 12 = (Value.bool l7.2.1) ∧ ρ 14 = (Value.int .i64 l19) ∧ ρ 15 = (Value.bool r21) ∧ ρ 16 = (Value.bool c96) ∧ ρ 18 = (Value.int .i64 l31.2.2) ∧ ρ 184 = (Value.bool l31.2.1) ∧ True) (J99) ?_ ?_
                    · clear hk
                      rcases Bool.eq_false_or_eq_true (c85) with hc100 | hc100
                      · replace h := h.1 hc100
                        refine wpR_val (v := (Value.pointer (some ((Addr.mk b40 0 none).add 0)))) (w' := w20) (wantG rfl rfl rfl hc100) rfl rfl (x_fieldAddr rfl e19 FA_43_0) ?_
                        obtain ⟨x101, q101, h⟩ := h
                        refine wpR_val (v := (Value.int .i64 x101)) (w' := w20) (wantG rfl rfl rfl hc100) rfl rfl (x_load1 rfl rfl SH_3 q101) ?_
                        refine wpR_enter (wantG rfl rfl rfl hc100) rfl rfl (x_call (vs := [(Value.int .i64 x101)]) rfl rfl (mapl_cons rfl mapl_nil) Try.func18 NN_18 NB_18) (Calls.mono h ?_)
                        rintro _ w21 ⟨r102, rfl, h⟩
                        refine ⟨_, rfl, ?_⟩
                        refine wpR_val (v := (Value.int .u8 p3)) (w' := w21) (wantG rfl rfl rfl hc100) rfl rfl (x_move (v := (Value.int .u8 p3)) rfl e3) ?_
                        refine wpR_val (v := (Value.int .i64 (IntKind.i64.wrap p3))) (w' := w21) (wantG rfl rfl rfl hc100) rfl rfl (x_convI rfl rfl IK_3 IK_5) ?_
                        refine wpR_val (v := (Value.bool (decide (r102 = (IntKind.i64.wrap p3))))) (w' := w21) (wantG rfl rfl rfl hc100) rfl rfl (x_eql rfl rfl rfl) ?_
                        refine wpR_val (v := (Value.bool (decide (r102 = (IntKind.i64.wrap p3))))) (w' := w21) (wantG rfl rfl rfl hc98) rfl rfl (x_pickT (v := (Value.bool (decide (r102 = (IntKind.i64.wrap p3))))) rfl rfl hc100 rfl) ?_
                        refine wpR_nil ?_
                        exact ⟨decide (r102 = (IntKind.i64.wrap p3)), ⟨rfl, e0, e1, e2, e3, e9, e10, e11, e12, e14, e15, e16, e18, rfl, trivial⟩, h⟩
                      · replace h := h.2 hc100
                        refine wpR_pass (wantN rfl rfl rfl hc100) rfl rfl ?_
                        refine wpR_pass (wantN rfl rfl rfl hc100) rfl rfl ?_
                        refine wpR_pass (wantN rfl rfl rfl hc100) rfl rfl ?_
                        refine wpR_pass (wantN rfl rfl rfl hc100) rfl rfl ?_
                        refine wpR_pass (wantN rfl rfl rfl hc100) rfl rfl ?_
                        refine wpR_pass (wantN rfl rfl rfl hc100) rfl rfl ?_
                        refine wpR_val (v := (Value.bool false)) (w' := w20) (wantG rfl rfl rfl hc98) rfl rfl (x_pickF (v := (Value.bool false)) rfl rfl hc100 rfl) ?_
                        refine wpR_nil ?_
                        exact ⟨false, ⟨rfl, e0, e1, e2, e3, e9, e10, e11, e12, e14, e15, e16, e18, rfl, trivial⟩, h⟩
                    clear h
                    rintro c103 ρ w22 ⟨e193, e0, e1, e2, e3, e9, e10, e11, e12, e14, e15, e16, e18, e184, -⟩ h
                    replace h := hk c103 w22 h
                    clear hk
                    refine wpR_val (v := (Value.bool c103)) (w' := w22) rfl rfl rfl (x_pickF (v := (Value.bool c103)) rfl e184 hc98 e193) ?_
                    refine wpR_nil ?_
                    exact ⟨c103, ⟨rfl, e0, e1, e2, e3, e9, e10, e11, e12, e14, e15, e16, e18, trivial⟩, h⟩
                clear h
                rintro c104 ρ w23 ⟨e194, e0, e1, e2, e3, e9, e10, e11, e12, e14, e15, e16, e18, -⟩ h
                replace h := hk c104 w23 h
                clear hk
                refine wpR_val (v := (Value.bool c104)) (w' := w23) rfl rfl rfl (x_assign (v := (Value.bool c104)) rfl e194) ?_
                refine wpR_nil ?_
                exact ⟨(c96, c104), ⟨e16, rfl, e0, e1, e2, e3, e9, e10, e11, e12, e14, e15, e18, trivial⟩, h⟩
          clear h
          rintro l34 ρ w10 ⟨e16, e17, e0, e1, e2, e3, e9, e10, e11, e12, e14, e15, e18, -⟩ h
          replace h := hk l34 w10 h
          clear hk
          refine wpC_region ?_
          refine wpR_val (v := (Value.int .i64 l31.2.2)) (w' := w10) rfl rfl rfl (x_move (v := (Value.int .i64 l31.2.2)) rfl e18) ?_
          refine wpR_val (v := (Value.int .i64 (IntKind.i64.wrap (l31.2.2 + 1)))) (w' := w10) rfl rfl rfl (x_add rfl rfl rfl) ?_
          refine wpR_val (v := (Value.int .i64 (IntKind.i64.wrap (l31.2.2 + 1)))) (w' := w10) rfl rfl rfl (x_assign (v := (Value.int .i64 (IntKind.i64.wrap (l31.2.2 + 1)))) rfl rfl) ?_
          refine wpR_nil ?_
          exact ⟨(l34.1, l34.2, IntKind.i64.wrap (l31.2.2 + 1)), ⟨e16, e17, rfl, e0, e1, e2, e3, e9, e10, e11, e12, e14, e15, trivial⟩, h⟩
        · replace h := h.2 hc32
          refine wpC_exit ?_
          refine wpC_seq ?_
          refine wpC_cut (fun ρ => ρ 0 = (Sl.v p0) ∧ ρ 1 = (Sl.v p1) ∧ ρ 2 = (Value.int .i64 p2) ∧ ρ 3 = (Value.int .u8 p3) ∧ ρ 9 = (Value.bool r1) ∧ ρ 10 = (Sl.v r6) ∧ ρ 11 = (Value.bool l7.1) ∧ ρ 12 = (Value.bool l7.2.1) ∧ ρ 14 = (Value.int .i64 l19) ∧ ρ 15 = (Value.bool r21) ∧ ρ 16 = (Value.bool l31.1) ∧ ρ 17 = (Value.bool l31.2.1) ∧ True) ⟨e0, e1, e2, e3, e9, e10, e11, e12, e14, e15, e16, e17, trivial⟩ ?_
          rintro ρ ⟨e0, e1, e2, e3, e9, e10, e11, e12, e14, e15, e16, e17, -⟩
          refine wpC_region ?_
          refine wpR_val (v := (Value.bool r21)) (w' := w9) rfl rfl rfl (x_move (v := (Value.bool r21)) rfl e15) ?_
          refine wpR_val (v := (Value.bool l31.1)) (w' := w9) rfl rfl rfl (x_move (v := (Value.bool l31.1)) rfl e16) ?_
          refine wpR_val (v := (Value.bool (!(r21 == l31.1)))) (w' := w9) rfl rfl rfl (x_neqB rfl rfl rfl isBoolT_4) ?_
          refine wpR_val (v := (Value.bool (!(r21 == l31.1)))) (w' := w9) rfl rfl rfl (x_move (v := (Value.bool (!(r21 == l31.1)))) rfl rfl) ?_
          obtain ⟨J105, h, hk⟩ := h
          refine wpR_joinJ 9 (fun x ρ => ρ 207 = Value.bool x ∧ ρ 0 = (Sl.v p0) ∧ ρ 1 = (Sl.v p1) ∧ ρ 2 = (Value.int .i64 p2) ∧ ρ 3 = (Value.int .u8 p3) ∧ ρ 9 = (Value.bool r1) ∧ ρ 10 = (Sl.v r6) ∧ ρ 11 = (Value.bool l7.1) ∧ ρ 12 = (Value.bool l7.2.1) ∧ ρ 14 = (Value.int .i64 l19) ∧ True) (J105) ?_ ?_
          · clear hk
            rcases Bool.eq_false_or_eq_true (!(r21 == l31.1)) with hc106 | hc106
            · replace h := h.1 hc106
              refine wpR_pass (wantN rfl rfl rfl hc106) rfl rfl ?_
              refine wpR_pass (wantN rfl rfl rfl hc106) rfl rfl ?_
              refine wpR_pass (wantN rfl rfl rfl hc106) rfl rfl ?_
              refine wpR_pass (wantN rfl rfl rfl hc106) rfl rfl ?_
              refine wpR_pass (wantN rfl rfl rfl hc106) rfl rfl ?_
              refine wpR_pass (wantN rfl rfl rfl hc106) rfl rfl ?_
              refine wpR_pass (wantN rfl rfl rfl hc106) rfl rfl ?_
              refine wpR_pass (wantN rfl rfl rfl hc106) rfl rfl ?_
              refine wpR_val (v := (Value.bool true)) (w' := w9) rfl rfl rfl (x_pickT (v := (Value.bool true)) rfl rfl hc106 rfl) ?_
              refine wpR_nil ?_
              exact ⟨true, ⟨rfl, e0, e1, e2, e3, e9, e10, e11, e12, e14, trivial⟩, h⟩
            · replace h := h.2 hc106
              refine wpR_val (v := (Sl.v p0)) (w' := w9) (wantG rfl rfl rfl hc106) rfl rfl (x_move (v := (Sl.v p0)) rfl e0) ?_
              refine wpR_val (v := (Sl.v p1)) (w' := w9) (wantG rfl rfl rfl hc106) rfl rfl (x_move (v := (Sl.v p1)) rfl e1) ?_
              refine wpR_val (v := (Value.int .u8 p3)) (w' := w9) (wantG rfl rfl rfl hc106) rfl rfl (x_move (v := (Value.int .u8 p3)) rfl e3) ?_
              refine wpR_val (v := (Value.int .i64 (IntKind.i64.wrap p3))) (w' := w9) (wantG rfl rfl rfl hc106) rfl rfl (x_convI rfl rfl IK_3 IK_5) ?_
              refine wpR_val (v := (Value.int .i64 l19)) (w' := w9) (wantG rfl rfl rfl hc106) rfl rfl (x_move (v := (Value.int .i64 l19)) rfl e14) ?_
              refine wpR_enter (wantG rfl rfl rfl hc106) rfl rfl (x_call (vs := [(Sl.v p0), (Sl.v p1), (Value.int .i64 (IntKind.i64.wrap p3)), (Value.int .i64 l19)]) rfl rfl (mapl_cons rfl (mapl_cons rfl (mapl_cons rfl (mapl_cons rfl mapl_nil)))) Try.func11 NN_11 NB_11) (Calls.mono h ?_)
              rintro _ w24 ⟨r107, rfl, h⟩
              refine ⟨_, rfl, ?_⟩
              refine wpR_val (v := (Value.bool l31.2.1)) (w' := w24) (wantG rfl rfl rfl hc106) rfl rfl (x_move (v := (Value.bool l31.2.1)) rfl e17) ?_
              refine wpR_val (v := (Value.bool (!(r107 == l31.2.1)))) (w' := w24) (wantG rfl rfl rfl hc106) rfl rfl (x_neqB rfl rfl rfl isBoolT_4) ?_
              refine wpR_val (v := (Value.bool (!(r107 == l31.2.1)))) (w' := w24) rfl rfl rfl (x_pickF (v := (Value.bool (!(r107 == l31.2.1)))) rfl rfl hc106 rfl) ?_
              refine wpR_nil ?_
              exact ⟨!(r107 == l31.2.1), ⟨rfl, e0, e1, e2, e3, e9, e10, e11, e12, e14, trivial⟩, h⟩
          clear h
          rintro c108 ρ w25 ⟨e207, e0, e1, e2, e3, e9, e10, e11, e12, e14, -⟩ h
          replace h := hk c108 w25 h
          clear hk
          refine wpR_nil ?_
          refine wpC_cond (b := c108) e207 (fun hc109 => ?_) (fun hc109 => ?_)
          · replace h := h.1 hc109
            refine wpC_seq ?_
            refine wpC_region ?_
            refine wpR_val (v := (Value.bool false)) (w' := w25) rfl rfl rfl (x_assign (v := (Value.bool false)) rfl rfl) ?_
            refine wpR_nil ?_
            refine wpC_ret ?_
            exact ⟨.inl rfl, fun a ha => ⟨_, results_rep1 rfl ha rfl, false, rfl, h⟩⟩
          · replace h := h.2 hc109
            refine wpC_skip ?_
            refine wpC_region ?_
            refine wpR_val (v := (Value.int .i64 l19)) (w' := w25) rfl rfl rfl (x_move (v := (Value.int .i64 l19)) rfl e14) ?_
            refine wpR_val (v := (Value.int .i64 (IntKind.i64.wrap (l19 + 1)))) (w' := w25) rfl rfl rfl (x_add rfl rfl rfl) ?_
            refine wpR_val (v := (Value.int .i64 (IntKind.i64.wrap (l19 + 1)))) (w' := w25) rfl rfl rfl (x_assign (v := (Value.int .i64 (IntKind.i64.wrap (l19 + 1)))) rfl rfl) ?_
            refine wpR_nil ?_
            exact ⟨IntKind.i64.wrap (l19 + 1), ⟨rfl, e0, e1, e2, e3, e9, e10, e11, e12, trivial⟩, h⟩
      · replace h := h.2 hc20
        refine wpC_exit ?_
        refine wpC_seq ?_
        refine wpC_cut (fun ρ => ρ 9 = (Value.bool r1) ∧ True) ⟨e9, trivial⟩ ?_
        rintro ρ ⟨e9, -⟩
        refine wpC_region ?_
        refine wpR_val (v := (Value.bool r1)) (w' := w5) rfl rfl rfl (x_move (v := (Value.bool r1)) rfl e9) ?_
        refine wpR_val (v := (Value.bool r1)) (w' := w5) rfl rfl rfl (x_assign (v := (Value.bool r1)) rfl rfl) ?_
        refine wpR_nil ?_
        refine wpC_ret ?_
        exact ⟨.inl rfl, fun a ha => ⟨_, results_rep1 rfl ha rfl, r1, rfl, h⟩⟩

/-- lingualaw18.small -/
def F7  (w0 : World) (K : Bool → World → Prop) : Prop :=
  callC Try.prog 19 #[] (fun (r : Sl) => (Sl.v r)) w0 fun r1 w1 =>
  callC Try.prog 20 #[(Value.int .i64 0), (Value.int .i64 0)] (fun (r : ByteArray × Int × Int × Int × Bool × Int × Bool × Bool × Int × Int × Int × Int × Sl × Int × Int × Int × Int × Bool × Int × Int × Int × Int) => (Value.agg #[(Value.string r.1), (Value.int .i64 r.2.1), (Value.int .i64 r.2.2.1), (Value.int .i64 r.2.2.2.1), (Value.bool r.2.2.2.2.1), (Value.int .i64 r.2.2.2.2.2.1), (Value.bool r.2.2.2.2.2.2.1), (Value.bool r.2.2.2.2.2.2.2.1), (Value.int .i64 r.2.2.2.2.2.2.2.2.1), (Value.int .i64 r.2.2.2.2.2.2.2.2.2.1), (Value.int .i64 r.2.2.2.2.2.2.2.2.2.2.1), (Value.int .i64 r.2.2.2.2.2.2.2.2.2.2.2.1), (Sl.v r.2.2.2.2.2.2.2.2.2.2.2.2.1), (Value.int .i64 r.2.2.2.2.2.2.2.2.2.2.2.2.2.1), (Value.int .i64 r.2.2.2.2.2.2.2.2.2.2.2.2.2.2.1), (Value.int .i64 r.2.2.2.2.2.2.2.2.2.2.2.2.2.2.2.1), (Value.int .i64 r.2.2.2.2.2.2.2.2.2.2.2.2.2.2.2.2.1), (Value.bool r.2.2.2.2.2.2.2.2.2.2.2.2.2.2.2.2.2.1), (Value.int .i64 r.2.2.2.2.2.2.2.2.2.2.2.2.2.2.2.2.2.2.1), (Value.int .i64 r.2.2.2.2.2.2.2.2.2.2.2.2.2.2.2.2.2.2.2.1), (Value.int .i64 r.2.2.2.2.2.2.2.2.2.2.2.2.2.2.2.2.2.2.2.2.1), (Value.int .i64 r.2.2.2.2.2.2.2.2.2.2.2.2.2.2.2.2.2.2.2.2.2)])) w1 fun r2 w2 =>
  nw 33 #[(Value.string r2.1), (Value.int .i64 r2.2.1), (Value.int .i64 r2.2.2.1), (Value.int .i64 r2.2.2.2.1), (Value.bool r2.2.2.2.2.1), (Value.int .i64 r2.2.2.2.2.2.1), (Value.bool r2.2.2.2.2.2.2.1), (Value.bool r2.2.2.2.2.2.2.2.1), (Value.int .i64 r2.2.2.2.2.2.2.2.2.1), (Value.int .i64 r2.2.2.2.2.2.2.2.2.2.1), (Value.int .i64 r2.2.2.2.2.2.2.2.2.2.2.1), (Value.int .i64 r2.2.2.2.2.2.2.2.2.2.2.2.1), (Sl.v r2.2.2.2.2.2.2.2.2.2.2.2.2.1), (Value.int .i64 r2.2.2.2.2.2.2.2.2.2.2.2.2.2.1), (Value.int .i64 r2.2.2.2.2.2.2.2.2.2.2.2.2.2.2.1), (Value.int .i64 r2.2.2.2.2.2.2.2.2.2.2.2.2.2.2.2.1), (Value.int .i64 r2.2.2.2.2.2.2.2.2.2.2.2.2.2.2.2.2.1), (Value.bool r2.2.2.2.2.2.2.2.2.2.2.2.2.2.2.2.2.2.1), (Value.int .i64 r2.2.2.2.2.2.2.2.2.2.2.2.2.2.2.2.2.2.2.1), (Value.int .i64 r2.2.2.2.2.2.2.2.2.2.2.2.2.2.2.2.2.2.2.2.1), (Value.int .i64 r2.2.2.2.2.2.2.2.2.2.2.2.2.2.2.2.2.2.2.2.2.1), (Value.int .i64 r2.2.2.2.2.2.2.2.2.2.2.2.2.2.2.2.2.2.2.2.2.2)] w2 fun b3 w3 =>
  callC Try.prog 14 #[(Sl.v (⟨some ⟨b3, 0, none⟩, 1, 1⟩ : Sl)), (Sl.v r1), (Value.int .i64 1)] (fun (r : Sl) => (Sl.v r)) w3 fun r4 w4 =>
  callC Try.prog 20 #[(Value.int .i64 1), (Value.int .i64 0)] (fun (r : ByteArray × Int × Int × Int × Bool × Int × Bool × Bool × Int × Int × Int × Int × Sl × Int × Int × Int × Int × Bool × Int × Int × Int × Int) => (Value.agg #[(Value.string r.1), (Value.int .i64 r.2.1), (Value.int .i64 r.2.2.1), (Value.int .i64 r.2.2.2.1), (Value.bool r.2.2.2.2.1), (Value.int .i64 r.2.2.2.2.2.1), (Value.bool r.2.2.2.2.2.2.1), (Value.bool r.2.2.2.2.2.2.2.1), (Value.int .i64 r.2.2.2.2.2.2.2.2.1), (Value.int .i64 r.2.2.2.2.2.2.2.2.2.1), (Value.int .i64 r.2.2.2.2.2.2.2.2.2.2.1), (Value.int .i64 r.2.2.2.2.2.2.2.2.2.2.2.1), (Sl.v r.2.2.2.2.2.2.2.2.2.2.2.2.1), (Value.int .i64 r.2.2.2.2.2.2.2.2.2.2.2.2.2.1), (Value.int .i64 r.2.2.2.2.2.2.2.2.2.2.2.2.2.2.1), (Value.int .i64 r.2.2.2.2.2.2.2.2.2.2.2.2.2.2.2.1), (Value.int .i64 r.2.2.2.2.2.2.2.2.2.2.2.2.2.2.2.2.1), (Value.bool r.2.2.2.2.2.2.2.2.2.2.2.2.2.2.2.2.2.1), (Value.int .i64 r.2.2.2.2.2.2.2.2.2.2.2.2.2.2.2.2.2.2.1), (Value.int .i64 r.2.2.2.2.2.2.2.2.2.2.2.2.2.2.2.2.2.2.2.1), (Value.int .i64 r.2.2.2.2.2.2.2.2.2.2.2.2.2.2.2.2.2.2.2.2.1), (Value.int .i64 r.2.2.2.2.2.2.2.2.2.2.2.2.2.2.2.2.2.2.2.2.2)])) w4 fun r5 w5 =>
  nw 33 #[(Value.string r5.1), (Value.int .i64 r5.2.1), (Value.int .i64 r5.2.2.1), (Value.int .i64 r5.2.2.2.1), (Value.bool r5.2.2.2.2.1), (Value.int .i64 r5.2.2.2.2.2.1), (Value.bool r5.2.2.2.2.2.2.1), (Value.bool r5.2.2.2.2.2.2.2.1), (Value.int .i64 r5.2.2.2.2.2.2.2.2.1), (Value.int .i64 r5.2.2.2.2.2.2.2.2.2.1), (Value.int .i64 r5.2.2.2.2.2.2.2.2.2.2.1), (Value.int .i64 r5.2.2.2.2.2.2.2.2.2.2.2.1), (Sl.v r5.2.2.2.2.2.2.2.2.2.2.2.2.1), (Value.int .i64 r5.2.2.2.2.2.2.2.2.2.2.2.2.2.1), (Value.int .i64 r5.2.2.2.2.2.2.2.2.2.2.2.2.2.2.1), (Value.int .i64 r5.2.2.2.2.2.2.2.2.2.2.2.2.2.2.2.1), (Value.int .i64 r5.2.2.2.2.2.2.2.2.2.2.2.2.2.2.2.2.1), (Value.bool r5.2.2.2.2.2.2.2.2.2.2.2.2.2.2.2.2.2.1), (Value.int .i64 r5.2.2.2.2.2.2.2.2.2.2.2.2.2.2.2.2.2.2.1), (Value.int .i64 r5.2.2.2.2.2.2.2.2.2.2.2.2.2.2.2.2.2.2.2.1), (Value.int .i64 r5.2.2.2.2.2.2.2.2.2.2.2.2.2.2.2.2.2.2.2.2.1), (Value.int .i64 r5.2.2.2.2.2.2.2.2.2.2.2.2.2.2.2.2.2.2.2.2.2)] w5 fun b6 w6 =>
  callC Try.prog 14 #[(Sl.v (⟨some ⟨b6, 0, none⟩, 1, 1⟩ : Sl)), (Sl.v r1), (Value.int .i64 1)] (fun (r : Sl) => (Sl.v r)) w6 fun r7 w7 =>
  callC Try.prog 20 #[(Value.int .i64 1), (Value.int .i64 1)] (fun (r : ByteArray × Int × Int × Int × Bool × Int × Bool × Bool × Int × Int × Int × Int × Sl × Int × Int × Int × Int × Bool × Int × Int × Int × Int) => (Value.agg #[(Value.string r.1), (Value.int .i64 r.2.1), (Value.int .i64 r.2.2.1), (Value.int .i64 r.2.2.2.1), (Value.bool r.2.2.2.2.1), (Value.int .i64 r.2.2.2.2.2.1), (Value.bool r.2.2.2.2.2.2.1), (Value.bool r.2.2.2.2.2.2.2.1), (Value.int .i64 r.2.2.2.2.2.2.2.2.1), (Value.int .i64 r.2.2.2.2.2.2.2.2.2.1), (Value.int .i64 r.2.2.2.2.2.2.2.2.2.2.1), (Value.int .i64 r.2.2.2.2.2.2.2.2.2.2.2.1), (Sl.v r.2.2.2.2.2.2.2.2.2.2.2.2.1), (Value.int .i64 r.2.2.2.2.2.2.2.2.2.2.2.2.2.1), (Value.int .i64 r.2.2.2.2.2.2.2.2.2.2.2.2.2.2.1), (Value.int .i64 r.2.2.2.2.2.2.2.2.2.2.2.2.2.2.2.1), (Value.int .i64 r.2.2.2.2.2.2.2.2.2.2.2.2.2.2.2.2.1), (Value.bool r.2.2.2.2.2.2.2.2.2.2.2.2.2.2.2.2.2.1), (Value.int .i64 r.2.2.2.2.2.2.2.2.2.2.2.2.2.2.2.2.2.2.1), (Value.int .i64 r.2.2.2.2.2.2.2.2.2.2.2.2.2.2.2.2.2.2.2.1), (Value.int .i64 r.2.2.2.2.2.2.2.2.2.2.2.2.2.2.2.2.2.2.2.2.1), (Value.int .i64 r.2.2.2.2.2.2.2.2.2.2.2.2.2.2.2.2.2.2.2.2.2)])) w7 fun r8 w8 =>
  nw 33 #[(Value.string r8.1), (Value.int .i64 r8.2.1), (Value.int .i64 r8.2.2.1), (Value.int .i64 r8.2.2.2.1), (Value.bool r8.2.2.2.2.1), (Value.int .i64 r8.2.2.2.2.2.1), (Value.bool r8.2.2.2.2.2.2.1), (Value.bool r8.2.2.2.2.2.2.2.1), (Value.int .i64 r8.2.2.2.2.2.2.2.2.1), (Value.int .i64 r8.2.2.2.2.2.2.2.2.2.1), (Value.int .i64 r8.2.2.2.2.2.2.2.2.2.2.1), (Value.int .i64 r8.2.2.2.2.2.2.2.2.2.2.2.1), (Sl.v r8.2.2.2.2.2.2.2.2.2.2.2.2.1), (Value.int .i64 r8.2.2.2.2.2.2.2.2.2.2.2.2.2.1), (Value.int .i64 r8.2.2.2.2.2.2.2.2.2.2.2.2.2.2.1), (Value.int .i64 r8.2.2.2.2.2.2.2.2.2.2.2.2.2.2.2.1), (Value.int .i64 r8.2.2.2.2.2.2.2.2.2.2.2.2.2.2.2.2.1), (Value.bool r8.2.2.2.2.2.2.2.2.2.2.2.2.2.2.2.2.2.1), (Value.int .i64 r8.2.2.2.2.2.2.2.2.2.2.2.2.2.2.2.2.2.2.1), (Value.int .i64 r8.2.2.2.2.2.2.2.2.2.2.2.2.2.2.2.2.2.2.2.1), (Value.int .i64 r8.2.2.2.2.2.2.2.2.2.2.2.2.2.2.2.2.2.2.2.2.1), (Value.int .i64 r8.2.2.2.2.2.2.2.2.2.2.2.2.2.2.2.2.2.2.2.2.2)] w8 fun b9 w9 =>
  callC Try.prog 14 #[(Sl.v (⟨some ⟨b9, 0, none⟩, 1, 1⟩ : Sl)), (Sl.v r1), (Value.int .i64 1)] (fun (r : Sl) => (Sl.v r)) w9 fun r10 w10 =>
  callC Try.prog 20 #[(Value.int .i64 0), (Value.int .i64 1)] (fun (r : ByteArray × Int × Int × Int × Bool × Int × Bool × Bool × Int × Int × Int × Int × Sl × Int × Int × Int × Int × Bool × Int × Int × Int × Int) => (Value.agg #[(Value.string r.1), (Value.int .i64 r.2.1), (Value.int .i64 r.2.2.1), (Value.int .i64 r.2.2.2.1), (Value.bool r.2.2.2.2.1), (Value.int .i64 r.2.2.2.2.2.1), (Value.bool r.2.2.2.2.2.2.1), (Value.bool r.2.2.2.2.2.2.2.1), (Value.int .i64 r.2.2.2.2.2.2.2.2.1), (Value.int .i64 r.2.2.2.2.2.2.2.2.2.1), (Value.int .i64 r.2.2.2.2.2.2.2.2.2.2.1), (Value.int .i64 r.2.2.2.2.2.2.2.2.2.2.2.1), (Sl.v r.2.2.2.2.2.2.2.2.2.2.2.2.1), (Value.int .i64 r.2.2.2.2.2.2.2.2.2.2.2.2.2.1), (Value.int .i64 r.2.2.2.2.2.2.2.2.2.2.2.2.2.2.1), (Value.int .i64 r.2.2.2.2.2.2.2.2.2.2.2.2.2.2.2.1), (Value.int .i64 r.2.2.2.2.2.2.2.2.2.2.2.2.2.2.2.2.1), (Value.bool r.2.2.2.2.2.2.2.2.2.2.2.2.2.2.2.2.2.1), (Value.int .i64 r.2.2.2.2.2.2.2.2.2.2.2.2.2.2.2.2.2.2.1), (Value.int .i64 r.2.2.2.2.2.2.2.2.2.2.2.2.2.2.2.2.2.2.2.1), (Value.int .i64 r.2.2.2.2.2.2.2.2.2.2.2.2.2.2.2.2.2.2.2.2.1), (Value.int .i64 r.2.2.2.2.2.2.2.2.2.2.2.2.2.2.2.2.2.2.2.2.2)])) w10 fun r11 w11 =>
  callC Try.prog 20 #[(Value.int .i64 1), (Value.int .i64 0)] (fun (r : ByteArray × Int × Int × Int × Bool × Int × Bool × Bool × Int × Int × Int × Int × Sl × Int × Int × Int × Int × Bool × Int × Int × Int × Int) => (Value.agg #[(Value.string r.1), (Value.int .i64 r.2.1), (Value.int .i64 r.2.2.1), (Value.int .i64 r.2.2.2.1), (Value.bool r.2.2.2.2.1), (Value.int .i64 r.2.2.2.2.2.1), (Value.bool r.2.2.2.2.2.2.1), (Value.bool r.2.2.2.2.2.2.2.1), (Value.int .i64 r.2.2.2.2.2.2.2.2.1), (Value.int .i64 r.2.2.2.2.2.2.2.2.2.1), (Value.int .i64 r.2.2.2.2.2.2.2.2.2.2.1), (Value.int .i64 r.2.2.2.2.2.2.2.2.2.2.2.1), (Sl.v r.2.2.2.2.2.2.2.2.2.2.2.2.1), (Value.int .i64 r.2.2.2.2.2.2.2.2.2.2.2.2.2.1), (Value.int .i64 r.2.2.2.2.2.2.2.2.2.2.2.2.2.2.1), (Value.int .i64 r.2.2.2.2.2.2.2.2.2.2.2.2.2.2.2.1), (Value.int .i64 r.2.2.2.2.2.2.2.2.2.2.2.2.2.2.2.2.1), (Value.bool r.2.2.2.2.2.2.2.2.2.2.2.2.2.2.2.2.2.1), (Value.int .i64 r.2.2.2.2.2.2.2.2.2.2.2.2.2.2.2.2.2.2.1), (Value.int .i64 r.2.2.2.2.2.2.2.2.2.2.2.2.2.2.2.2.2.2.2.1), (Value.int .i64 r.2.2.2.2.2.2.2.2.2.2.2.2.2.2.2.2.2.2.2.2.1), (Value.int .i64 r.2.2.2.2.2.2.2.2.2.2.2.2.2.2.2.2.2.2.2.2.2)])) w11 fun r12 w12 =>
  nw 33 #[(Value.string r11.1), (Value.int .i64 r11.2.1), (Value.int .i64 r11.2.2.1), (Value.int .i64 r11.2.2.2.1), (Value.bool r11.2.2.2.2.1), (Value.int .i64 r11.2.2.2.2.2.1), (Value.bool r11.2.2.2.2.2.2.1), (Value.bool r11.2.2.2.2.2.2.2.1), (Value.int .i64 r11.2.2.2.2.2.2.2.2.1), (Value.int .i64 r11.2.2.2.2.2.2.2.2.2.1), (Value.int .i64 r11.2.2.2.2.2.2.2.2.2.2.1), (Value.int .i64 r11.2.2.2.2.2.2.2.2.2.2.2.1), (Sl.v r11.2.2.2.2.2.2.2.2.2.2.2.2.1), (Value.int .i64 r11.2.2.2.2.2.2.2.2.2.2.2.2.2.1), (Value.int .i64 r11.2.2.2.2.2.2.2.2.2.2.2.2.2.2.1), (Value.int .i64 r11.2.2.2.2.2.2.2.2.2.2.2.2.2.2.2.1), (Value.int .i64 r11.2.2.2.2.2.2.2.2.2.2.2.2.2.2.2.2.1), (Value.bool r11.2.2.2.2.2.2.2.2.2.2.2.2.2.2.2.2.2.1), (Value.int .i64 r11.2.2.2.2.2.2.2.2.2.2.2.2.2.2.2.2.2.2.1), (Value.int .i64 r11.2.2.2.2.2.2.2.2.2.2.2.2.2.2.2.2.2.2.2.1), (Value.int .i64 r11.2.2.2.2.2.2.2.2.2.2.2.2.2.2.2.2.2.2.2.2.1), (Value.int .i64 r11.2.2.2.2.2.2.2.2.2.2.2.2.2.2.2.2.2.2.2.2.2), (Value.string r12.1), (Value.int .i64 r12.2.1), (Value.int .i64 r12.2.2.1), (Value.int .i64 r12.2.2.2.1), (Value.bool r12.2.2.2.2.1), (Value.int .i64 r12.2.2.2.2.2.1), (Value.bool r12.2.2.2.2.2.2.1), (Value.bool r12.2.2.2.2.2.2.2.1), (Value.int .i64 r12.2.2.2.2.2.2.2.2.1), (Value.int .i64 r12.2.2.2.2.2.2.2.2.2.1), (Value.int .i64 r12.2.2.2.2.2.2.2.2.2.2.1), (Value.int .i64 r12.2.2.2.2.2.2.2.2.2.2.2.1), (Sl.v r12.2.2.2.2.2.2.2.2.2.2.2.2.1), (Value.int .i64 r12.2.2.2.2.2.2.2.2.2.2.2.2.2.1), (Value.int .i64 r12.2.2.2.2.2.2.2.2.2.2.2.2.2.2.1), (Value.int .i64 r12.2.2.2.2.2.2.2.2.2.2.2.2.2.2.2.1), (Value.int .i64 r12.2.2.2.2.2.2.2.2.2.2.2.2.2.2.2.2.1), (Value.bool r12.2.2.2.2.2.2.2.2.2.2.2.2.2.2.2.2.2.1), (Value.int .i64 r12.2.2.2.2.2.2.2.2.2.2.2.2.2.2.2.2.2.2.1), (Value.int .i64 r12.2.2.2.2.2.2.2.2.2.2.2.2.2.2.2.2.2.2.2.1), (Value.int .i64 r12.2.2.2.2.2.2.2.2.2.2.2.2.2.2.2.2.2.2.2.2.1), (Value.int .i64 r12.2.2.2.2.2.2.2.2.2.2.2.2.2.2.2.2.2.2.2.2.2)] w12 fun b13 w13 =>
  callC Try.prog 14 #[(Sl.v (⟨some ⟨b13, 0, none⟩, 2, 2⟩ : Sl)), (Sl.v r1), (Value.int .i64 1)] (fun (r : Sl) => (Sl.v r)) w13 fun r14 w14 =>
  nw 3 #[(Value.int .i64 3)] w14 fun b15 w15 =>
  callC Try.prog 13 #[(Sl.v r4), (Sl.v (⟨some ⟨b15, 0, none⟩, 1, 1⟩ : Sl))] (fun (r : Bool) => (Value.bool r)) w15 fun r16 w16 =>
  jn (fun J17 => cnd (r16)
    (
    nw 3 #[(Value.int .i64 0), (Value.int .i64 1), (Value.int .i64 2), (Value.int .i64 3)] w16 fun b19 w17 =>
    callC Try.prog 13 #[(Sl.v r7), (Sl.v (⟨some ⟨b19, 0, none⟩, 4, 4⟩ : Sl))] (fun (r : Bool) => (Value.bool r)) w17 fun r20 w18 =>
    J17 r20 w18
    )
    (
    J17 false w16
    ))
  fun c21 w19 =>
  jn (fun J22 => cnd (c21)
    (
    nw 3 #[(Value.int .i64 0), (Value.int .i64 1), (Value.int .i64 2), (Value.int .i64 3), (Value.int .i64 4), (Value.int .i64 5)] w19 fun b24 w20 =>
    callC Try.prog 13 #[(Sl.v r10), (Sl.v (⟨some ⟨b24, 0, none⟩, 6, 6⟩ : Sl))] (fun (r : Bool) => (Value.bool r)) w20 fun r25 w21 =>
    J22 r25 w21
    )
    (
    J22 false w19
    ))
  fun c26 w22 =>
  jn (fun J27 => cnd (c26)
    (
    nw 3 #[(Value.int .i64 3)] w22 fun b29 w23 =>
    callC Try.prog 13 #[(Sl.v r14), (Sl.v (⟨some ⟨b29, 0, none⟩, 1, 1⟩ : Sl))] (fun (r : Bool) => (Value.bool r)) w23 fun r30 w24 =>
    J27 r30 w24
    )
    (
    J27 false w22
    ))
  fun c31 w25 =>
  jn (fun J32 => cnd (c31)
    (
    callC Try.prog 9 #[(Sl.v (⟨some ⟨b13, 0, none⟩, 2, 2⟩ : Sl)), (Sl.v r1), (Value.int .i64 1), (Value.int .i64 3)] (fun (r : Bool) => (Value.bool r)) w25 fun r34 w26 =>
    J32 r34 w26
    )
    (
    J32 false w25
    ))
  fun c35 w27 =>
  jn (fun J36 => cnd (c35)
    (
    callC Try.prog 9 #[(Sl.v (⟨some ⟨b13, 0, none⟩, 2, 2⟩ : Sl)), (Sl.v r1), (Value.int .i64 1), (Value.int .i64 5)] (fun (r : Bool) => (Value.bool r)) w27 fun r38 w28 =>
    J36 (!r38) w28
    )
    (
    J36 false w27
    ))
  fun c39 w29 =>
  jn (fun J40 => cnd (c39)
    (
    callC Try.prog 9 #[(Sl.v (⟨some ⟨b13, 0, none⟩, 2, 2⟩ : Sl)), (Sl.v r1), (Value.int .i64 0), (Value.int .i64 7)] (fun (r : Bool) => (Value.bool r)) w29 fun r42 w30 =>
    J40 r42 w30
    )
    (
    J40 false w29
    ))
  fun c43 w31 =>
  jn (fun J44 => cnd (c43)
    (
    callC Try.prog 11 #[(Sl.v (⟨some ⟨b13, 0, none⟩, 2, 2⟩ : Sl)), (Sl.v r1), (Value.int .i64 0), (Value.int .i64 7)] (fun (r : Bool) => (Value.bool r)) w31 fun r46 w32 =>
    J44 r46 w32
    )
    (
    J44 false w31
    ))
  fun c47 w33 =>
  jn (fun J48 => cnd (c47)
    (
    callC Try.prog 11 #[(Sl.v (⟨some ⟨b13, 0, none⟩, 2, 2⟩ : Sl)), (Sl.v r1), (Value.int .i64 1), (Value.int .i64 7)] (fun (r : Bool) => (Value.bool r)) w33 fun r50 w34 =>
    J48 (!r50) w34
    )
    (
    J48 false w33
    ))
  fun c51 w35 =>
  jn (fun J52 => cnd (c51)
    (
    callC Try.prog 11 #[(Sl.v (⟨some ⟨b13, 0, none⟩, 2, 2⟩ : Sl)), (Sl.v r1), (Value.int .i64 2), (Value.int .i64 3)] (fun (r : Bool) => (Value.bool r)) w35 fun r54 w36 =>
    J52 (!r54) w36
    )
    (
    J52 false w35
    ))
  fun c55 w37 =>
  K c55 w37
set_option maxRecDepth 100000 in
theorem D7  (w0 : World) (K : Bool → World → Prop) (h : F7  w0 K) : callC Try.prog 7 #[] (fun (r : Bool) => (Value.bool r)) w0 K := by
  unfold F7 at h
  refine calls_of_wpC Try.func7 rfl 79 rfl (by simp) ?_
  intro ρ hρ
  clear hρ
  refine wpC_seq ?_
  refine wpC_region ?_
  refine wpR_val (v := (Value.bool false)) (w' := w0) rfl rfl rfl (x_assign (v := (Value.bool false)) rfl rfl) ?_
  refine wpR_nil ?_
  refine wpC_seq ?_
  refine wpC_cut (fun ρ => True) trivial ?_
  rintro ρ -
  refine wpC_region ?_
  refine wpR_enter rfl rfl rfl (x_call (vs := []) rfl rfl mapl_nil Try.func19 NN_19 NB_19) (Calls.mono h ?_)
  rintro _ w1 ⟨r1, rfl, h⟩
  refine ⟨_, rfl, ?_⟩
  refine wpR_val (v := (Sl.v r1)) (w' := w1) rfl rfl rfl (x_assign (v := (Sl.v r1)) rfl rfl) ?_
  refine wpR_nil ?_
  refine wpC_seq ?_
  refine wpC_cut (fun ρ => ρ 1 = (Sl.v r1) ∧ True) ⟨rfl, trivial⟩ ?_
  rintro ρ ⟨e1, -⟩
  refine wpC_region ?_
  refine wpR_enter rfl rfl rfl (x_call (vs := [(Value.int .i64 0), (Value.int .i64 0)]) rfl rfl (mapl_cons rfl (mapl_cons rfl mapl_nil)) Try.func20 NN_20 NB_20) (Calls.mono h ?_)
  rintro _ w2 ⟨r2, rfl, h⟩
  refine ⟨_, rfl, ?_⟩
  obtain ⟨b3, hb3⟩ : ∃ u, u = w2.heap.size := ⟨_, rfl⟩
  obtain ⟨w3, hw3⟩ : ∃ u, u = w2.alloc (.cells #[(Value.string r2.1), (Value.int .i64 r2.2.1), (Value.int .i64 r2.2.2.1), (Value.int .i64 r2.2.2.2.1), (Value.bool r2.2.2.2.2.1), (Value.int .i64 r2.2.2.2.2.2.1), (Value.bool r2.2.2.2.2.2.2.1), (Value.bool r2.2.2.2.2.2.2.2.1), (Value.int .i64 r2.2.2.2.2.2.2.2.2.1), (Value.int .i64 r2.2.2.2.2.2.2.2.2.2.1), (Value.int .i64 r2.2.2.2.2.2.2.2.2.2.2.1), (Value.int .i64 r2.2.2.2.2.2.2.2.2.2.2.2.1), (Sl.v r2.2.2.2.2.2.2.2.2.2.2.2.2.1), (Value.int .i64 r2.2.2.2.2.2.2.2.2.2.2.2.2.2.1), (Value.int .i64 r2.2.2.2.2.2.2.2.2.2.2.2.2.2.2.1), (Value.int .i64 r2.2.2.2.2.2.2.2.2.2.2.2.2.2.2.2.1), (Value.int .i64 r2.2.2.2.2.2.2.2.2.2.2.2.2.2.2.2.2.1), (Value.bool r2.2.2.2.2.2.2.2.2.2.2.2.2.2.2.2.2.2.1), (Value.int .i64 r2.2.2.2.2.2.2.2.2.2.2.2.2.2.2.2.2.2.2.1), (Value.int .i64 r2.2.2.2.2.2.2.2.2.2.2.2.2.2.2.2.2.2.2.2.1), (Value.int .i64 r2.2.2.2.2.2.2.2.2.2.2.2.2.2.2.2.2.2.2.2.2.1), (Value.int .i64 r2.2.2.2.2.2.2.2.2.2.2.2.2.2.2.2.2.2.2.2.2.2)] 33) := ⟨_, rfl⟩
  replace h := h b3 w3 hb3 hw3
  refine wpR_val (v := (Sl.v (⟨some ⟨b3, 0, none⟩, 1, 1⟩ : Sl))) (w' := w3) rfl rfl rfl ((x_buildSlice (qs := [(0, (Value.agg #[(Value.string r2.1), (Value.int .i64 r2.2.1), (Value.int .i64 r2.2.2.1), (Value.int .i64 r2.2.2.2.1), (Value.bool r2.2.2.2.2.1), (Value.int .i64 r2.2.2.2.2.2.1), (Value.bool r2.2.2.2.2.2.2.1), (Value.bool r2.2.2.2.2.2.2.2.1), (Value.int .i64 r2.2.2.2.2.2.2.2.2.1), (Value.int .i64 r2.2.2.2.2.2.2.2.2.2.1), (Value.int .i64 r2.2.2.2.2.2.2.2.2.2.2.1), (Value.int .i64 r2.2.2.2.2.2.2.2.2.2.2.2.1), (Sl.v r2.2.2.2.2.2.2.2.2.2.2.2.2.1), (Value.int .i64 r2.2.2.2.2.2.2.2.2.2.2.2.2.2.1), (Value.int .i64 r2.2.2.2.2.2.2.2.2.2.2.2.2.2.2.1), (Value.int .i64 r2.2.2.2.2.2.2.2.2.2.2.2.2.2.2.2.1), (Value.int .i64 r2.2.2.2.2.2.2.2.2.2.2.2.2.2.2.2.2.1), (Value.bool r2.2.2.2.2.2.2.2.2.2.2.2.2.2.2.2.2.2.1), (Value.int .i64 r2.2.2.2.2.2.2.2.2.2.2.2.2.2.2.2.2.2.2.1), (Value.int .i64 r2.2.2.2.2.2.2.2.2.2.2.2.2.2.2.2.2.2.2.2.1), (Value.int .i64 r2.2.2.2.2.2.2.2.2.2.2.2.2.2.2.2.2.2.2.2.2.1), (Value.int .i64 r2.2.2.2.2.2.2.2.2.2.2.2.2.2.2.2.2.2.2.2.2.2)]))]) rfl (by rfl) (BS_22_1_0 r2.1 r2.2.1 r2.2.2.1 r2.2.2.2.1 r2.2.2.2.2.1 r2.2.2.2.2.2.1 r2.2.2.2.2.2.2.1 r2.2.2.2.2.2.2.2.1 r2.2.2.2.2.2.2.2.2.1 r2.2.2.2.2.2.2.2.2.2.1 r2.2.2.2.2.2.2.2.2.2.2.1 r2.2.2.2.2.2.2.2.2.2.2.2.1 r2.2.2.2.2.2.2.2.2.2.2.2.2.1 r2.2.2.2.2.2.2.2.2.2.2.2.2.2.1 r2.2.2.2.2.2.2.2.2.2.2.2.2.2.2.1 r2.2.2.2.2.2.2.2.2.2.2.2.2.2.2.2.1 r2.2.2.2.2.2.2.2.2.2.2.2.2.2.2.2.2.1 r2.2.2.2.2.2.2.2.2.2.2.2.2.2.2.2.2.2.1 r2.2.2.2.2.2.2.2.2.2.2.2.2.2.2.2.2.2.2.1 r2.2.2.2.2.2.2.2.2.2.2.2.2.2.2.2.2.2.2.2.1 r2.2.2.2.2.2.2.2.2.2.2.2.2.2.2.2.2.2.2.2.2.1 r2.2.2.2.2.2.2.2.2.2.2.2.2.2.2.2.2.2.2.2.2.2)).trans (by rw [← hb3, ← hw3])) ?_
  refine wpR_val (v := (Sl.v r1)) (w' := w3) rfl rfl rfl (x_move (v := (Sl.v r1)) rfl e1) ?_
  refine wpR_enter rfl rfl rfl (x_call (vs := [(Sl.v (⟨some ⟨b3, 0, none⟩, 1, 1⟩ : Sl)), (Sl.v r1), (Value.int .i64 1)]) rfl rfl (mapl_cons rfl (mapl_cons rfl (mapl_cons rfl mapl_nil))) Try.func14 NN_14 NB_14) (Calls.mono h ?_)
  rintro _ w4 ⟨r4, rfl, h⟩
  refine ⟨_, rfl, ?_⟩
  refine wpR_val (v := (Sl.v r4)) (w' := w4) rfl rfl rfl (x_assign (v := (Sl.v r4)) rfl rfl) ?_
  refine wpR_nil ?_
  refine wpC_seq ?_
  refine wpC_cut (fun ρ => ρ 1 = (Sl.v r1) ∧ ρ 2 = (Sl.v r4) ∧ True) ⟨e1, rfl, trivial⟩ ?_
  rintro ρ ⟨e1, e2, -⟩
  refine wpC_region ?_
  refine wpR_enter rfl rfl rfl (x_call (vs := [(Value.int .i64 1), (Value.int .i64 0)]) rfl rfl (mapl_cons rfl (mapl_cons rfl mapl_nil)) Try.func20 NN_20 NB_20) (Calls.mono h ?_)
  rintro _ w5 ⟨r5, rfl, h⟩
  refine ⟨_, rfl, ?_⟩
  obtain ⟨b6, hb6⟩ : ∃ u, u = w5.heap.size := ⟨_, rfl⟩
  obtain ⟨w6, hw6⟩ : ∃ u, u = w5.alloc (.cells #[(Value.string r5.1), (Value.int .i64 r5.2.1), (Value.int .i64 r5.2.2.1), (Value.int .i64 r5.2.2.2.1), (Value.bool r5.2.2.2.2.1), (Value.int .i64 r5.2.2.2.2.2.1), (Value.bool r5.2.2.2.2.2.2.1), (Value.bool r5.2.2.2.2.2.2.2.1), (Value.int .i64 r5.2.2.2.2.2.2.2.2.1), (Value.int .i64 r5.2.2.2.2.2.2.2.2.2.1), (Value.int .i64 r5.2.2.2.2.2.2.2.2.2.2.1), (Value.int .i64 r5.2.2.2.2.2.2.2.2.2.2.2.1), (Sl.v r5.2.2.2.2.2.2.2.2.2.2.2.2.1), (Value.int .i64 r5.2.2.2.2.2.2.2.2.2.2.2.2.2.1), (Value.int .i64 r5.2.2.2.2.2.2.2.2.2.2.2.2.2.2.1), (Value.int .i64 r5.2.2.2.2.2.2.2.2.2.2.2.2.2.2.2.1), (Value.int .i64 r5.2.2.2.2.2.2.2.2.2.2.2.2.2.2.2.2.1), (Value.bool r5.2.2.2.2.2.2.2.2.2.2.2.2.2.2.2.2.2.1), (Value.int .i64 r5.2.2.2.2.2.2.2.2.2.2.2.2.2.2.2.2.2.2.1), (Value.int .i64 r5.2.2.2.2.2.2.2.2.2.2.2.2.2.2.2.2.2.2.2.1), (Value.int .i64 r5.2.2.2.2.2.2.2.2.2.2.2.2.2.2.2.2.2.2.2.2.1), (Value.int .i64 r5.2.2.2.2.2.2.2.2.2.2.2.2.2.2.2.2.2.2.2.2.2)] 33) := ⟨_, rfl⟩
  replace h := h b6 w6 hb6 hw6
  refine wpR_val (v := (Sl.v (⟨some ⟨b6, 0, none⟩, 1, 1⟩ : Sl))) (w' := w6) rfl rfl rfl ((x_buildSlice (qs := [(0, (Value.agg #[(Value.string r5.1), (Value.int .i64 r5.2.1), (Value.int .i64 r5.2.2.1), (Value.int .i64 r5.2.2.2.1), (Value.bool r5.2.2.2.2.1), (Value.int .i64 r5.2.2.2.2.2.1), (Value.bool r5.2.2.2.2.2.2.1), (Value.bool r5.2.2.2.2.2.2.2.1), (Value.int .i64 r5.2.2.2.2.2.2.2.2.1), (Value.int .i64 r5.2.2.2.2.2.2.2.2.2.1), (Value.int .i64 r5.2.2.2.2.2.2.2.2.2.2.1), (Value.int .i64 r5.2.2.2.2.2.2.2.2.2.2.2.1), (Sl.v r5.2.2.2.2.2.2.2.2.2.2.2.2.1), (Value.int .i64 r5.2.2.2.2.2.2.2.2.2.2.2.2.2.1), (Value.int .i64 r5.2.2.2.2.2.2.2.2.2.2.2.2.2.2.1), (Value.int .i64 r5.2.2.2.2.2.2.2.2.2.2.2.2.2.2.2.1), (Value.int .i64 r5.2.2.2.2.2.2.2.2.2.2.2.2.2.2.2.2.1), (Value.bool r5.2.2.2.2.2.2.2.2.2.2.2.2.2.2.2.2.2.1), (Value.int .i64 r5.2.2.2.2.2.2.2.2.2.2.2.2.2.2.2.2.2.2.1), (Value.int .i64 r5.2.2.2.2.2.2.2.2.2.2.2.2.2.2.2.2.2.2.2.1), (Value.int .i64 r5.2.2.2.2.2.2.2.2.2.2.2.2.2.2.2.2.2.2.2.2.1), (Value.int .i64 r5.2.2.2.2.2.2.2.2.2.2.2.2.2.2.2.2.2.2.2.2.2)]))]) rfl (by rfl) (BS_22_1_0 r5.1 r5.2.1 r5.2.2.1 r5.2.2.2.1 r5.2.2.2.2.1 r5.2.2.2.2.2.1 r5.2.2.2.2.2.2.1 r5.2.2.2.2.2.2.2.1 r5.2.2.2.2.2.2.2.2.1 r5.2.2.2.2.2.2.2.2.2.1 r5.2.2.2.2.2.2.2.2.2.2.1 r5.2.2.2.2.2.2.2.2.2.2.2.1 r5.2.2.2.2.2.2.2.2.2.2.2.2.1 r5.2.2.2.2.2.2.2.2.2.2.2.2.2.1 r5.2.2.2.2.2.2.2.2.2.2.2.2.2.2.1 r5.2.2.2.2.2.2.2.2.2.2.2.2.2.2.2.1 r5.2.2.2.2.2.2.2.2.2.2.2.2.2.2.2.2.1 r5.2.2.2.2.2.2.2.2.2.2.2.2.2.2.2.2.2.1 r5.2.2.2.2.2.2.2.2.2.2.2.2.2.2.2.2.2.2.1 r5.2.2.2.2.2.2.2.2.2.2.2.2.2.2.2.2.2.2.2.1 r5.2.2.2.2.2.2.2.2.2.2.2.2.2.2.2.2.2.2.2.2.1 r5.2.2.2.2.2.2.2.2.2.2.2.2.2.2.2.2.2.2.2.2.2)).trans (by rw [← hb6, ← hw6])) ?_
  refine wpR_val (v := (Sl.v r1)) (w' := w6) rfl rfl rfl (x_move (v := (Sl.v r1)) rfl e1) ?_
  refine wpR_enter rfl rfl rfl (x_call (vs := [(Sl.v (⟨some ⟨b6, 0, none⟩, 1, 1⟩ : Sl)), (Sl.v r1), (Value.int .i64 1)]) rfl rfl (mapl_cons rfl (mapl_cons rfl (mapl_cons rfl mapl_nil))) Try.func14 NN_14 NB_14) (Calls.mono h ?_)
  rintro _ w7 ⟨r7, rfl, h⟩
  refine ⟨_, rfl, ?_⟩
  refine wpR_val (v := (Sl.v r7)) (w' := w7) rfl rfl rfl (x_assign (v := (Sl.v r7)) rfl rfl) ?_
  refine wpR_nil ?_
  refine wpC_seq ?_
  refine wpC_cut (fun ρ => ρ 1 = (Sl.v r1) ∧ ρ 2 = (Sl.v r4) ∧ ρ 3 = (Sl.v r7) ∧ True) ⟨e1, e2, rfl, trivial⟩ ?_
  rintro ρ ⟨e1, e2, e3, -⟩
  refine wpC_region ?_
  refine wpR_enter rfl rfl rfl (x_call (vs := [(Value.int .i64 1), (Value.int .i64 1)]) rfl rfl (mapl_cons rfl (mapl_cons rfl mapl_nil)) Try.func20 NN_20 NB_20) (Calls.mono h ?_)
  rintro _ w8 ⟨r8, rfl, h⟩
  refine ⟨_, rfl, ?_⟩
  obtain ⟨b9, hb9⟩ : ∃ u, u = w8.heap.size := ⟨_, rfl⟩
  obtain ⟨w9, hw9⟩ : ∃ u, u = w8.alloc (.cells #[(Value.string r8.1), (Value.int .i64 r8.2.1), (Value.int .i64 r8.2.2.1), (Value.int .i64 r8.2.2.2.1), (Value.bool r8.2.2.2.2.1), (Value.int .i64 r8.2.2.2.2.2.1), (Value.bool r8.2.2.2.2.2.2.1), (Value.bool r8.2.2.2.2.2.2.2.1), (Value.int .i64 r8.2.2.2.2.2.2.2.2.1), (Value.int .i64 r8.2.2.2.2.2.2.2.2.2.1), (Value.int .i64 r8.2.2.2.2.2.2.2.2.2.2.1), (Value.int .i64 r8.2.2.2.2.2.2.2.2.2.2.2.1), (Sl.v r8.2.2.2.2.2.2.2.2.2.2.2.2.1), (Value.int .i64 r8.2.2.2.2.2.2.2.2.2.2.2.2.2.1), (Value.int .i64 r8.2.2.2.2.2.2.2.2.2.2.2.2.2.2.1), (Value.int .i64 r8.2.2.2.2.2.2.2.2.2.2.2.2.2.2.2.1), (Value.int .i64 r8.2.2.2.2.2.2.2.2.2.2.2.2.2.2.2.2.1), (Value.bool r8.2.2.2.2.2.2.2.2.2.2.2.2.2.2.2.2.2.1), (Value.int .i64 r8.2.2.2.2.2.2.2.2.2.2.2.2.2.2.2.2.2.2.1), (Value.int .i64 r8.2.2.2.2.2.2.2.2.2.2.2.2.2.2.2.2.2.2.2.1), (Value.int .i64 r8.2.2.2.2.2.2.2.2.2.2.2.2.2.2.2.2.2.2.2.2.1), (Value.int .i64 r8.2.2.2.2.2.2.2.2.2.2.2.2.2.2.2.2.2.2.2.2.2)] 33) := ⟨_, rfl⟩
  replace h := h b9 w9 hb9 hw9
  refine wpR_val (v := (Sl.v (⟨some ⟨b9, 0, none⟩, 1, 1⟩ : Sl))) (w' := w9) rfl rfl rfl ((x_buildSlice (qs := [(0, (Value.agg #[(Value.string r8.1), (Value.int .i64 r8.2.1), (Value.int .i64 r8.2.2.1), (Value.int .i64 r8.2.2.2.1), (Value.bool r8.2.2.2.2.1), (Value.int .i64 r8.2.2.2.2.2.1), (Value.bool r8.2.2.2.2.2.2.1), (Value.bool r8.2.2.2.2.2.2.2.1), (Value.int .i64 r8.2.2.2.2.2.2.2.2.1), (Value.int .i64 r8.2.2.2.2.2.2.2.2.2.1), (Value.int .i64 r8.2.2.2.2.2.2.2.2.2.2.1), (Value.int .i64 r8.2.2.2.2.2.2.2.2.2.2.2.1), (Sl.v r8.2.2.2.2.2.2.2.2.2.2.2.2.1), (Value.int .i64 r8.2.2.2.2.2.2.2.2.2.2.2.2.2.1), (Value.int .i64 r8.2.2.2.2.2.2.2.2.2.2.2.2.2.2.1), (Value.int .i64 r8.2.2.2.2.2.2.2.2.2.2.2.2.2.2.2.1), (Value.int .i64 r8.2.2.2.2.2.2.2.2.2.2.2.2.2.2.2.2.1), (Value.bool r8.2.2.2.2.2.2.2.2.2.2.2.2.2.2.2.2.2.1), (Value.int .i64 r8.2.2.2.2.2.2.2.2.2.2.2.2.2.2.2.2.2.2.1), (Value.int .i64 r8.2.2.2.2.2.2.2.2.2.2.2.2.2.2.2.2.2.2.2.1), (Value.int .i64 r8.2.2.2.2.2.2.2.2.2.2.2.2.2.2.2.2.2.2.2.2.1), (Value.int .i64 r8.2.2.2.2.2.2.2.2.2.2.2.2.2.2.2.2.2.2.2.2.2)]))]) rfl (by rfl) (BS_22_1_0 r8.1 r8.2.1 r8.2.2.1 r8.2.2.2.1 r8.2.2.2.2.1 r8.2.2.2.2.2.1 r8.2.2.2.2.2.2.1 r8.2.2.2.2.2.2.2.1 r8.2.2.2.2.2.2.2.2.1 r8.2.2.2.2.2.2.2.2.2.1 r8.2.2.2.2.2.2.2.2.2.2.1 r8.2.2.2.2.2.2.2.2.2.2.2.1 r8.2.2.2.2.2.2.2.2.2.2.2.2.1 r8.2.2.2.2.2.2.2.2.2.2.2.2.2.1 r8.2.2.2.2.2.2.2.2.2.2.2.2.2.2.1 r8.2.2.2.2.2.2.2.2.2.2.2.2.2.2.2.1 r8.2.2.2.2.2.2.2.2.2.2.2.2.2.2.2.2.1 r8.2.2.2.2.2.2.2.2.2.2.2.2.2.2.2.2.2.1 r8.2.2.2.2.2.2.2.2.2.2.2.2.2.2.2.2.2.2.1 r8.2.2.2.2.2.2.2.2.2.2.2.2.2.2.2.2.2.2.2.1 r8.2.2.2.2.2.2.2.2.2.2.2.2.2.2.2.2.2.2.2.2.1 r8.2.2.2.2.2.2.2.2.2.2.2.2.2.2.2.2.2.2.2.2.2)).trans (by rw [← hb9, ← hw9])) ?_
  refine wpR_val (v := (Sl.v r1)) (w' := w9) rfl rfl rfl (x_move (v := (Sl.v r1)) rfl e1) ?_
  refine wpR_enter rfl rfl rfl (x_call (vs := [(Sl.v (⟨some ⟨b9, 0, none⟩, 1, 1⟩ : Sl)), (Sl.v r1), (Value.int .i64 1)]) rfl rfl (mapl_cons rfl (mapl_cons rfl (mapl_cons rfl mapl_nil))) Try.func14 NN_14 NB_14) (Calls.mono h ?_)
  rintro _ w10 ⟨r10, rfl, h⟩
  refine ⟨_, rfl, ?_⟩
  refine wpR_val (v := (Sl.v r10)) (w' := w10) rfl rfl rfl (x_assign (v := (Sl.v r10)) rfl rfl) ?_
  refine wpR_nil ?_
  refine wpC_seq ?_
  refine wpC_cut (fun ρ => ρ 1 = (Sl.v r1) ∧ ρ 2 = (Sl.v r4) ∧ ρ 3 = (Sl.v r7) ∧ ρ 4 = (Sl.v r10) ∧ True) ⟨e1, e2, e3, rfl, trivial⟩ ?_
  rintro ρ ⟨e1, e2, e3, e4, -⟩
  refine wpC_region ?_
  refine wpR_enter rfl rfl rfl (x_call (vs := [(Value.int .i64 0), (Value.int .i64 1)]) rfl rfl (mapl_cons rfl (mapl_cons rfl mapl_nil)) Try.func20 NN_20 NB_20) (Calls.mono h ?_)
  rintro _ w11 ⟨r11, rfl, h⟩
  refine ⟨_, rfl, ?_⟩
  refine wpR_enter rfl rfl rfl (x_call (vs := [(Value.int .i64 1), (Value.int .i64 0)]) rfl rfl (mapl_cons rfl (mapl_cons rfl mapl_nil)) Try.func20 NN_20 NB_20) (Calls.mono h ?_)
  rintro _ w12 ⟨r12, rfl, h⟩
  refine ⟨_, rfl, ?_⟩
  obtain ⟨b13, hb13⟩ : ∃ u, u = w12.heap.size := ⟨_, rfl⟩
  obtain ⟨w13, hw13⟩ : ∃ u, u = w12.alloc (.cells #[(Value.string r11.1), (Value.int .i64 r11.2.1), (Value.int .i64 r11.2.2.1), (Value.int .i64 r11.2.2.2.1), (Value.bool r11.2.2.2.2.1), (Value.int .i64 r11.2.2.2.2.2.1), (Value.bool r11.2.2.2.2.2.2.1), (Value.bool r11.2.2.2.2.2.2.2.1), (Value.int .i64 r11.2.2.2.2.2.2.2.2.1), (Value.int .i64 r11.2.2.2.2.2.2.2.2.2.1), (Value.int .i64 r11.2.2.2.2.2.2.2.2.2.2.1), (Value.int .i64 r11.2.2.2.2.2.2.2.2.2.2.2.1), (Sl.v r11.2.2.2.2.2.2.2.2.2.2.2.2.1), (Value.int .i64 r11.2.2.2.2.2.2.2.2.2.2.2.2.2.1), (Value.int .i64 r11.2.2.2.2.2.2.2.2.2.2.2.2.2.2.1), (Value.int .i64 r11.2.2.2.2.2.2.2.2.2.2.2.2.2.2.2.1), (Value.int .i64 r11.2.2.2.2.2.2.2.2.2.2.2.2.2.2.2.2.1), (Value.bool r11.2.2.2.2.2.2.2.2.2.2.2.2.2.2.2.2.2.1), (Value.int .i64 r11.2.2.2.2.2.2.2.2.2.2.2.2.2.2.2.2.2.2.1), (Value.int .i64 r11.2.2.2.2.2.2.2.2.2.2.2.2.2.2.2.2.2.2.2.1), (Value.int .i64 r11.2.2.2.2.2.2.2.2.2.2.2.2.2.2.2.2.2.2.2.2.1), (Value.int .i64 r11.2.2.2.2.2.2.2.2.2.2.2.2.2.2.2.2.2.2.2.2.2), (Value.string r12.1), (Value.int .i64 r12.2.1), (Value.int .i64 r12.2.2.1), (Value.int .i64 r12.2.2.2.1), (Value.bool r12.2.2.2.2.1), (Value.int .i64 r12.2.2.2.2.2.1), (Value.bool r12.2.2.2.2.2.2.1), (Value.bool r12.2.2.2.2.2.2.2.1), (Value.int .i64 r12.2.2.2.2.2.2.2.2.1), (Value.int .i64 r12.2.2.2.2.2.2.2.2.2.1), (Value.int .i64 r12.2.2.2.2.2.2.2.2.2.2.1), (Value.int .i64 r12.2.2.2.2.2.2.2.2.2.2.2.1), (Sl.v r12.2.2.2.2.2.2.2.2.2.2.2.2.1), (Value.int .i64 r12.2.2.2.2.2.2.2.2.2.2.2.2.2.1), (Value.int .i64 r12.2.2.2.2.2.2.2.2.2.2.2.2.2.2.1), (Value.int .i64 r12.2.2.2.2.2.2.2.2.2.2.2.2.2.2.2.1), (Value.int .i64 r12.2.2.2.2.2.2.2.2.2.2.2.2.2.2.2.2.1), (Value.bool r12.2.2.2.2.2.2.2.2.2.2.2.2.2.2.2.2.2.1), (Value.int .i64 r12.2.2.2.2.2.2.2.2.2.2.2.2.2.2.2.2.2.2.1), (Value.int .i64 r12.2.2.2.2.2.2.2.2.2.2.2.2.2.2.2.2.2.2.2.1), (Value.int .i64 r12.2.2.2.2.2.2.2.2.2.2.2.2.2.2.2.2.2.2.2.2.1), (Value.int .i64 r12.2.2.2.2.2.2.2.2.2.2.2.2.2.2.2.2.2.2.2.2.2)] 33) := ⟨_, rfl⟩
  replace h := h b13 w13 hb13 hw13
  refine wpR_val (v := (Sl.v (⟨some ⟨b13, 0, none⟩, 2, 2⟩ : Sl))) (w' := w13) rfl rfl rfl ((x_buildSlice (qs := [(0, (Value.agg #[(Value.string r11.1), (Value.int .i64 r11.2.1), (Value.int .i64 r11.2.2.1), (Value.int .i64 r11.2.2.2.1), (Value.bool r11.2.2.2.2.1), (Value.int .i64 r11.2.2.2.2.2.1), (Value.bool r11.2.2.2.2.2.2.1), (Value.bool r11.2.2.2.2.2.2.2.1), (Value.int .i64 r11.2.2.2.2.2.2.2.2.1), (Value.int .i64 r11.2.2.2.2.2.2.2.2.2.1), (Value.int .i64 r11.2.2.2.2.2.2.2.2.2.2.1), (Value.int .i64 r11.2.2.2.2.2.2.2.2.2.2.2.1), (Sl.v r11.2.2.2.2.2.2.2.2.2.2.2.2.1), (Value.int .i64 r11.2.2.2.2.2.2.2.2.2.2.2.2.2.1), (Value.int .i64 r11.2.2.2.2.2.2.2.2.2.2.2.2.2.2.1), (Value.int .i64 r11.2.2.2.2.2.2.2.2.2.2.2.2.2.2.2.1), (Value.int .i64 r11.2.2.2.2.2.2.2.2.2.2.2.2.2.2.2.2.1), (Value.bool r11.2.2.2.2.2.2.2.2.2.2.2.2.2.2.2.2.2.1), (Value.int .i64 r11.2.2.2.2.2.2.2.2.2.2.2.2.2.2.2.2.2.2.1), (Value.int .i64 r11.2.2.2.2.2.2.2.2.2.2.2.2.2.2.2.2.2.2.2.1), (Value.int .i64 r11.2.2.2.2.2.2.2.2.2.2.2.2.2.2.2.2.2.2.2.2.1), (Value.int .i64 r11.2.2.2.2.2.2.2.2.2.2.2.2.2.2.2.2.2.2.2.2.2)])), (1, (Value.agg #[(Value.string r12.1), (Value.int .i64 r12.2.1), (Value.int .i64 r12.2.2.1), (Value.int .i64 r12.2.2.2.1), (Value.bool r12.2.2.2.2.1), (Value.int .i64 r12.2.2.2.2.2.1), (Value.bool r12.2.2.2.2.2.2.1), (Value.bool r12.2.2.2.2.2.2.2.1), (Value.int .i64 r12.2.2.2.2.2.2.2.2.1), (Value.int .i64 r12.2.2.2.2.2.2.2.2.2.1), (Value.int .i64 r12.2.2.2.2.2.2.2.2.2.2.1), (Value.int .i64 r12.2.2.2.2.2.2.2.2.2.2.2.1), (Sl.v r12.2.2.2.2.2.2.2.2.2.2.2.2.1), (Value.int .i64 r12.2.2.2.2.2.2.2.2.2.2.2.2.2.1), (Value.int .i64 r12.2.2.2.2.2.2.2.2.2.2.2.2.2.2.1), (Value.int .i64 r12.2.2.2.2.2.2.2.2.2.2.2.2.2.2.2.1), (Value.int .i64 r12.2.2.2.2.2.2.2.2.2.2.2.2.2.2.2.2.1), (Value.bool r12.2.2.2.2.2.2.2.2.2.2.2.2.2.2.2.2.2.1), (Value.int .i64 r12.2.2.2.2.2.2.2.2.2.2.2.2.2.2.2.2.2.2.1), (Value.int .i64 r12.2.2.2.2.2.2.2.2.2.2.2.2.2.2.2.2.2.2.2.1), (Value.int .i64 r12.2.2.2.2.2.2.2.2.2.2.2.2.2.2.2.2.2.2.2.2.1), (Value.int .i64 r12.2.2.2.2.2.2.2.2.2.2.2.2.2.2.2.2.2.2.2.2.2)]))]) rfl (by rfl) (BS_22_2_0_1 r11.1 r11.2.1 r11.2.2.1 r11.2.2.2.1 r11.2.2.2.2.1 r11.2.2.2.2.2.1 r11.2.2.2.2.2.2.1 r11.2.2.2.2.2.2.2.1 r11.2.2.2.2.2.2.2.2.1 r11.2.2.2.2.2.2.2.2.2.1 r11.2.2.2.2.2.2.2.2.2.2.1 r11.2.2.2.2.2.2.2.2.2.2.2.1 r11.2.2.2.2.2.2.2.2.2.2.2.2.1 r11.2.2.2.2.2.2.2.2.2.2.2.2.2.1 r11.2.2.2.2.2.2.2.2.2.2.2.2.2.2.1 r11.2.2.2.2.2.2.2.2.2.2.2.2.2.2.2.1 r11.2.2.2.2.2.2.2.2.2.2.2.2.2.2.2.2.1 r11.2.2.2.2.2.2.2.2.2.2.2.2.2.2.2.2.2.1 r11.2.2.2.2.2.2.2.2.2.2.2.2.2.2.2.2.2.2.1 r11.2.2.2.2.2.2.2.2.2.2.2.2.2.2.2.2.2.2.2.1 r11.2.2.2.2.2.2.2.2.2.2.2.2.2.2.2.2.2.2.2.2.1 r11.2.2.2.2.2.2.2.2.2.2.2.2.2.2.2.2.2.2.2.2.2 r12.1 r12.2.1 r12.2.2.1 r12.2.2.2.1 r12.2.2.2.2.1 r12.2.2.2.2.2.1 r12.2.2.2.2.2.2.1 r12.2.2.2.2.2.2.2.1 r12.2.2.2.2.2.2.2.2.1 r12.2.2.2.2.2.2.2.2.2.1 r12.2.2.2.2.2.2.2.2.2.2.1 r12.2.2.2.2.2.2.2.2.2.2.2.1 r12.2.2.2.2.2.2.2.2.2.2.2.2.1 r12.2.2.2.2.2.2.2.2.2.2.2.2.2.1 r12.2.2.2.2.2.2.2.2.2.2.2.2.2.2.1 r12.2.2.2.2.2.2.2.2.2.2.2.2.2.2.2.1 r12.2.2.2.2.2.2.2.2.2.2.2.2.2.2.2.2.1 r12.2.2.2.2.2.2.2.2.2.2.2.2.2.2.2.2.2.1 r12.2.2.2.2.2.2.2.2.2.2.2.2.2.2.2.2.2.2.1 r12.2.2.2.2.2.2.2.2.2.2.2.2.2.2.2.2.2.2.2.1 r12.2.2.2.2.2.2.2.2.2.2.2.2.2.2.2.2.2.2.2.2.1 r12.2.2.2.2.2.2.2.2.2.2.2.2.2.2.2.2.2.2.2.2.2)).trans (by rw [← hb13, ← hw13])) ?_
  refine wpR_val (v := (Sl.v (⟨some ⟨b13, 0, none⟩, 2, 2⟩ : Sl))) (w' := w13) rfl rfl rfl (x_assign (v := (Sl.v (⟨some ⟨b13, 0, none⟩, 2, 2⟩ : Sl))) rfl rfl) ?_
  refine wpR_nil ?_
  refine wpC_seq ?_
  refine wpC_cut (fun ρ => ρ 1 = (Sl.v r1) ∧ ρ 2 = (Sl.v r4) ∧ ρ 3 = (Sl.v r7) ∧ ρ 4 = (Sl.v r10) ∧ ρ 5 = (Sl.v (⟨some ⟨b13, 0, none⟩, 2, 2⟩ : Sl)) ∧ True) ⟨e1, e2, e3, e4, rfl, trivial⟩ ?_
  rintro ρ ⟨e1, e2, e3, e4, e5, -⟩
  refine wpC_region ?_
  refine wpR_val (v := (Sl.v (⟨some ⟨b13, 0, none⟩, 2, 2⟩ : Sl))) (w' := w13) rfl rfl rfl (x_move (v := (Sl.v (⟨some ⟨b13, 0, none⟩, 2, 2⟩ : Sl))) rfl e5) ?_
  refine wpR_val (v := (Sl.v r1)) (w' := w13) rfl rfl rfl (x_move (v := (Sl.v r1)) rfl e1) ?_
  refine wpR_enter rfl rfl rfl (x_call (vs := [(Sl.v (⟨some ⟨b13, 0, none⟩, 2, 2⟩ : Sl)), (Sl.v r1), (Value.int .i64 1)]) rfl rfl (mapl_cons rfl (mapl_cons rfl (mapl_cons rfl mapl_nil))) Try.func14 NN_14 NB_14) (Calls.mono h ?_)
  rintro _ w14 ⟨r14, rfl, h⟩
  refine ⟨_, rfl, ?_⟩
  refine wpR_val (v := (Sl.v r14)) (w' := w14) rfl rfl rfl (x_assign (v := (Sl.v r14)) rfl rfl) ?_
  refine wpR_nil ?_
  refine wpC_seq ?_
  refine wpC_cut (fun ρ => ρ 1 = (Sl.v r1) ∧ ρ 2 = (Sl.v r4) ∧ ρ 3 = (Sl.v r7) ∧ ρ 4 = (Sl.v r10) ∧ ρ 5 = (Sl.v (⟨some ⟨b13, 0, none⟩, 2, 2⟩ : Sl)) ∧ ρ 6 = (Sl.v r14) ∧ True) ⟨e1, e2, e3, e4, e5, rfl, trivial⟩ ?_
  rintro ρ ⟨e1, e2, e3, e4, e5, e6, -⟩
  refine wpC_region ?_
  refine wpR_val (v := (Sl.v r4)) (w' := w14) rfl rfl rfl (x_move (v := (Sl.v r4)) rfl e2) ?_
  obtain ⟨b15, hb15⟩ : ∃ u, u = w14.heap.size := ⟨_, rfl⟩
  obtain ⟨w15, hw15⟩ : ∃ u, u = w14.alloc (.cells #[(Value.int .i64 3)] 3) := ⟨_, rfl⟩
  replace h := h b15 w15 hb15 hw15
  refine wpR_val (v := (Sl.v (⟨some ⟨b15, 0, none⟩, 1, 1⟩ : Sl))) (w' := w15) rfl rfl rfl ((x_buildSlice (qs := [(0, (Value.int .i64 3))]) rfl (by rfl) (BS_28_1_0 3)).trans (by rw [← hb15, ← hw15])) ?_
  refine wpR_enter rfl rfl rfl (x_call (vs := [(Sl.v r4), (Sl.v (⟨some ⟨b15, 0, none⟩, 1, 1⟩ : Sl))]) rfl rfl (mapl_cons rfl (mapl_cons rfl mapl_nil)) Try.func13 NN_13 NB_13) (Calls.mono h ?_)
  rintro _ w16 ⟨r16, rfl, h⟩
  refine ⟨_, rfl, ?_⟩
  refine wpR_val (v := (Value.bool r16)) (w' := w16) rfl rfl rfl (x_move (v := (Value.bool r16)) rfl rfl) ?_
  obtain ⟨J17, h, hk⟩ := h
  refine wpR_joinJ 4 (fun x ρ => ρ 34 = Value.bool x ∧ ρ 1 = (Sl.v r1) ∧ ρ 4 = (Sl.v r10) ∧ ρ 5 = (Sl.v (⟨some ⟨b13, 0, none⟩, 2, 2⟩ : Sl)) ∧ ρ 6 = (Sl.v r14) ∧ True) (J17) ?_ ?_
  · clear hk
    rcases Bool.eq_false_or_eq_true (r16) with hc18 | hc18
    · replace h := h.1 hc18
      refine wpR_val (v := (Sl.v r7)) (w' := w16) (wantG rfl rfl rfl hc18) rfl rfl (x_move (v := (Sl.v r7)) rfl e3) ?_
      obtain ⟨b19, hb19⟩ : ∃ u, u = w16.heap.size := ⟨_, rfl⟩
      obtain ⟨w17, hw19⟩ : ∃ u, u = w16.alloc (.cells #[(Value.int .i64 0), (Value.int .i64 1), (Value.int .i64 2), (Value.int .i64 3)] 3) := ⟨_, rfl⟩
      replace h := h b19 w17 hb19 hw19
      refine wpR_val (v := (Sl.v (⟨some ⟨b19, 0, none⟩, 4, 4⟩ : Sl))) (w' := w17) (wantG rfl rfl rfl hc18) rfl rfl ((x_buildSlice (qs := [(0, (Value.int .i64 0)), (1, (Value.int .i64 1)), (2, (Value.int .i64 2)), (3, (Value.int .i64 3))]) rfl (by rfl) (BS_28_4_0_1_2_3 0 1 2 3)).trans (by rw [← hb19, ← hw19])) ?_
      refine wpR_enter (wantG rfl rfl rfl hc18) rfl rfl (x_call (vs := [(Sl.v r7), (Sl.v (⟨some ⟨b19, 0, none⟩, 4, 4⟩ : Sl))]) rfl rfl (mapl_cons rfl (mapl_cons rfl mapl_nil)) Try.func13 NN_13 NB_13) (Calls.mono h ?_)
      rintro _ w18 ⟨r20, rfl, h⟩
      refine ⟨_, rfl, ?_⟩
      refine wpR_val (v := (Value.bool r20)) (w' := w18) rfl rfl rfl (x_pickT (v := (Value.bool r20)) rfl rfl hc18 rfl) ?_
      refine wpR_nil ?_
      exact ⟨r20, ⟨rfl, e1, e4, e5, e6, trivial⟩, h⟩
    · replace h := h.2 hc18
      refine wpR_pass (wantN rfl rfl rfl hc18) rfl rfl ?_
      refine wpR_pass (wantN rfl rfl rfl hc18) rfl rfl ?_
      refine wpR_pass (wantN rfl rfl rfl hc18) rfl rfl ?_
      refine wpR_val (v := (Value.bool false)) (w' := w16) rfl rfl rfl (x_pickF (v := (Value.bool false)) rfl rfl hc18 rfl) ?_
      refine wpR_nil ?_
      exact ⟨false, ⟨rfl, e1, e4, e5, e6, trivial⟩, h⟩
  clear h
  rintro c21 ρ w19 ⟨e34, e1, e4, e5, e6, -⟩ h
  replace h := hk c21 w19 h
  clear hk
  refine wpR_val (v := (Value.bool c21)) (w' := w19) rfl rfl rfl (x_move (v := (Value.bool c21)) rfl e34) ?_
  obtain ⟨J22, h, hk⟩ := h
  refine wpR_joinJ 4 (fun x ρ => ρ 39 = Value.bool x ∧ ρ 1 = (Sl.v r1) ∧ ρ 5 = (Sl.v (⟨some ⟨b13, 0, none⟩, 2, 2⟩ : Sl)) ∧ ρ 6 = (Sl.v r14) ∧ True) (J22) ?_ ?_
  · clear hk
    rcases Bool.eq_false_or_eq_true (c21) with hc23 | hc23
    · replace h := h.1 hc23
      refine wpR_val (v := (Sl.v r10)) (w' := w19) (wantG rfl rfl rfl hc23) rfl rfl (x_move (v := (Sl.v r10)) rfl e4) ?_
      obtain ⟨b24, hb24⟩ : ∃ u, u = w19.heap.size := ⟨_, rfl⟩
      obtain ⟨w20, hw24⟩ : ∃ u, u = w19.alloc (.cells #[(Value.int .i64 0), (Value.int .i64 1), (Value.int .i64 2), (Value.int .i64 3), (Value.int .i64 4), (Value.int .i64 5)] 3) := ⟨_, rfl⟩
      replace h := h b24 w20 hb24 hw24
      refine wpR_val (v := (Sl.v (⟨some ⟨b24, 0, none⟩, 6, 6⟩ : Sl))) (w' := w20) (wantG rfl rfl rfl hc23) rfl rfl ((x_buildSlice (qs := [(0, (Value.int .i64 0)), (1, (Value.int .i64 1)), (2, (Value.int .i64 2)), (3, (Value.int .i64 3)), (4, (Value.int .i64 4)), (5, (Value.int .i64 5))]) rfl (by rfl) (BS_28_6_0_1_2_3_4_5 0 1 2 3 4 5)).trans (by rw [← hb24, ← hw24])) ?_
      refine wpR_enter (wantG rfl rfl rfl hc23) rfl rfl (x_call (vs := [(Sl.v r10), (Sl.v (⟨some ⟨b24, 0, none⟩, 6, 6⟩ : Sl))]) rfl rfl (mapl_cons rfl (mapl_cons rfl mapl_nil)) Try.func13 NN_13 NB_13) (Calls.mono h ?_)
      rintro _ w21 ⟨r25, rfl, h⟩
      refine ⟨_, rfl, ?_⟩
      refine wpR_val (v := (Value.bool r25)) (w' := w21) rfl rfl rfl (x_pickT (v := (Value.bool r25)) rfl rfl hc23 rfl) ?_
      refine wpR_nil ?_
      exact ⟨r25, ⟨rfl, e1, e5, e6, trivial⟩, h⟩
    · replace h := h.2 hc23
      refine wpR_pass (wantN rfl rfl rfl hc23) rfl rfl ?_
      refine wpR_pass (wantN rfl rfl rfl hc23) rfl rfl ?_
      refine wpR_pass (wantN rfl rfl rfl hc23) rfl rfl ?_
      refine wpR_val (v := (Value.bool false)) (w' := w19) rfl rfl rfl (x_pickF (v := (Value.bool false)) rfl rfl hc23 rfl) ?_
      refine wpR_nil ?_
      exact ⟨false, ⟨rfl, e1, e5, e6, trivial⟩, h⟩
  clear h
  rintro c26 ρ w22 ⟨e39, e1, e5, e6, -⟩ h
  replace h := hk c26 w22 h
  clear hk
  refine wpR_val (v := (Value.bool c26)) (w' := w22) rfl rfl rfl (x_move (v := (Value.bool c26)) rfl e39) ?_
  obtain ⟨J27, h, hk⟩ := h
  refine wpR_joinJ 4 (fun x ρ => ρ 44 = Value.bool x ∧ ρ 1 = (Sl.v r1) ∧ ρ 5 = (Sl.v (⟨some ⟨b13, 0, none⟩, 2, 2⟩ : Sl)) ∧ True) (J27) ?_ ?_
  · clear hk
    rcases Bool.eq_false_or_eq_true (c26) with hc28 | hc28
    · replace h := h.1 hc28
      refine wpR_val (v := (Sl.v r14)) (w' := w22) (wantG rfl rfl rfl hc28) rfl rfl (x_move (v := (Sl.v r14)) rfl e6) ?_
      obtain ⟨b29, hb29⟩ : ∃ u, u = w22.heap.size := ⟨_, rfl⟩
      obtain ⟨w23, hw29⟩ : ∃ u, u = w22.alloc (.cells #[(Value.int .i64 3)] 3) := ⟨_, rfl⟩
      replace h := h b29 w23 hb29 hw29
      refine wpR_val (v := (Sl.v (⟨some ⟨b29, 0, none⟩, 1, 1⟩ : Sl))) (w' := w23) (wantG rfl rfl rfl hc28) rfl rfl ((x_buildSlice (qs := [(0, (Value.int .i64 3))]) rfl (by rfl) (BS_28_1_0 3)).trans (by rw [← hb29, ← hw29])) ?_
      refine wpR_enter (wantG rfl rfl rfl hc28) rfl rfl (x_call (vs := [(Sl.v r14), (Sl.v (⟨some ⟨b29, 0, none⟩, 1, 1⟩ : Sl))]) rfl rfl (mapl_cons rfl (mapl_cons rfl mapl_nil)) Try.func13 NN_13 NB_13) (Calls.mono h ?_)
      rintro _ w24 ⟨r30, rfl, h⟩
      refine ⟨_, rfl, ?_⟩
      refine wpR_val (v := (Value.bool r30)) (w' := w24) rfl rfl rfl (x_pickT (v := (Value.bool r30)) rfl rfl hc28 rfl) ?_
      refine wpR_nil ?_
      exact ⟨r30, ⟨rfl, e1, e5, trivial⟩, h⟩
    · replace h := h.2 hc28
      refine wpR_pass (wantN rfl rfl rfl hc28) rfl rfl ?_
      refine wpR_pass (wantN rfl rfl rfl hc28) rfl rfl ?_
      refine wpR_pass (wantN rfl rfl rfl hc28) rfl rfl ?_
      refine wpR_val (v := (Value.bool false)) (w' := w22) rfl rfl rfl (x_pickF (v := (Value.bool false)) rfl rfl hc28 rfl) ?_
      refine wpR_nil ?_
      exact ⟨false, ⟨rfl, e1, e5, trivial⟩, h⟩
  clear h
  rintro c31 ρ w25 ⟨e44, e1, e5, -⟩ h
  replace h := hk c31 w25 h
  clear hk
  refine wpR_val (v := (Value.bool c31)) (w' := w25) rfl rfl rfl (x_assign (v := (Value.bool c31)) rfl e44) ?_
  refine wpR_nil ?_
  refine wpC_seq ?_
  refine wpC_cut (fun ρ => ρ 1 = (Sl.v r1) ∧ ρ 5 = (Sl.v (⟨some ⟨b13, 0, none⟩, 2, 2⟩ : Sl)) ∧ ρ 7 = (Value.bool c31) ∧ True) ⟨e1, e5, rfl, trivial⟩ ?_
  rintro ρ ⟨e1, e5, e7, -⟩
  refine wpC_region ?_
  refine wpR_val (v := (Value.bool c31)) (w' := w25) rfl rfl rfl (x_move (v := (Value.bool c31)) rfl e7) ?_
  refine wpR_val (v := (Value.bool c31)) (w' := w25) rfl rfl rfl (x_move (v := (Value.bool c31)) rfl rfl) ?_
  obtain ⟨J32, h, hk⟩ := h
  refine wpR_joinJ 4 (fun x ρ => ρ 50 = Value.bool x ∧ ρ 1 = (Sl.v r1) ∧ ρ 5 = (Sl.v (⟨some ⟨b13, 0, none⟩, 2, 2⟩ : Sl)) ∧ True) (J32) ?_ ?_
  · clear hk
    rcases Bool.eq_false_or_eq_true (c31) with hc33 | hc33
    · replace h := h.1 hc33
      refine wpR_val (v := (Sl.v (⟨some ⟨b13, 0, none⟩, 2, 2⟩ : Sl))) (w' := w25) (wantG rfl rfl rfl hc33) rfl rfl (x_move (v := (Sl.v (⟨some ⟨b13, 0, none⟩, 2, 2⟩ : Sl))) rfl e5) ?_
      refine wpR_val (v := (Sl.v r1)) (w' := w25) (wantG rfl rfl rfl hc33) rfl rfl (x_move (v := (Sl.v r1)) rfl e1) ?_
      refine wpR_enter (wantG rfl rfl rfl hc33) rfl rfl (x_call (vs := [(Sl.v (⟨some ⟨b13, 0, none⟩, 2, 2⟩ : Sl)), (Sl.v r1), (Value.int .i64 1), (Value.int .i64 3)]) rfl rfl (mapl_cons rfl (mapl_cons rfl (mapl_cons rfl (mapl_cons rfl mapl_nil)))) Try.func9 NN_9 NB_9) (Calls.mono h ?_)
      rintro _ w26 ⟨r34, rfl, h⟩
      refine ⟨_, rfl, ?_⟩
      refine wpR_val (v := (Value.bool r34)) (w' := w26) rfl rfl rfl (x_pickT (v := (Value.bool r34)) rfl rfl hc33 rfl) ?_
      refine wpR_nil ?_
      exact ⟨r34, ⟨rfl, e1, e5, trivial⟩, h⟩
    · replace h := h.2 hc33
      refine wpR_pass (wantN rfl rfl rfl hc33) rfl rfl ?_
      refine wpR_pass (wantN rfl rfl rfl hc33) rfl rfl ?_
      refine wpR_pass (wantN rfl rfl rfl hc33) rfl rfl ?_
      refine wpR_val (v := (Value.bool false)) (w' := w25) rfl rfl rfl (x_pickF (v := (Value.bool false)) rfl rfl hc33 rfl) ?_
      refine wpR_nil ?_
      exact ⟨false, ⟨rfl, e1, e5, trivial⟩, h⟩
  clear h
  rintro c35 ρ w27 ⟨e50, e1, e5, -⟩ h
  replace h := hk c35 w27 h
  clear hk
  refine wpR_val (v := (Value.bool c35)) (w' := w27) rfl rfl rfl (x_move (v := (Value.bool c35)) rfl e50) ?_
  obtain ⟨J36, h, hk⟩ := h
  refine wpR_joinJ 5 (fun x ρ => ρ 56 = Value.bool x ∧ ρ 1 = (Sl.v r1) ∧ ρ 5 = (Sl.v (⟨some ⟨b13, 0, none⟩, 2, 2⟩ : Sl)) ∧ True) (J36) ?_ ?_
  · clear hk
    rcases Bool.eq_false_or_eq_true (c35) with hc37 | hc37
    · replace h := h.1 hc37
      refine wpR_val (v := (Sl.v (⟨some ⟨b13, 0, none⟩, 2, 2⟩ : Sl))) (w' := w27) (wantG rfl rfl rfl hc37) rfl rfl (x_move (v := (Sl.v (⟨some ⟨b13, 0, none⟩, 2, 2⟩ : Sl))) rfl e5) ?_
      refine wpR_val (v := (Sl.v r1)) (w' := w27) (wantG rfl rfl rfl hc37) rfl rfl (x_move (v := (Sl.v r1)) rfl e1) ?_
      refine wpR_enter (wantG rfl rfl rfl hc37) rfl rfl (x_call (vs := [(Sl.v (⟨some ⟨b13, 0, none⟩, 2, 2⟩ : Sl)), (Sl.v r1), (Value.int .i64 1), (Value.int .i64 5)]) rfl rfl (mapl_cons rfl (mapl_cons rfl (mapl_cons rfl (mapl_cons rfl mapl_nil)))) Try.func9 NN_9 NB_9) (Calls.mono h ?_)
      rintro _ w28 ⟨r38, rfl, h⟩
      refine ⟨_, rfl, ?_⟩
      refine wpR_val (v := (Value.bool (!r38))) (w' := w28) (wantG rfl rfl rfl hc37) rfl rfl (x_not rfl rfl) ?_
      refine wpR_val (v := (Value.bool (!r38))) (w' := w28) rfl rfl rfl (x_pickT (v := (Value.bool (!r38))) rfl rfl hc37 rfl) ?_
      refine wpR_nil ?_
      exact ⟨!r38, ⟨rfl, e1, e5, trivial⟩, h⟩
    · replace h := h.2 hc37
      refine wpR_pass (wantN rfl rfl rfl hc37) rfl rfl ?_
      refine wpR_pass (wantN rfl rfl rfl hc37) rfl rfl ?_
      refine wpR_pass (wantN rfl rfl rfl hc37) rfl rfl ?_
      refine wpR_pass (wantN rfl rfl rfl hc37) rfl rfl ?_
      refine wpR_val (v := (Value.bool false)) (w' := w27) rfl rfl rfl (x_pickF (v := (Value.bool false)) rfl rfl hc37 rfl) ?_
      refine wpR_nil ?_
      exact ⟨false, ⟨rfl, e1, e5, trivial⟩, h⟩
  clear h
  rintro c39 ρ w29 ⟨e56, e1, e5, -⟩ h
  replace h := hk c39 w29 h
  clear hk
  refine wpR_val (v := (Value.bool c39)) (w' := w29) rfl rfl rfl (x_move (v := (Value.bool c39)) rfl e56) ?_
  obtain ⟨J40, h, hk⟩ := h
  refine wpR_joinJ 4 (fun x ρ => ρ 61 = Value.bool x ∧ ρ 1 = (Sl.v r1) ∧ ρ 5 = (Sl.v (⟨some ⟨b13, 0, none⟩, 2, 2⟩ : Sl)) ∧ True) (J40) ?_ ?_
  · clear hk
    rcases Bool.eq_false_or_eq_true (c39) with hc41 | hc41
    · replace h := h.1 hc41
      refine wpR_val (v := (Sl.v (⟨some ⟨b13, 0, none⟩, 2, 2⟩ : Sl))) (w' := w29) (wantG rfl rfl rfl hc41) rfl rfl (x_move (v := (Sl.v (⟨some ⟨b13, 0, none⟩, 2, 2⟩ : Sl))) rfl e5) ?_
      refine wpR_val (v := (Sl.v r1)) (w' := w29) (wantG rfl rfl rfl hc41) rfl rfl (x_move (v := (Sl.v r1)) rfl e1) ?_
      refine wpR_enter (wantG rfl rfl rfl hc41) rfl rfl (x_call (vs := [(Sl.v (⟨some ⟨b13, 0, none⟩, 2, 2⟩ : Sl)), (Sl.v r1), (Value.int .i64 0), (Value.int .i64 7)]) rfl rfl (mapl_cons rfl (mapl_cons rfl (mapl_cons rfl (mapl_cons rfl mapl_nil)))) Try.func9 NN_9 NB_9) (Calls.mono h ?_)
      rintro _ w30 ⟨r42, rfl, h⟩
      refine ⟨_, rfl, ?_⟩
      refine wpR_val (v := (Value.bool r42)) (w' := w30) rfl rfl rfl (x_pickT (v := (Value.bool r42)) rfl rfl hc41 rfl) ?_
      refine wpR_nil ?_
      exact ⟨r42, ⟨rfl, e1, e5, trivial⟩, h⟩
    · replace h := h.2 hc41
      refine wpR_pass (wantN rfl rfl rfl hc41) rfl rfl ?_
      refine wpR_pass (wantN rfl rfl rfl hc41) rfl rfl ?_
      refine wpR_pass (wantN rfl rfl rfl hc41) rfl rfl ?_
      refine wpR_val (v := (Value.bool false)) (w' := w29) rfl rfl rfl (x_pickF (v := (Value.bool false)) rfl rfl hc41 rfl) ?_
      refine wpR_nil ?_
      exact ⟨false, ⟨rfl, e1, e5, trivial⟩, h⟩
  clear h
  rintro c43 ρ w31 ⟨e61, e1, e5, -⟩ h
  replace h := hk c43 w31 h
  clear hk
  refine wpR_val (v := (Value.bool c43)) (w' := w31) rfl rfl rfl (x_move (v := (Value.bool c43)) rfl e61) ?_
  obtain ⟨J44, h, hk⟩ := h
  refine wpR_joinJ 4 (fun x ρ => ρ 66 = Value.bool x ∧ ρ 1 = (Sl.v r1) ∧ ρ 5 = (Sl.v (⟨some ⟨b13, 0, none⟩, 2, 2⟩ : Sl)) ∧ True) (J44) ?_ ?_
  · clear hk
    rcases Bool.eq_false_or_eq_true (c43) with hc45 | hc45
    · replace h := h.1 hc45
      refine wpR_val (v := (Sl.v (⟨some ⟨b13, 0, none⟩, 2, 2⟩ : Sl))) (w' := w31) (wantG rfl rfl rfl hc45) rfl rfl (x_move (v := (Sl.v (⟨some ⟨b13, 0, none⟩, 2, 2⟩ : Sl))) rfl e5) ?_
      refine wpR_val (v := (Sl.v r1)) (w' := w31) (wantG rfl rfl rfl hc45) rfl rfl (x_move (v := (Sl.v r1)) rfl e1) ?_
      refine wpR_enter (wantG rfl rfl rfl hc45) rfl rfl (x_call (vs := [(Sl.v (⟨some ⟨b13, 0, none⟩, 2, 2⟩ : Sl)), (Sl.v r1), (Value.int .i64 0), (Value.int .i64 7)]) rfl rfl (mapl_cons rfl (mapl_cons rfl (mapl_cons rfl (mapl_cons rfl mapl_nil)))) Try.func11 NN_11 NB_11) (Calls.mono h ?_)
      rintro _ w32 ⟨r46, rfl, h⟩
      refine ⟨_, rfl, ?_⟩
      refine wpR_val (v := (Value.bool r46)) (w' := w32) rfl rfl rfl (x_pickT (v := (Value.bool r46)) rfl rfl hc45 rfl) ?_
      refine wpR_nil ?_
      exact ⟨r46, ⟨rfl, e1, e5, trivial⟩, h⟩
    · replace h := h.2 hc45
      refine wpR_pass (wantN rfl rfl rfl hc45) rfl rfl ?_
      refine wpR_pass (wantN rfl rfl rfl hc45) rfl rfl ?_
      refine wpR_pass (wantN rfl rfl rfl hc45) rfl rfl ?_
      refine wpR_val (v := (Value.bool false)) (w' := w31) rfl rfl rfl (x_pickF (v := (Value.bool false)) rfl rfl hc45 rfl) ?_
      refine wpR_nil ?_
      exact ⟨false, ⟨rfl, e1, e5, trivial⟩, h⟩
  clear h
  rintro c47 ρ w33 ⟨e66, e1, e5, -⟩ h
  replace h := hk c47 w33 h
  clear hk
  refine wpR_val (v := (Value.bool c47)) (w' := w33) rfl rfl rfl (x_move (v := (Value.bool c47)) rfl e66) ?_
  obtain ⟨J48, h, hk⟩ := h
  refine wpR_joinJ 5 (fun x ρ => ρ 72 = Value.bool x ∧ ρ 1 = (Sl.v r1) ∧ ρ 5 = (Sl.v (⟨some ⟨b13, 0, none⟩, 2, 2⟩ : Sl)) ∧ True) (J48) ?_ ?_
  · clear hk
    rcases Bool.eq_false_or_eq_true (c47) with hc49 | hc49
    · replace h := h.1 hc49
      refine wpR_val (v := (Sl.v (⟨some ⟨b13, 0, none⟩, 2, 2⟩ : Sl))) (w' := w33) (wantG rfl rfl rfl hc49) rfl rfl (x_move (v := (Sl.v (⟨some ⟨b13, 0, none⟩, 2, 2⟩ : Sl))) rfl e5) ?_
      refine wpR_val (v := (Sl.v r1)) (w' := w33) (wantG rfl rfl rfl hc49) rfl rfl (x_move (v := (Sl.v r1)) rfl e1) ?_
      refine wpR_enter (wantG rfl rfl rfl hc49) rfl rfl (x_call (vs := [(Sl.v (⟨some ⟨b13, 0, none⟩, 2, 2⟩ : Sl)), (Sl.v r1), (Value.int .i64 1), (Value.int .i64 7)]) rfl rfl (mapl_cons rfl (mapl_cons rfl (mapl_cons rfl (mapl_cons rfl mapl_nil)))) Try.func11 NN_11 NB_11) (Calls.mono h ?_)
      rintro _ w34 ⟨r50, rfl, h⟩
      refine ⟨_, rfl, ?_⟩
      refine wpR_val (v := (Value.bool (!r50))) (w' := w34) (wantG rfl rfl rfl hc49) rfl rfl (x_not rfl rfl) ?_
      refine wpR_val (v := (Value.bool (!r50))) (w' := w34) rfl rfl rfl (x_pickT (v := (Value.bool (!r50))) rfl rfl hc49 rfl) ?_
      refine wpR_nil ?_
      exact ⟨!r50, ⟨rfl, e1, e5, trivial⟩, h⟩
    · replace h := h.2 hc49
      refine wpR_pass (wantN rfl rfl rfl hc49) rfl rfl ?_
      refine wpR_pass (wantN rfl rfl rfl hc49) rfl rfl ?_
      refine wpR_pass (wantN rfl rfl rfl hc49) rfl rfl ?_
      refine wpR_pass (wantN rfl rfl rfl hc49) rfl rfl ?_
      refine wpR_val (v := (Value.bool false)) (w' := w33) rfl rfl rfl (x_pickF (v := (Value.bool false)) rfl rfl hc49 rfl) ?_
      refine wpR_nil ?_
      exact ⟨false, ⟨rfl, e1, e5, trivial⟩, h⟩
  clear h
  rintro c51 ρ w35 ⟨e72, e1, e5, -⟩ h
  replace h := hk c51 w35 h
  clear hk
  refine wpR_val (v := (Value.bool c51)) (w' := w35) rfl rfl rfl (x_move (v := (Value.bool c51)) rfl e72) ?_
  obtain ⟨J52, h, hk⟩ := h
  refine wpR_joinJ 5 (fun x ρ => ρ 78 = Value.bool x ∧ True) (J52) ?_ ?_
  · clear hk
    rcases Bool.eq_false_or_eq_true (c51) with hc53 | hc53
    · replace h := h.1 hc53
      refine wpR_val (v := (Sl.v (⟨some ⟨b13, 0, none⟩, 2, 2⟩ : Sl))) (w' := w35) (wantG rfl rfl rfl hc53) rfl rfl (x_move (v := (Sl.v (⟨some ⟨b13, 0, none⟩, 2, 2⟩ : Sl))) rfl e5) ?_
      refine wpR_val (v := (Sl.v r1)) (w' := w35) (wantG rfl rfl rfl hc53) rfl rfl (x_move (v := (Sl.v r1)) rfl e1) ?_
      refine wpR_enter (wantG rfl rfl rfl hc53) rfl rfl (x_call (vs := [(Sl.v (⟨some ⟨b13, 0, none⟩, 2, 2⟩ : Sl)), (Sl.v r1), (Value.int .i64 2), (Value.int .i64 3)]) rfl rfl (mapl_cons rfl (mapl_cons rfl (mapl_cons rfl (mapl_cons rfl mapl_nil)))) Try.func11 NN_11 NB_11) (Calls.mono h ?_)
      rintro _ w36 ⟨r54, rfl, h⟩
      refine ⟨_, rfl, ?_⟩
      refine wpR_val (v := (Value.bool (!r54))) (w' := w36) (wantG rfl rfl rfl hc53) rfl rfl (x_not rfl rfl) ?_
      refine wpR_val (v := (Value.bool (!r54))) (w' := w36) rfl rfl rfl (x_pickT (v := (Value.bool (!r54))) rfl rfl hc53 rfl) ?_
      refine wpR_nil ?_
      exact ⟨!r54, ⟨rfl, trivial⟩, h⟩
    · replace h := h.2 hc53
      refine wpR_pass (wantN rfl rfl rfl hc53) rfl rfl ?_
      refine wpR_pass (wantN rfl rfl rfl hc53) rfl rfl ?_
      refine wpR_pass (wantN rfl rfl rfl hc53) rfl rfl ?_
      refine wpR_pass (wantN rfl rfl rfl hc53) rfl rfl ?_
      refine wpR_val (v := (Value.bool false)) (w' := w35) rfl rfl rfl (x_pickF (v := (Value.bool false)) rfl rfl hc53 rfl) ?_
      refine wpR_nil ?_
      exact ⟨false, ⟨rfl, trivial⟩, h⟩
  clear h
  rintro c55 ρ w37 ⟨e78, -⟩ h
  replace h := hk c55 w37 h
  clear hk
  refine wpR_val (v := (Value.bool c55)) (w' := w37) rfl rfl rfl (x_assign (v := (Value.bool c55)) rfl e78) ?_
  refine wpR_nil ?_
  refine wpC_ret ?_
  exact ⟨.inl rfl, fun a ha => ⟨_, results_rep1 rfl ha rfl, c55, rfl, h⟩⟩

/-- linguaref18.Few -/
def F8 (p0 : Sl) (p1 : Sl) (p2 : Int) (w0 : World) (K : Bool → World → Prop) : Prop :=
  jn (fun J1 => cnd (decide ((p0.len : Int) ≤ 4))
    (
    callC Try.prog 21 #[(Sl.v p1), (Value.int .i64 p2)] (fun (r : Bool) => (Value.bool r)) w0 fun r3 w1 =>
    J1 r3 w1
    )
    (
    J1 false w0
    ))
  fun c4 w2 =>
  K c4 w2
set_option maxRecDepth 100000 in
theorem D8 (p0 : Sl) (p1 : Sl) (p2 : Int) (w0 : World) (K : Bool → World → Prop) (h : F8 p0 p1 p2 w0 K) : callC Try.prog 8 #[(Sl.v p0), (Sl.v p1), (Value.int .i64 p2)] (fun (r : Bool) => (Value.bool r)) w0 K := by
  unfold F8 at h
  refine calls_of_wpC Try.func8 rfl 15 rfl (by simp) ?_
  intro ρ hρ
  have e0 : ρ 0 = (Sl.v p0) := hρ 0
  have e1 : ρ 1 = (Sl.v p1) := hρ 1
  have e2 : ρ 2 = (Value.int .i64 p2) := hρ 2
  clear hρ
  refine wpC_seq ?_
  refine wpC_region ?_
  refine wpR_val (v := (Value.bool false)) (w' := w0) rfl rfl rfl (x_assign (v := (Value.bool false)) rfl rfl) ?_
  refine wpR_nil ?_
  refine wpC_seq ?_
  refine wpC_cut (fun ρ => ρ 0 = (Sl.v p0) ∧ ρ 1 = (Sl.v p1) ∧ ρ 2 = (Value.int .i64 p2) ∧ True) ⟨e0, e1, e2, trivial⟩ ?_
  rintro ρ ⟨e0, e1, e2, -⟩
  refine wpC_region ?_
  refine wpR_val (v := (Sl.v p0)) (w' := w0) rfl rfl rfl (x_move (v := (Sl.v p0)) rfl e0) ?_
  refine wpR_val (v := (Value.int .i64 (p0.len : Int))) (w' := w0) rfl rfl rfl (x_lenS (s := p0) rfl rfl isSliceT_22) ?_
  refine wpR_val (v := (Value.bool (decide ((p0.len : Int) ≤ 4)))) (w' := w0) rfl rfl rfl (x_leq rfl rfl rfl) ?_
  refine wpR_val (v := (Value.bool (decide ((p0.len : Int) ≤ 4)))) (w' := w0) rfl rfl rfl (x_move (v := (Value.bool (decide ((p0.len : Int) ≤ 4)))) rfl rfl) ?_
  obtain ⟨J1, h, hk⟩ := h
  refine wpR_joinJ 4 (fun x ρ => ρ 14 = Value.bool x ∧ True) (J1) ?_ ?_
  · clear hk
    rcases Bool.eq_false_or_eq_true (decide ((p0.len : Int) ≤ 4)) with hc2 | hc2
    · replace h := h.1 hc2
      refine wpR_val (v := (Sl.v p1)) (w' := w0) (wantG rfl rfl rfl hc2) rfl rfl (x_move (v := (Sl.v p1)) rfl e1) ?_
      refine wpR_val (v := (Value.int .i64 p2)) (w' := w0) (wantG rfl rfl rfl hc2) rfl rfl (x_move (v := (Value.int .i64 p2)) rfl e2) ?_
      refine wpR_enter (wantG rfl rfl rfl hc2) rfl rfl (x_call (vs := [(Sl.v p1), (Value.int .i64 p2)]) rfl rfl (mapl_cons rfl (mapl_cons rfl mapl_nil)) Try.func21 NN_21 NB_21) (Calls.mono h ?_)
      rintro _ w1 ⟨r3, rfl, h⟩
      refine ⟨_, rfl, ?_⟩
      refine wpR_val (v := (Value.bool r3)) (w' := w1) rfl rfl rfl (x_pickT (v := (Value.bool r3)) rfl rfl hc2 rfl) ?_
      refine wpR_nil ?_
      exact ⟨r3, ⟨rfl, trivial⟩, h⟩
    · replace h := h.2 hc2
      refine wpR_pass (wantN rfl rfl rfl hc2) rfl rfl ?_
      refine wpR_pass (wantN rfl rfl rfl hc2) rfl rfl ?_
      refine wpR_pass (wantN rfl rfl rfl hc2) rfl rfl ?_
      refine wpR_val (v := (Value.bool false)) (w' := w0) rfl rfl rfl (x_pickF (v := (Value.bool false)) rfl rfl hc2 rfl) ?_
      refine wpR_nil ?_
      exact ⟨false, ⟨rfl, trivial⟩, h⟩
  clear h
  rintro c4 ρ w2 ⟨e14, -⟩ h
  replace h := hk c4 w2 h
  clear hk
  refine wpR_val (v := (Value.bool c4)) (w' := w2) rfl rfl rfl (x_assign (v := (Value.bool c4)) rfl e14) ?_
  refine wpR_nil ?_
  refine wpC_ret ?_
  exact ⟨.inl rfl, fun a ha => ⟨_, results_rep1 rfl ha rfl, c4, rfl, h⟩⟩

/-- sight.Sees -/
def F9 (p0 : Sl) (p1 : Sl) (p2 : Int) (p3 : Int) (w0 : World) (K : Bool → World → Prop) : Prop :=
  callC Try.prog 18 #[(Value.int .i64 p2)] (fun (r : Int) => (Value.int .i64 r)) w0 fun r1 w1 =>
  cnd (((decide (r1 < 0)) || (decide (p3 < 0))) || (decide ((p1.len : Int) ≤ p3)))
    (
    K false w1
    )
    (
    callC Try.prog 17 #[(Sl.v p1)] (fun (r : Sl) => (Sl.v r)) w1 fun r7 w2 =>
    callC Try.prog 22 #[(Sl.v p0), (Sl.v p1), (Sl.v r7), (Value.int .i64 p2), (Value.int .i64 p3)] (fun (r : Bool) => (Value.bool r)) w2 fun r8 w3 =>
    K r8 w3
    )
set_option maxRecDepth 100000 in
theorem D9 (p0 : Sl) (p1 : Sl) (p2 : Int) (p3 : Int) (w0 : World) (K : Bool → World → Prop) (h : F9 p0 p1 p2 p3 w0 K) : callC Try.prog 9 #[(Sl.v p0), (Sl.v p1), (Value.int .i64 p2), (Value.int .i64 p3)] (fun (r : Bool) => (Value.bool r)) w0 K := by
  unfold F9 at h
  refine calls_of_wpC Try.func9 rfl 29 rfl (by simp) ?_
  intro ρ hρ
  have e0 : ρ 0 = (Sl.v p0) := hρ 0
  have e1 : ρ 1 = (Sl.v p1) := hρ 1
  have e2 : ρ 2 = (Value.int .i64 p2) := hρ 2
  have e3 : ρ 3 = (Value.int .i64 p3) := hρ 3
  clear hρ
  refine wpC_seq ?_
  refine wpC_region ?_
  refine wpR_val (v := (Value.bool false)) (w' := w0) rfl rfl rfl (x_assign (v := (Value.bool false)) rfl rfl) ?_
  refine wpR_nil ?_
  refine wpC_seq ?_
  refine wpC_seq ?_
  refine wpC_cut (fun ρ => ρ 0 = (Sl.v p0) ∧ ρ 1 = (Sl.v p1) ∧ ρ 2 = (Value.int .i64 p2) ∧ ρ 3 = (Value.int .i64 p3) ∧ True) ⟨e0, e1, e2, e3, trivial⟩ ?_
  rintro ρ ⟨e0, e1, e2, e3, -⟩
  refine wpC_region ?_
  refine wpR_val (v := (Value.int .i64 p2)) (w' := w0) rfl rfl rfl (x_move (v := (Value.int .i64 p2)) rfl e2) ?_
  refine wpR_enter rfl rfl rfl (x_call (vs := [(Value.int .i64 p2)]) rfl rfl (mapl_cons rfl mapl_nil) Try.func18 NN_18 NB_18) (Calls.mono h ?_)
  rintro _ w1 ⟨r1, rfl, h⟩
  refine ⟨_, rfl, ?_⟩
  refine wpR_val (v := (Value.bool (decide (r1 < 0)))) (w' := w1) rfl rfl rfl (x_lss rfl rfl rfl) ?_
  refine wpR_val (v := (Value.bool (decide (r1 < 0)))) (w' := w1) rfl rfl rfl (x_move (v := (Value.bool (decide (r1 < 0)))) rfl rfl) ?_
  refine wpR_joinJ 3 (fun (_ : Unit) ρ => ρ 15 = Value.bool ((decide (r1 < 0)) || (decide (p3 < 0))) ∧ ρ 0 = (Sl.v p0) ∧ ρ 1 = (Sl.v p1) ∧ ρ 2 = (Value.int .i64 p2) ∧ ρ 3 = (Value.int .i64 p3) ∧ True) (fun _ w => w1 = w) ?_ ?_
  · clear h
    rcases Bool.eq_false_or_eq_true (decide (r1 < 0)) with hc3 | hc3
    · skip
      refine wpR_pass (wantN rfl rfl rfl hc3) rfl rfl ?_
      refine wpR_pass (wantN rfl rfl rfl hc3) rfl rfl ?_
      refine wpR_val (v := (Value.bool true)) (w' := w1) rfl rfl rfl (x_pickT (v := (Value.bool true)) rfl rfl hc3 rfl) ?_
      refine wpR_nil ?_
      exact ⟨(), ⟨(by rw [hc3]; rfl), e0, e1, e2, e3, trivial⟩, rfl⟩
    · skip
      refine wpR_val (v := (Value.int .i64 p3)) (w' := w1) (wantG rfl rfl rfl hc3) rfl rfl (x_move (v := (Value.int .i64 p3)) rfl e3) ?_
      refine wpR_val (v := (Value.bool (decide (p3 < 0)))) (w' := w1) (wantG rfl rfl rfl hc3) rfl rfl (x_lss rfl rfl rfl) ?_
      refine wpR_val (v := (Value.bool (decide (p3 < 0)))) (w' := w1) rfl rfl rfl (x_pickF (v := (Value.bool (decide (p3 < 0)))) rfl rfl hc3 rfl) ?_
      refine wpR_nil ?_
      exact ⟨(), ⟨(by rw [hc3]; rfl), e0, e1, e2, e3, trivial⟩, rfl⟩
  rintro _ ρ wj ⟨e15, e0, e1, e2, e3, -⟩ rfl
  refine wpR_val (v := (Value.bool ((decide (r1 < 0)) || (decide (p3 < 0))))) (w' := w1) rfl rfl rfl (x_move (v := (Value.bool ((decide (r1 < 0)) || (decide (p3 < 0))))) rfl e15) ?_
  refine wpR_joinJ 5 (fun (_ : Unit) ρ => ρ 21 = Value.bool (((decide (r1 < 0)) || (decide (p3 < 0))) || (decide ((p1.len : Int) ≤ p3))) ∧ ρ 0 = (Sl.v p0) ∧ ρ 1 = (Sl.v p1) ∧ ρ 2 = (Value.int .i64 p2) ∧ ρ 3 = (Value.int .i64 p3) ∧ True) (fun _ w => w1 = w) ?_ ?_
  · clear h
    rcases Bool.eq_false_or_eq_true ((decide (r1 < 0)) || (decide (p3 < 0))) with hc5 | hc5
    · skip
      refine wpR_pass (wantN rfl rfl rfl hc5) rfl rfl ?_
      refine wpR_pass (wantN rfl rfl rfl hc5) rfl rfl ?_
      refine wpR_pass (wantN rfl rfl rfl hc5) rfl rfl ?_
      refine wpR_pass (wantN rfl rfl rfl hc5) rfl rfl ?_
      refine wpR_val (v := (Value.bool true)) (w' := w1) rfl rfl rfl (x_pickT (v := (Value.bool true)) rfl rfl hc5 rfl) ?_
      refine wpR_nil ?_
      exact ⟨(), ⟨(by rw [hc5]; rfl), e0, e1, e2, e3, trivial⟩, rfl⟩
    · skip
      refine wpR_val (v := (Value.int .i64 p3)) (w' := w1) (wantG rfl rfl rfl hc5) rfl rfl (x_move (v := (Value.int .i64 p3)) rfl e3) ?_
      refine wpR_val (v := (Sl.v p1)) (w' := w1) (wantG rfl rfl rfl hc5) rfl rfl (x_move (v := (Sl.v p1)) rfl e1) ?_
      refine wpR_val (v := (Value.int .i64 (p1.len : Int))) (w' := w1) (wantG rfl rfl rfl hc5) rfl rfl (x_lenS (s := p1) rfl rfl isSliceT_23) ?_
      refine wpR_val (v := (Value.bool (decide ((p1.len : Int) ≤ p3)))) (w' := w1) (wantG rfl rfl rfl hc5) rfl rfl (x_geq rfl rfl rfl) ?_
      refine wpR_val (v := (Value.bool (decide ((p1.len : Int) ≤ p3)))) (w' := w1) rfl rfl rfl (x_pickF (v := (Value.bool (decide ((p1.len : Int) ≤ p3)))) rfl rfl hc5 rfl) ?_
      refine wpR_nil ?_
      exact ⟨(), ⟨(by rw [hc5]; rfl), e0, e1, e2, e3, trivial⟩, rfl⟩
  rintro _ ρ wj ⟨e21, e0, e1, e2, e3, -⟩ rfl
  refine wpR_nil ?_
  refine wpC_cond (b := ((decide (r1 < 0)) || (decide (p3 < 0))) || (decide ((p1.len : Int) ≤ p3))) e21 (fun hc6 => ?_) (fun hc6 => ?_)
  · replace h := h.1 hc6
    refine wpC_seq ?_
    refine wpC_region ?_
    refine wpR_val (v := (Value.bool false)) (w' := w1) rfl rfl rfl (x_assign (v := (Value.bool false)) rfl rfl) ?_
    refine wpR_nil ?_
    refine wpC_ret ?_
    exact ⟨.inl rfl, fun a ha => ⟨_, results_rep1 rfl ha rfl, false, rfl, h⟩⟩
  · replace h := h.2 hc6
    refine wpC_skip ?_
    refine wpC_seq ?_
    refine wpC_region ?_
    refine wpR_val (v := (Sl.v p0)) (w' := w1) rfl rfl rfl (x_move (v := (Sl.v p0)) rfl e0) ?_
    refine wpR_val (v := (Sl.v p1)) (w' := w1) rfl rfl rfl (x_move (v := (Sl.v p1)) rfl e1) ?_
    refine wpR_val (v := (Sl.v p1)) (w' := w1) rfl rfl rfl (x_move (v := (Sl.v p1)) rfl e1) ?_
    refine wpR_enter rfl rfl rfl (x_call (vs := [(Sl.v p1)]) rfl rfl (mapl_cons rfl mapl_nil) Try.func17 NN_17 NB_17) (Calls.mono h ?_)
    rintro _ w2 ⟨r7, rfl, h⟩
    refine ⟨_, rfl, ?_⟩
    refine wpR_val (v := (Value.int .i64 p2)) (w' := w2) rfl rfl rfl (x_move (v := (Value.int .i64 p2)) rfl e2) ?_
    refine wpR_val (v := (Value.int .i64 p3)) (w' := w2) rfl rfl rfl (x_move (v := (Value.int .i64 p3)) rfl e3) ?_
    refine wpR_enter rfl rfl rfl (x_call (vs := [(Sl.v p0), (Sl.v p1), (Sl.v r7), (Value.int .i64 p2), (Value.int .i64 p3)]) rfl rfl (mapl_cons rfl (mapl_cons rfl (mapl_cons rfl (mapl_cons rfl (mapl_cons rfl mapl_nil))))) Try.func22 NN_22 NB_22) (Calls.mono h ?_)
    rintro _ w3 ⟨r8, rfl, h⟩
    refine ⟨_, rfl, ?_⟩
    refine wpR_val (v := (Value.bool r8)) (w' := w3) rfl rfl rfl (x_assign (v := (Value.bool r8)) rfl rfl) ?_
    refine wpR_nil ?_
    refine wpC_ret ?_
    exact ⟨.inl rfl, fun a ha => ⟨_, results_rep1 rfl ha rfl, r8, rfl, h⟩⟩

/-- linguaref18.Sees -/
def F10 (p0 : Sl) (p1 : Sl) (p2 : Int) (p3 : Int) (w0 : World) (K : Bool → World → Prop) : Prop :=
  callC Try.prog 23 #[(Value.int .i64 p2)] (fun (r : Int) => (Value.int .i64 r)) w0 fun r1 w1 =>
  cnd (((decide (r1 < 0)) || (decide (p3 < 0))) || (decide ((p1.len : Int) ≤ p3)))
    (
    K false w1
    )
    (
    ix p1 p3 12 fun p7 =>
    ld (Value.int .i64) (p7.add 0) w1 fun x8 =>
    cnd (decide (x8 = p2))
      (
      K true w1
      )
      (
      callC Try.prog 24 #[(Sl.v p1)] (fun (r : Sl) => (Sl.v r)) w1 fun r10 w2 =>
      lp (fun (next11 : Int → World → Prop) l11 w3 =>
        cnd (decide (l11 < (r10.len : Int)))
          (
          jn (fun (J14 : Bool → World → Prop) => tk w3 fun w4 =>
            ix r10 l11 4 fun p15 =>
            ld (Value.int .i64) (p15.add 0) w4 fun x16 =>
            cnd (decide (x16 = p2))
              (
              ix r10 l11 4 fun p18 =>
              ld (Value.int .i64) (p18.add 1) w4 fun x19 =>
              ix p1 p3 12 fun p20 =>
              ld (Value.int .i64) (p20.add 4) w4 fun x21 =>
              J14 (decide (x19 = x21)) w4
              )
              (
              J14 false w4
              )
          )
          fun l22 w5 =>
          lp (fun (next23 : (Bool × Int) → World → Prop) l23 w6 =>
            cnd ((decide (l23.2 < (p0.len : Int))) && l23.1)
              (
              jn (fun (J28 : Bool → World → Prop) => tk w6 fun w7 =>
                ix p0 l23.2 22 fun p29 =>
                ld Value.string (p29.add 0) w7 fun x30 =>
                ld (Value.int .i64) (p29.add 1) w7 fun x31 =>
                ld (Value.int .i64) (p29.add 2) w7 fun x32 =>
                ld (Value.int .i64) (p29.add 3) w7 fun x33 =>
                ld Value.bool (p29.add 4) w7 fun x34 =>
                ld (Value.int .i64) (p29.add 5) w7 fun x35 =>
                ld Value.bool (p29.add 6) w7 fun x36 =>
                ld Value.bool (p29.add 7) w7 fun x37 =>
                ld (Value.int .i64) (p29.add 8) w7 fun x38 =>
                ld (Value.int .i64) (p29.add 9) w7 fun x39 =>
                ld (Value.int .i64) (p29.add 10) w7 fun x40 =>
                ld (Value.int .i64) (p29.add 11) w7 fun x41 =>
                ld Sl.v (p29.add 12) w7 fun x42 =>
                ld (Value.int .i64) (p29.add 13) w7 fun x43 =>
                ld (Value.int .i64) (p29.add 14) w7 fun x44 =>
                ld (Value.int .i64) (p29.add 15) w7 fun x45 =>
                ld (Value.int .i64) (p29.add 16) w7 fun x46 =>
                ld Value.bool (p29.add 17) w7 fun x47 =>
                ld (Value.int .i64) (p29.add 18) w7 fun x48 =>
                ld (Value.int .i64) (p29.add 19) w7 fun x49 =>
                ld (Value.int .i64) (p29.add 20) w7 fun x50 =>
                ld (Value.int .i64) (p29.add 21) w7 fun x51 =>
                ix r10 l11 4 fun p52 =>
                ld (Value.int .i64) (p52.add 0) w7 fun x53 =>
                ld (Value.int .i64) (p52.add 1) w7 fun x54 =>
                ld (Value.int .i64) (p52.add 2) w7 fun x55 =>
                ld (Value.int .i64) (p52.add 3) w7 fun x56 =>
                callC Try.prog 25 #[(Value.agg #[(Value.string x30), (Value.int .i64 x31), (Value.int .i64 x32), (Value.int .i64 x33), (Value.bool x34), (Value.int .i64 x35), (Value.bool x36), (Value.bool x37), (Value.int .i64 x38), (Value.int .i64 x39), (Value.int .i64 x40), (Value.int .i64 x41), (Sl.v x42), (Value.int .i64 x43), (Value.int .i64 x44), (Value.int .i64 x45), (Value.int .i64 x46), (Value.bool x47), (Value.int .i64 x48), (Value.int .i64 x49), (Value.int .i64 x50), (Value.int .i64 x51)]), (Value.agg #[(Value.int .i64 x53), (Value.int .i64 x54), (Value.int .i64 x55), (Value.int .i64 x56)]), (Sl.v p1), (Value.int .i64 p3)] (fun (r : Bool) => (Value.bool r)) w7 fun r57 w8 =>
                J28 r57 w8
              )
              fun l58 w9 =>
              next23 (l58, IntKind.i64.wrap (l23.2 + 1)) w9
              )
              (
              cnd (l23.1)
                (
                K true w6
                )
                (
                next11 (IntKind.i64.wrap (l11 + 1)) w6
                )
              )
          ) (l22, 0) w5
          )
          (
          K false w3
          )
      ) 0 w2
      )
    )
set_option maxRecDepth 100000 in
theorem D10 (p0 : Sl) (p1 : Sl) (p2 : Int) (p3 : Int) (w0 : World) (K : Bool → World → Prop) (h : F10 p0 p1 p2 p3 w0 K) : callC Try.prog 10 #[(Sl.v p0), (Sl.v p1), (Value.int .i64 p2), (Value.int .i64 p3)] (fun (r : Bool) => (Value.bool r)) w0 K := by
  unfold F10 at h
  refine calls_of_wpC Try.func10 rfl 82 rfl (by simp) ?_
  intro ρ hρ
  have e0 : ρ 0 = (Sl.v p0) := hρ 0
  have e1 : ρ 1 = (Sl.v p1) := hρ 1
  have e2 : ρ 2 = (Value.int .i64 p2) := hρ 2
  have e3 : ρ 3 = (Value.int .i64 p3) := hρ 3
  clear hρ
  refine wpC_seq ?_
  refine wpC_region ?_
  refine wpR_val (v := (Value.bool false)) (w' := w0) rfl rfl rfl (x_assign (v := (Value.bool false)) rfl rfl) ?_
  refine wpR_nil ?_
  refine wpC_seq ?_
  refine wpC_seq ?_
  refine wpC_cut (fun ρ => ρ 0 = (Sl.v p0) ∧ ρ 1 = (Sl.v p1) ∧ ρ 2 = (Value.int .i64 p2) ∧ ρ 3 = (Value.int .i64 p3) ∧ True) ⟨e0, e1, e2, e3, trivial⟩ ?_
  rintro ρ ⟨e0, e1, e2, e3, -⟩
  refine wpC_region ?_
  refine wpR_val (v := (Value.int .i64 p2)) (w' := w0) rfl rfl rfl (x_move (v := (Value.int .i64 p2)) rfl e2) ?_
  refine wpR_enter rfl rfl rfl (x_call (vs := [(Value.int .i64 p2)]) rfl rfl (mapl_cons rfl mapl_nil) Try.func23 NN_23 NB_23) (Calls.mono h ?_)
  rintro _ w1 ⟨r1, rfl, h⟩
  refine ⟨_, rfl, ?_⟩
  refine wpR_val (v := (Value.bool (decide (r1 < 0)))) (w' := w1) rfl rfl rfl (x_lss rfl rfl rfl) ?_
  refine wpR_val (v := (Value.bool (decide (r1 < 0)))) (w' := w1) rfl rfl rfl (x_move (v := (Value.bool (decide (r1 < 0)))) rfl rfl) ?_
  refine wpR_joinJ 3 (fun (_ : Unit) ρ => ρ 19 = Value.bool ((decide (r1 < 0)) || (decide (p3 < 0))) ∧ ρ 0 = (Sl.v p0) ∧ ρ 1 = (Sl.v p1) ∧ ρ 2 = (Value.int .i64 p2) ∧ ρ 3 = (Value.int .i64 p3) ∧ True) (fun _ w => w1 = w) ?_ ?_
  · clear h
    rcases Bool.eq_false_or_eq_true (decide (r1 < 0)) with hc3 | hc3
    · skip
      refine wpR_pass (wantN rfl rfl rfl hc3) rfl rfl ?_
      refine wpR_pass (wantN rfl rfl rfl hc3) rfl rfl ?_
      refine wpR_val (v := (Value.bool true)) (w' := w1) rfl rfl rfl (x_pickT (v := (Value.bool true)) rfl rfl hc3 rfl) ?_
      refine wpR_nil ?_
      exact ⟨(), ⟨(by rw [hc3]; rfl), e0, e1, e2, e3, trivial⟩, rfl⟩
    · skip
      refine wpR_val (v := (Value.int .i64 p3)) (w' := w1) (wantG rfl rfl rfl hc3) rfl rfl (x_move (v := (Value.int .i64 p3)) rfl e3) ?_
      refine wpR_val (v := (Value.bool (decide (p3 < 0)))) (w' := w1) (wantG rfl rfl rfl hc3) rfl rfl (x_lss rfl rfl rfl) ?_
      refine wpR_val (v := (Value.bool (decide (p3 < 0)))) (w' := w1) rfl rfl rfl (x_pickF (v := (Value.bool (decide (p3 < 0)))) rfl rfl hc3 rfl) ?_
      refine wpR_nil ?_
      exact ⟨(), ⟨(by rw [hc3]; rfl), e0, e1, e2, e3, trivial⟩, rfl⟩
  rintro _ ρ wj ⟨e19, e0, e1, e2, e3, -⟩ rfl
  refine wpR_val (v := (Value.bool ((decide (r1 < 0)) || (decide (p3 < 0))))) (w' := w1) rfl rfl rfl (x_move (v := (Value.bool ((decide (r1 < 0)) || (decide (p3 < 0))))) rfl e19) ?_
  refine wpR_joinJ 5 (fun (_ : Unit) ρ => ρ 25 = Value.bool (((decide (r1 < 0)) || (decide (p3 < 0))) || (decide ((p1.len : Int) ≤ p3))) ∧ ρ 0 = (Sl.v p0) ∧ ρ 1 = (Sl.v p1) ∧ ρ 2 = (Value.int .i64 p2) ∧ ρ 3 = (Value.int .i64 p3) ∧ True) (fun _ w => w1 = w) ?_ ?_
  · clear h
    rcases Bool.eq_false_or_eq_true ((decide (r1 < 0)) || (decide (p3 < 0))) with hc5 | hc5
    · skip
      refine wpR_pass (wantN rfl rfl rfl hc5) rfl rfl ?_
      refine wpR_pass (wantN rfl rfl rfl hc5) rfl rfl ?_
      refine wpR_pass (wantN rfl rfl rfl hc5) rfl rfl ?_
      refine wpR_pass (wantN rfl rfl rfl hc5) rfl rfl ?_
      refine wpR_val (v := (Value.bool true)) (w' := w1) rfl rfl rfl (x_pickT (v := (Value.bool true)) rfl rfl hc5 rfl) ?_
      refine wpR_nil ?_
      exact ⟨(), ⟨(by rw [hc5]; rfl), e0, e1, e2, e3, trivial⟩, rfl⟩
    · skip
      refine wpR_val (v := (Value.int .i64 p3)) (w' := w1) (wantG rfl rfl rfl hc5) rfl rfl (x_move (v := (Value.int .i64 p3)) rfl e3) ?_
      refine wpR_val (v := (Sl.v p1)) (w' := w1) (wantG rfl rfl rfl hc5) rfl rfl (x_move (v := (Sl.v p1)) rfl e1) ?_
      refine wpR_val (v := (Value.int .i64 (p1.len : Int))) (w' := w1) (wantG rfl rfl rfl hc5) rfl rfl (x_lenS (s := p1) rfl rfl isSliceT_23) ?_
      refine wpR_val (v := (Value.bool (decide ((p1.len : Int) ≤ p3)))) (w' := w1) (wantG rfl rfl rfl hc5) rfl rfl (x_geq rfl rfl rfl) ?_
      refine wpR_val (v := (Value.bool (decide ((p1.len : Int) ≤ p3)))) (w' := w1) rfl rfl rfl (x_pickF (v := (Value.bool (decide ((p1.len : Int) ≤ p3)))) rfl rfl hc5 rfl) ?_
      refine wpR_nil ?_
      exact ⟨(), ⟨(by rw [hc5]; rfl), e0, e1, e2, e3, trivial⟩, rfl⟩
  rintro _ ρ wj ⟨e25, e0, e1, e2, e3, -⟩ rfl
  refine wpR_nil ?_
  refine wpC_cond (b := ((decide (r1 < 0)) || (decide (p3 < 0))) || (decide ((p1.len : Int) ≤ p3))) e25 (fun hc6 => ?_) (fun hc6 => ?_)
  · replace h := h.1 hc6
    refine wpC_seq ?_
    refine wpC_region ?_
    refine wpR_val (v := (Value.bool false)) (w' := w1) rfl rfl rfl (x_assign (v := (Value.bool false)) rfl rfl) ?_
    refine wpR_nil ?_
    refine wpC_ret ?_
    exact ⟨.inl rfl, fun a ha => ⟨_, results_rep1 rfl ha rfl, false, rfl, h⟩⟩
  · replace h := h.2 hc6
    refine wpC_skip ?_
    refine wpC_seq ?_
    refine wpC_seq ?_
    refine wpC_region ?_
    refine wpR_val (v := (Sl.v p1)) (w' := w1) rfl rfl rfl (x_move (v := (Sl.v p1)) rfl e1) ?_
    refine wpR_val (v := (Value.int .i64 p3)) (w' := w1) rfl rfl rfl (x_move (v := (Value.int .i64 p3)) rfl e3) ?_
    obtain ⟨q7, z7, r7, h⟩ := h
    generalize hp7 : z7.add ((p3 : Int).toNat * 12) = p7 at h
    refine wpR_val (v := (Value.pointer (some p7))) (w' := w1) rfl rfl rfl ((x_indexAddr (s := p1) rfl rfl rfl ES_23 q7 r7).trans (by rw [hp7])) ?_
    refine wpR_val (v := (Value.pointer (some (p7.add 0)))) (w' := w1) rfl rfl rfl (x_fieldAddr rfl rfl FA_41_0) ?_
    obtain ⟨x8, q8, h⟩ := h
    refine wpR_val (v := (Value.int .i64 x8)) (w' := w1) rfl rfl rfl (x_load1 rfl rfl SH_3 q8) ?_
    refine wpR_val (v := (Value.int .i64 p2)) (w' := w1) rfl rfl rfl (x_move (v := (Value.int .i64 p2)) rfl e2) ?_
    refine wpR_val (v := (Value.bool (decide (x8 = p2)))) (w' := w1) rfl rfl rfl (x_eql rfl rfl rfl) ?_
    refine wpR_nil ?_
    refine wpC_cond (b := decide (x8 = p2)) rfl (fun hc9 => ?_) (fun hc9 => ?_)
    · replace h := h.1 hc9
      refine wpC_seq ?_
      refine wpC_cut (fun ρ => True) trivial ?_
      rintro ρ -
      refine wpC_region ?_
      refine wpR_val (v := (Value.bool true)) (w' := w1) rfl rfl rfl (x_assign (v := (Value.bool true)) rfl rfl) ?_
      refine wpR_nil ?_
      refine wpC_ret ?_
      exact ⟨.inl rfl, fun a ha => ⟨_, results_rep1 rfl ha rfl, true, rfl, h⟩⟩
    · replace h := h.2 hc9
      refine wpC_skip ?_
      refine wpC_seq ?_
      refine wpC_cut (fun ρ => ρ 0 = (Sl.v p0) ∧ ρ 1 = (Sl.v p1) ∧ ρ 2 = (Value.int .i64 p2) ∧ ρ 3 = (Value.int .i64 p3) ∧ True) ⟨e0, e1, e2, e3, trivial⟩ ?_
      rintro ρ ⟨e0, e1, e2, e3, -⟩
      refine wpC_region ?_
      refine wpR_val (v := (Sl.v p1)) (w' := w1) rfl rfl rfl (x_move (v := (Sl.v p1)) rfl e1) ?_
      refine wpR_enter rfl rfl rfl (x_call (vs := [(Sl.v p1)]) rfl rfl (mapl_cons rfl mapl_nil) Try.func24 NN_24 NB_24) (Calls.mono h ?_)
      rintro _ w2 ⟨r10, rfl, h⟩
      refine ⟨_, rfl, ?_⟩
      refine wpR_val (v := (Sl.v r10)) (w' := w2) rfl rfl rfl (x_assign (v := (Sl.v r10)) rfl rfl) ?_
      refine wpR_nil ?_
      refine wpC_seq ?_
      refine wpC_seq ?_
      refine wpC_cut (fun ρ => ρ 0 = (Sl.v p0) ∧ ρ 1 = (Sl.v p1) ∧ ρ 2 = (Value.int .i64 p2) ∧ ρ 3 = (Value.int .i64 p3) ∧ ρ 9 = (Sl.v r10) ∧ True) ⟨e0, e1, e2, e3, rfl, trivial⟩ ?_
      rintro ρ ⟨e0, e1, e2, e3, e9, -⟩
      refine wpC_region ?_
      refine wpR_val (v := (Value.int .i64 0)) (w' := w2) rfl rfl rfl (x_assign (v := (Value.int .i64 0)) rfl rfl) ?_
      refine wpR_nil ?_
      refine wpC_block ?_
      obtain ⟨I11, μ11, hI11, hr11⟩ := h
      refine wpC_loop (fun (x : Int) ρ => ρ 10 = (Value.int .i64 x) ∧ ρ 0 = (Sl.v p0) ∧ ρ 1 = (Sl.v p1) ∧ ρ 2 = (Value.int .i64 p2) ∧ ρ 3 = (Value.int .i64 p3) ∧ ρ 9 = (Sl.v r10) ∧ True) I11 μ11 0 ⟨rfl, e0, e1, e2, e3, e9, trivial⟩ hI11 ?_
      rintro l11 ρ w3 ⟨e10, e0, e1, e2, e3, e9, -⟩ h
      replace h := hr11 l11 w3 h
      clear hr11 hI11
      refine wpC_seq ?_
      refine wpC_seq ?_
      refine wpC_region ?_
      refine wpR_val (v := (Value.int .i64 l11)) (w' := w3) rfl rfl rfl (x_move (v := (Value.int .i64 l11)) rfl e10) ?_
      refine wpR_val (v := (Sl.v r10)) (w' := w3) rfl rfl rfl (x_move (v := (Sl.v r10)) rfl e9) ?_
      refine wpR_val (v := (Value.int .i64 (r10.len : Int))) (w' := w3) rfl rfl rfl (x_lenS (s := r10) rfl rfl isSliceT_37) ?_
      refine wpR_val (v := (Value.bool (decide (l11 < (r10.len : Int))))) (w' := w3) rfl rfl rfl (x_lss rfl rfl rfl) ?_
      refine wpR_nil ?_
      refine wpC_cond (b := decide (l11 < (r10.len : Int))) rfl (fun hc12 => ?_) (fun hc12 => ?_)
      · replace h := h.1 hc12
        refine wpC_skip ?_
        refine wpC_seq ?_
        refine wpC_block ?_
        refine wpC_seq ?_
        refine wpC_cut (fun ρ => ρ 0 = (Sl.v p0) ∧ ρ 1 = (Sl.v p1) ∧ ρ 2 = (Value.int .i64 p2) ∧ ρ 3 = (Value.int .i64 p3) ∧ ρ 9 = (Sl.v r10) ∧ ρ 10 = (Value.int .i64 l11) ∧ True) ⟨e0, e1, e2, e3, e9, e10, trivial⟩ ?_
        rintro ρ ⟨e0, e1, e2, e3, e9, e10, -⟩
        obtain ⟨J14, h, hk⟩ := h
        refine wpC_drawJ (by kernel_rfl) (fun (x : Bool) ρ => ρ 11 = (Value.bool x) ∧ ρ 0 = (Sl.v p0) ∧ ρ 1 = (Sl.v p1) ∧ ρ 2 = (Value.int .i64 p2) ∧ ρ 3 = (Value.int .i64 p3) ∧ ρ 9 = (Sl.v r10) ∧ ρ 10 = (Value.int .i64 l11) ∧ True) J14 ?_ ?_
        · clear hk
          unfold tk at h
          generalize w3.drew = w4 at h ⊢
          refine wpD_take (v := (Sl.v r10)) 0 (fun _ => True) rfl (by kernel_rfl) (by kernel_rfl) (by kernel_rfl) rfl rfl rfl trivial (fun w _ => (x_move (v := (Sl.v r10)) rfl e9)) ?_
          refine wpD_take (v := (Value.int .i64 l11)) 1 (fun _ => True) rfl (by kernel_rfl) (by kernel_rfl) (by kernel_rfl) rfl rfl rfl trivial (fun w _ => (x_move (v := (Value.int .i64 l11)) rfl e10)) ?_
          obtain ⟨q15, z15, r15, h⟩ := h
          generalize hp15 : z15.add ((l11 : Int).toNat * 4) = p15 at h
          refine wpD_take (v := (Value.pointer (some p15))) 2 (fun _ => True) rfl (by kernel_rfl) (by kernel_rfl) (by kernel_rfl) rfl rfl rfl trivial (fun w _ => ((x_indexAddr (s := r10) rfl rfl rfl ES_37 q15 r15).trans (by rw [hp15]))) ?_
          refine wpD_take (v := (Value.pointer (some (p15.add 0)))) 3 (fun _ => True) rfl (by kernel_rfl) (by kernel_rfl) (by kernel_rfl) rfl rfl rfl trivial (fun w _ => (x_fieldAddr rfl rfl FA_43_0)) ?_
          obtain ⟨x16, q16, h⟩ := h
          refine wpD_take (v := (Value.int .i64 x16)) 4 (fun w => w.cell? (p15.add 0) = some (Value.int .i64 x16)) rfl (by kernel_rfl) (by kernel_rfl) (by kernel_rfl) rfl rfl rfl q16 (fun w q16 => (x_load1 rfl rfl SH_3 q16)) ?_
          refine wpD_take (v := (Value.int .i64 p2)) 5 (fun _ => True) rfl (by kernel_rfl) (by kernel_rfl) (by kernel_rfl) rfl rfl rfl trivial (fun w _ => (x_move (v := (Value.int .i64 p2)) rfl e2)) ?_
          refine wpD_take (v := (Value.bool (decide (x16 = p2)))) 6 (fun _ => True) rfl (by kernel_rfl) (by kernel_rfl) (by kernel_rfl) rfl rfl rfl trivial (fun w _ => (x_eql rfl rfl rfl)) ?_
          refine wpD_take (v := (Value.bool (decide (x16 = p2)))) 7 (fun _ => True) rfl (by kernel_rfl) (by kernel_rfl) (by kernel_rfl) rfl rfl rfl trivial (fun w _ => (x_move (v := (Value.bool (decide (x16 = p2)))) rfl rfl)) ?_
          rcases Bool.eq_false_or_eq_true (decide (x16 = p2)) with hc17 | hc17
          · replace h := h.1 hc17
            refine wpD_take (v := (Sl.v r10)) 8 (fun _ => True) rfl (by kernel_rfl) (by kernel_rfl) (by kernel_rfl) (wantG rfl rfl rfl hc17) rfl rfl trivial (fun w _ => (x_move (v := (Sl.v r10)) rfl e9)) ?_
            refine wpD_take (v := (Value.int .i64 l11)) 9 (fun _ => True) rfl (by kernel_rfl) (by kernel_rfl) (by kernel_rfl) (wantG rfl rfl rfl hc17) rfl rfl trivial (fun w _ => (x_move (v := (Value.int .i64 l11)) rfl e10)) ?_
            obtain ⟨q18, z18, r18, h⟩ := h
            generalize hp18 : z18.add ((l11 : Int).toNat * 4) = p18 at h
            refine wpD_take (v := (Value.pointer (some p18))) 10 (fun _ => True) rfl (by kernel_rfl) (by kernel_rfl) (by kernel_rfl) (wantG rfl rfl rfl hc17) rfl rfl trivial (fun w _ => ((x_indexAddr (s := r10) rfl rfl rfl ES_37 q18 r18).trans (by rw [hp18]))) ?_
            refine wpD_take (v := (Value.pointer (some (p18.add 1)))) 11 (fun _ => True) rfl (by kernel_rfl) (by kernel_rfl) (by kernel_rfl) (wantG rfl rfl rfl hc17) rfl rfl trivial (fun w _ => (x_fieldAddr rfl rfl FA_43_1)) ?_
            obtain ⟨x19, q19, h⟩ := h
            refine wpD_take (v := (Value.int .i64 x19)) 12 (fun w => w.cell? (p18.add 1) = some (Value.int .i64 x19)) rfl (by kernel_rfl) (by kernel_rfl) (by kernel_rfl) (wantG rfl rfl rfl hc17) rfl rfl q19 (fun w q19 => (x_load1 rfl rfl SH_3 q19)) ?_
            refine wpD_take (v := (Sl.v p1)) 13 (fun _ => True) rfl (by kernel_rfl) (by kernel_rfl) (by kernel_rfl) (wantG rfl rfl rfl hc17) rfl rfl trivial (fun w _ => (x_move (v := (Sl.v p1)) rfl e1)) ?_
            refine wpD_take (v := (Value.int .i64 p3)) 14 (fun _ => True) rfl (by kernel_rfl) (by kernel_rfl) (by kernel_rfl) (wantG rfl rfl rfl hc17) rfl rfl trivial (fun w _ => (x_move (v := (Value.int .i64 p3)) rfl e3)) ?_
            obtain ⟨q20, z20, r20, h⟩ := h
            generalize hp20 : z20.add ((p3 : Int).toNat * 12) = p20 at h
            refine wpD_take (v := (Value.pointer (some p20))) 15 (fun _ => True) rfl (by kernel_rfl) (by kernel_rfl) (by kernel_rfl) (wantG rfl rfl rfl hc17) rfl rfl trivial (fun w _ => ((x_indexAddr (s := p1) rfl rfl rfl ES_23 q20 r20).trans (by rw [hp20]))) ?_
            refine wpD_take (v := (Value.pointer (some (p20.add 4)))) 16 (fun _ => True) rfl (by kernel_rfl) (by kernel_rfl) (by kernel_rfl) (wantG rfl rfl rfl hc17) rfl rfl trivial (fun w _ => (x_fieldAddr rfl rfl FA_41_4)) ?_
            obtain ⟨x21, q21, h⟩ := h
            refine wpD_take (v := (Value.int .i64 x21)) 17 (fun w => w.cell? (p20.add 4) = some (Value.int .i64 x21)) rfl (by kernel_rfl) (by kernel_rfl) (by kernel_rfl) (wantG rfl rfl rfl hc17) rfl rfl q21 (fun w q21 => (x_load1 rfl rfl SH_3 q21)) ?_
            refine wpD_take (v := (Value.bool (decide (x19 = x21)))) 18 (fun _ => True) rfl (by kernel_rfl) (by kernel_rfl) (by kernel_rfl) (wantG rfl rfl rfl hc17) rfl rfl trivial (fun w _ => (x_eql rfl rfl rfl)) ?_
            refine wpD_take (v := (Value.bool (decide (x19 = x21)))) 19 (fun _ => True) rfl (by kernel_rfl) (by kernel_rfl) (by kernel_rfl) rfl rfl rfl trivial (fun w _ => (x_pickT (v := (Value.bool (decide (x19 = x21)))) rfl rfl hc17 rfl)) ?_
            refine wpD_take (v := (Value.bool (decide (x19 = x21)))) 20 (fun _ => True) rfl (by kernel_rfl) (by kernel_rfl) (by kernel_rfl) rfl rfl rfl trivial (fun w _ => (x_assign (v := (Value.bool (decide (x19 = x21)))) rfl rfl)) ?_
            exact wpD_done (by kernel_rfl) ⟨decide (x19 = x21), ⟨rfl, e0, e1, e2, e3, e9, e10, trivial⟩, h⟩
          · replace h := h.2 hc17
            refine wpD_pass 8 rfl (by kernel_rfl) (by kernel_rfl) (by kernel_rfl) (wantN rfl rfl rfl hc17) rfl rfl ?_
            refine wpD_pass 9 rfl (by kernel_rfl) (by kernel_rfl) (by kernel_rfl) (wantN rfl rfl rfl hc17) rfl rfl ?_
            refine wpD_pass 10 rfl (by kernel_rfl) (by kernel_rfl) (by kernel_rfl) (wantN rfl rfl rfl hc17) rfl rfl ?_
            refine wpD_pass 11 rfl (by kernel_rfl) (by kernel_rfl) (by kernel_rfl) (wantN rfl rfl rfl hc17) rfl rfl ?_
            refine wpD_pass 12 rfl (by kernel_rfl) (by kernel_rfl) (by kernel_rfl) (wantN rfl rfl rfl hc17) rfl rfl ?_
            refine wpD_pass 13 rfl (by kernel_rfl) (by kernel_rfl) (by kernel_rfl) (wantN rfl rfl rfl hc17) rfl rfl ?_
            refine wpD_pass 14 rfl (by kernel_rfl) (by kernel_rfl) (by kernel_rfl) (wantN rfl rfl rfl hc17) rfl rfl ?_
            refine wpD_pass 15 rfl (by kernel_rfl) (by kernel_rfl) (by kernel_rfl) (wantN rfl rfl rfl hc17) rfl rfl ?_
            refine wpD_pass 16 rfl (by kernel_rfl) (by kernel_rfl) (by kernel_rfl) (wantN rfl rfl rfl hc17) rfl rfl ?_
            refine wpD_pass 17 rfl (by kernel_rfl) (by kernel_rfl) (by kernel_rfl) (wantN rfl rfl rfl hc17) rfl rfl ?_
            refine wpD_pass 18 rfl (by kernel_rfl) (by kernel_rfl) (by kernel_rfl) (wantN rfl rfl rfl hc17) rfl rfl ?_
            refine wpD_take (v := (Value.bool false)) 19 (fun _ => True) rfl (by kernel_rfl) (by kernel_rfl) (by kernel_rfl) rfl rfl rfl trivial (fun w _ => (x_pickF (v := (Value.bool false)) rfl rfl hc17 rfl)) ?_
            refine wpD_take (v := (Value.bool false)) 20 (fun _ => True) rfl (by kernel_rfl) (by kernel_rfl) (by kernel_rfl) rfl rfl rfl trivial (fun w _ => (x_assign (v := (Value.bool false)) rfl rfl)) ?_
            exact wpD_done (by kernel_rfl) ⟨false, ⟨rfl, e0, e1, e2, e3, e9, e10, trivial⟩, h⟩
        clear h
        rintro l22 ρ w5 ⟨e11, e0, e1, e2, e3, e9, e10, -⟩ h
        replace h := hk l22 w5 h
        clear hk
        refine wpC_seq ?_
        refine wpC_seq ?_
        refine wpC_region ?_
        refine wpR_val (v := (Value.int .i64 0)) (w' := w5) rfl rfl rfl (x_assign (v := (Value.int .i64 0)) rfl rfl) ?_
        refine wpR_nil ?_
        refine wpC_block ?_
        obtain ⟨I23, μ23, hI23, hr23⟩ := h
        refine wpC_loop (fun (x : Bool × Int) ρ => ρ 11 = (Value.bool x.1) ∧ ρ 12 = (Value.int .i64 x.2) ∧ ρ 0 = (Sl.v p0) ∧ ρ 1 = (Sl.v p1) ∧ ρ 2 = (Value.int .i64 p2) ∧ ρ 3 = (Value.int .i64 p3) ∧ ρ 9 = (Sl.v r10) ∧ ρ 10 = (Value.int .i64 l11) ∧ True) I23 μ23 (l22, 0) ⟨e11, rfl, e0, e1, e2, e3, e9, e10, trivial⟩ hI23 ?_
        rintro l23 ρ w6 ⟨e11, e12, e0, e1, e2, e3, e9, e10, -⟩ h
        replace h := hr23 l23 w6 h
        clear hr23 hI23
        refine wpC_seq ?_
        refine wpC_seq ?_
        refine wpC_region ?_
        refine wpR_val (v := (Value.int .i64 l23.2)) (w' := w6) rfl rfl rfl (x_move (v := (Value.int .i64 l23.2)) rfl e12) ?_
        refine wpR_val (v := (Sl.v p0)) (w' := w6) rfl rfl rfl (x_move (v := (Sl.v p0)) rfl e0) ?_
        refine wpR_val (v := (Value.int .i64 (p0.len : Int))) (w' := w6) rfl rfl rfl (x_lenS (s := p0) rfl rfl isSliceT_22) ?_
        refine wpR_val (v := (Value.bool (decide (l23.2 < (p0.len : Int))))) (w' := w6) rfl rfl rfl (x_lss rfl rfl rfl) ?_
        refine wpR_val (v := (Value.bool (decide (l23.2 < (p0.len : Int))))) (w' := w6) rfl rfl rfl (x_move (v := (Value.bool (decide (l23.2 < (p0.len : Int))))) rfl rfl) ?_
        refine wpR_joinJ 2 (fun (_ : Unit) ρ => ρ 67 = Value.bool ((decide (l23.2 < (p0.len : Int))) && l23.1) ∧ ρ 0 = (Sl.v p0) ∧ ρ 1 = (Sl.v p1) ∧ ρ 2 = (Value.int .i64 p2) ∧ ρ 3 = (Value.int .i64 p3) ∧ ρ 9 = (Sl.v r10) ∧ ρ 10 = (Value.int .i64 l11) ∧ ρ 11 = (Value.bool l23.1) ∧ ρ 12 = (Value.int .i64 l23.2) ∧ True) (fun _ w => w6 = w) ?_ ?_
        · clear h
          rcases Bool.eq_false_or_eq_true (decide (l23.2 < (p0.len : Int))) with hc25 | hc25
          · skip
            refine wpR_val (v := (Value.bool l23.1)) (w' := w6) (wantG rfl rfl rfl hc25) rfl rfl (x_move (v := (Value.bool l23.1)) rfl e11) ?_
            refine wpR_val (v := (Value.bool l23.1)) (w' := w6) rfl rfl rfl (x_pickT (v := (Value.bool l23.1)) rfl rfl hc25 rfl) ?_
            refine wpR_nil ?_
            exact ⟨(), ⟨(by rw [hc25]; rfl), e0, e1, e2, e3, e9, e10, e11, e12, trivial⟩, rfl⟩
          · skip
            refine wpR_pass (wantN rfl rfl rfl hc25) rfl rfl ?_
            refine wpR_val (v := (Value.bool false)) (w' := w6) rfl rfl rfl (x_pickF (v := (Value.bool false)) rfl rfl hc25 rfl) ?_
            refine wpR_nil ?_
            exact ⟨(), ⟨(by rw [hc25]; rfl), e0, e1, e2, e3, e9, e10, e11, e12, trivial⟩, rfl⟩
        rintro _ ρ wj ⟨e67, e0, e1, e2, e3, e9, e10, e11, e12, -⟩ rfl
        refine wpR_nil ?_
        refine wpC_cond (b := (decide (l23.2 < (p0.len : Int))) && l23.1) e67 (fun hc26 => ?_) (fun hc26 => ?_)
        · replace h := h.1 hc26
          refine wpC_skip ?_
          refine wpC_seq ?_
          refine wpC_block ?_
          obtain ⟨J28, h, hk⟩ := h
          refine wpC_drawJ (by kernel_rfl) (fun (x : Bool) ρ => ρ 11 = (Value.bool x) ∧ ρ 0 = (Sl.v p0) ∧ ρ 1 = (Sl.v p1) ∧ ρ 2 = (Value.int .i64 p2) ∧ ρ 3 = (Value.int .i64 p3) ∧ ρ 9 = (Sl.v r10) ∧ ρ 10 = (Value.int .i64 l11) ∧ ρ 12 = (Value.int .i64 l23.2) ∧ True) J28 ?_ ?_
          · clear hk
            unfold tk at h
            generalize w6.drew = w7 at h ⊢
            refine wpD_take (v := (Sl.v p0)) 0 (fun _ => True) rfl (by kernel_rfl) (by kernel_rfl) (by kernel_rfl) rfl rfl rfl trivial (fun w _ => (x_move (v := (Sl.v p0)) rfl e0)) ?_
            refine wpD_take (v := (Value.int .i64 l23.2)) 1 (fun _ => True) rfl (by kernel_rfl) (by kernel_rfl) (by kernel_rfl) rfl rfl rfl trivial (fun w _ => (x_move (v := (Value.int .i64 l23.2)) rfl e12)) ?_
            obtain ⟨q29, z29, r29, h⟩ := h
            generalize hp29 : z29.add ((l23.2 : Int).toNat * 22) = p29 at h
            refine wpD_take (v := (Value.pointer (some p29))) 2 (fun _ => True) rfl (by kernel_rfl) (by kernel_rfl) (by kernel_rfl) rfl rfl rfl trivial (fun w _ => ((x_indexAddr (s := p0) rfl rfl rfl ES_22 q29 r29).trans (by rw [hp29]))) ?_
            obtain ⟨x30, q30, h⟩ := h
            obtain ⟨x31, q31, h⟩ := h
            obtain ⟨x32, q32, h⟩ := h
            obtain ⟨x33, q33, h⟩ := h
            obtain ⟨x34, q34, h⟩ := h
            obtain ⟨x35, q35, h⟩ := h
            obtain ⟨x36, q36, h⟩ := h
            obtain ⟨x37, q37, h⟩ := h
            obtain ⟨x38, q38, h⟩ := h
            obtain ⟨x39, q39, h⟩ := h
            obtain ⟨x40, q40, h⟩ := h
            obtain ⟨x41, q41, h⟩ := h
            obtain ⟨x42, q42, h⟩ := h
            obtain ⟨x43, q43, h⟩ := h
            obtain ⟨x44, q44, h⟩ := h
            obtain ⟨x45, q45, h⟩ := h
            obtain ⟨x46, q46, h⟩ := h
            obtain ⟨x47, q47, h⟩ := h
            obtain ⟨x48, q48, h⟩ := h
            obtain ⟨x49, q49, h⟩ := h
            obtain ⟨x50, q50, h⟩ := h
            obtain ⟨x51, q51, h⟩ := h
            refine wpD_take (v := (Value.agg #[(Value.string x30), (Value.int .i64 x31), (Value.int .i64 x32), (Value.int .i64 x33), (Value.bool x34), (Value.int .i64 x35), (Value.bool x36), (Value.bool x37), (Value.int .i64 x38), (Value.int .i64 x39), (Value.int .i64 x40), (Value.int .i64 x41), (Sl.v x42), (Value.int .i64 x43), (Value.int .i64 x44), (Value.int .i64 x45), (Value.int .i64 x46), (Value.bool x47), (Value.int .i64 x48), (Value.int .i64 x49), (Value.int .i64 x50), (Value.int .i64 x51)])) 3 (fun w => w.cell? (p29.add 0) = some (Value.string x30) ∧ w.cell? (p29.add 1) = some (Value.int .i64 x31) ∧ w.cell? (p29.add 2) = some (Value.int .i64 x32) ∧ w.cell? (p29.add 3) = some (Value.int .i64 x33) ∧ w.cell? (p29.add 4) = some (Value.bool x34) ∧ w.cell? (p29.add 5) = some (Value.int .i64 x35) ∧ w.cell? (p29.add 6) = some (Value.bool x36) ∧ w.cell? (p29.add 7) = some (Value.bool x37) ∧ w.cell? (p29.add 8) = some (Value.int .i64 x38) ∧ w.cell? (p29.add 9) = some (Value.int .i64 x39) ∧ w.cell? (p29.add 10) = some (Value.int .i64 x40) ∧ w.cell? (p29.add 11) = some (Value.int .i64 x41) ∧ w.cell? (p29.add 12) = some (Sl.v x42) ∧ w.cell? (p29.add 13) = some (Value.int .i64 x43) ∧ w.cell? (p29.add 14) = some (Value.int .i64 x44) ∧ w.cell? (p29.add 15) = some (Value.int .i64 x45) ∧ w.cell? (p29.add 16) = some (Value.int .i64 x46) ∧ w.cell? (p29.add 17) = some (Value.bool x47) ∧ w.cell? (p29.add 18) = some (Value.int .i64 x48) ∧ w.cell? (p29.add 19) = some (Value.int .i64 x49) ∧ w.cell? (p29.add 20) = some (Value.int .i64 x50) ∧ w.cell? (p29.add 21) = some (Value.int .i64 x51)) rfl (by kernel_rfl) (by kernel_rfl) (by kernel_rfl) rfl rfl rfl ⟨q30, q31, q32, q33, q34, q35, q36, q37, q38, q39, q40, q41, q42, q43, q44, q45, q46, q47, q48, q49, q50, q51⟩ (fun w ⟨q30, q31, q32, q33, q34, q35, q36, q37, q38, q39, q40, q41, q42, q43, q44, q45, q46, q47, q48, q49, q50, q51⟩ => (x_loadN [(Value.string x30), (Value.int .i64 x31), (Value.int .i64 x32), (Value.int .i64 x33), (Value.bool x34), (Value.int .i64 x35), (Value.bool x36), (Value.bool x37), (Value.int .i64 x38), (Value.int .i64 x39), (Value.int .i64 x40), (Value.int .i64 x41), (Sl.v x42), (Value.int .i64 x43), (Value.int .i64 x44), (Value.int .i64 x45), (Value.int .i64 x46), (Value.bool x47), (Value.int .i64 x48), (Value.int .i64 x49), (Value.int .i64 x50), (Value.int .i64 x51)] rfl rfl SH_33 (CellsAt.out (CellsAt.cons q30 (CellsAt.cons q31 (CellsAt.cons q32 (CellsAt.cons q33 (CellsAt.cons q34 (CellsAt.cons q35 (CellsAt.cons q36 (CellsAt.cons q37 (CellsAt.cons q38 (CellsAt.cons q39 (CellsAt.cons q40 (CellsAt.cons q41 (CellsAt.cons q42 (CellsAt.cons q43 (CellsAt.cons q44 (CellsAt.cons q45 (CellsAt.cons q46 (CellsAt.cons q47 (CellsAt.cons q48 (CellsAt.cons q49 (CellsAt.cons q50 (CellsAt.cons q51 CellsAt.nil))))))))))))))))))))))))) ?_
            refine wpD_take (v := (Sl.v r10)) 4 (fun _ => True) rfl (by kernel_rfl) (by kernel_rfl) (by kernel_rfl) rfl rfl rfl trivial (fun w _ => (x_move (v := (Sl.v r10)) rfl e9)) ?_
            refine wpD_take (v := (Value.int .i64 l11)) 5 (fun _ => True) rfl (by kernel_rfl) (by kernel_rfl) (by kernel_rfl) rfl rfl rfl trivial (fun w _ => (x_move (v := (Value.int .i64 l11)) rfl e10)) ?_
            obtain ⟨q52, z52, r52, h⟩ := h
            generalize hp52 : z52.add ((l11 : Int).toNat * 4) = p52 at h
            refine wpD_take (v := (Value.pointer (some p52))) 6 (fun _ => True) rfl (by kernel_rfl) (by kernel_rfl) (by kernel_rfl) rfl rfl rfl trivial (fun w _ => ((x_indexAddr (s := r10) rfl rfl rfl ES_37 q52 r52).trans (by rw [hp52]))) ?_
            obtain ⟨x53, q53, h⟩ := h
            obtain ⟨x54, q54, h⟩ := h
            obtain ⟨x55, q55, h⟩ := h
            obtain ⟨x56, q56, h⟩ := h
            refine wpD_take (v := (Value.agg #[(Value.int .i64 x53), (Value.int .i64 x54), (Value.int .i64 x55), (Value.int .i64 x56)])) 7 (fun w => w.cell? (p52.add 0) = some (Value.int .i64 x53) ∧ w.cell? (p52.add 1) = some (Value.int .i64 x54) ∧ w.cell? (p52.add 2) = some (Value.int .i64 x55) ∧ w.cell? (p52.add 3) = some (Value.int .i64 x56)) rfl (by kernel_rfl) (by kernel_rfl) (by kernel_rfl) rfl rfl rfl ⟨q53, q54, q55, q56⟩ (fun w ⟨q53, q54, q55, q56⟩ => (x_loadN [(Value.int .i64 x53), (Value.int .i64 x54), (Value.int .i64 x55), (Value.int .i64 x56)] rfl rfl SH_43 (CellsAt.out (CellsAt.cons q53 (CellsAt.cons q54 (CellsAt.cons q55 (CellsAt.cons q56 CellsAt.nil))))))) ?_
            refine wpD_take (v := (Sl.v p1)) 8 (fun _ => True) rfl (by kernel_rfl) (by kernel_rfl) (by kernel_rfl) rfl rfl rfl trivial (fun w _ => (x_move (v := (Sl.v p1)) rfl e1)) ?_
            refine wpD_take (v := (Value.int .i64 p3)) 9 (fun _ => True) rfl (by kernel_rfl) (by kernel_rfl) (by kernel_rfl) rfl rfl rfl trivial (fun w _ => (x_move (v := (Value.int .i64 p3)) rfl e3)) ?_
            refine wpD_all (rs := [10]) (by kernel_rfl) (by simp) (allD_cons ?_ allD_nil)
            refine stepD_enterL (L' := [(6, fun _ => True), (5, fun _ => True), (4, fun _ => True), (2, fun _ => True), (1, fun _ => True), (0, fun _ => True)]) rfl rfl rfl rfl (x_call (vs := [(Value.agg #[(Value.string x30), (Value.int .i64 x31), (Value.int .i64 x32), (Value.int .i64 x33), (Value.bool x34), (Value.int .i64 x35), (Value.bool x36), (Value.bool x37), (Value.int .i64 x38), (Value.int .i64 x39), (Value.int .i64 x40), (Value.int .i64 x41), (Sl.v x42), (Value.int .i64 x43), (Value.int .i64 x44), (Value.int .i64 x45), (Value.int .i64 x46), (Value.bool x47), (Value.int .i64 x48), (Value.int .i64 x49), (Value.int .i64 x50), (Value.int .i64 x51)]), (Value.agg #[(Value.int .i64 x53), (Value.int .i64 x54), (Value.int .i64 x55), (Value.int .i64 x56)]), (Sl.v p1), (Value.int .i64 p3)]) rfl rfl (mapl_cons rfl (mapl_cons rfl (mapl_cons rfl (mapl_cons rfl mapl_nil)))) Try.func25 NN_25 NB_25) (by kernel_rfl) (Calls.mono h ?_)
            rintro _ w8 ⟨r57, rfl, h⟩
            refine ⟨_, rfl, (held_cons trivial (held_cons trivial (held_cons trivial (held_cons trivial (held_cons trivial (held_cons trivial held_nil)))))), ?_⟩
            refine wpD_take (v := (Value.bool r57)) 11 (fun _ => True) rfl (by kernel_rfl) (by kernel_rfl) (by kernel_rfl) rfl rfl rfl trivial (fun w _ => (x_assign (v := (Value.bool r57)) rfl rfl)) ?_
            exact wpD_done (by kernel_rfl) ⟨r57, ⟨rfl, e0, e1, e2, e3, e9, e10, e12, trivial⟩, h⟩
          clear h
          rintro l58 ρ w9 ⟨e11, e0, e1, e2, e3, e9, e10, e12, -⟩ h
          replace h := hk l58 w9 h
          clear hk
          refine wpC_region ?_
          refine wpR_val (v := (Value.int .i64 l23.2)) (w' := w9) rfl rfl rfl (x_move (v := (Value.int .i64 l23.2)) rfl e12) ?_
          refine wpR_val (v := (Value.int .i64 (IntKind.i64.wrap (l23.2 + 1)))) (w' := w9) rfl rfl rfl (x_add rfl rfl rfl) ?_
          refine wpR_val (v := (Value.int .i64 (IntKind.i64.wrap (l23.2 + 1)))) (w' := w9) rfl rfl rfl (x_assign (v := (Value.int .i64 (IntKind.i64.wrap (l23.2 + 1)))) rfl rfl) ?_
          refine wpR_nil ?_
          exact ⟨(l58, IntKind.i64.wrap (l23.2 + 1)), ⟨e11, rfl, e0, e1, e2, e3, e9, e10, trivial⟩, h⟩
        · replace h := h.2 hc26
          refine wpC_exit ?_
          refine wpC_seq ?_
          refine wpC_region ?_
          refine wpR_val (v := (Value.bool l23.1)) (w' := w6) rfl rfl rfl (x_move (v := (Value.bool l23.1)) rfl e11) ?_
          refine wpR_nil ?_
          refine wpC_cond (b := l23.1) rfl (fun hc59 => ?_) (fun hc59 => ?_)
          · replace h := h.1 hc59
            refine wpC_seq ?_
            refine wpC_cut (fun ρ => True) trivial ?_
            rintro ρ -
            refine wpC_region ?_
            refine wpR_val (v := (Value.bool true)) (w' := w6) rfl rfl rfl (x_assign (v := (Value.bool true)) rfl rfl) ?_
            refine wpR_nil ?_
            refine wpC_ret ?_
            exact ⟨.inl rfl, fun a ha => ⟨_, results_rep1 rfl ha rfl, true, rfl, h⟩⟩
          · replace h := h.2 hc59
            refine wpC_skip ?_
            refine wpC_cut (fun ρ => ρ 0 = (Sl.v p0) ∧ ρ 1 = (Sl.v p1) ∧ ρ 2 = (Value.int .i64 p2) ∧ ρ 3 = (Value.int .i64 p3) ∧ ρ 9 = (Sl.v r10) ∧ ρ 10 = (Value.int .i64 l11) ∧ True) ⟨e0, e1, e2, e3, e9, e10, trivial⟩ ?_
            rintro ρ ⟨e0, e1, e2, e3, e9, e10, -⟩
            refine wpC_region ?_
            refine wpR_val (v := (Value.int .i64 l11)) (w' := w6) rfl rfl rfl (x_move (v := (Value.int .i64 l11)) rfl e10) ?_
            refine wpR_val (v := (Value.int .i64 (IntKind.i64.wrap (l11 + 1)))) (w' := w6) rfl rfl rfl (x_add rfl rfl rfl) ?_
            refine wpR_val (v := (Value.int .i64 (IntKind.i64.wrap (l11 + 1)))) (w' := w6) rfl rfl rfl (x_assign (v := (Value.int .i64 (IntKind.i64.wrap (l11 + 1)))) rfl rfl) ?_
            refine wpR_nil ?_
            exact ⟨IntKind.i64.wrap (l11 + 1), ⟨rfl, e0, e1, e2, e3, e9, trivial⟩, h⟩
      · replace h := h.2 hc12
        refine wpC_exit ?_
        refine wpC_seq ?_
        refine wpC_cut (fun ρ => True) trivial ?_
        rintro ρ -
        refine wpC_region ?_
        refine wpR_val (v := (Value.bool false)) (w' := w3) rfl rfl rfl (x_assign (v := (Value.bool false)) rfl rfl) ?_
        refine wpR_nil ?_
        refine wpC_ret ?_
        exact ⟨.inl rfl, fun a ha => ⟨_, results_rep1 rfl ha rfl, false, rfl, h⟩⟩


end Go.Proofs.Ytcnnnhligkpamaa
