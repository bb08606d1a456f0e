import Derived.Test.YtgbhghoppjfofaaRows
import Derived.Test.YtgbhghoppjfofaaFs1
import Derived.Test.YtgbhghoppjfofaaDecRaw
namespace Go.Proofs.Ytgbhghoppjfofaa
open Go.Dec
set_option maxHeartbeats 400000
set_option maxRecDepth 100000

/-- ring.Cut -/
def F12 (p0 : Sl) (p1 : Int) (w0 : World) (K : (Sl × Sl × Int) → World → Prop) : Prop :=
  callC Try.prog 30 #[(Sl.v p0), (Value.int .i64 p1)] (fun (r : Bool) => (Value.bool r)) w0 fun r9 w1 =>
  cnd (!r9)
    (
    K (Sl.nil, Sl.nil, 1) w1
    )
    (
    lp (fun (next11 : (Sl × Int) → World → Prop) l11 w2 =>
      cnd (decide (l11.2 < (p0.len : Int)))
        (
        jn (fun (J13 : Sl → World → Prop) =>
          ix p0 l11.2 3 fun p15 =>
          ld (Value.int .i64) (p15.add 0) w2 fun x16 =>
          ld (Value.int .i64) (p15.add 1) w2 fun x17 =>
          ld Value.bool (p15.add 2) w2 fun x18 =>
          nw 54 #[(Value.int .i64 0), (Value.int .i64 0), (Value.bool false)] w2 fun b19 w4 =>
          st (Addr.mk b19 0 none) [(Value.int .i64 x16), (Value.int .i64 x17), (Value.bool x18)] w4 fun w5 =>
          ld Value.bool ((Addr.mk b19 0 none).add 2) w5 fun x21 =>
          cnd (x21)
            (
            J13 l11.1 w5
            )
            (
            ld (Value.int .i64) ((Addr.mk b19 0 none).add 1) w5 fun x23 =>
            ld (Value.int .i64) ((Addr.mk b19 0 none).add 0) w5 fun x24 =>
            callC Try.prog 31 #[(Sl.v p0), (Sl.v l11.1), (Value.int .i64 x23), (Value.int .i64 x24)] (fun (r : Sl × Bool) => (Value.tuple #[(Sl.v r.1), (Value.bool r.2)])) w5 fun r25 w6 =>
            cnd (r25.2)
              (
              nw 3 #[(Value.int .i64 l11.2)] w6 fun b27 w7 =>
              rn Try.prog (Builtin.append_ #[38, 38] 38 #[Sl.v r25.1, Sl.v (⟨some ⟨b27, 0, none⟩, 1, 1⟩ : Sl)]) Sl.v w7 fun r28 w8 =>
              K (r28, Sl.nil, 19) w8
              )
              (
              nw 3 #[(Value.int .i64 l11.2)] w6 fun b29 w9 =>
              rn Try.prog (Builtin.append_ #[38, 38] 38 #[Sl.v l11.1, Sl.v (⟨some ⟨b29, 0, none⟩, 1, 1⟩ : Sl)]) Sl.v w9 fun r30 w10 =>
              J13 r30 w10
              )
            )
        )
        fun l14 w3 =>
        next11 (l14, IntKind.i64.wrap (l11.2 + 1)) w3
        )
        (
        lp (fun (next31 : (Sl × Sl × Int) → World → Prop) l31 w11 =>
          cnd (decide (l31.2.2 < (p0.len : Int)))
            (
            jn (fun (J33 : (Sl × Sl) → World → Prop) =>
              ix p0 l31.2.2 3 fun p35 =>
              ld (Value.int .i64) (p35.add 0) w11 fun x36 =>
              ld (Value.int .i64) (p35.add 1) w11 fun x37 =>
              ld Value.bool (p35.add 2) w11 fun x38 =>
              nw 54 #[(Value.int .i64 0), (Value.int .i64 0), (Value.bool false)] w11 fun b39 w13 =>
              st (Addr.mk b39 0 none) [(Value.int .i64 x36), (Value.int .i64 x37), (Value.bool x38)] w13 fun w14 =>
              ld Value.bool ((Addr.mk b39 0 none).add 2) w14 fun x41 =>
              cnd (!x41)
                (
                J33 (l31.1, l31.2.1) w14
                )
                (
                ld (Value.int .i64) ((Addr.mk b39 0 none).add 1) w14 fun x43 =>
                ld (Value.int .i64) ((Addr.mk b39 0 none).add 0) w14 fun x44 =>
                callC Try.prog 31 #[(Sl.v p0), (Sl.v l31.1), (Value.int .i64 x43), (Value.int .i64 x44)] (fun (r : Sl × Bool) => (Value.tuple #[(Sl.v r.1), (Value.bool r.2)])) w14 fun r45 w15 =>
                cnd (r45.2)
                  (
                  nw 3 #[(Value.int .i64 l31.2.2)] w15 fun b47 w16 =>
                  rn Try.prog (Builtin.append_ #[38, 38] 38 #[Sl.v l31.2.1, Sl.v (⟨some ⟨b47, 0, none⟩, 1, 1⟩ : Sl)]) Sl.v w16 fun r48 w17 =>
                  J33 (l31.1, r48) w17
                  )
                  (
                  nw 3 #[(Value.int .i64 l31.2.2)] w15 fun b49 w18 =>
                  rn Try.prog (Builtin.append_ #[38, 38] 38 #[Sl.v l31.1, Sl.v (⟨some ⟨b49, 0, none⟩, 1, 1⟩ : Sl)]) Sl.v w18 fun r50 w19 =>
                  J33 (r50, l31.2.1) w19
                  )
                )
            )
            fun l34 w12 =>
            next31 (l34.1, l34.2, IntKind.i64.wrap (l31.2.2 + 1)) w12
            )
            (
            callC Try.prog 32 #[(Sl.v p0), (Sl.v l31.1), (Value.int .i64 p1)] (fun (r : Sl) => (Sl.v r)) w11 fun r51 w20 =>
            K (l31.2.1, r51, 0) w20
            )
        ) (l11.1, Sl.nil, 0) w2
        )
    ) (Sl.nil, 0) w1
    )
set_option maxRecDepth 100000 in
theorem D12 (p0 : Sl) (p1 : Int) (w0 : World) (K : (Sl × Sl × Int) → World → Prop) (h : F12 p0 p1 w0 K) : callC Try.prog 12 #[(Sl.v p0), (Value.int .i64 p1)] (fun (r : Sl × Sl × Int) => (Value.tuple #[(Sl.v r.1), (Sl.v r.2.1), (Value.int .i64 r.2.2)])) w0 K := by
  unfold F12 at h
  refine calls_of_wpC Try.func12 rfl 85 rfl (by simp) ?_
  intro ρ hρ
  have e0 : ρ 0 = (Sl.v p0) := hρ 0
  have e1 : ρ 1 = (Value.int .i64 p1) := hρ 1
  clear hρ
  refine wpC_seq ?_
  refine wpC_region ?_
  refine wpR_val (v := (Sl.v Sl.nil)) (w' := w0) rfl rfl rfl (x_assign (v := (Sl.v Sl.nil)) rfl rfl) ?_
  refine wpR_val (v := (Sl.v Sl.nil)) (w' := w0) rfl rfl rfl (x_assign (v := (Sl.v Sl.nil)) rfl rfl) ?_
  refine wpR_val (v := (Value.int .i64 0)) (w' := w0) rfl rfl rfl (x_assign (v := (Value.int .i64 0)) rfl rfl) ?_
  refine wpR_nil ?_
  refine wpC_seq ?_
  refine wpC_seq ?_
  refine wpC_cut (fun ρ => ρ 0 = (Sl.v p0) ∧ ρ 1 = (Value.int .i64 p1) ∧ True) ⟨e0, e1, trivial⟩ ?_
  rintro ρ ⟨e0, e1, -⟩
  refine wpC_region ?_
  refine wpR_val (v := (Sl.v p0)) (w' := w0) rfl rfl rfl (x_move (v := (Sl.v p0)) rfl e0) ?_
  refine wpR_val (v := (Value.int .i64 p1)) (w' := w0) rfl rfl rfl (x_move (v := (Value.int .i64 p1)) rfl e1) ?_
  refine wpR_enter rfl rfl rfl (x_call (vs := [(Sl.v p0), (Value.int .i64 p1)]) rfl rfl (mapl_cons rfl (mapl_cons rfl mapl_nil)) Try.func30 NN_30 NB_30) (Calls.mono h ?_)
  rintro _ w1 ⟨r9, rfl, h⟩
  refine ⟨_, rfl, ?_⟩
  refine wpR_val (v := (Value.bool (!r9))) (w' := w1) rfl rfl rfl (x_not rfl rfl) ?_
  refine wpR_nil ?_
  refine wpC_cond (b := !r9) rfl (fun hc10 => ?_) (fun hc10 => ?_)
  · replace h := h.1 hc10
    refine wpC_seq ?_
    refine wpC_cut (fun ρ => True) trivial ?_
    rintro ρ -
    refine wpC_region ?_
    refine wpR_val (v := (Sl.v Sl.nil)) (w' := w1) rfl rfl rfl (x_assign (v := (Sl.v Sl.nil)) rfl rfl) ?_
    refine wpR_val (v := (Sl.v Sl.nil)) (w' := w1) rfl rfl rfl (x_assign (v := (Sl.v Sl.nil)) rfl rfl) ?_
    refine wpR_val (v := (Value.int .i64 1)) (w' := w1) rfl rfl rfl (x_assign (v := (Value.int .i64 1)) rfl rfl) ?_
    refine wpR_nil ?_
    refine wpC_ret ?_
    exact ⟨.inl rfl, fun a ha => ⟨_, results_rep3 rfl ha rfl rfl rfl, (Sl.nil, Sl.nil, 1), rfl, h⟩⟩
  · replace h := h.2 hc10
    refine wpC_skip ?_
    refine wpC_seq ?_
    refine wpC_cut (fun ρ => ρ 0 = (Sl.v p0) ∧ ρ 1 = (Value.int .i64 p1) ∧ True) ⟨e0, e1, trivial⟩ ?_
    rintro ρ ⟨e0, e1, -⟩
    refine wpC_region ?_
    refine wpR_val (v := (Sl.v Sl.nil)) (w' := w1) rfl rfl rfl (x_assign (v := (Sl.v Sl.nil)) rfl rfl) ?_
    refine wpR_val (v := (Sl.v Sl.nil)) (w' := w1) rfl rfl rfl (x_assign (v := (Sl.v Sl.nil)) rfl rfl) ?_
    refine wpR_nil ?_
    refine wpC_seq ?_
    refine wpC_seq ?_
    refine wpC_cut (fun ρ => ρ 0 = (Sl.v p0) ∧ ρ 1 = (Value.int .i64 p1) ∧ ρ 7 = (Sl.v Sl.nil) ∧ ρ 8 = (Sl.v Sl.nil) ∧ True) ⟨e0, e1, rfl, rfl, trivial⟩ ?_
    rintro ρ ⟨e0, e1, e7, e8, -⟩
    refine wpC_region ?_
    refine wpR_val (v := (Sl.v p0)) (w' := w1) rfl rfl rfl (x_move (v := (Sl.v p0)) rfl e0) ?_
    refine wpR_val (v := (Value.int .i64 (p0.len : Int))) (w' := w1) rfl rfl rfl (x_lenS (s := p0) rfl rfl isSliceT_55) ?_
    refine wpR_val (v := (Value.int .i64 0)) (w' := w1) rfl rfl rfl (x_move (v := (Value.int .i64 0)) rfl rfl) ?_
    refine wpR_nil ?_
    refine wpC_block ?_
    obtain ⟨I11, μ11, hI11, hr11⟩ := h
    refine wpC_loop (fun (x : Sl × Int) ρ => ρ 7 = (Sl.v x.1) ∧ ρ 23 = (Value.int .i64 x.2) ∧ ρ 0 = (Sl.v p0) ∧ ρ 1 = (Value.int .i64 p1) ∧ ρ 8 = (Sl.v Sl.nil) ∧ ρ 21 = (Sl.v p0) ∧ ρ 22 = (Value.int .i64 (p0.len : Int)) ∧ True) I11 μ11 (Sl.nil, 0) ⟨e7, rfl, e0, e1, e8, rfl, rfl, trivial⟩ hI11 ?_
    rintro l11 ρ w2 ⟨e7, e23, e0, e1, e8, e21, e22, -⟩ h
    replace h := hr11 l11 w2 h
    clear hr11 hI11
    refine wpC_seq ?_
    refine wpC_region ?_
    refine wpR_val (v := (Value.bool (decide (l11.2 < (p0.len : Int))))) (w' := w2) rfl rfl rfl (x_lss rfl e23 e22) ?_
    refine wpR_nil ?_
    refine wpC_seq ?_
    refine wpC_cond (b := decide (l11.2 < (p0.len : Int))) rfl (fun hc12 => ?_) (fun hc12 => ?_)
    · replace h := h.1 hc12
      refine wpC_skip ?_
      obtain ⟨J13, h, hk⟩ := h
      refine wpC_seqJ (fun (x : Sl) ρ => ρ 7 = (Sl.v x) ∧ ρ 0 = (Sl.v p0) ∧ ρ 1 = (Value.int .i64 p1) ∧ ρ 8 = (Sl.v Sl.nil) ∧ ρ 21 = (Sl.v p0) ∧ ρ 22 = (Value.int .i64 (p0.len : Int)) ∧ ρ 23 = (Value.int .i64 l11.2) ∧ True) J13 ?_ ?_
      · clear hk
        refine wpC_block ?_
        refine wpC_seq ?_
        refine wpC_cut (fun ρ => ρ 0 = (Sl.v p0) ∧ ρ 1 = (Value.int .i64 p1) ∧ ρ 7 = (Sl.v l11.1) ∧ ρ 8 = (Sl.v Sl.nil) ∧ ρ 21 = (Sl.v p0) ∧ ρ 22 = (Value.int .i64 (p0.len : Int)) ∧ ρ 23 = (Value.int .i64 l11.2) ∧ True) ⟨e0, e1, e7, e8, e21, e22, e23, trivial⟩ ?_
        rintro ρ ⟨e0, e1, e7, e8, e21, e22, e23, -⟩
        refine wpC_region ?_
        refine wpR_val (v := (Value.int .i64 l11.2)) (w' := w2) rfl rfl rfl (x_move (v := (Value.int .i64 l11.2)) rfl e23) ?_
        obtain ⟨q15, z15, r15, h⟩ := h
        generalize hp15 : z15.add ((l11.2 : Int).toNat * 3) = p15 at h
        refine wpR_val (v := (Value.pointer (some p15))) (w' := w2) rfl rfl rfl ((x_indexAddr (s := p0) rfl e21 e23 ES_55 q15 r15).trans (by rw [hp15])) ?_
        obtain ⟨x16, q16, x17, q17, x18, q18, h⟩ := h
        refine wpR_val (v := (Value.agg #[(Value.int .i64 x16), (Value.int .i64 x17), (Value.bool x18)])) (w' := w2) rfl rfl rfl (x_loadN [(Value.int .i64 x16), (Value.int .i64 x17), (Value.bool x18)] rfl rfl SH_54 (CellsAt.out (CellsAt.cons q16 (CellsAt.cons q17 (CellsAt.cons q18 CellsAt.nil))))) ?_
        obtain ⟨b19, hb19⟩ : ∃ u, u = w2.heap.size := ⟨_, rfl⟩
        obtain ⟨w4, hw19⟩ : ∃ u, u = w2.alloc (.cells #[(Value.int .i64 0), (Value.int .i64 0), (Value.bool false)] 54) := ⟨_, rfl⟩
        replace h := h b19 w4 hb19 hw19
        refine wpR_val (v := (Value.pointer (some (Addr.mk b19 0 none)))) (w' := w4) rfl rfl rfl ((x_alloc rfl ZV_54).trans (by rw [hb19, hw19]; rfl)) ?_
        refine wpR_val (v := (Value.int .i64 l11.2)) (w' := w4) rfl rfl rfl (x_assign (v := (Value.int .i64 l11.2)) rfl rfl) ?_
        obtain ⟨q20, h⟩ := h
        obtain ⟨w5, hw20⟩ : ∃ u, u = setAll w4 (Addr.mk b19 0 none) [(Value.int .i64 x16), (Value.int .i64 x17), (Value.bool x18)] 0 := ⟨_, rfl⟩
        replace h := h w5 hw20
        refine wpR_skp (w' := w5) rfl rfl ((x_store (v := (Value.agg #[(Value.int .i64 x16), (Value.int .i64 x17), (Value.bool x18)])) rfl rfl rfl SZ_54 (ones (by rfl)) q20).trans (by rw [hw20]; rfl)) ?_
        refine wpR_nil ?_
        refine wpC_seq ?_
        refine wpC_seq ?_
        refine wpC_cut (fun ρ => ρ 0 = (Sl.v p0) ∧ ρ 1 = (Value.int .i64 p1) ∧ ρ 7 = (Sl.v l11.1) ∧ ρ 8 = (Sl.v Sl.nil) ∧ ρ 9 = (Value.int .i64 l11.2) ∧ ρ 10 = (Value.pointer (some (Addr.mk b19 0 none))) ∧ ρ 21 = (Sl.v p0) ∧ ρ 22 = (Value.int .i64 (p0.len : Int)) ∧ ρ 23 = (Value.int .i64 l11.2) ∧ True) ⟨e0, e1, e7, e8, rfl, rfl, e21, e22, e23, trivial⟩ ?_
        rintro ρ ⟨e0, e1, e7, e8, e9, e10, e21, e22, e23, -⟩
        refine wpC_region ?_
        refine wpR_val (v := (Value.pointer (some ((Addr.mk b19 0 none).add 2)))) (w' := w5) rfl rfl rfl (x_fieldAddr rfl e10 FA_54_2) ?_
        obtain ⟨x21, q21, h⟩ := h
        refine wpR_val (v := (Value.bool x21)) (w' := w5) rfl rfl rfl (x_load1 rfl rfl SH_4 q21) ?_
        refine wpR_nil ?_
        refine wpC_cond (b := x21) rfl (fun hc22 => ?_) (fun hc22 => ?_)
        · replace h := h.1 hc22
          refine wpC_exit ?_
          exact ⟨l11.1, ⟨e7, e0, e1, e8, e21, e22, e23, trivial⟩, h⟩
        · replace h := h.2 hc22
          refine wpC_skip ?_
          refine wpC_seq ?_
          refine wpC_seq ?_
          refine wpC_cut (fun ρ => ρ 0 = (Sl.v p0) ∧ ρ 1 = (Value.int .i64 p1) ∧ ρ 7 = (Sl.v l11.1) ∧ ρ 8 = (Sl.v Sl.nil) ∧ ρ 9 = (Value.int .i64 l11.2) ∧ ρ 10 = (Value.pointer (some (Addr.mk b19 0 none))) ∧ ρ 21 = (Sl.v p0) ∧ ρ 22 = (Value.int .i64 (p0.len : Int)) ∧ ρ 23 = (Value.int .i64 l11.2) ∧ True) ⟨e0, e1, e7, e8, e9, e10, e21, e22, e23, trivial⟩ ?_
          rintro ρ ⟨e0, e1, e7, e8, e9, e10, e21, e22, e23, -⟩
          refine wpC_region ?_
          refine wpR_val (v := (Sl.v p0)) (w' := w5) rfl rfl rfl (x_move (v := (Sl.v p0)) rfl e0) ?_
          refine wpR_val (v := (Sl.v l11.1)) (w' := w5) rfl rfl rfl (x_move (v := (Sl.v l11.1)) rfl e7) ?_
          refine wpR_val (v := (Value.pointer (some ((Addr.mk b19 0 none).add 1)))) (w' := w5) rfl rfl rfl (x_fieldAddr rfl e10 FA_54_1) ?_
          obtain ⟨x23, q23, h⟩ := h
          refine wpR_val (v := (Value.int .i64 x23)) (w' := w5) rfl rfl rfl (x_load1 rfl rfl SH_3 q23) ?_
          refine wpR_val (v := (Value.pointer (some ((Addr.mk b19 0 none).add 0)))) (w' := w5) rfl rfl rfl (x_fieldAddr rfl e10 FA_54_0) ?_
          obtain ⟨x24, q24, h⟩ := h
          refine wpR_val (v := (Value.int .i64 x24)) (w' := w5) rfl rfl rfl (x_load1 rfl rfl SH_3 q24) ?_
          refine wpR_enter rfl rfl rfl (x_call (vs := [(Sl.v p0), (Sl.v l11.1), (Value.int .i64 x23), (Value.int .i64 x24)]) rfl rfl (mapl_cons rfl (mapl_cons rfl (mapl_cons rfl (mapl_cons rfl mapl_nil)))) Try.func31 NN_31 NB_31) (Calls.mono h ?_)
          rintro _ w6 ⟨r25, rfl, h⟩
          refine ⟨_, rfl, ?_⟩
          refine wpR_val (v := (Value.tuple #[(Sl.v r25.1), (Value.bool r25.2)])) (w' := w6) rfl rfl rfl (x_move (v := (Value.tuple #[(Sl.v r25.1), (Value.bool r25.2)])) rfl rfl) ?_
          refine wpR_val (v := (Sl.v r25.1)) (w' := w6) rfl rfl rfl (x_extract rfl rfl rfl) ?_
          refine wpR_val (v := (Value.bool r25.2)) (w' := w6) rfl rfl rfl (x_extract rfl rfl rfl) ?_
          refine wpR_val (v := (Sl.v r25.1)) (w' := w6) rfl rfl rfl (x_assign (v := (Sl.v r25.1)) rfl rfl) ?_
          refine wpR_val (v := (Value.bool r25.2)) (w' := w6) rfl rfl rfl (x_assign (v := (Value.bool r25.2)) rfl rfl) ?_
          refine wpR_nil ?_
          refine wpC_seq ?_
          refine wpC_cut (fun ρ => ρ 0 = (Sl.v p0) ∧ ρ 1 = (Value.int .i64 p1) ∧ ρ 7 = (Sl.v l11.1) ∧ ρ 8 = (Sl.v Sl.nil) ∧ ρ 9 = (Value.int .i64 l11.2) ∧ ρ 11 = (Sl.v r25.1) ∧ ρ 12 = (Value.bool r25.2) ∧ ρ 21 = (Sl.v p0) ∧ ρ 22 = (Value.int .i64 (p0.len : Int)) ∧ ρ 23 = (Value.int .i64 l11.2) ∧ True) ⟨e0, e1, e7, e8, e9, rfl, rfl, e21, e22, e23, trivial⟩ ?_
          rintro ρ ⟨e0, e1, e7, e8, e9, e11, e12, e21, e22, e23, -⟩
          refine wpC_region ?_
          refine wpR_val (v := (Value.bool r25.2)) (w' := w6) rfl rfl rfl (x_move (v := (Value.bool r25.2)) rfl e12) ?_
          refine wpR_nil ?_
          refine wpC_cond (b := r25.2) rfl (fun hc26 => ?_) (fun hc26 => ?_)
          · replace h := h.1 hc26
            refine wpC_seq ?_
            refine wpC_cut (fun ρ => ρ 9 = (Value.int .i64 l11.2) ∧ ρ 11 = (Sl.v r25.1) ∧ True) ⟨e9, e11, trivial⟩ ?_
            rintro ρ ⟨e9, e11, -⟩
            refine wpC_region ?_
            refine wpR_val (v := (Sl.v r25.1)) (w' := w6) rfl rfl rfl (x_move (v := (Sl.v r25.1)) rfl e11) ?_
            refine wpR_val (v := (Value.int .i64 l11.2)) (w' := w6) rfl rfl rfl (x_move (v := (Value.int .i64 l11.2)) rfl e9) ?_
            obtain ⟨b27, hb27⟩ : ∃ u, u = w6.heap.size := ⟨_, rfl⟩
            obtain ⟨w7, hw27⟩ : ∃ u, u = w6.alloc (.cells #[(Value.int .i64 l11.2)] 3) := ⟨_, rfl⟩
            replace h := h b27 w7 hb27 hw27
            refine wpR_val (v := (Sl.v (⟨some ⟨b27, 0, none⟩, 1, 1⟩ : Sl))) (w' := w7) rfl rfl rfl ((x_buildSlice (qs := [(0, (Value.int .i64 l11.2))]) rfl (by rfl) (BS_38_1_0 l11.2)).trans (by rw [← hb27, ← hw27])) ?_
            obtain ⟨r28, w8, q28, h⟩ := h
            refine wpR_val (v := (Sl.v r28)) (w' := w8) rfl rfl rfl (x_append (s := r25.1) (u := (⟨some ⟨b27, 0, none⟩, 1, 1⟩ : Sl)) rfl rfl rfl rfl q28) ?_
            refine wpR_val (v := (Sl.v r28)) (w' := w8) rfl rfl rfl (x_assign (v := (Sl.v r28)) rfl rfl) ?_
            refine wpR_val (v := (Sl.v Sl.nil)) (w' := w8) rfl rfl rfl (x_assign (v := (Sl.v Sl.nil)) rfl rfl) ?_
            refine wpR_val (v := (Value.int .i64 19)) (w' := w8) rfl rfl rfl (x_assign (v := (Value.int .i64 19)) rfl rfl) ?_
            refine wpR_nil ?_
            refine wpC_ret ?_
            exact ⟨.inl rfl, fun a ha => ⟨_, results_rep3 rfl ha rfl rfl rfl, (r28, Sl.nil, 19), rfl, h⟩⟩
          · replace h := h.2 hc26
            refine wpC_skip ?_
            refine wpC_cut (fun ρ => ρ 0 = (Sl.v p0) ∧ ρ 1 = (Value.int .i64 p1) ∧ ρ 7 = (Sl.v l11.1) ∧ ρ 8 = (Sl.v Sl.nil) ∧ ρ 9 = (Value.int .i64 l11.2) ∧ ρ 21 = (Sl.v p0) ∧ ρ 22 = (Value.int .i64 (p0.len : Int)) ∧ ρ 23 = (Value.int .i64 l11.2) ∧ True) ⟨e0, e1, e7, e8, e9, e21, e22, e23, trivial⟩ ?_
            rintro ρ ⟨e0, e1, e7, e8, e9, e21, e22, e23, -⟩
            refine wpC_region ?_
            refine wpR_val (v := (Sl.v l11.1)) (w' := w6) rfl rfl rfl (x_move (v := (Sl.v l11.1)) rfl e7) ?_
            refine wpR_val (v := (Value.int .i64 l11.2)) (w' := w6) rfl rfl rfl (x_move (v := (Value.int .i64 l11.2)) rfl e9) ?_
            obtain ⟨b29, hb29⟩ : ∃ u, u = w6.heap.size := ⟨_, rfl⟩
            obtain ⟨w9, hw29⟩ : ∃ u, u = w6.alloc (.cells #[(Value.int .i64 l11.2)] 3) := ⟨_, rfl⟩
            replace h := h b29 w9 hb29 hw29
            refine wpR_val (v := (Sl.v (⟨some ⟨b29, 0, none⟩, 1, 1⟩ : Sl))) (w' := w9) rfl rfl rfl ((x_buildSlice (qs := [(0, (Value.int .i64 l11.2))]) rfl (by rfl) (BS_38_1_0 l11.2)).trans (by rw [← hb29, ← hw29])) ?_
            obtain ⟨r30, w10, q30, h⟩ := h
            refine wpR_val (v := (Sl.v r30)) (w' := w10) rfl rfl rfl (x_append (s := l11.1) (u := (⟨some ⟨b29, 0, none⟩, 1, 1⟩ : Sl)) rfl rfl rfl rfl q30) ?_
            refine wpR_val (v := (Sl.v r30)) (w' := w10) rfl rfl rfl (x_assign (v := (Sl.v r30)) rfl rfl) ?_
            refine wpR_nil ?_
            exact ⟨r30, ⟨rfl, e0, e1, e8, e21, e22, e23, trivial⟩, h⟩
      clear h
      rintro l14 ρ w3 ⟨e7, e0, e1, e8, e21, e22, e23, -⟩ h
      replace h := hk l14 w3 h
      clear hk
      refine wpC_region ?_
      refine wpR_val (v := (Value.int .i64 (IntKind.i64.wrap (l11.2 + 1)))) (w' := w3) rfl rfl rfl (x_add rfl e23 rfl) ?_
      refine wpR_val (v := (Value.int .i64 (IntKind.i64.wrap (l11.2 + 1)))) (w' := w3) rfl rfl rfl (x_move (v := (Value.int .i64 (IntKind.i64.wrap (l11.2 + 1)))) rfl rfl) ?_
      refine wpR_nil ?_
      exact ⟨(l14, IntKind.i64.wrap (l11.2 + 1)), ⟨e7, rfl, e0, e1, e8, e21, e22, trivial⟩, h⟩
    · replace h := h.2 hc12
      refine wpC_exit ?_
      refine wpC_seq ?_
      refine wpC_seq ?_
      refine wpC_cut (fun ρ => ρ 0 = (Sl.v p0) ∧ ρ 1 = (Value.int .i64 p1) ∧ ρ 7 = (Sl.v l11.1) ∧ ρ 8 = (Sl.v Sl.nil) ∧ True) ⟨e0, e1, e7, e8, trivial⟩ ?_
      rintro ρ ⟨e0, e1, e7, e8, -⟩
      refine wpC_region ?_
      refine wpR_val (v := (Sl.v p0)) (w' := w2) rfl rfl rfl (x_move (v := (Sl.v p0)) rfl e0) ?_
      refine wpR_val (v := (Value.int .i64 (p0.len : Int))) (w' := w2) rfl rfl rfl (x_lenS (s := p0) rfl rfl isSliceT_55) ?_
      refine wpR_val (v := (Value.int .i64 0)) (w' := w2) rfl rfl rfl (x_move (v := (Value.int .i64 0)) rfl rfl) ?_
      refine wpR_nil ?_
      refine wpC_block ?_
      obtain ⟨I31, μ31, hI31, hr31⟩ := h
      refine wpC_loop (fun (x : Sl × Sl × Int) ρ => ρ 7 = (Sl.v x.1) ∧ ρ 8 = (Sl.v x.2.1) ∧ ρ 52 = (Value.int .i64 x.2.2) ∧ ρ 0 = (Sl.v p0) ∧ ρ 1 = (Value.int .i64 p1) ∧ ρ 50 = (Sl.v p0) ∧ ρ 51 = (Value.int .i64 (p0.len : Int)) ∧ True) I31 μ31 (l11.1, Sl.nil, 0) ⟨e7, e8, rfl, e0, e1, rfl, rfl, trivial⟩ hI31 ?_
      rintro l31 ρ w11 ⟨e7, e8, e52, e0, e1, e50, e51, -⟩ h
      replace h := hr31 l31 w11 h
      clear hr31 hI31
      refine wpC_seq ?_
      refine wpC_region ?_
      refine wpR_val (v := (Value.bool (decide (l31.2.2 < (p0.len : Int))))) (w' := w11) rfl rfl rfl (x_lss rfl e52 e51) ?_
      refine wpR_nil ?_
      refine wpC_seq ?_
      refine wpC_cond (b := decide (l31.2.2 < (p0.len : Int))) rfl (fun hc32 => ?_) (fun hc32 => ?_)
      · replace h := h.1 hc32
        refine wpC_skip ?_
        obtain ⟨J33, h, hk⟩ := h
        refine wpC_seqJ (fun (x : Sl × Sl) ρ => ρ 7 = (Sl.v x.1) ∧ ρ 8 = (Sl.v x.2) ∧ ρ 0 = (Sl.v p0) ∧ ρ 1 = (Value.int .i64 p1) ∧ ρ 50 = (Sl.v p0) ∧ ρ 51 = (Value.int .i64 (p0.len : Int)) ∧ ρ 52 = (Value.int .i64 l31.2.2) ∧ True) J33 ?_ ?_
        · clear hk
          refine wpC_block ?_
          refine wpC_seq ?_
          refine wpC_cut (fun ρ => ρ 0 = (Sl.v p0) ∧ ρ 1 = (Value.int .i64 p1) ∧ ρ 7 = (Sl.v l31.1) ∧ ρ 8 = (Sl.v l31.2.1) ∧ ρ 50 = (Sl.v p0) ∧ ρ 51 = (Value.int .i64 (p0.len : Int)) ∧ ρ 52 = (Value.int .i64 l31.2.2) ∧ True) ⟨e0, e1, e7, e8, e50, e51, e52, trivial⟩ ?_
          rintro ρ ⟨e0, e1, e7, e8, e50, e51, e52, -⟩
          refine wpC_region ?_
          refine wpR_val (v := (Value.int .i64 l31.2.2)) (w' := w11) rfl rfl rfl (x_move (v := (Value.int .i64 l31.2.2)) rfl e52) ?_
          obtain ⟨q35, z35, r35, h⟩ := h
          generalize hp35 : z35.add ((l31.2.2 : Int).toNat * 3) = p35 at h
          refine wpR_val (v := (Value.pointer (some p35))) (w' := w11) rfl rfl rfl ((x_indexAddr (s := p0) rfl e50 e52 ES_55 q35 r35).trans (by rw [hp35])) ?_
          obtain ⟨x36, q36, x37, q37, x38, q38, h⟩ := h
          refine wpR_val (v := (Value.agg #[(Value.int .i64 x36), (Value.int .i64 x37), (Value.bool x38)])) (w' := w11) rfl rfl rfl (x_loadN [(Value.int .i64 x36), (Value.int .i64 x37), (Value.bool x38)] rfl rfl SH_54 (CellsAt.out (CellsAt.cons q36 (CellsAt.cons q37 (CellsAt.cons q38 CellsAt.nil))))) ?_
          obtain ⟨b39, hb39⟩ : ∃ u, u = w11.heap.size := ⟨_, rfl⟩
          obtain ⟨w13, hw39⟩ : ∃ u, u = w11.alloc (.cells #[(Value.int .i64 0), (Value.int .i64 0), (Value.bool false)] 54) := ⟨_, rfl⟩
          replace h := h b39 w13 hb39 hw39
          refine wpR_val (v := (Value.pointer (some (Addr.mk b39 0 none)))) (w' := w13) rfl rfl rfl ((x_alloc rfl ZV_54).trans (by rw [hb39, hw39]; rfl)) ?_
          refine wpR_val (v := (Value.int .i64 l31.2.2)) (w' := w13) rfl rfl rfl (x_assign (v := (Value.int .i64 l31.2.2)) rfl rfl) ?_
          obtain ⟨q40, h⟩ := h
          obtain ⟨w14, hw40⟩ : ∃ u, u = setAll w13 (Addr.mk b39 0 none) [(Value.int .i64 x36), (Value.int .i64 x37), (Value.bool x38)] 0 := ⟨_, rfl⟩
          replace h := h w14 hw40
          refine wpR_skp (w' := w14) rfl rfl ((x_store (v := (Value.agg #[(Value.int .i64 x36), (Value.int .i64 x37), (Value.bool x38)])) rfl rfl rfl SZ_54 (ones (by rfl)) q40).trans (by rw [hw40]; rfl)) ?_
          refine wpR_nil ?_
          refine wpC_seq ?_
          refine wpC_seq ?_
          refine wpC_cut (fun ρ => ρ 0 = (Sl.v p0) ∧ ρ 1 = (Value.int .i64 p1) ∧ ρ 7 = (Sl.v l31.1) ∧ ρ 8 = (Sl.v l31.2.1) ∧ ρ 13 = (Value.int .i64 l31.2.2) ∧ ρ 14 = (Value.pointer (some (Addr.mk b39 0 none))) ∧ ρ 50 = (Sl.v p0) ∧ ρ 51 = (Value.int .i64 (p0.len : Int)) ∧ ρ 52 = (Value.int .i64 l31.2.2) ∧ True) ⟨e0, e1, e7, e8, rfl, rfl, e50, e51, e52, trivial⟩ ?_
          rintro ρ ⟨e0, e1, e7, e8, e13, e14, e50, e51, e52, -⟩
          refine wpC_region ?_
          refine wpR_val (v := (Value.pointer (some ((Addr.mk b39 0 none).add 2)))) (w' := w14) rfl rfl rfl (x_fieldAddr rfl e14 FA_54_2) ?_
          obtain ⟨x41, q41, h⟩ := h
          refine wpR_val (v := (Value.bool x41)) (w' := w14) rfl rfl rfl (x_load1 rfl rfl SH_4 q41) ?_
          refine wpR_val (v := (Value.bool (!x41))) (w' := w14) rfl rfl rfl (x_not rfl rfl) ?_
          refine wpR_nil ?_
          refine wpC_cond (b := !x41) rfl (fun hc42 => ?_) (fun hc42 => ?_)
          · replace h := h.1 hc42
            refine wpC_exit ?_
            exact ⟨(l31.1, l31.2.1), ⟨e7, e8, e0, e1, e50, e51, e52, trivial⟩, h⟩
          · replace h := h.2 hc42
            refine wpC_skip ?_
            refine wpC_seq ?_
            refine wpC_cut (fun ρ => ρ 0 = (Sl.v p0) ∧ ρ 1 = (Value.int .i64 p1) ∧ ρ 7 = (Sl.v l31.1) ∧ ρ 8 = (Sl.v l31.2.1) ∧ ρ 13 = (Value.int .i64 l31.2.2) ∧ ρ 14 = (Value.pointer (some (Addr.mk b39 0 none))) ∧ ρ 50 = (Sl.v p0) ∧ ρ 51 = (Value.int .i64 (p0.len : Int)) ∧ ρ 52 = (Value.int .i64 l31.2.2) ∧ True) ⟨e0, e1, e7, e8, e13, e14, e50, e51, e52, trivial⟩ ?_
            rintro ρ ⟨e0, e1, e7, e8, e13, e14, e50, e51, e52, -⟩
            refine wpC_region ?_
            refine wpR_val (v := (Sl.v p0)) (w' := w14) rfl rfl rfl (x_move (v := (Sl.v p0)) rfl e0) ?_
            refine wpR_val (v := (Sl.v l31.1)) (w' := w14) rfl rfl rfl (x_move (v := (Sl.v l31.1)) rfl e7) ?_
            refine wpR_val (v := (Value.pointer (some ((Addr.mk b39 0 none).add 1)))) (w' := w14) rfl rfl rfl (x_fieldAddr rfl e14 FA_54_1) ?_
            obtain ⟨x43, q43, h⟩ := h
            refine wpR_val (v := (Value.int .i64 x43)) (w' := w14) rfl rfl rfl (x_load1 rfl rfl SH_3 q43) ?_
            refine wpR_val (v := (Value.pointer (some ((Addr.mk b39 0 none).add 0)))) (w' := w14) rfl rfl rfl (x_fieldAddr rfl e14 FA_54_0) ?_
            obtain ⟨x44, q44, h⟩ := h
            refine wpR_val (v := (Value.int .i64 x44)) (w' := w14) rfl rfl rfl (x_load1 rfl rfl SH_3 q44) ?_
            refine wpR_enter rfl rfl rfl (x_call (vs := [(Sl.v p0), (Sl.v l31.1), (Value.int .i64 x43), (Value.int .i64 x44)]) rfl rfl (mapl_cons rfl (mapl_cons rfl (mapl_cons rfl (mapl_cons rfl mapl_nil)))) Try.func31 NN_31 NB_31) (Calls.mono h ?_)
            rintro _ w15 ⟨r45, rfl, h⟩
            refine ⟨_, rfl, ?_⟩
            refine wpR_val (v := (Value.tuple #[(Sl.v r45.1), (Value.bool r45.2)])) (w' := w15) rfl rfl rfl (x_move (v := (Value.tuple #[(Sl.v r45.1), (Value.bool r45.2)])) rfl rfl) ?_
            refine wpR_val (v := (Sl.v r45.1)) (w' := w15) rfl rfl rfl (x_extract rfl rfl rfl) ?_
            refine wpR_val (v := (Value.bool r45.2)) (w' := w15) rfl rfl rfl (x_extract rfl rfl rfl) ?_
            refine wpR_val (v := (Sl.v r45.1)) (w' := w15) rfl rfl rfl (x_assign (v := (Sl.v r45.1)) rfl rfl) ?_
            refine wpR_val (v := (Value.bool r45.2)) (w' := w15) rfl rfl rfl (x_assign (v := (Value.bool r45.2)) rfl rfl) ?_
            refine wpR_nil ?_
            refine wpC_seq ?_
            refine wpC_cut (fun ρ => ρ 0 = (Sl.v p0) ∧ ρ 1 = (Value.int .i64 p1) ∧ ρ 7 = (Sl.v l31.1) ∧ ρ 8 = (Sl.v l31.2.1) ∧ ρ 13 = (Value.int .i64 l31.2.2) ∧ ρ 16 = (Value.bool r45.2) ∧ ρ 50 = (Sl.v p0) ∧ ρ 51 = (Value.int .i64 (p0.len : Int)) ∧ ρ 52 = (Value.int .i64 l31.2.2) ∧ True) ⟨e0, e1, e7, e8, e13, rfl, e50, e51, e52, trivial⟩ ?_
            rintro ρ ⟨e0, e1, e7, e8, e13, e16, e50, e51, e52, -⟩
            refine wpC_region ?_
            refine wpR_val (v := (Value.bool r45.2)) (w' := w15) rfl rfl rfl (x_move (v := (Value.bool r45.2)) rfl e16) ?_
            refine wpR_nil ?_
            refine wpC_cond (b := r45.2) rfl (fun hc46 => ?_) (fun hc46 => ?_)
            · replace h := h.1 hc46
              refine wpC_cut (fun ρ => ρ 0 = (Sl.v p0) ∧ ρ 1 = (Value.int .i64 p1) ∧ ρ 7 = (Sl.v l31.1) ∧ ρ 8 = (Sl.v l31.2.1) ∧ ρ 13 = (Value.int .i64 l31.2.2) ∧ ρ 50 = (Sl.v p0) ∧ ρ 51 = (Value.int .i64 (p0.len : Int)) ∧ ρ 52 = (Value.int .i64 l31.2.2) ∧ True) ⟨e0, e1, e7, e8, e13, e50, e51, e52, trivial⟩ ?_
              rintro ρ ⟨e0, e1, e7, e8, e13, e50, e51, e52, -⟩
              refine wpC_region ?_
              refine wpR_val (v := (Sl.v l31.2.1)) (w' := w15) rfl rfl rfl (x_move (v := (Sl.v l31.2.1)) rfl e8) ?_
              refine wpR_val (v := (Value.int .i64 l31.2.2)) (w' := w15) rfl rfl rfl (x_move (v := (Value.int .i64 l31.2.2)) rfl e13) ?_
              obtain ⟨b47, hb47⟩ : ∃ u, u = w15.heap.size := ⟨_, rfl⟩
              obtain ⟨w16, hw47⟩ : ∃ u, u = w15.alloc (.cells #[(Value.int .i64 l31.2.2)] 3) := ⟨_, rfl⟩
              replace h := h b47 w16 hb47 hw47
              refine wpR_val (v := (Sl.v (⟨some ⟨b47, 0, none⟩, 1, 1⟩ : Sl))) (w' := w16) rfl rfl rfl ((x_buildSlice (qs := [(0, (Value.int .i64 l31.2.2))]) rfl (by rfl) (BS_38_1_0 l31.2.2)).trans (by rw [← hb47, ← hw47])) ?_
              obtain ⟨r48, w17, q48, h⟩ := h
              refine wpR_val (v := (Sl.v r48)) (w' := w17) rfl rfl rfl (x_append (s := l31.2.1) (u := (⟨some ⟨b47, 0, none⟩, 1, 1⟩ : Sl)) rfl rfl rfl rfl q48) ?_
              refine wpR_val (v := (Sl.v r48)) (w' := w17) rfl rfl rfl (x_assign (v := (Sl.v r48)) rfl rfl) ?_
              refine wpR_nil ?_
              exact ⟨(l31.1, r48), ⟨e7, rfl, e0, e1, e50, e51, e52, trivial⟩, h⟩
            · replace h := h.2 hc46
              refine wpC_cut (fun ρ => ρ 0 = (Sl.v p0) ∧ ρ 1 = (Value.int .i64 p1) ∧ ρ 7 = (Sl.v l31.1) ∧ ρ 8 = (Sl.v l31.2.1) ∧ ρ 13 = (Value.int .i64 l31.2.2) ∧ ρ 50 = (Sl.v p0) ∧ ρ 51 = (Value.int .i64 (p0.len : Int)) ∧ ρ 52 = (Value.int .i64 l31.2.2) ∧ True) ⟨e0, e1, e7, e8, e13, e50, e51, e52, trivial⟩ ?_
              rintro ρ ⟨e0, e1, e7, e8, e13, e50, e51, e52, -⟩
              refine wpC_region ?_
              refine wpR_val (v := (Sl.v l31.1)) (w' := w15) rfl rfl rfl (x_move (v := (Sl.v l31.1)) rfl e7) ?_
              refine wpR_val (v := (Value.int .i64 l31.2.2)) (w' := w15) rfl rfl rfl (x_move (v := (Value.int .i64 l31.2.2)) rfl e13) ?_
              obtain ⟨b49, hb49⟩ : ∃ u, u = w15.heap.size := ⟨_, rfl⟩
              obtain ⟨w18, hw49⟩ : ∃ u, u = w15.alloc (.cells #[(Value.int .i64 l31.2.2)] 3) := ⟨_, rfl⟩
              replace h := h b49 w18 hb49 hw49
              refine wpR_val (v := (Sl.v (⟨some ⟨b49, 0, none⟩, 1, 1⟩ : Sl))) (w' := w18) rfl rfl rfl ((x_buildSlice (qs := [(0, (Value.int .i64 l31.2.2))]) rfl (by rfl) (BS_38_1_0 l31.2.2)).trans (by rw [← hb49, ← hw49])) ?_
              obtain ⟨r50, w19, q50, h⟩ := h
              refine wpR_val (v := (Sl.v r50)) (w' := w19) rfl rfl rfl (x_append (s := l31.1) (u := (⟨some ⟨b49, 0, none⟩, 1, 1⟩ : Sl)) rfl rfl rfl rfl q50) ?_
              refine wpR_val (v := (Sl.v r50)) (w' := w19) rfl rfl rfl (x_assign (v := (Sl.v r50)) rfl rfl) ?_
              refine wpR_nil ?_
              exact ⟨(r50, l31.2.1), ⟨rfl, e8, e0, e1, e50, e51, e52, trivial⟩, h⟩
        clear h
        rintro l34 ρ w12 ⟨e7, e8, e0, e1, e50, e51, e52, -⟩ h
        replace h := hk l34 w12 h
        clear hk
        refine wpC_region ?_
        refine wpR_val (v := (Value.int .i64 (IntKind.i64.wrap (l31.2.2 + 1)))) (w' := w12) rfl rfl rfl (x_add rfl e52 rfl) ?_
        refine wpR_val (v := (Value.int .i64 (IntKind.i64.wrap (l31.2.2 + 1)))) (w' := w12) rfl rfl rfl (x_move (v := (Value.int .i64 (IntKind.i64.wrap (l31.2.2 + 1)))) rfl rfl) ?_
        refine wpR_nil ?_
        exact ⟨(l34.1, l34.2, IntKind.i64.wrap (l31.2.2 + 1)), ⟨e7, e8, rfl, e0, e1, e50, e51, trivial⟩, h⟩
      · replace h := h.2 hc32
        refine wpC_exit ?_
        refine wpC_seq ?_
        refine wpC_cut (fun ρ => ρ 0 = (Sl.v p0) ∧ ρ 1 = (Value.int .i64 p1) ∧ ρ 7 = (Sl.v l31.1) ∧ ρ 8 = (Sl.v l31.2.1) ∧ True) ⟨e0, e1, e7, e8, trivial⟩ ?_
        rintro ρ ⟨e0, e1, e7, e8, -⟩
        refine wpC_region ?_
        refine wpR_val (v := (Sl.v l31.2.1)) (w' := w11) rfl rfl rfl (x_move (v := (Sl.v l31.2.1)) rfl e8) ?_
        refine wpR_val (v := (Sl.v p0)) (w' := w11) rfl rfl rfl (x_move (v := (Sl.v p0)) rfl e0) ?_
        refine wpR_val (v := (Sl.v l31.1)) (w' := w11) rfl rfl rfl (x_move (v := (Sl.v l31.1)) rfl e7) ?_
        refine wpR_val (v := (Value.int .i64 p1)) (w' := w11) rfl rfl rfl (x_move (v := (Value.int .i64 p1)) rfl e1) ?_
        refine wpR_enter rfl rfl rfl (x_call (vs := [(Sl.v p0), (Sl.v l31.1), (Value.int .i64 p1)]) rfl rfl (mapl_cons rfl (mapl_cons rfl (mapl_cons rfl mapl_nil))) Try.func32 NN_32 NB_32) (Calls.mono h ?_)
        rintro _ w20 ⟨r51, rfl, h⟩
        refine ⟨_, rfl, ?_⟩
        refine wpR_val (v := (Sl.v l31.2.1)) (w' := w20) rfl rfl rfl (x_assign (v := (Sl.v l31.2.1)) rfl rfl) ?_
        refine wpR_val (v := (Sl.v r51)) (w' := w20) rfl rfl rfl (x_assign (v := (Sl.v r51)) rfl rfl) ?_
        refine wpR_val (v := (Value.int .i64 0)) (w' := w20) rfl rfl rfl (x_assign (v := (Value.int .i64 0)) rfl rfl) ?_
        refine wpR_nil ?_
        refine wpC_ret ?_
        exact ⟨.inl rfl, fun a ha => ⟨_, results_rep3 rfl ha rfl rfl rfl, (l31.2.1, r51, 0), rfl, h⟩⟩

/-- (*link.Sender).Send -/
def F13 (p0 : Option Addr) (w0 : World) (K : (Int × Int) → World → Prop) : Prop :=
  callC Try.prog 17 #[(Value.pointer p0)] (fun (r : Int) => (Value.int .i64 r)) w0 fun r9 w1 =>
  cnd (decide (r9 = 1000))
    (
    K (0, 6) w1
    )
    (
    nn p0 fun a11 =>
    ld (Value.int .i64) (a11.add 1) w1 fun x12 =>
    nn p0 fun a13 =>
    ld (Value.int .i64) (a13.add 1) w1 fun x14 =>
    nn p0 fun a15 =>
    st (a15.add 1) [(Value.int .i64 (IntKind.i64.wrap (x14 + 1)))] w1 fun w2 =>
    K (x12, 0) w2
    )
set_option maxRecDepth 100000 in
theorem D13 (p0 : Option Addr) (w0 : World) (K : (Int × Int) → World → Prop) (h : F13 p0 w0 K) : callC Try.prog 13 #[(Value.pointer p0)] (fun (r : Int × Int) => (Value.tuple #[(Value.int .i64 r.1), (Value.int .i64 r.2)])) w0 K := by
  unfold F13 at h
  refine calls_of_wpC Try.func13 rfl 20 rfl (by simp) ?_
  intro ρ hρ
  have e0 : ρ 0 = (Value.pointer p0) := hρ 0
  clear hρ
  refine wpC_seq ?_
  refine wpC_region ?_
  refine wpR_val (v := (Value.int .i64 0)) (w' := w0) rfl rfl rfl (x_assign (v := (Value.int .i64 0)) rfl rfl) ?_
  refine wpR_val (v := (Value.int .i64 0)) (w' := w0) rfl rfl rfl (x_assign (v := (Value.int .i64 0)) rfl rfl) ?_
  refine wpR_nil ?_
  refine wpC_seq ?_
  refine wpC_seq ?_
  refine wpC_cut (fun ρ => ρ 0 = (Value.pointer p0) ∧ True) ⟨e0, trivial⟩ ?_
  rintro ρ ⟨e0, -⟩
  refine wpC_region ?_
  refine wpR_val (v := (Value.pointer p0)) (w' := w0) rfl rfl rfl (x_move (v := (Value.pointer p0)) rfl e0) ?_
  refine wpR_enter rfl rfl rfl (x_call (vs := [(Value.pointer p0)]) rfl rfl (mapl_cons rfl mapl_nil) Try.func17 NN_17 NB_17) (Calls.mono h ?_)
  rintro _ w1 ⟨r9, rfl, h⟩
  refine ⟨_, rfl, ?_⟩
  refine wpR_val (v := (Value.bool (decide (r9 = 1000)))) (w' := w1) rfl rfl rfl (x_eql rfl rfl rfl) ?_
  refine wpR_nil ?_
  refine wpC_cond (b := decide (r9 = 1000)) rfl (fun hc10 => ?_) (fun hc10 => ?_)
  · replace h := h.1 hc10
    refine wpC_seq ?_
    refine wpC_cut (fun ρ => True) trivial ?_
    rintro ρ -
    refine wpC_region ?_
    refine wpR_val (v := (Value.int .i64 0)) (w' := w1) rfl rfl rfl (x_assign (v := (Value.int .i64 0)) rfl rfl) ?_
    refine wpR_val (v := (Value.int .i64 6)) (w' := w1) rfl rfl rfl (x_assign (v := (Value.int .i64 6)) rfl rfl) ?_
    refine wpR_nil ?_
    refine wpC_ret ?_
    exact ⟨.inl rfl, fun a ha => ⟨_, results_rep2 rfl ha rfl rfl, (0, 6), rfl, h⟩⟩
  · replace h := h.2 hc10
    refine wpC_skip ?_
    refine wpC_seq ?_
    refine wpC_cut (fun ρ => ρ 0 = (Value.pointer p0) ∧ True) ⟨e0, trivial⟩ ?_
    rintro ρ ⟨e0, -⟩
    refine wpC_region ?_
    refine wpR_val (v := (Value.pointer p0)) (w' := w1) rfl rfl rfl (x_move (v := (Value.pointer p0)) rfl e0) ?_
    obtain ⟨a11, q11, h⟩ := h
    refine wpR_val (v := (Value.pointer (some a11))) (w' := w1) rfl rfl rfl (x_nilCheck rfl rfl q11) ?_
    refine wpR_val (v := (Value.pointer (some (a11.add 1)))) (w' := w1) rfl rfl rfl (x_fieldAddr rfl rfl FA_82_1) ?_
    obtain ⟨x12, q12, h⟩ := h
    refine wpR_val (v := (Value.int .i64 x12)) (w' := w1) rfl rfl rfl (x_load1 rfl rfl SH_3 q12) ?_
    refine wpR_val (v := (Value.int .i64 x12)) (w' := w1) rfl rfl rfl (x_assign (v := (Value.int .i64 x12)) rfl rfl) ?_
    refine wpR_nil ?_
    refine wpC_seq ?_
    refine wpC_cut (fun ρ => ρ 0 = (Value.pointer p0) ∧ ρ 4 = (Value.int .i64 x12) ∧ True) ⟨e0, rfl, trivial⟩ ?_
    rintro ρ ⟨e0, e4, -⟩
    refine wpC_region ?_
    refine wpR_val (v := (Value.pointer p0)) (w' := w1) rfl rfl rfl (x_move (v := (Value.pointer p0)) rfl e0) ?_
    obtain ⟨a13, q13, h⟩ := h
    refine wpR_val (v := (Value.pointer (some a13))) (w' := w1) rfl rfl rfl (x_nilCheck rfl rfl q13) ?_
    refine wpR_val (v := (Value.pointer (some (a13.add 1)))) (w' := w1) rfl rfl rfl (x_fieldAddr rfl rfl FA_82_1) ?_
    obtain ⟨x14, q14, h⟩ := h
    refine wpR_val (v := (Value.int .i64 x14)) (w' := w1) rfl rfl rfl (x_load1 rfl rfl SH_3 q14) ?_
    refine wpR_val (v := (Value.int .i64 (IntKind.i64.wrap (x14 + 1)))) (w' := w1) rfl rfl rfl (x_add rfl rfl rfl) ?_
    obtain ⟨a15, q15, h⟩ := h
    refine wpR_val (v := (Value.pointer (some a15))) (w' := w1) rfl rfl rfl (x_nilCheck rfl rfl q15) ?_
    refine wpR_val (v := (Value.pointer (some (a15.add 1)))) (w' := w1) rfl rfl rfl (x_fieldAddr rfl rfl FA_82_1) ?_
    obtain ⟨q16, h⟩ := h
    obtain ⟨w2, hw16⟩ : ∃ u, u = setAll w1 (a15.add 1) [(Value.int .i64 (IntKind.i64.wrap (x14 + 1)))] 0 := ⟨_, rfl⟩
    replace h := h w2 hw16
    refine wpR_skp (w' := w2) rfl rfl ((x_store (v := (Value.int .i64 (IntKind.i64.wrap (x14 + 1)))) rfl rfl rfl SZ_3 (ones (by rfl)) q16).trans (by rw [hw16]; rfl)) ?_
    refine wpR_nil ?_
    refine wpC_seq ?_
    refine wpC_cut (fun ρ => ρ 4 = (Value.int .i64 x12) ∧ True) ⟨e4, trivial⟩ ?_
    rintro ρ ⟨e4, -⟩
    refine wpC_region ?_
    refine wpR_val (v := (Value.int .i64 x12)) (w' := w2) rfl rfl rfl (x_move (v := (Value.int .i64 x12)) rfl e4) ?_
    refine wpR_val (v := (Value.int .i64 x12)) (w' := w2) rfl rfl rfl (x_assign (v := (Value.int .i64 x12)) rfl rfl) ?_
    refine wpR_val (v := (Value.int .i64 0)) (w' := w2) rfl rfl rfl (x_assign (v := (Value.int .i64 0)) rfl rfl) ?_
    refine wpR_nil ?_
    refine wpC_ret ?_
    exact ⟨.inl rfl, fun a ha => ⟨_, results_rep2 rfl ha rfl rfl, (x12, 0), rfl, h⟩⟩

/-- (*link.Receiver).Take -/
def F14 (p0 : Option Addr) (p1 : Int) (w0 : World) (K : (Sl × Int) → World → Prop) : Prop :=
  jn (fun (J10 : Bool → World → Prop) => tk w0 fun w1 =>
    nn p0 fun a11 =>
    ld (Value.int .i64) (a11.add 1) w1 fun x12 =>
    cnd (decide (p1 < x12))
      (
      J10 true w1
      )
      (
      nn p0 fun a14 =>
      ld (Value.int .i64) (a14.add 1) w1 fun x15 =>
      nn p0 fun a16 =>
      ld (Value.int .i64) (a16.add 0) w1 fun x17 =>
      J10 (decide ((IntKind.i64.wrap (x15 + x17)) ≤ p1)) w1
      )
  )
  fun l18 w2 =>
  cnd (l18)
    (
    jn (fun (J21 : (Sl × Int) → World → Prop) => tk w2 fun w3 =>
      nn p0 fun a22 =>
      ld (Value.int .i64) (a22.add 1) w3 fun x23 =>
      J21 (Sl.nil, x23) w3
    )
    fun l24 w4 =>
    K (l24.1, l24.2) w4
    )
    (
    nn p0 fun a25 =>
    ld Value.map (a25.add 2) w2 fun x26 =>
    rn0 Try.prog (Instr.mapUpdate 83 (Value.map x26) (Value.int .i64 p1) (Value.bool true)) w2 fun w5 =>
    lp (fun (next28 : Sl → World → Prop) l28 w6 =>
      jn (fun (J30 : Bool → World → Prop) => tk w6 fun w7 =>
        nn p0 fun a31 =>
        ld Value.map (a31.add 2) w7 fun x32 =>
        nn p0 fun a33 =>
        ld (Value.int .i64) (a33.add 1) w7 fun x34 =>
        rn Try.prog (Instr.lookup 83 (Value.map x32) (Value.int .i64 x34) false) (fun (r : Bool) => (Value.bool r)) w7 fun r35 w8 =>
        J30 r35 w8
      )
      fun l36 w9 =>
      cnd (l36)
        (
        jn (fun (J39 : Unit → World → Prop) => tk w9 fun w10 =>
          nn p0 fun a40 =>
          ld Value.map (a40.add 2) w10 fun x41 =>
          nn p0 fun a42 =>
          ld (Value.int .i64) (a42.add 1) w10 fun x43 =>
          rn Try.prog (Builtin.delete_ #[83, 3] 0 #[(Value.map x41), (Value.int .i64 x43)]) (fun _ : Unit => Value.tuple #[]) w10 fun _r44 w11 =>
          J39 () w11
        )
        fun _l45 w12 =>
        nn p0 fun a46 =>
        ld (Value.int .i64) (a46.add 1) w12 fun x47 =>
        nw 3 #[(Value.int .i64 x47)] w12 fun b48 w13 =>
        rn Try.prog (Builtin.append_ #[38, 38] 38 #[Sl.v l28, Sl.v (⟨some ⟨b48, 0, none⟩, 1, 1⟩ : Sl)]) Sl.v w13 fun r49 w14 =>
        nn p0 fun a50 =>
        ld (Value.int .i64) (a50.add 1) w14 fun x51 =>
        nn p0 fun a52 =>
        st (a52.add 1) [(Value.int .i64 (IntKind.i64.wrap (x51 + 1)))] w14 fun w15 =>
        next28 r49 w15
        )
        (
        jn (fun (J55 : (Sl × Int) → World → Prop) => tk w9 fun w16 =>
          nn p0 fun a56 =>
          ld (Value.int .i64) (a56.add 1) w16 fun x57 =>
          J55 (l28, x57) w16
        )
        fun l58 w17 =>
        K (l58.1, l58.2) w17
        )
    ) Sl.nil w5
    )
set_option maxRecDepth 100000 in
theorem D14 (p0 : Option Addr) (p1 : Int) (w0 : World) (K : (Sl × Int) → World → Prop) (h : F14 p0 p1 w0 K) : callC Try.prog 14 #[(Value.pointer p0), (Value.int .i64 p1)] (fun (r : Sl × Int) => (Value.tuple #[(Sl.v r.1), (Value.int .i64 r.2)])) w0 K := by
  unfold F14 at h
  refine calls_of_wpC Try.func14 rfl 71 rfl (by simp) ?_
  intro ρ hρ
  have e0 : ρ 0 = (Value.pointer p0) := hρ 0
  have e1 : ρ 1 = (Value.int .i64 p1) := hρ 1
  clear hρ
  refine wpC_seq ?_
  refine wpC_region ?_
  refine wpR_val (v := (Sl.v Sl.nil)) (w' := w0) rfl rfl rfl (x_assign (v := (Sl.v Sl.nil)) rfl rfl) ?_
  refine wpR_val (v := (Value.int .i64 0)) (w' := w0) rfl rfl rfl (x_assign (v := (Value.int .i64 0)) rfl rfl) ?_
  refine wpR_nil ?_
  refine wpC_seq ?_
  refine wpC_seq ?_
  refine wpC_cut (fun ρ => ρ 0 = (Value.pointer p0) ∧ ρ 1 = (Value.int .i64 p1) ∧ True) ⟨e0, e1, trivial⟩ ?_
  rintro ρ ⟨e0, e1, -⟩
  obtain ⟨J10, h, hk⟩ := h
  refine wpC_drawJ (by kernel_rfl) (fun (x : Bool) ρ => ρ 25 = (Value.bool x) ∧ ρ 0 = (Value.pointer p0) ∧ ρ 1 = (Value.int .i64 p1) ∧ True) J10 ?_ ?_
  · clear hk
    unfold tk at h
    generalize w0.drew = w1 at h ⊢
    refine wpD_take (v := (Value.int .i64 p1)) 0 (fun _ => True) rfl (by kernel_rfl) (by kernel_rfl) (by kernel_rfl) rfl rfl rfl trivial (fun w _ => (x_move (v := (Value.int .i64 p1)) rfl e1)) ?_
    refine wpD_take (v := (Value.pointer p0)) 1 (fun _ => True) rfl (by kernel_rfl) (by kernel_rfl) (by kernel_rfl) rfl rfl rfl trivial (fun w _ => (x_move (v := (Value.pointer p0)) rfl e0)) ?_
    obtain ⟨a11, q11, h⟩ := h
    refine wpD_take (v := (Value.pointer (some a11))) 2 (fun _ => True) rfl (by kernel_rfl) (by kernel_rfl) (by kernel_rfl) rfl rfl rfl trivial (fun w _ => (x_nilCheck rfl rfl q11)) ?_
    refine wpD_take (v := (Value.pointer (some (a11.add 1)))) 3 (fun _ => True) rfl (by kernel_rfl) (by kernel_rfl) (by kernel_rfl) rfl rfl rfl trivial (fun w _ => (x_fieldAddr rfl rfl FA_85_1)) ?_
    obtain ⟨x12, q12, h⟩ := h
    refine wpD_take (v := (Value.int .i64 x12)) 4 (fun w => w.cell? (a11.add 1) = some (Value.int .i64 x12)) rfl (by kernel_rfl) (by kernel_rfl) (by kernel_rfl) rfl rfl rfl q12 (fun w q12 => (x_load1 rfl rfl SH_3 q12)) ?_
    refine wpD_take (v := (Value.bool (decide (p1 < x12)))) 5 (fun _ => True) rfl (by kernel_rfl) (by kernel_rfl) (by kernel_rfl) rfl rfl rfl trivial (fun w _ => (x_lss rfl rfl rfl)) ?_
    refine wpD_take (v := (Value.bool (decide (p1 < x12)))) 6 (fun _ => True) rfl (by kernel_rfl) (by kernel_rfl) (by kernel_rfl) rfl rfl rfl trivial (fun w _ => (x_move (v := (Value.bool (decide (p1 < x12)))) rfl rfl)) ?_
    rcases Bool.eq_false_or_eq_true (decide (p1 < x12)) with hc13 | hc13
    · replace h := h.1 hc13
      refine wpD_pass 7 rfl (by kernel_rfl) (by kernel_rfl) (by kernel_rfl) (wantN rfl rfl rfl hc13) rfl rfl ?_
      refine wpD_pass 8 rfl (by kernel_rfl) (by kernel_rfl) (by kernel_rfl) (wantN rfl rfl rfl hc13) rfl rfl ?_
      refine wpD_pass 9 rfl (by kernel_rfl) (by kernel_rfl) (by kernel_rfl) (wantN rfl rfl rfl hc13) rfl rfl ?_
      refine wpD_pass 10 rfl (by kernel_rfl) (by kernel_rfl) (by kernel_rfl) (wantN rfl rfl rfl hc13) rfl rfl ?_
      refine wpD_pass 11 rfl (by kernel_rfl) (by kernel_rfl) (by kernel_rfl) (wantN rfl rfl rfl hc13) rfl rfl ?_
      refine wpD_pass 12 rfl (by kernel_rfl) (by kernel_rfl) (by kernel_rfl) (wantN rfl rfl rfl hc13) rfl rfl ?_
      refine wpD_pass 13 rfl (by kernel_rfl) (by kernel_rfl) (by kernel_rfl) (wantN rfl rfl rfl hc13) rfl rfl ?_
      refine wpD_pass 14 rfl (by kernel_rfl) (by kernel_rfl) (by kernel_rfl) (wantN rfl rfl rfl hc13) rfl rfl ?_
      refine wpD_pass 15 rfl (by kernel_rfl) (by kernel_rfl) (by kernel_rfl) (wantN rfl rfl rfl hc13) rfl rfl ?_
      refine wpD_pass 16 rfl (by kernel_rfl) (by kernel_rfl) (by kernel_rfl) (wantN rfl rfl rfl hc13) rfl rfl ?_
      refine wpD_pass 17 rfl (by kernel_rfl) (by kernel_rfl) (by kernel_rfl) (wantN rfl rfl rfl hc13) rfl rfl ?_
      refine wpD_take (v := (Value.bool true)) 18 (fun _ => True) rfl (by kernel_rfl) (by kernel_rfl) (by kernel_rfl) rfl rfl rfl trivial (fun w _ => (x_pickT (v := (Value.bool true)) rfl rfl hc13 rfl)) ?_
      exact wpD_done (by kernel_rfl) ⟨true, ⟨rfl, e0, e1, trivial⟩, h⟩
    · replace h := h.2 hc13
      refine wpD_take (v := (Value.int .i64 p1)) 7 (fun _ => True) rfl (by kernel_rfl) (by kernel_rfl) (by kernel_rfl) (wantG rfl rfl rfl hc13) rfl rfl trivial (fun w _ => (x_move (v := (Value.int .i64 p1)) rfl e1)) ?_
      refine wpD_take (v := (Value.pointer p0)) 8 (fun _ => True) rfl (by kernel_rfl) (by kernel_rfl) (by kernel_rfl) (wantG rfl rfl rfl hc13) rfl rfl trivial (fun w _ => (x_move (v := (Value.pointer p0)) rfl e0)) ?_
      obtain ⟨a14, q14, h⟩ := h
      refine wpD_take (v := (Value.pointer (some a14))) 9 (fun _ => True) rfl (by kernel_rfl) (by kernel_rfl) (by kernel_rfl) (wantG rfl rfl rfl hc13) rfl rfl trivial (fun w _ => (x_nilCheck rfl rfl q14)) ?_
      refine wpD_take (v := (Value.pointer (some (a14.add 1)))) 10 (fun _ => True) rfl (by kernel_rfl) (by kernel_rfl) (by kernel_rfl) (wantG rfl rfl rfl hc13) rfl rfl trivial (fun w _ => (x_fieldAddr rfl rfl FA_85_1)) ?_
      obtain ⟨x15, q15, h⟩ := h
      refine wpD_take (v := (Value.int .i64 x15)) 11 (fun w => w.cell? (a14.add 1) = some (Value.int .i64 x15)) rfl (by kernel_rfl) (by kernel_rfl) (by kernel_rfl) (wantG rfl rfl rfl hc13) rfl rfl q15 (fun w q15 => (x_load1 rfl rfl SH_3 q15)) ?_
      refine wpD_take (v := (Value.pointer p0)) 12 (fun _ => True) rfl (by kernel_rfl) (by kernel_rfl) (by kernel_rfl) (wantG rfl rfl rfl hc13) rfl rfl trivial (fun w _ => (x_move (v := (Value.pointer p0)) rfl e0)) ?_
      obtain ⟨a16, q16, h⟩ := h
      refine wpD_take (v := (Value.pointer (some a16))) 13 (fun _ => True) rfl (by kernel_rfl) (by kernel_rfl) (by kernel_rfl) (wantG rfl rfl rfl hc13) rfl rfl trivial (fun w _ => (x_nilCheck rfl rfl q16)) ?_
      refine wpD_take (v := (Value.pointer (some (a16.add 0)))) 14 (fun _ => True) rfl (by kernel_rfl) (by kernel_rfl) (by kernel_rfl) (wantG rfl rfl rfl hc13) rfl rfl trivial (fun w _ => (x_fieldAddr rfl rfl FA_85_0)) ?_
      obtain ⟨x17, q17, h⟩ := h
      refine wpD_take (v := (Value.int .i64 x17)) 15 (fun w => w.cell? (a16.add 0) = some (Value.int .i64 x17)) rfl (by kernel_rfl) (by kernel_rfl) (by kernel_rfl) (wantG rfl rfl rfl hc13) rfl rfl q17 (fun w q17 => (x_load1 rfl rfl SH_3 q17)) ?_
      refine wpD_take (v := (Value.int .i64 (IntKind.i64.wrap (x15 + x17)))) 16 (fun _ => True) rfl (by kernel_rfl) (by kernel_rfl) (by kernel_rfl) (wantG rfl rfl rfl hc13) rfl rfl trivial (fun w _ => (x_add rfl rfl rfl)) ?_
      refine wpD_take (v := (Value.bool (decide ((IntKind.i64.wrap (x15 + x17)) ≤ p1)))) 17 (fun _ => True) rfl (by kernel_rfl) (by kernel_rfl) (by kernel_rfl) (wantG rfl rfl rfl hc13) rfl rfl trivial (fun w _ => (x_geq rfl rfl rfl)) ?_
      refine wpD_take (v := (Value.bool (decide ((IntKind.i64.wrap (x15 + x17)) ≤ p1)))) 18 (fun _ => True) rfl (by kernel_rfl) (by kernel_rfl) (by kernel_rfl) rfl rfl rfl trivial (fun w _ => (x_pickF (v := (Value.bool (decide ((IntKind.i64.wrap (x15 + x17)) ≤ p1)))) rfl rfl hc13 rfl)) ?_
      exact wpD_done (by kernel_rfl) ⟨decide ((IntKind.i64.wrap (x15 + x17)) ≤ p1), ⟨rfl, e0, e1, trivial⟩, h⟩
  clear h
  rintro l18 ρ w2 ⟨e25, e0, e1, -⟩ h
  replace h := hk l18 w2 h
  clear hk
  refine wpC_cond (b := l18) e25 (fun hc19 => ?_) (fun hc19 => ?_)
  · replace h := h.1 hc19
    refine wpC_seq ?_
    obtain ⟨J21, h, hk⟩ := h
    refine wpC_drawJ (by kernel_rfl) (fun (x : Sl × Int) ρ => ρ 4 = (Sl.v x.1) ∧ ρ 5 = (Value.int .i64 x.2) ∧ True) J21 ?_ ?_
    · clear hk
      unfold tk at h
      generalize w2.drew = w3 at h ⊢
      refine wpD_take (v := (Value.pointer p0)) 0 (fun _ => True) rfl (by kernel_rfl) (by kernel_rfl) (by kernel_rfl) rfl rfl rfl trivial (fun w _ => (x_move (v := (Value.pointer p0)) rfl e0)) ?_
      obtain ⟨a22, q22, h⟩ := h
      refine wpD_take (v := (Value.pointer (some a22))) 1 (fun _ => True) rfl (by kernel_rfl) (by kernel_rfl) (by kernel_rfl) rfl rfl rfl trivial (fun w _ => (x_nilCheck rfl rfl q22)) ?_
      refine wpD_take (v := (Value.pointer (some (a22.add 1)))) 2 (fun _ => True) rfl (by kernel_rfl) (by kernel_rfl) (by kernel_rfl) rfl rfl rfl trivial (fun w _ => (x_fieldAddr rfl rfl FA_85_1)) ?_
      obtain ⟨x23, q23, h⟩ := h
      refine wpD_take (v := (Value.int .i64 x23)) 3 (fun w => w.cell? (a22.add 1) = some (Value.int .i64 x23)) rfl (by kernel_rfl) (by kernel_rfl) (by kernel_rfl) rfl rfl rfl q23 (fun w q23 => (x_load1 rfl rfl SH_3 q23)) ?_
      refine wpD_take (v := (Sl.v Sl.nil)) 4 (fun _ => True) rfl (by kernel_rfl) (by kernel_rfl) (by kernel_rfl) rfl rfl rfl trivial (fun w _ => (x_assign (v := (Sl.v Sl.nil)) rfl rfl)) ?_
      refine wpD_take (v := (Value.int .i64 x23)) 5 (fun _ => True) rfl (by kernel_rfl) (by kernel_rfl) (by kernel_rfl) rfl rfl rfl trivial (fun w _ => (x_assign (v := (Value.int .i64 x23)) rfl rfl)) ?_
      exact wpD_done (by kernel_rfl) ⟨(Sl.nil, x23), ⟨rfl, rfl, trivial⟩, h⟩
    clear h
    rintro l24 ρ w4 ⟨e4, e5, -⟩ h
    replace h := hk l24 w4 h
    clear hk
    refine wpC_ret ?_
    exact ⟨.inl rfl, fun a ha => ⟨_, results_rep2 rfl ha e4 e5, (l24.1, l24.2), rfl, h⟩⟩
  · replace h := h.2 hc19
    refine wpC_skip ?_
    refine wpC_seq ?_
    refine wpC_region ?_
    refine wpR_val (v := (Value.pointer p0)) (w' := w2) rfl rfl rfl (x_move (v := (Value.pointer p0)) rfl e0) ?_
    obtain ⟨a25, q25, h⟩ := h
    refine wpR_val (v := (Value.pointer (some a25))) (w' := w2) rfl rfl rfl (x_nilCheck rfl rfl q25) ?_
    refine wpR_val (v := (Value.pointer (some (a25.add 2)))) (w' := w2) rfl rfl rfl (x_fieldAddr rfl rfl FA_85_2) ?_
    obtain ⟨x26, q26, h⟩ := h
    refine wpR_val (v := (Value.map x26)) (w' := w2) rfl rfl rfl (x_load1 rfl rfl SH_83 q26) ?_
    refine wpR_val (v := (Value.int .i64 p1)) (w' := w2) rfl rfl rfl (x_move (v := (Value.int .i64 p1)) rfl e1) ?_
    obtain ⟨w5, q27, h⟩ := h
    refine wpR_skp (w' := w5) rfl rfl (x_mapUpdate rfl rfl rfl rfl q27) ?_
    refine wpR_nil ?_
    refine wpC_seq ?_
    refine wpC_cut (fun ρ => ρ 0 = (Value.pointer p0) ∧ True) ⟨e0, trivial⟩ ?_
    rintro ρ ⟨e0, -⟩
    refine wpC_region ?_
    refine wpR_val (v := (Sl.v Sl.nil)) (w' := w5) rfl rfl rfl (x_assign (v := (Sl.v Sl.nil)) rfl rfl) ?_
    refine wpR_nil ?_
    refine wpC_seq ?_
    refine wpC_block ?_
    obtain ⟨I28, μ28, hI28, hr28⟩ := h
    refine wpC_loop (fun (x : Sl) ρ => ρ 6 = (Sl.v x) ∧ ρ 0 = (Value.pointer p0) ∧ True) I28 μ28 Sl.nil ⟨rfl, e0, trivial⟩ hI28 ?_
    rintro l28 ρ w6 ⟨e6, e0, -⟩ h
    replace h := hr28 l28 w6 h
    clear hr28 hI28
    refine wpC_seq ?_
    refine wpC_seq ?_
    obtain ⟨J30, h, hk⟩ := h
    refine wpC_drawJ (by kernel_rfl) (fun (x : Bool) ρ => ρ 43 = (Value.bool x) ∧ ρ 0 = (Value.pointer p0) ∧ ρ 6 = (Sl.v l28) ∧ True) J30 ?_ ?_
    · clear hk
      unfold tk at h
      generalize w6.drew = w7 at h ⊢
      refine wpD_take (v := (Value.pointer p0)) 0 (fun _ => True) rfl (by kernel_rfl) (by kernel_rfl) (by kernel_rfl) rfl rfl rfl trivial (fun w _ => (x_move (v := (Value.pointer p0)) rfl e0)) ?_
      obtain ⟨a31, q31, h⟩ := h
      refine wpD_take (v := (Value.pointer (some a31))) 1 (fun _ => True) rfl (by kernel_rfl) (by kernel_rfl) (by kernel_rfl) rfl rfl rfl trivial (fun w _ => (x_nilCheck rfl rfl q31)) ?_
      refine wpD_take (v := (Value.pointer (some (a31.add 2)))) 2 (fun _ => True) rfl (by kernel_rfl) (by kernel_rfl) (by kernel_rfl) rfl rfl rfl trivial (fun w _ => (x_fieldAddr rfl rfl FA_85_2)) ?_
      obtain ⟨x32, q32, h⟩ := h
      refine wpD_take (v := (Value.map x32)) 3 (fun w => w.cell? (a31.add 2) = some (Value.map x32)) rfl (by kernel_rfl) (by kernel_rfl) (by kernel_rfl) rfl rfl rfl q32 (fun w q32 => (x_load1 rfl rfl SH_83 q32)) ?_
      refine wpD_take (v := (Value.pointer p0)) 4 (fun _ => True) rfl (by kernel_rfl) (by kernel_rfl) (by kernel_rfl) rfl rfl rfl trivial (fun w _ => (x_move (v := (Value.pointer p0)) rfl e0)) ?_
      obtain ⟨a33, q33, h⟩ := h
      refine wpD_take (v := (Value.pointer (some a33))) 5 (fun _ => True) rfl (by kernel_rfl) (by kernel_rfl) (by kernel_rfl) rfl rfl rfl trivial (fun w _ => (x_nilCheck rfl rfl q33)) ?_
      refine wpD_take (v := (Value.pointer (some (a33.add 1)))) 6 (fun _ => True) rfl (by kernel_rfl) (by kernel_rfl) (by kernel_rfl) rfl rfl rfl trivial (fun w _ => (x_fieldAddr rfl rfl FA_85_1)) ?_
      obtain ⟨x34, q34, h⟩ := h
      refine wpD_take (v := (Value.int .i64 x34)) 7 (fun w => w.cell? (a33.add 1) = some (Value.int .i64 x34)) rfl (by kernel_rfl) (by kernel_rfl) (by kernel_rfl) rfl rfl rfl q34 (fun w q34 => (x_load1 rfl rfl SH_3 q34)) ?_
      refine wpD_all (rs := [8]) (by kernel_rfl) (by simp) (allD_cons ?_ allD_nil)
      obtain ⟨r35, w8, q35, h⟩ := h
      refine stepD_valL (L' := [(6, fun _ => True), (5, fun _ => True), (4, fun _ => True), (2, fun _ => True), (1, fun _ => True), (0, fun _ => True)]) (v := (Value.bool r35)) (w' := w8) rfl rfl rfl rfl (x_lookup rfl rfl rfl q35) (by kernel_rfl) (held_cons trivial (held_cons trivial (held_cons trivial (held_cons trivial (held_cons trivial (held_cons trivial held_nil)))))) ?_
      exact wpD_done (by kernel_rfl) ⟨r35, ⟨rfl, e0, e6, trivial⟩, h⟩
    clear h
    rintro l36 ρ w9 ⟨e43, e0, e6, -⟩ h
    replace h := hk l36 w9 h
    clear hk
    refine wpC_cond (b := l36) e43 (fun hc37 => ?_) (fun hc37 => ?_)
    · replace h := h.1 hc37
      refine wpC_skip ?_
      refine wpC_block ?_
      refine wpC_seq ?_
      obtain ⟨J39, h, hk⟩ := h
      refine wpC_drawJ (by kernel_rfl) (fun (x : Unit) ρ => ρ 0 = (Value.pointer p0) ∧ ρ 6 = (Sl.v l28) ∧ True) J39 ?_ ?_
      · clear hk
        unfold tk at h
        generalize w9.drew = w10 at h ⊢
        refine wpD_take (v := (Value.pointer p0)) 0 (fun _ => True) rfl (by kernel_rfl) (by kernel_rfl) (by kernel_rfl) rfl rfl rfl trivial (fun w _ => (x_move (v := (Value.pointer p0)) rfl e0)) ?_
        obtain ⟨a40, q40, h⟩ := h
        refine wpD_take (v := (Value.pointer (some a40))) 1 (fun _ => True) rfl (by kernel_rfl) (by kernel_rfl) (by kernel_rfl) rfl rfl rfl trivial (fun w _ => (x_nilCheck rfl rfl q40)) ?_
        refine wpD_take (v := (Value.pointer (some (a40.add 2)))) 2 (fun _ => True) rfl (by kernel_rfl) (by kernel_rfl) (by kernel_rfl) rfl rfl rfl trivial (fun w _ => (x_fieldAddr rfl rfl FA_85_2)) ?_
        obtain ⟨x41, q41, h⟩ := h
        refine wpD_take (v := (Value.map x41)) 3 (fun w => w.cell? (a40.add 2) = some (Value.map x41)) rfl (by kernel_rfl) (by kernel_rfl) (by kernel_rfl) rfl rfl rfl q41 (fun w q41 => (x_load1 rfl rfl SH_83 q41)) ?_
        refine wpD_take (v := (Value.pointer p0)) 4 (fun _ => True) rfl (by kernel_rfl) (by kernel_rfl) (by kernel_rfl) rfl rfl rfl trivial (fun w _ => (x_move (v := (Value.pointer p0)) rfl e0)) ?_
        obtain ⟨a42, q42, h⟩ := h
        refine wpD_take (v := (Value.pointer (some a42))) 5 (fun _ => True) rfl (by kernel_rfl) (by kernel_rfl) (by kernel_rfl) rfl rfl rfl trivial (fun w _ => (x_nilCheck rfl rfl q42)) ?_
        refine wpD_take (v := (Value.pointer (some (a42.add 1)))) 6 (fun _ => True) rfl (by kernel_rfl) (by kernel_rfl) (by kernel_rfl) rfl rfl rfl trivial (fun w _ => (x_fieldAddr rfl rfl FA_85_1)) ?_
        obtain ⟨x43, q43, h⟩ := h
        refine wpD_take (v := (Value.int .i64 x43)) 7 (fun w => w.cell? (a42.add 1) = some (Value.int .i64 x43)) rfl (by kernel_rfl) (by kernel_rfl) (by kernel_rfl) rfl rfl rfl q43 (fun w q43 => (x_load1 rfl rfl SH_3 q43)) ?_
        refine wpD_all (rs := [8]) (by kernel_rfl) (by simp) (allD_cons ?_ allD_nil)
        obtain ⟨r44, w11, q44, h⟩ := h
        refine stepD_val0L (L' := [(6, fun _ => True), (5, fun _ => True), (4, fun _ => True), (2, fun _ => True), (1, fun _ => True), (0, fun _ => True)]) (v := (Value.tuple #[])) (w' := w11) rfl rfl rfl (x_delete rfl rfl rfl rfl q44) (by kernel_rfl) (held_cons trivial (held_cons trivial (held_cons trivial (held_cons trivial (held_cons trivial (held_cons trivial held_nil)))))) ?_
        exact wpD_done (by kernel_rfl) ⟨(), ⟨e0, e6, trivial⟩, h⟩
      clear h
      rintro l45 ρ w12 ⟨e0, e6, -⟩ h
      replace h := hk l45 w12 h
      clear hk
      refine wpC_seq ?_
      refine wpC_region ?_
      refine wpR_val (v := (Sl.v l28)) (w' := w12) rfl rfl rfl (x_move (v := (Sl.v l28)) rfl e6) ?_
      refine wpR_val (v := (Value.pointer p0)) (w' := w12) rfl rfl rfl (x_move (v := (Value.pointer p0)) rfl e0) ?_
      obtain ⟨a46, q46, h⟩ := h
      refine wpR_val (v := (Value.pointer (some a46))) (w' := w12) rfl rfl rfl (x_nilCheck rfl rfl q46) ?_
      refine wpR_val (v := (Value.pointer (some (a46.add 1)))) (w' := w12) rfl rfl rfl (x_fieldAddr rfl rfl FA_85_1) ?_
      obtain ⟨x47, q47, h⟩ := h
      refine wpR_val (v := (Value.int .i64 x47)) (w' := w12) rfl rfl rfl (x_load1 rfl rfl SH_3 q47) ?_
      obtain ⟨b48, hb48⟩ : ∃ u, u = w12.heap.size := ⟨_, rfl⟩
      obtain ⟨w13, hw48⟩ : ∃ u, u = w12.alloc (.cells #[(Value.int .i64 x47)] 3) := ⟨_, rfl⟩
      replace h := h b48 w13 hb48 hw48
      refine wpR_val (v := (Sl.v (⟨some ⟨b48, 0, none⟩, 1, 1⟩ : Sl))) (w' := w13) rfl rfl rfl ((x_buildSlice (qs := [(0, (Value.int .i64 x47))]) rfl (by rfl) (BS_38_1_0 x47)).trans (by rw [← hb48, ← hw48])) ?_
      obtain ⟨r49, w14, q49, h⟩ := h
      refine wpR_val (v := (Sl.v r49)) (w' := w14) rfl rfl rfl (x_append (s := l28) (u := (⟨some ⟨b48, 0, none⟩, 1, 1⟩ : Sl)) rfl rfl rfl rfl q49) ?_
      refine wpR_val (v := (Sl.v r49)) (w' := w14) rfl rfl rfl (x_assign (v := (Sl.v r49)) rfl rfl) ?_
      refine wpR_nil ?_
      refine wpC_cut (fun ρ => ρ 0 = (Value.pointer p0) ∧ ρ 6 = (Sl.v r49) ∧ True) ⟨e0, rfl, trivial⟩ ?_
      rintro ρ ⟨e0, e6, -⟩
      refine wpC_region ?_
      refine wpR_val (v := (Value.pointer p0)) (w' := w14) rfl rfl rfl (x_move (v := (Value.pointer p0)) rfl e0) ?_
      obtain ⟨a50, q50, h⟩ := h
      refine wpR_val (v := (Value.pointer (some a50))) (w' := w14) rfl rfl rfl (x_nilCheck rfl rfl q50) ?_
      refine wpR_val (v := (Value.pointer (some (a50.add 1)))) (w' := w14) rfl rfl rfl (x_fieldAddr rfl rfl FA_85_1) ?_
      obtain ⟨x51, q51, h⟩ := h
      refine wpR_val (v := (Value.int .i64 x51)) (w' := w14) rfl rfl rfl (x_load1 rfl rfl SH_3 q51) ?_
      refine wpR_val (v := (Value.int .i64 (IntKind.i64.wrap (x51 + 1)))) (w' := w14) rfl rfl rfl (x_add rfl rfl rfl) ?_
      obtain ⟨a52, q52, h⟩ := h
      refine wpR_val (v := (Value.pointer (some a52))) (w' := w14) rfl rfl rfl (x_nilCheck rfl rfl q52) ?_
      refine wpR_val (v := (Value.pointer (some (a52.add 1)))) (w' := w14) rfl rfl rfl (x_fieldAddr rfl rfl FA_85_1) ?_
      obtain ⟨q53, h⟩ := h
      obtain ⟨w15, hw53⟩ : ∃ u, u = setAll w14 (a52.add 1) [(Value.int .i64 (IntKind.i64.wrap (x51 + 1)))] 0 := ⟨_, rfl⟩
      replace h := h w15 hw53
      refine wpR_skp (w' := w15) rfl rfl ((x_store (v := (Value.int .i64 (IntKind.i64.wrap (x51 + 1)))) rfl rfl rfl SZ_3 (ones (by rfl)) q53).trans (by rw [hw53]; rfl)) ?_
      refine wpR_nil ?_
      exact ⟨r49, ⟨e6, e0, trivial⟩, h⟩
    · replace h := h.2 hc37
      refine wpC_exit ?_
      refine wpC_seq ?_
      obtain ⟨J55, h, hk⟩ := h
      refine wpC_drawJ (by kernel_rfl) (fun (x : Sl × Int) ρ => ρ 4 = (Sl.v x.1) ∧ ρ 5 = (Value.int .i64 x.2) ∧ True) J55 ?_ ?_
      · clear hk
        unfold tk at h
        generalize w9.drew = w16 at h ⊢
        refine wpD_take (v := (Sl.v l28)) 0 (fun _ => True) rfl (by kernel_rfl) (by kernel_rfl) (by kernel_rfl) rfl rfl rfl trivial (fun w _ => (x_move (v := (Sl.v l28)) rfl e6)) ?_
        refine wpD_take (v := (Value.pointer p0)) 1 (fun _ => True) rfl (by kernel_rfl) (by kernel_rfl) (by kernel_rfl) rfl rfl rfl trivial (fun w _ => (x_move (v := (Value.pointer p0)) rfl e0)) ?_
        obtain ⟨a56, q56, h⟩ := h
        refine wpD_take (v := (Value.pointer (some a56))) 2 (fun _ => True) rfl (by kernel_rfl) (by kernel_rfl) (by kernel_rfl) rfl rfl rfl trivial (fun w _ => (x_nilCheck rfl rfl q56)) ?_
        refine wpD_take (v := (Value.pointer (some (a56.add 1)))) 3 (fun _ => True) rfl (by kernel_rfl) (by kernel_rfl) (by kernel_rfl) rfl rfl rfl trivial (fun w _ => (x_fieldAddr rfl rfl FA_85_1)) ?_
        obtain ⟨x57, q57, h⟩ := h
        refine wpD_take (v := (Value.int .i64 x57)) 4 (fun w => w.cell? (a56.add 1) = some (Value.int .i64 x57)) rfl (by kernel_rfl) (by kernel_rfl) (by kernel_rfl) rfl rfl rfl q57 (fun w q57 => (x_load1 rfl rfl SH_3 q57)) ?_
        refine wpD_take (v := (Sl.v l28)) 5 (fun _ => True) rfl (by kernel_rfl) (by kernel_rfl) (by kernel_rfl) rfl rfl rfl trivial (fun w _ => (x_assign (v := (Sl.v l28)) rfl rfl)) ?_
        refine wpD_take (v := (Value.int .i64 x57)) 6 (fun _ => True) rfl (by kernel_rfl) (by kernel_rfl) (by kernel_rfl) rfl rfl rfl trivial (fun w _ => (x_assign (v := (Value.int .i64 x57)) rfl rfl)) ?_
        exact wpD_done (by kernel_rfl) ⟨(l28, x57), ⟨rfl, rfl, trivial⟩, h⟩
      clear h
      rintro l58 ρ w17 ⟨e4, e5, -⟩ h
      replace h := hk l58 w17 h
      clear hk
      refine wpC_ret ?_
      exact ⟨.inl rfl, fun a ha => ⟨_, results_rep2 rfl ha e4 e5, (l58.1, l58.2), rfl, h⟩⟩

/-- echo.Match -/
def F15 (p0 : Sl) (p1_0 : Int) (p1_1 : Int) (p1_2 : Int) (p1_3 : Int) (p1_4 : Int) (p2 : Int) (w0 : World) (K : (Int × Bool) → World → Prop) : Prop :=
  nw 63 #[(Value.int .i64 p1_0), (Value.int .i64 p1_1), (Value.int .i64 p1_2), (Value.int .i64 p1_3), (Value.int .i64 p1_4)] w0 fun b9 w1 =>
  ld (Value.int .i64) ((Addr.mk b9 0 none).add 0) w1 fun x10 =>
  ld (Value.int .i64) ((Addr.mk b9 0 none).add 1) w1 fun x11 =>
  ld (Value.int .i64) ((Addr.mk b9 0 none).add 2) w1 fun x12 =>
  ld (Value.int .i64) ((Addr.mk b9 0 none).add 3) w1 fun x13 =>
  ld (Value.int .i64) ((Addr.mk b9 0 none).add 4) w1 fun x14 =>
  callC Try.prog 33 #[(Sl.v p0), (Value.agg #[(Value.int .i64 x10), (Value.int .i64 x11), (Value.int .i64 x12), (Value.int .i64 x13), (Value.int .i64 x14)]), (Value.int .i64 p2), (Value.func (.func 34) #[] #[])] (fun (r : Int) => (Value.int .i64 r)) w1 fun r15 w2 =>
  K (max r15 0, decide (0 ≤ r15)) w2
set_option maxRecDepth 100000 in
theorem D15 (p0 : Sl) (p1_0 : Int) (p1_1 : Int) (p1_2 : Int) (p1_3 : Int) (p1_4 : Int) (p2 : Int) (w0 : World) (K : (Int × Bool) → World → Prop) (h : F15 p0 p1_0 p1_1 p1_2 p1_3 p1_4 p2 w0 K) : callC Try.prog 15 #[(Sl.v p0), (Value.agg #[(Value.int .i64 p1_0), (Value.int .i64 p1_1), (Value.int .i64 p1_2), (Value.int .i64 p1_3), (Value.int .i64 p1_4)]), (Value.int .i64 p2)] (fun (r : Int × Bool) => (Value.tuple #[(Value.int .i64 r.1), (Value.bool r.2)])) w0 K := by
  unfold F15 at h
  refine calls_of_wpC Try.func15 rfl 17 rfl (by simp) ?_
  intro ρ hρ
  have e0 : ρ 0 = (Sl.v p0) := hρ 0
  have e1 : ρ 1 = (Value.agg #[(Value.int .i64 p1_0), (Value.int .i64 p1_1), (Value.int .i64 p1_2), (Value.int .i64 p1_3), (Value.int .i64 p1_4)]) := hρ 1
  have e2 : ρ 2 = (Value.int .i64 p2) := hρ 2
  clear hρ
  refine wpC_seq ?_
  refine wpC_region ?_
  obtain ⟨b9, hb9⟩ : ∃ u, u = w0.heap.size := ⟨_, rfl⟩
  obtain ⟨w1, hw9⟩ : ∃ u, u = w0.alloc (.cells #[(Value.int .i64 p1_0), (Value.int .i64 p1_1), (Value.int .i64 p1_2), (Value.int .i64 p1_3), (Value.int .i64 p1_4)] 63) := ⟨_, rfl⟩
  replace h := h b9 w1 hb9 hw9
  refine wpR_val (v := (Value.pointer (some (Addr.mk b9 0 none)))) (w' := w1) rfl rfl rfl ((x_box (v := (Value.agg #[(Value.int .i64 p1_0), (Value.int .i64 p1_1), (Value.int .i64 p1_2), (Value.int .i64 p1_3), (Value.int .i64 p1_4)])) rfl e1).trans (by rw [hb9, hw9]; rfl)) ?_
  refine wpR_val (v := (Value.int .i64 0)) (w' := w1) rfl rfl rfl (x_assign (v := (Value.int .i64 0)) rfl rfl) ?_
  refine wpR_val (v := (Value.bool false)) (w' := w1) rfl rfl rfl (x_assign (v := (Value.bool false)) rfl rfl) ?_
  refine wpR_nil ?_
  refine wpC_seq ?_
  refine wpC_cut (fun ρ => ρ 0 = (Sl.v p0) ∧ ρ 2 = (Value.int .i64 p2) ∧ ρ 4 = (Value.pointer (some (Addr.mk b9 0 none))) ∧ True) ⟨e0, e2, rfl, trivial⟩ ?_
  rintro ρ ⟨e0, e2, e4, -⟩
  refine wpC_region ?_
  refine wpR_val (v := (Sl.v p0)) (w' := w1) rfl rfl rfl (x_move (v := (Sl.v p0)) rfl e0) ?_
  obtain ⟨x10, q10, x11, q11, x12, q12, x13, q13, x14, q14, h⟩ := h
  refine wpR_val (v := (Value.agg #[(Value.int .i64 x10), (Value.int .i64 x11), (Value.int .i64 x12), (Value.int .i64 x13), (Value.int .i64 x14)])) (w' := w1) rfl rfl rfl (x_loadN [(Value.int .i64 x10), (Value.int .i64 x11), (Value.int .i64 x12), (Value.int .i64 x13), (Value.int .i64 x14)] rfl e4 SH_63 (CellsAt.out (CellsAt.cons q10 (CellsAt.cons q11 (CellsAt.cons q12 (CellsAt.cons q13 (CellsAt.cons q14 CellsAt.nil))))))) ?_
  refine wpR_val (v := (Value.int .i64 p2)) (w' := w1) rfl rfl rfl (x_move (v := (Value.int .i64 p2)) rfl e2) ?_
  refine wpR_enter rfl rfl rfl (x_call (vs := [(Sl.v p0), (Value.agg #[(Value.int .i64 x10), (Value.int .i64 x11), (Value.int .i64 x12), (Value.int .i64 x13), (Value.int .i64 x14)]), (Value.int .i64 p2), (Value.func (.func 34) #[] #[])]) rfl rfl (mapl_cons rfl (mapl_cons rfl (mapl_cons rfl (mapl_cons rfl mapl_nil)))) Try.func33 NN_33 NB_33) (Calls.mono h ?_)
  rintro _ w2 ⟨r15, rfl, h⟩
  refine ⟨_, rfl, ?_⟩
  refine wpR_val (v := (Value.int .i64 r15)) (w' := w2) rfl rfl rfl (x_assign (v := (Value.int .i64 r15)) rfl rfl) ?_
  refine wpR_nil ?_
  refine wpC_seq ?_
  refine wpC_cut (fun ρ => ρ 8 = (Value.int .i64 r15) ∧ True) ⟨rfl, trivial⟩ ?_
  rintro ρ ⟨e8, -⟩
  refine wpC_region ?_
  refine wpR_val (v := (Value.int .i64 r15)) (w' := w2) rfl rfl rfl (x_move (v := (Value.int .i64 r15)) rfl e8) ?_
  refine wpR_val (v := (Value.int .i64 (max r15 0))) (w' := w2) rfl rfl rfl (x_max rfl rfl rfl) ?_
  refine wpR_val (v := (Value.int .i64 r15)) (w' := w2) rfl rfl rfl (x_move (v := (Value.int .i64 r15)) rfl e8) ?_
  refine wpR_val (v := (Value.bool (decide (0 ≤ r15)))) (w' := w2) rfl rfl rfl (x_geq rfl rfl rfl) ?_
  refine wpR_val (v := (Value.int .i64 (max r15 0))) (w' := w2) rfl rfl rfl (x_assign (v := (Value.int .i64 (max r15 0))) rfl rfl) ?_
  refine wpR_val (v := (Value.bool (decide (0 ≤ r15)))) (w' := w2) rfl rfl rfl (x_assign (v := (Value.bool (decide (0 ≤ r15)))) rfl rfl) ?_
  refine wpR_nil ?_
  refine wpC_ret ?_
  exact ⟨.inl rfl, fun a ha => ⟨_, results_rep2 rfl ha rfl rfl, (max r15 0, decide (0 ≤ r15)), rfl, h⟩⟩

/-- (*link.Sender).Ack -/
def F16 (p0 : Option Addr) (p1 : Int) (w0 : World) (K : Int → World → Prop) : Prop :=
  jn (fun (J10 : Bool → World → Prop) => tk w0 fun w1 =>
    cnd (decide (p1 < 0))
      (
      J10 true w1
      )
      (
      nn p0 fun a12 =>
      ld (Value.int .i64) (a12.add 1) w1 fun x13 =>
      cnd (decide (x13 < p1))
        (
        J10 true w1
        )
        (
        nn p0 fun a15 =>
        ld (Value.int .i64) (a15.add 2) w1 fun x16 =>
        nn p0 fun a17 =>
        ld (Value.int .i64) (a17.add 0) w1 fun x18 =>
        J10 (decide ((IntKind.i64.wrap (x16 + x18)) < p1)) w1
        )
      )
  )
  fun l19 w2 =>
  cnd (l19)
    (
    K 1 w2
    )
    (
    nn p0 fun a21 =>
    ld (Value.int .i64) (a21.add 2) w2 fun x22 =>
    nn p0 fun a23 =>
    st (a23.add 2) [(Value.int .i64 (max x22 p1))] w2 fun w3 =>
    K 0 w3
    )
set_option maxRecDepth 100000 in
theorem D16 (p0 : Option Addr) (p1 : Int) (w0 : World) (K : Int → World → Prop) (h : F16 p0 p1 w0 K) : callC Try.prog 16 #[(Value.pointer p0), (Value.int .i64 p1)] (fun (r : Int) => (Value.int .i64 r)) w0 K := by
  unfold F16 at h
  refine calls_of_wpC Try.func16 rfl 37 rfl (by simp) ?_
  intro ρ hρ
  have e0 : ρ 0 = (Value.pointer p0) := hρ 0
  have e1 : ρ 1 = (Value.int .i64 p1) := hρ 1
  clear hρ
  refine wpC_seq ?_
  refine wpC_region ?_
  refine wpR_val (v := (Value.int .i64 0)) (w' := w0) rfl rfl rfl (x_assign (v := (Value.int .i64 0)) rfl rfl) ?_
  refine wpR_nil ?_
  refine wpC_seq ?_
  refine wpC_seq ?_
  refine wpC_cut (fun ρ => ρ 0 = (Value.pointer p0) ∧ ρ 1 = (Value.int .i64 p1) ∧ True) ⟨e0, e1, trivial⟩ ?_
  rintro ρ ⟨e0, e1, -⟩
  obtain ⟨J10, h, hk⟩ := h
  refine wpC_drawJ (by kernel_rfl) (fun (x : Bool) ρ => ρ 27 = (Value.bool x) ∧ ρ 0 = (Value.pointer p0) ∧ ρ 1 = (Value.int .i64 p1) ∧ True) J10 ?_ ?_
  · clear hk
    unfold tk at h
    generalize w0.drew = w1 at h ⊢
    refine wpD_take (v := (Value.int .i64 p1)) 0 (fun _ => True) rfl (by kernel_rfl) (by kernel_rfl) (by kernel_rfl) rfl rfl rfl trivial (fun w _ => (x_move (v := (Value.int .i64 p1)) rfl e1)) ?_
    refine wpD_take (v := (Value.bool (decide (p1 < 0)))) 1 (fun _ => True) rfl (by kernel_rfl) (by kernel_rfl) (by kernel_rfl) rfl rfl rfl trivial (fun w _ => (x_lss rfl rfl rfl)) ?_
    refine wpD_take (v := (Value.bool (decide (p1 < 0)))) 2 (fun _ => True) rfl (by kernel_rfl) (by kernel_rfl) (by kernel_rfl) rfl rfl rfl trivial (fun w _ => (x_move (v := (Value.bool (decide (p1 < 0)))) rfl rfl)) ?_
    rcases Bool.eq_false_or_eq_true (decide (p1 < 0)) with hc11 | hc11
    · replace h := h.1 hc11
      refine wpD_pass 3 rfl (by kernel_rfl) (by kernel_rfl) (by kernel_rfl) (wantN rfl rfl rfl hc11) rfl rfl ?_
      refine wpD_pass 4 rfl (by kernel_rfl) (by kernel_rfl) (by kernel_rfl) (wantN rfl rfl rfl hc11) rfl rfl ?_
      refine wpD_pass 5 rfl (by kernel_rfl) (by kernel_rfl) (by kernel_rfl) (wantN rfl rfl rfl hc11) rfl rfl ?_
      refine wpD_pass 6 rfl (by kernel_rfl) (by kernel_rfl) (by kernel_rfl) (wantN rfl rfl rfl hc11) rfl rfl ?_
      refine wpD_pass 7 rfl (by kernel_rfl) (by kernel_rfl) (by kernel_rfl) (wantN rfl rfl rfl hc11) rfl rfl ?_
      refine wpD_pass 8 rfl (by kernel_rfl) (by kernel_rfl) (by kernel_rfl) (wantN rfl rfl rfl hc11) rfl rfl ?_
      refine wpD_take (v := (Value.bool true)) 9 (fun _ => True) rfl (by kernel_rfl) (by kernel_rfl) (by kernel_rfl) rfl rfl rfl trivial (fun w _ => (x_pickT (v := (Value.bool true)) rfl rfl hc11 rfl)) ?_
      refine wpD_take (v := (Value.bool true)) 10 (fun _ => True) rfl (by kernel_rfl) (by kernel_rfl) (by kernel_rfl) rfl rfl rfl trivial (fun w _ => (x_move (v := (Value.bool true)) rfl rfl)) ?_
      refine wpD_pass 11 rfl (by kernel_rfl) (by kernel_rfl) (by kernel_rfl) (wantN rfl rfl rfl rfl) rfl rfl ?_
      refine wpD_pass 12 rfl (by kernel_rfl) (by kernel_rfl) (by kernel_rfl) (wantN rfl rfl rfl rfl) rfl rfl ?_
      refine wpD_pass 13 rfl (by kernel_rfl) (by kernel_rfl) (by kernel_rfl) (wantN rfl rfl rfl rfl) rfl rfl ?_
      refine wpD_pass 14 rfl (by kernel_rfl) (by kernel_rfl) (by kernel_rfl) (wantN rfl rfl rfl rfl) rfl rfl ?_
      refine wpD_pass 15 rfl (by kernel_rfl) (by kernel_rfl) (by kernel_rfl) (wantN rfl rfl rfl rfl) rfl rfl ?_
      refine wpD_pass 16 rfl (by kernel_rfl) (by kernel_rfl) (by kernel_rfl) (wantN rfl rfl rfl rfl) rfl rfl ?_
      refine wpD_pass 17 rfl (by kernel_rfl) (by kernel_rfl) (by kernel_rfl) (wantN rfl rfl rfl rfl) rfl rfl ?_
      refine wpD_pass 18 rfl (by kernel_rfl) (by kernel_rfl) (by kernel_rfl) (wantN rfl rfl rfl rfl) rfl rfl ?_
      refine wpD_pass 19 rfl (by kernel_rfl) (by kernel_rfl) (by kernel_rfl) (wantN rfl rfl rfl rfl) rfl rfl ?_
      refine wpD_pass 20 rfl (by kernel_rfl) (by kernel_rfl) (by kernel_rfl) (wantN rfl rfl rfl rfl) rfl rfl ?_
      refine wpD_pass 21 rfl (by kernel_rfl) (by kernel_rfl) (by kernel_rfl) (wantN rfl rfl rfl rfl) rfl rfl ?_
      refine wpD_take (v := (Value.bool true)) 22 (fun _ => True) rfl (by kernel_rfl) (by kernel_rfl) (by kernel_rfl) rfl rfl rfl trivial (fun w _ => (x_pickT (v := (Value.bool true)) rfl rfl rfl rfl)) ?_
      exact wpD_done (by kernel_rfl) ⟨true, ⟨rfl, e0, e1, trivial⟩, h⟩
    · replace h := h.2 hc11
      refine wpD_take (v := (Value.int .i64 p1)) 3 (fun _ => True) rfl (by kernel_rfl) (by kernel_rfl) (by kernel_rfl) (wantG rfl rfl rfl hc11) rfl rfl trivial (fun w _ => (x_move (v := (Value.int .i64 p1)) rfl e1)) ?_
      refine wpD_take (v := (Value.pointer p0)) 4 (fun _ => True) rfl (by kernel_rfl) (by kernel_rfl) (by kernel_rfl) (wantG rfl rfl rfl hc11) rfl rfl trivial (fun w _ => (x_move (v := (Value.pointer p0)) rfl e0)) ?_
      obtain ⟨a12, q12, h⟩ := h
      refine wpD_take (v := (Value.pointer (some a12))) 5 (fun _ => True) rfl (by kernel_rfl) (by kernel_rfl) (by kernel_rfl) (wantG rfl rfl rfl hc11) rfl rfl trivial (fun w _ => (x_nilCheck rfl rfl q12)) ?_
      refine wpD_take (v := (Value.pointer (some (a12.add 1)))) 6 (fun _ => True) rfl (by kernel_rfl) (by kernel_rfl) (by kernel_rfl) (wantG rfl rfl rfl hc11) rfl rfl trivial (fun w _ => (x_fieldAddr rfl rfl FA_82_1)) ?_
      obtain ⟨x13, q13, h⟩ := h
      refine wpD_take (v := (Value.int .i64 x13)) 7 (fun w => w.cell? (a12.add 1) = some (Value.int .i64 x13)) rfl (by kernel_rfl) (by kernel_rfl) (by kernel_rfl) (wantG rfl rfl rfl hc11) rfl rfl q13 (fun w q13 => (x_load1 rfl rfl SH_3 q13)) ?_
      refine wpD_take (v := (Value.bool (decide (x13 < p1)))) 8 (fun _ => True) rfl (by kernel_rfl) (by kernel_rfl) (by kernel_rfl) (wantG rfl rfl rfl hc11) rfl rfl trivial (fun w _ => (x_gtr rfl rfl rfl)) ?_
      refine wpD_take (v := (Value.bool (decide (x13 < p1)))) 9 (fun _ => True) rfl (by kernel_rfl) (by kernel_rfl) (by kernel_rfl) rfl rfl rfl trivial (fun w _ => (x_pickF (v := (Value.bool (decide (x13 < p1)))) rfl rfl hc11 rfl)) ?_
      refine wpD_take (v := (Value.bool (decide (x13 < p1)))) 10 (fun _ => True) rfl (by kernel_rfl) (by kernel_rfl) (by kernel_rfl) rfl rfl rfl trivial (fun w _ => (x_move (v := (Value.bool (decide (x13 < p1)))) rfl rfl)) ?_
      rcases Bool.eq_false_or_eq_true (decide (x13 < p1)) with hc14 | hc14
      · replace h := h.1 hc14
        refine wpD_pass 11 rfl (by kernel_rfl) (by kernel_rfl) (by kernel_rfl) (wantN rfl rfl rfl hc14) rfl rfl ?_
        refine wpD_pass 12 rfl (by kernel_rfl) (by kernel_rfl) (by kernel_rfl) (wantN rfl rfl rfl hc14) rfl rfl ?_
        refine wpD_pass 13 rfl (by kernel_rfl) (by kernel_rfl) (by kernel_rfl) (wantN rfl rfl rfl hc14) rfl rfl ?_
        refine wpD_pass 14 rfl (by kernel_rfl) (by kernel_rfl) (by kernel_rfl) (wantN rfl rfl rfl hc14) rfl rfl ?_
        refine wpD_pass 15 rfl (by kernel_rfl) (by kernel_rfl) (by kernel_rfl) (wantN rfl rfl rfl hc14) rfl rfl ?_
        refine wpD_pass 16 rfl (by kernel_rfl) (by kernel_rfl) (by kernel_rfl) (wantN rfl rfl rfl hc14) rfl rfl ?_
        refine wpD_pass 17 rfl (by kernel_rfl) (by kernel_rfl) (by kernel_rfl) (wantN rfl rfl rfl hc14) rfl rfl ?_
        refine wpD_pass 18 rfl (by kernel_rfl) (by kernel_rfl) (by kernel_rfl) (wantN rfl rfl rfl hc14) rfl rfl ?_
        refine wpD_pass 19 rfl (by kernel_rfl) (by kernel_rfl) (by kernel_rfl) (wantN rfl rfl rfl hc14) rfl rfl ?_
        refine wpD_pass 20 rfl (by kernel_rfl) (by kernel_rfl) (by kernel_rfl) (wantN rfl rfl rfl hc14) rfl rfl ?_
        refine wpD_pass 21 rfl (by kernel_rfl) (by kernel_rfl) (by kernel_rfl) (wantN rfl rfl rfl hc14) rfl rfl ?_
        refine wpD_take (v := (Value.bool true)) 22 (fun _ => True) rfl (by kernel_rfl) (by kernel_rfl) (by kernel_rfl) rfl rfl rfl trivial (fun w _ => (x_pickT (v := (Value.bool true)) rfl rfl hc14 rfl)) ?_
        exact wpD_done (by kernel_rfl) ⟨true, ⟨rfl, e0, e1, trivial⟩, h⟩
      · replace h := h.2 hc14
        refine wpD_take (v := (Value.int .i64 p1)) 11 (fun _ => True) rfl (by kernel_rfl) (by kernel_rfl) (by kernel_rfl) (wantG rfl rfl rfl hc14) rfl rfl trivial (fun w _ => (x_move (v := (Value.int .i64 p1)) rfl e1)) ?_
        refine wpD_take (v := (Value.pointer p0)) 12 (fun _ => True) rfl (by kernel_rfl) (by kernel_rfl) (by kernel_rfl) (wantG rfl rfl rfl hc14) rfl rfl trivial (fun w _ => (x_move (v := (Value.pointer p0)) rfl e0)) ?_
        obtain ⟨a15, q15, h⟩ := h
        refine wpD_take (v := (Value.pointer (some a15))) 13 (fun _ => True) rfl (by kernel_rfl) (by kernel_rfl) (by kernel_rfl) (wantG rfl rfl rfl hc14) rfl rfl trivial (fun w _ => (x_nilCheck rfl rfl q15)) ?_
        refine wpD_take (v := (Value.pointer (some (a15.add 2)))) 14 (fun _ => True) rfl (by kernel_rfl) (by kernel_rfl) (by kernel_rfl) (wantG rfl rfl rfl hc14) rfl rfl trivial (fun w _ => (x_fieldAddr rfl rfl FA_82_2)) ?_
        obtain ⟨x16, q16, h⟩ := h
        refine wpD_take (v := (Value.int .i64 x16)) 15 (fun w => w.cell? (a15.add 2) = some (Value.int .i64 x16)) rfl (by kernel_rfl) (by kernel_rfl) (by kernel_rfl) (wantG rfl rfl rfl hc14) rfl rfl q16 (fun w q16 => (x_load1 rfl rfl SH_3 q16)) ?_
        refine wpD_take (v := (Value.pointer p0)) 16 (fun _ => True) rfl (by kernel_rfl) (by kernel_rfl) (by kernel_rfl) (wantG rfl rfl rfl hc14) rfl rfl trivial (fun w _ => (x_move (v := (Value.pointer p0)) rfl e0)) ?_
        obtain ⟨a17, q17, h⟩ := h
        refine wpD_take (v := (Value.pointer (some a17))) 17 (fun _ => True) rfl (by kernel_rfl) (by kernel_rfl) (by kernel_rfl) (wantG rfl rfl rfl hc14) rfl rfl trivial (fun w _ => (x_nilCheck rfl rfl q17)) ?_
        refine wpD_take (v := (Value.pointer (some (a17.add 0)))) 18 (fun _ => True) rfl (by kernel_rfl) (by kernel_rfl) (by kernel_rfl) (wantG rfl rfl rfl hc14) rfl rfl trivial (fun w _ => (x_fieldAddr rfl rfl FA_82_0)) ?_
        obtain ⟨x18, q18, h⟩ := h
        refine wpD_take (v := (Value.int .i64 x18)) 19 (fun w => w.cell? (a17.add 0) = some (Value.int .i64 x18)) rfl (by kernel_rfl) (by kernel_rfl) (by kernel_rfl) (wantG rfl rfl rfl hc14) rfl rfl q18 (fun w q18 => (x_load1 rfl rfl SH_3 q18)) ?_
        refine wpD_take (v := (Value.int .i64 (IntKind.i64.wrap (x16 + x18)))) 20 (fun _ => True) rfl (by kernel_rfl) (by kernel_rfl) (by kernel_rfl) (wantG rfl rfl rfl hc14) rfl rfl trivial (fun w _ => (x_add rfl rfl rfl)) ?_
        refine wpD_take (v := (Value.bool (decide ((IntKind.i64.wrap (x16 + x18)) < p1)))) 21 (fun _ => True) rfl (by kernel_rfl) (by kernel_rfl) (by kernel_rfl) (wantG rfl rfl rfl hc14) rfl rfl trivial (fun w _ => (x_gtr rfl rfl rfl)) ?_
        refine wpD_take (v := (Value.bool (decide ((IntKind.i64.wrap (x16 + x18)) < p1)))) 22 (fun _ => True) rfl (by kernel_rfl) (by kernel_rfl) (by kernel_rfl) rfl rfl rfl trivial (fun w _ => (x_pickF (v := (Value.bool (decide ((IntKind.i64.wrap (x16 + x18)) < p1)))) rfl rfl hc14 rfl)) ?_
        exact wpD_done (by kernel_rfl) ⟨decide ((IntKind.i64.wrap (x16 + x18)) < p1), ⟨rfl, e0, e1, trivial⟩, h⟩
  clear h
  rintro l19 ρ w2 ⟨e27, e0, e1, -⟩ h
  replace h := hk l19 w2 h
  clear hk
  refine wpC_cond (b := l19) e27 (fun hc20 => ?_) (fun hc20 => ?_)
  · replace h := h.1 hc20
    refine wpC_seq ?_
    refine wpC_region ?_
    refine wpR_val (v := (Value.int .i64 1)) (w' := w2) rfl rfl rfl (x_assign (v := (Value.int .i64 1)) rfl rfl) ?_
    refine wpR_nil ?_
    refine wpC_ret ?_
    exact ⟨.inl rfl, fun a ha => ⟨_, results_rep1 rfl ha rfl, 1, rfl, h⟩⟩
  · replace h := h.2 hc20
    refine wpC_skip ?_
    refine wpC_seq ?_
    refine wpC_region ?_
    refine wpR_val (v := (Value.pointer p0)) (w' := w2) rfl rfl rfl (x_move (v := (Value.pointer p0)) rfl e0) ?_
    refine wpR_val (v := (Value.pointer p0)) (w' := w2) rfl rfl rfl (x_move (v := (Value.pointer p0)) rfl e0) ?_
    obtain ⟨a21, q21, h⟩ := h
    refine wpR_val (v := (Value.pointer (some a21))) (w' := w2) rfl rfl rfl (x_nilCheck rfl rfl q21) ?_
    refine wpR_val (v := (Value.pointer (some (a21.add 2)))) (w' := w2) rfl rfl rfl (x_fieldAddr rfl rfl FA_82_2) ?_
    obtain ⟨x22, q22, h⟩ := h
    refine wpR_val (v := (Value.int .i64 x22)) (w' := w2) rfl rfl rfl (x_load1 rfl rfl SH_3 q22) ?_
    refine wpR_val (v := (Value.int .i64 p1)) (w' := w2) rfl rfl rfl (x_move (v := (Value.int .i64 p1)) rfl e1) ?_
    refine wpR_val (v := (Value.int .i64 (max x22 p1))) (w' := w2) rfl rfl rfl (x_max rfl rfl rfl) ?_
    obtain ⟨a23, q23, h⟩ := h
    refine wpR_val (v := (Value.pointer (some a23))) (w' := w2) rfl rfl rfl (x_nilCheck rfl rfl q23) ?_
    refine wpR_val (v := (Value.pointer (some (a23.add 2)))) (w' := w2) rfl rfl rfl (x_fieldAddr rfl rfl FA_82_2) ?_
    obtain ⟨q24, h⟩ := h
    obtain ⟨w3, hw24⟩ : ∃ u, u = setAll w2 (a23.add 2) [(Value.int .i64 (max x22 p1))] 0 := ⟨_, rfl⟩
    replace h := h w3 hw24
    refine wpR_skp (w' := w3) rfl rfl ((x_store (v := (Value.int .i64 (max x22 p1))) rfl rfl rfl SZ_3 (ones (by rfl)) q24).trans (by rw [hw24]; rfl)) ?_
    refine wpR_nil ?_
    refine wpC_seq ?_
    refine wpC_cut (fun ρ => True) trivial ?_
    rintro ρ -
    refine wpC_region ?_
    refine wpR_val (v := (Value.int .i64 0)) (w' := w3) rfl rfl rfl (x_assign (v := (Value.int .i64 0)) rfl rfl) ?_
    refine wpR_nil ?_
    refine wpC_ret ?_
    exact ⟨.inl rfl, fun a ha => ⟨_, results_rep1 rfl ha rfl, 0, rfl, h⟩⟩

/-- (*link.Sender).Left -/
def F17 (p0 : Option Addr) (w0 : World) (K : Int → World → Prop) : Prop :=
  jn (fun (J10 : Int → World → Prop) => tk w0 fun w1 =>
    nn p0 fun a11 =>
    ld (Value.int .i64) (a11.add 1) w1 fun x12 =>
    nn p0 fun a13 =>
    ld (Value.int .i64) (a13.add 2) w1 fun x14 =>
    J10 (IntKind.i64.wrap (x12 - x14)) w1
  )
  fun l15 w2 =>
  K l15 w2
set_option maxRecDepth 100000 in
theorem D17 (p0 : Option Addr) (w0 : World) (K : Int → World → Prop) (h : F17 p0 w0 K) : callC Try.prog 17 #[(Value.pointer p0)] (fun (r : Int) => (Value.int .i64 r)) w0 K := by
  unfold F17 at h
  refine calls_of_wpC Try.func17 rfl 12 rfl (by simp) ?_
  intro ρ hρ
  have e0 : ρ 0 = (Value.pointer p0) := hρ 0
  clear hρ
  refine wpC_seq ?_
  refine wpC_region ?_
  refine wpR_val (v := (Value.int .i64 0)) (w' := w0) rfl rfl rfl (x_assign (v := (Value.int .i64 0)) rfl rfl) ?_
  refine wpR_nil ?_
  refine wpC_seq ?_
  refine wpC_cut (fun ρ => ρ 0 = (Value.pointer p0) ∧ True) ⟨e0, trivial⟩ ?_
  rintro ρ ⟨e0, -⟩
  obtain ⟨J10, h, hk⟩ := h
  refine wpC_drawJ (by kernel_rfl) (fun (x : Int) ρ => ρ 2 = (Value.int .i64 x) ∧ True) J10 ?_ ?_
  · clear hk
    unfold tk at h
    generalize w0.drew = w1 at h ⊢
    refine wpD_take (v := (Value.pointer p0)) 0 (fun _ => True) rfl (by kernel_rfl) (by kernel_rfl) (by kernel_rfl) rfl rfl rfl trivial (fun w _ => (x_move (v := (Value.pointer p0)) rfl e0)) ?_
    obtain ⟨a11, q11, h⟩ := h
    refine wpD_take (v := (Value.pointer (some a11))) 1 (fun _ => True) rfl (by kernel_rfl) (by kernel_rfl) (by kernel_rfl) rfl rfl rfl trivial (fun w _ => (x_nilCheck rfl rfl q11)) ?_
    refine wpD_take (v := (Value.pointer (some (a11.add 1)))) 2 (fun _ => True) rfl (by kernel_rfl) (by kernel_rfl) (by kernel_rfl) rfl rfl rfl trivial (fun w _ => (x_fieldAddr rfl rfl FA_82_1)) ?_
    obtain ⟨x12, q12, h⟩ := h
    refine wpD_take (v := (Value.int .i64 x12)) 3 (fun w => w.cell? (a11.add 1) = some (Value.int .i64 x12)) rfl (by kernel_rfl) (by kernel_rfl) (by kernel_rfl) rfl rfl rfl q12 (fun w q12 => (x_load1 rfl rfl SH_3 q12)) ?_
    refine wpD_take (v := (Value.pointer p0)) 4 (fun _ => True) rfl (by kernel_rfl) (by kernel_rfl) (by kernel_rfl) rfl rfl rfl trivial (fun w _ => (x_move (v := (Value.pointer p0)) rfl e0)) ?_
    obtain ⟨a13, q13, h⟩ := h
    refine wpD_take (v := (Value.pointer (some a13))) 5 (fun _ => True) rfl (by kernel_rfl) (by kernel_rfl) (by kernel_rfl) rfl rfl rfl trivial (fun w _ => (x_nilCheck rfl rfl q13)) ?_
    refine wpD_take (v := (Value.pointer (some (a13.add 2)))) 6 (fun _ => True) rfl (by kernel_rfl) (by kernel_rfl) (by kernel_rfl) rfl rfl rfl trivial (fun w _ => (x_fieldAddr rfl rfl FA_82_2)) ?_
    obtain ⟨x14, q14, h⟩ := h
    refine wpD_take (v := (Value.int .i64 x14)) 7 (fun w => w.cell? (a13.add 2) = some (Value.int .i64 x14)) rfl (by kernel_rfl) (by kernel_rfl) (by kernel_rfl) rfl rfl rfl q14 (fun w q14 => (x_load1 rfl rfl SH_3 q14)) ?_
    refine wpD_take (v := (Value.int .i64 (IntKind.i64.wrap (x12 - x14)))) 8 (fun _ => True) rfl (by kernel_rfl) (by kernel_rfl) (by kernel_rfl) rfl rfl rfl trivial (fun w _ => (x_sub rfl rfl rfl)) ?_
    refine wpD_take (v := (Value.int .i64 (IntKind.i64.wrap (x12 - x14)))) 9 (fun _ => True) rfl (by kernel_rfl) (by kernel_rfl) (by kernel_rfl) rfl rfl rfl trivial (fun w _ => (x_assign (v := (Value.int .i64 (IntKind.i64.wrap (x12 - x14)))) rfl rfl)) ?_
    exact wpD_done (by kernel_rfl) ⟨IntKind.i64.wrap (x12 - x14), ⟨rfl, trivial⟩, h⟩
  clear h
  rintro l15 ρ w2 ⟨e2, -⟩ h
  replace h := hk l15 w2 h
  clear hk
  refine wpC_ret ?_
  exact ⟨.inl rfl, fun a ha => ⟨_, results_rep1 rfl ha e2, l15, rfl, h⟩⟩

/-- slices.Clone[[]api.Waiting,api.Waiting] -/
def F18 (p0 : Sl) (w0 : World) (K : Sl → World → Prop) : Prop :=
  cnd (p0.a.isNone)
    (
    K Sl.nil w0
    )
    (
    nw 34 #[] w0 fun b10 w1 =>
    rn Try.prog (Builtin.append_ #[25, 25] 25 #[Sl.v (⟨some ⟨b10, 0, none⟩, 0, 0⟩ : Sl), Sl.v p0]) Sl.v w1 fun r11 w2 =>
    K r11 w2
    )
set_option maxRecDepth 100000 in
theorem D18 (p0 : Sl) (w0 : World) (K : Sl → World → Prop) (h : F18 p0 w0 K) : callC Try.prog 18 #[(Sl.v p0)] (fun (r : Sl) => (Sl.v r)) w0 K := by
  unfold F18 at h
  refine calls_of_wpC Try.func18 rfl 8 rfl (by simp) ?_
  intro ρ hρ
  have e0 : ρ 0 = (Sl.v p0) := hρ 0
  clear hρ
  refine wpC_seq ?_
  refine wpC_region ?_
  refine wpR_val (v := (Sl.v Sl.nil)) (w' := w0) rfl rfl rfl (x_assign (v := (Sl.v Sl.nil)) rfl rfl) ?_
  refine wpR_nil ?_
  refine wpC_seq ?_
  refine wpC_seq ?_
  refine wpC_cut (fun ρ => ρ 0 = (Sl.v p0) ∧ True) ⟨e0, trivial⟩ ?_
  rintro ρ ⟨e0, -⟩
  refine wpC_region ?_
  refine wpR_val (v := (Sl.v p0)) (w' := w0) rfl rfl rfl (x_move (v := (Sl.v p0)) rfl e0) ?_
  refine wpR_val (v := (Value.bool p0.a.isNone)) (w' := w0) rfl rfl rfl (x_eqlNilS (s := p0) rfl rfl rfl isSliceT_25) ?_
  refine wpR_nil ?_
  refine wpC_cond (b := p0.a.isNone) rfl (fun hc9 => ?_) (fun hc9 => ?_)
  · replace h := h.1 hc9
    refine wpC_seq ?_
    refine wpC_cut (fun ρ => True) trivial ?_
    rintro ρ -
    refine wpC_region ?_
    refine wpR_val (v := (Sl.v Sl.nil)) (w' := w0) rfl rfl rfl (x_assign (v := (Sl.v Sl.nil)) rfl rfl) ?_
    refine wpR_nil ?_
    refine wpC_ret ?_
    exact ⟨.inl rfl, fun a ha => ⟨_, results_rep1 rfl ha rfl, Sl.nil, rfl, h⟩⟩
  · replace h := h.2 hc9
    refine wpC_skip ?_
    refine wpC_seq ?_
    refine wpC_cut (fun ρ => ρ 0 = (Sl.v p0) ∧ True) ⟨e0, trivial⟩ ?_
    rintro ρ ⟨e0, -⟩
    refine wpC_region ?_
    obtain ⟨b10, hb10⟩ : ∃ u, u = w0.heap.size := ⟨_, rfl⟩
    obtain ⟨w1, hw10⟩ : ∃ u, u = w0.alloc (.cells #[] 34) := ⟨_, rfl⟩
    replace h := h b10 w1 hb10 hw10
    refine wpR_val (v := (Sl.v (⟨some ⟨b10, 0, none⟩, 0, 0⟩ : Sl))) (w' := w1) rfl rfl rfl ((x_buildSlice (qs := []) rfl (by rfl) (BS_25_0_ )).trans (by rw [← hb10, ← hw10])) ?_
    refine wpR_val (v := (Sl.v p0)) (w' := w1) rfl rfl rfl (x_move (v := (Sl.v p0)) rfl e0) ?_
    obtain ⟨r11, w2, q11, h⟩ := h
    refine wpR_val (v := (Sl.v r11)) (w' := w2) rfl rfl rfl (x_append (s := (⟨some ⟨b10, 0, none⟩, 0, 0⟩ : Sl)) (u := p0) rfl rfl rfl rfl q11) ?_
    refine wpR_val (v := (Sl.v r11)) (w' := w2) rfl rfl rfl (x_assign (v := (Sl.v r11)) rfl rfl) ?_
    refine wpR_nil ?_
    refine wpC_ret ?_
    exact ⟨.inl rfl, fun a ha => ⟨_, results_rep1 rfl ha rfl, r11, rfl, h⟩⟩

/-- queue.queue -/
def F19 (p0 : Sl) (w0 : World) (K : Bool → World → Prop) : Prop :=
  lp (fun (next9 : Int → World → Prop) l9 w1 =>
    cnd (decide (l9 < (p0.len : Int)))
      (
      ix p0 l9 4 fun p11 =>
      ld (Value.int .i64) (p11.add 0) w1 fun x12 =>
      ld (Value.int .i64) (p11.add 1) w1 fun x13 =>
      ld (Value.int .i64) (p11.add 2) w1 fun x14 =>
      ld (Value.int .i64) (p11.add 3) w1 fun x15 =>
      nw 34 #[(Value.int .i64 0), (Value.int .i64 0), (Value.int .i64 0), (Value.int .i64 0)] w1 fun b16 w2 =>
      st (Addr.mk b16 0 none) [(Value.int .i64 x12), (Value.int .i64 x13), (Value.int .i64 x14), (Value.int .i64 x15)] w2 fun w3 =>
      jn (fun (J19 : Bool → World → Prop) => tk w3 fun w4 =>
        ld (Value.int .i64) ((Addr.mk b16 0 none).add 0) w4 fun x20 =>
        ld (Value.int .i64) ((Addr.mk b16 0 none).add 1) w4 fun x21 =>
        ld (Value.int .i64) ((Addr.mk b16 0 none).add 2) w4 fun x22 =>
        ld (Value.int .i64) ((Addr.mk b16 0 none).add 3) w4 fun x23 =>
        callC Try.prog 20 #[(Value.agg #[(Value.int .i64 x20), (Value.int .i64 x21), (Value.int .i64 x22), (Value.int .i64 x23)])] (fun (r : Bool) => (Value.bool r)) w4 fun r24 w5 =>
        cnd (!r24)
          (
          J19 true w5
          )
          (
          ld (Value.int .i64) ((Addr.mk b16 0 none).add 0) w5 fun x26 =>
          ld (Value.int .i64) ((Addr.mk b16 0 none).add 1) w5 fun x27 =>
          rn Try.prog (Instr.sliceAt 25 (Sl.v p0) none (some (Value.int .i64 l9)) none) (fun (r : Sl) => (Sl.v r)) w5 fun r28 w6 =>
          (w6.cell? ((Addr.mk b16 0 none).add 1) = some (Value.int .i64 x27)) ∧
          (w6.cell? ((Addr.mk b16 0 none).add 0) = some (Value.int .i64 x26)) ∧
          callC Try.prog 21 #[(Sl.v r28), (Value.int .i64 x26), (Value.int .i64 x27)] (fun (r : Bool) => (Value.bool r)) w6 fun r29 w7 =>
          J19 r29 w7
          )
      )
      fun l30 w8 =>
      cnd (l30)
        (
        K false w8
        )
        (
        next9 (IntKind.i64.wrap (l9 + 1)) w8
        )
      )
      (
      K true w1
      )
  ) 0 w0
set_option maxRecDepth 100000 in
theorem D19 (p0 : Sl) (w0 : World) (K : Bool → World → Prop) (h : F19 p0 w0 K) : callC Try.prog 19 #[(Sl.v p0)] (fun (r : Bool) => (Value.bool r)) w0 K := by
  unfold F19 at h
  refine calls_of_wpC Try.func19 rfl 26 rfl (by simp) ?_
  intro ρ hρ
  have e0 : ρ 0 = (Sl.v p0) := hρ 0
  clear hρ
  refine wpC_seq ?_
  refine wpC_region ?_
  refine wpR_val (v := (Value.bool false)) (w' := w0) rfl rfl rfl (x_assign (v := (Value.bool false)) rfl rfl) ?_
  refine wpR_nil ?_
  refine wpC_seq ?_
  refine wpC_seq ?_
  refine wpC_cut (fun ρ => ρ 0 = (Sl.v p0) ∧ True) ⟨e0, trivial⟩ ?_
  rintro ρ ⟨e0, -⟩
  refine wpC_region ?_
  refine wpR_val (v := (Sl.v p0)) (w' := w0) rfl rfl rfl (x_move (v := (Sl.v p0)) rfl e0) ?_
  refine wpR_val (v := (Value.int .i64 (p0.len : Int))) (w' := w0) rfl rfl rfl (x_lenS (s := p0) rfl rfl isSliceT_25) ?_
  refine wpR_val (v := (Value.int .i64 0)) (w' := w0) rfl rfl rfl (x_move (v := (Value.int .i64 0)) rfl rfl) ?_
  refine wpR_nil ?_
  refine wpC_block ?_
  obtain ⟨I9, μ9, hI9, hr9⟩ := h
  refine wpC_loop (fun (x : Int) ρ => ρ 7 = (Value.int .i64 x) ∧ ρ 0 = (Sl.v p0) ∧ ρ 5 = (Sl.v p0) ∧ ρ 6 = (Value.int .i64 (p0.len : Int)) ∧ True) I9 μ9 0 ⟨rfl, e0, rfl, rfl, trivial⟩ hI9 ?_
  rintro l9 ρ w1 ⟨e7, e0, e5, e6, -⟩ h
  replace h := hr9 l9 w1 h
  clear hr9 hI9
  refine wpC_seq ?_
  refine wpC_region ?_
  refine wpR_val (v := (Value.bool (decide (l9 < (p0.len : Int))))) (w' := w1) rfl rfl rfl (x_lss rfl e7 e6) ?_
  refine wpR_nil ?_
  refine wpC_seq ?_
  refine wpC_cond (b := decide (l9 < (p0.len : Int))) rfl (fun hc10 => ?_) (fun hc10 => ?_)
  · replace h := h.1 hc10
    refine wpC_skip ?_
    refine wpC_seq ?_
    refine wpC_block ?_
    refine wpC_seq ?_
    refine wpC_cut (fun ρ => ρ 0 = (Sl.v p0) ∧ ρ 5 = (Sl.v p0) ∧ ρ 6 = (Value.int .i64 (p0.len : Int)) ∧ ρ 7 = (Value.int .i64 l9) ∧ True) ⟨e0, e5, e6, e7, trivial⟩ ?_
    rintro ρ ⟨e0, e5, e6, e7, -⟩
    refine wpC_region ?_
    refine wpR_val (v := (Value.int .i64 l9)) (w' := w1) rfl rfl rfl (x_move (v := (Value.int .i64 l9)) rfl e7) ?_
    obtain ⟨q11, z11, r11, h⟩ := h
    generalize hp11 : z11.add ((l9 : Int).toNat * 4) = p11 at h
    refine wpR_val (v := (Value.pointer (some p11))) (w' := w1) rfl rfl rfl ((x_indexAddr (s := p0) rfl e5 e7 ES_25 q11 r11).trans (by rw [hp11])) ?_
    obtain ⟨x12, q12, x13, q13, x14, q14, x15, q15, h⟩ := h
    refine wpR_val (v := (Value.agg #[(Value.int .i64 x12), (Value.int .i64 x13), (Value.int .i64 x14), (Value.int .i64 x15)])) (w' := w1) rfl rfl rfl (x_loadN [(Value.int .i64 x12), (Value.int .i64 x13), (Value.int .i64 x14), (Value.int .i64 x15)] rfl rfl SH_34 (CellsAt.out (CellsAt.cons q12 (CellsAt.cons q13 (CellsAt.cons q14 (CellsAt.cons q15 CellsAt.nil)))))) ?_
    obtain ⟨b16, hb16⟩ : ∃ u, u = w1.heap.size := ⟨_, rfl⟩
    obtain ⟨w2, hw16⟩ : ∃ u, u = w1.alloc (.cells #[(Value.int .i64 0), (Value.int .i64 0), (Value.int .i64 0), (Value.int .i64 0)] 34) := ⟨_, rfl⟩
    replace h := h b16 w2 hb16 hw16
    refine wpR_val (v := (Value.pointer (some (Addr.mk b16 0 none)))) (w' := w2) rfl rfl rfl ((x_alloc rfl ZV_34).trans (by rw [hb16, hw16]; rfl)) ?_
    refine wpR_val (v := (Value.int .i64 l9)) (w' := w2) rfl rfl rfl (x_assign (v := (Value.int .i64 l9)) rfl rfl) ?_
    obtain ⟨q17, h⟩ := h
    obtain ⟨w3, hw17⟩ : ∃ u, u = setAll w2 (Addr.mk b16 0 none) [(Value.int .i64 x12), (Value.int .i64 x13), (Value.int .i64 x14), (Value.int .i64 x15)] 0 := ⟨_, rfl⟩
    replace h := h w3 hw17
    refine wpR_skp (w' := w3) rfl rfl ((x_store (v := (Value.agg #[(Value.int .i64 x12), (Value.int .i64 x13), (Value.int .i64 x14), (Value.int .i64 x15)])) rfl rfl rfl SZ_34 (ones (by rfl)) q17).trans (by rw [hw17]; rfl)) ?_
    refine wpR_nil ?_
    refine wpC_seq ?_
    refine wpC_cut (fun ρ => ρ 0 = (Sl.v p0) ∧ ρ 3 = (Value.int .i64 l9) ∧ ρ 4 = (Value.pointer (some (Addr.mk b16 0 none))) ∧ ρ 5 = (Sl.v p0) ∧ ρ 6 = (Value.int .i64 (p0.len : Int)) ∧ ρ 7 = (Value.int .i64 l9) ∧ True) ⟨e0, rfl, rfl, e5, e6, e7, trivial⟩ ?_
    rintro ρ ⟨e0, e3, e4, e5, e6, e7, -⟩
    obtain ⟨J19, h, hk⟩ := h
    refine wpC_drawJ (by kernel_rfl) (fun (x : Bool) ρ => ρ 24 = (Value.bool x) ∧ ρ 0 = (Sl.v p0) ∧ ρ 5 = (Sl.v p0) ∧ ρ 6 = (Value.int .i64 (p0.len : Int)) ∧ ρ 7 = (Value.int .i64 l9) ∧ True) J19 ?_ ?_
    · clear hk
      unfold tk at h
      generalize w3.drew = w4 at h ⊢
      obtain ⟨x20, q20, x21, q21, x22, q22, x23, q23, h⟩ := h
      refine wpD_take (v := (Value.agg #[(Value.int .i64 x20), (Value.int .i64 x21), (Value.int .i64 x22), (Value.int .i64 x23)])) 0 (fun w => w.cell? ((Addr.mk b16 0 none).add 0) = some (Value.int .i64 x20) ∧ w.cell? ((Addr.mk b16 0 none).add 1) = some (Value.int .i64 x21) ∧ w.cell? ((Addr.mk b16 0 none).add 2) = some (Value.int .i64 x22) ∧ w.cell? ((Addr.mk b16 0 none).add 3) = some (Value.int .i64 x23)) rfl (by kernel_rfl) (by kernel_rfl) (by kernel_rfl) rfl rfl rfl ⟨q20, q21, q22, q23⟩ (fun w ⟨q20, q21, q22, q23⟩ => (x_loadN [(Value.int .i64 x20), (Value.int .i64 x21), (Value.int .i64 x22), (Value.int .i64 x23)] rfl e4 SH_34 (CellsAt.out (CellsAt.cons q20 (CellsAt.cons q21 (CellsAt.cons q22 (CellsAt.cons q23 CellsAt.nil))))))) ?_
      refine wpD_all (rs := [1]) (by kernel_rfl) (by simp) (allD_cons ?_ allD_nil)
      refine stepD_enterL (L' := []) rfl rfl rfl rfl (x_call (vs := [(Value.agg #[(Value.int .i64 x20), (Value.int .i64 x21), (Value.int .i64 x22), (Value.int .i64 x23)])]) rfl rfl (mapl_cons rfl mapl_nil) Try.func20 NN_20 NB_20) (by kernel_rfl) (Calls.mono h ?_)
      rintro _ w5 ⟨r24, rfl, h⟩
      refine ⟨_, rfl, held_nil, ?_⟩
      refine wpD_take (v := (Value.bool (!r24))) 2 (fun _ => True) rfl (by kernel_rfl) (by kernel_rfl) (by kernel_rfl) rfl rfl rfl trivial (fun w _ => (x_not rfl rfl)) ?_
      refine wpD_take (v := (Value.bool (!r24))) 3 (fun _ => True) rfl (by kernel_rfl) (by kernel_rfl) (by kernel_rfl) rfl rfl rfl trivial (fun w _ => (x_move (v := (Value.bool (!r24))) rfl rfl)) ?_
      rcases Bool.eq_false_or_eq_true (!r24) with hc25 | hc25
      · replace h := h.1 hc25
        refine wpD_pass 4 rfl (by kernel_rfl) (by kernel_rfl) (by kernel_rfl) (wantN rfl rfl rfl hc25) rfl rfl ?_
        refine wpD_pass 5 rfl (by kernel_rfl) (by kernel_rfl) (by kernel_rfl) (wantN rfl rfl rfl hc25) rfl rfl ?_
        refine wpD_pass 6 rfl (by kernel_rfl) (by kernel_rfl) (by kernel_rfl) (wantN rfl rfl rfl hc25) rfl rfl ?_
        refine wpD_pass 7 rfl (by kernel_rfl) (by kernel_rfl) (by kernel_rfl) (wantN rfl rfl rfl hc25) rfl rfl ?_
        refine wpD_pass 8 rfl (by kernel_rfl) (by kernel_rfl) (by kernel_rfl) (wantN rfl rfl rfl hc25) rfl rfl ?_
        refine wpD_pass 9 rfl (by kernel_rfl) (by kernel_rfl) (by kernel_rfl) (wantN rfl rfl rfl hc25) rfl rfl ?_
        refine wpD_pass 10 rfl (by kernel_rfl) (by kernel_rfl) (by kernel_rfl) (wantN rfl rfl rfl hc25) rfl rfl ?_
        refine wpD_pass 11 rfl (by kernel_rfl) (by kernel_rfl) (by kernel_rfl) (wantN rfl rfl rfl hc25) rfl rfl ?_
        refine wpD_take (v := (Value.bool true)) 12 (fun _ => True) rfl (by kernel_rfl) (by kernel_rfl) (by kernel_rfl) rfl rfl rfl trivial (fun w _ => (x_pickT (v := (Value.bool true)) rfl rfl hc25 rfl)) ?_
        exact wpD_done (by kernel_rfl) ⟨true, ⟨rfl, e0, e5, e6, e7, trivial⟩, h⟩
      · replace h := h.2 hc25
        refine wpD_take (v := (Sl.v p0)) 4 (fun _ => True) rfl (by kernel_rfl) (by kernel_rfl) (by kernel_rfl) (wantG rfl rfl rfl hc25) rfl rfl trivial (fun w _ => (x_move (v := (Sl.v p0)) rfl e0)) ?_
        refine wpD_take (v := (Value.int .i64 l9)) 5 (fun _ => True) rfl (by kernel_rfl) (by kernel_rfl) (by kernel_rfl) (wantG rfl rfl rfl hc25) rfl rfl trivial (fun w _ => (x_move (v := (Value.int .i64 l9)) rfl e3)) ?_
        refine wpD_take (v := (Value.pointer (some ((Addr.mk b16 0 none).add 0)))) 7 (fun _ => True) rfl (by kernel_rfl) (by kernel_rfl) (by kernel_rfl) (wantG rfl rfl rfl hc25) rfl rfl trivial (fun w _ => (x_fieldAddr rfl e4 FA_34_0)) ?_
        obtain ⟨x26, q26, h⟩ := h
        refine wpD_take (v := (Value.int .i64 x26)) 8 (fun w => w.cell? ((Addr.mk b16 0 none).add 0) = some (Value.int .i64 x26)) rfl (by kernel_rfl) (by kernel_rfl) (by kernel_rfl) (wantG rfl rfl rfl hc25) rfl rfl q26 (fun w q26 => (x_load1 rfl rfl SH_3 q26)) ?_
        refine wpD_take (v := (Value.pointer (some ((Addr.mk b16 0 none).add 1)))) 9 (fun _ => True) rfl (by kernel_rfl) (by kernel_rfl) (by kernel_rfl) (wantG rfl rfl rfl hc25) rfl rfl trivial (fun w _ => (x_fieldAddr rfl e4 FA_34_1)) ?_
        obtain ⟨x27, q27, h⟩ := h
        refine wpD_take (v := (Value.int .i64 x27)) 10 (fun w => w.cell? ((Addr.mk b16 0 none).add 1) = some (Value.int .i64 x27)) rfl (by kernel_rfl) (by kernel_rfl) (by kernel_rfl) (wantG rfl rfl rfl hc25) rfl rfl q27 (fun w q27 => (x_load1 rfl rfl SH_3 q27)) ?_
        refine wpD_all (rs := [6]) (by kernel_rfl) (by simp) (allD_cons ?_ allD_nil)
        obtain ⟨r28, w6, q28, h⟩ := h
        obtain ⟨o10, h⟩ := h
        obtain ⟨o8, h⟩ := h
        refine stepD_valL (L' := [(10, fun w => w.cell? ((Addr.mk b16 0 none).add 1) = some (Value.int .i64 x27)), (9, fun _ => True), (8, fun w => w.cell? ((Addr.mk b16 0 none).add 0) = some (Value.int .i64 x26)), (7, fun _ => True), (2, fun _ => True)]) (v := (Sl.v r28)) (w' := w6) rfl (wantG rfl rfl rfl hc25) rfl rfl (x_sliceAt rfl rfl rfl (congrArg some rfl) rfl q28) (by kernel_rfl) (held_cons o10 (held_cons trivial (held_cons o8 (held_cons trivial (held_cons trivial held_nil))))) ?_
        refine wpD_all (rs := [11]) (by kernel_rfl) (by simp) (allD_cons ?_ allD_nil)
        refine stepD_enterL (L' := [(9, fun _ => True), (7, fun _ => True), (2, fun _ => True)]) rfl (wantG rfl rfl rfl hc25) rfl rfl (x_call (vs := [(Sl.v r28), (Value.int .i64 x26), (Value.int .i64 x27)]) rfl rfl (mapl_cons rfl (mapl_cons rfl (mapl_cons rfl mapl_nil))) Try.func21 NN_21 NB_21) (by kernel_rfl) (Calls.mono h ?_)
        rintro _ w7 ⟨r29, rfl, h⟩
        refine ⟨_, rfl, (held_cons trivial (held_cons trivial (held_cons trivial held_nil))), ?_⟩
        refine wpD_take (v := (Value.bool r29)) 12 (fun _ => True) rfl (by kernel_rfl) (by kernel_rfl) (by kernel_rfl) rfl rfl rfl trivial (fun w _ => (x_pickF (v := (Value.bool r29)) rfl rfl hc25 rfl)) ?_
        exact wpD_done (by kernel_rfl) ⟨r29, ⟨rfl, e0, e5, e6, e7, trivial⟩, h⟩
    clear h
    rintro l30 ρ w8 ⟨e24, e0, e5, e6, e7, -⟩ h
    replace h := hk l30 w8 h
    clear hk
    refine wpC_cond (b := l30) e24 (fun hc31 => ?_) (fun hc31 => ?_)
    · replace h := h.1 hc31
      refine wpC_seq ?_
      refine wpC_region ?_
      refine wpR_val (v := (Value.bool false)) (w' := w8) rfl rfl rfl (x_assign (v := (Value.bool false)) rfl rfl) ?_
      refine wpR_nil ?_
      refine wpC_ret ?_
      exact ⟨.inl rfl, fun a ha => ⟨_, results_rep1 rfl ha rfl, false, rfl, h⟩⟩
    · replace h := h.2 hc31
      refine wpC_skip ?_
      refine wpC_region ?_
      refine wpR_val (v := (Value.int .i64 (IntKind.i64.wrap (l9 + 1)))) (w' := w8) rfl rfl rfl (x_add rfl e7 rfl) ?_
      refine wpR_val (v := (Value.int .i64 (IntKind.i64.wrap (l9 + 1)))) (w' := w8) rfl rfl rfl (x_move (v := (Value.int .i64 (IntKind.i64.wrap (l9 + 1)))) rfl rfl) ?_
      refine wpR_nil ?_
      exact ⟨IntKind.i64.wrap (l9 + 1), ⟨rfl, e0, e5, e6, trivial⟩, h⟩
  · replace h := h.2 hc10
    refine wpC_exit ?_
    refine wpC_seq ?_
    refine wpC_cut (fun ρ => True) trivial ?_
    rintro ρ -
    refine wpC_region ?_
    refine wpR_val (v := (Value.bool true)) (w' := w1) rfl rfl rfl (x_assign (v := (Value.bool true)) rfl rfl) ?_
    refine wpR_nil ?_
    refine wpC_ret ?_
    exact ⟨.inl rfl, fun a ha => ⟨_, results_rep1 rfl ha rfl, true, rfl, h⟩⟩

/-- queue.right -/
def F20 (p0_0 : Int) (p0_1 : Int) (p0_2 : Int) (p0_3 : Int) (w0 : World) (K : Bool → World → Prop) : Prop :=
  nw 34 #[(Value.int .i64 p0_0), (Value.int .i64 p0_1), (Value.int .i64 p0_2), (Value.int .i64 p0_3)] w0 fun b9 w1 =>
  ld (Value.int .i64) ((Addr.mk b9 0 none).add 0) w1 fun x10 =>
  callC Try.prog 35 #[(Value.int .i64 x10), (Value.int .i64 0), (Value.int .i64 99999)] (fun (r : Bool) => (Value.bool r)) w1 fun r11 w2 =>
  jn (fun J12 => cnd (r11)
    (
    ld (Value.int .i64) ((Addr.mk b9 0 none).add 1) w2 fun x14 =>
    callC Try.prog 35 #[(Value.int .i64 x14), (Value.int .i64 0), (Value.int .i64 11)] (fun (r : Bool) => (Value.bool r)) w2 fun r15 w3 =>
    J12 r15 w3
    )
    (
    J12 false w2
    ))
  fun c16 w4 =>
  jn (fun J17 => cnd (c16)
    (
    ld (Value.int .i64) ((Addr.mk b9 0 none).add 2) w4 fun x19 =>
    callC Try.prog 35 #[(Value.int .i64 x19), (Value.int .i64 1), (Value.int .i64 1099511627776)] (fun (r : Bool) => (Value.bool r)) w4 fun r20 w5 =>
    J17 r20 w5
    )
    (
    J17 false w4
    ))
  fun c21 w6 =>
  jn (fun J22 => cnd (c21)
    (
    ld (Value.int .i64) ((Addr.mk b9 0 none).add 3) w6 fun x24 =>
    callC Try.prog 35 #[(Value.int .i64 x24), (Value.int .i64 0), (Value.int .i64 1073741824)] (fun (r : Bool) => (Value.bool r)) w6 fun r25 w7 =>
    J22 r25 w7
    )
    (
    J22 false w6
    ))
  fun c26 w8 =>
  K c26 w8
set_option maxRecDepth 100000 in
theorem D20 (p0_0 : Int) (p0_1 : Int) (p0_2 : Int) (p0_3 : Int) (w0 : World) (K : Bool → World → Prop) (h : F20 p0_0 p0_1 p0_2 p0_3 w0 K) : callC Try.prog 20 #[(Value.agg #[(Value.int .i64 p0_0), (Value.int .i64 p0_1), (Value.int .i64 p0_2), (Value.int .i64 p0_3)])] (fun (r : Bool) => (Value.bool r)) w0 K := by
  unfold F20 at h
  refine calls_of_wpC Try.func20 rfl 21 rfl (by simp) ?_
  intro ρ hρ
  have e0 : ρ 0 = (Value.agg #[(Value.int .i64 p0_0), (Value.int .i64 p0_1), (Value.int .i64 p0_2), (Value.int .i64 p0_3)]) := hρ 0
  clear hρ
  refine wpC_seq ?_
  refine wpC_region ?_
  obtain ⟨b9, hb9⟩ : ∃ u, u = w0.heap.size := ⟨_, rfl⟩
  obtain ⟨w1, hw9⟩ : ∃ u, u = w0.alloc (.cells #[(Value.int .i64 p0_0), (Value.int .i64 p0_1), (Value.int .i64 p0_2), (Value.int .i64 p0_3)] 34) := ⟨_, rfl⟩
  replace h := h b9 w1 hb9 hw9
  refine wpR_val (v := (Value.pointer (some (Addr.mk b9 0 none)))) (w' := w1) rfl rfl rfl ((x_box (v := (Value.agg #[(Value.int .i64 p0_0), (Value.int .i64 p0_1), (Value.int .i64 p0_2), (Value.int .i64 p0_3)])) rfl e0).trans (by rw [hb9, hw9]; rfl)) ?_
  refine wpR_val (v := (Value.bool false)) (w' := w1) rfl rfl rfl (x_assign (v := (Value.bool false)) rfl rfl) ?_
  refine wpR_nil ?_
  refine wpC_seq ?_
  refine wpC_cut (fun ρ => ρ 1 = (Value.pointer (some (Addr.mk b9 0 none))) ∧ True) ⟨rfl, trivial⟩ ?_
  rintro ρ ⟨e1, -⟩
  refine wpC_region ?_
  refine wpR_val (v := (Value.pointer (some ((Addr.mk b9 0 none).add 0)))) (w' := w1) rfl rfl rfl (x_fieldAddr rfl e1 FA_34_0) ?_
  obtain ⟨x10, q10, h⟩ := h
  refine wpR_val (v := (Value.int .i64 x10)) (w' := w1) rfl rfl rfl (x_load1 rfl rfl SH_3 q10) ?_
  refine wpR_enter rfl rfl rfl (x_call (vs := [(Value.int .i64 x10), (Value.int .i64 0), (Value.int .i64 99999)]) rfl rfl (mapl_cons rfl (mapl_cons rfl (mapl_cons rfl mapl_nil))) Try.func35 NN_35 NB_35) (Calls.mono h ?_)
  rintro _ w2 ⟨r11, rfl, h⟩
  refine ⟨_, rfl, ?_⟩
  refine wpR_val (v := (Value.bool r11)) (w' := w2) rfl rfl rfl (x_move (v := (Value.bool r11)) rfl rfl) ?_
  obtain ⟨J12, h, hk⟩ := h
  refine wpR_joinJ 4 (fun x ρ => ρ 10 = Value.bool x ∧ ρ 1 = (Value.pointer (some (Addr.mk b9 0 none))) ∧ True) (J12) ?_ ?_
  · clear hk
    rcases Bool.eq_false_or_eq_true (r11) with hc13 | hc13
    · replace h := h.1 hc13
      refine wpR_val (v := (Value.pointer (some ((Addr.mk b9 0 none).add 1)))) (w' := w2) (wantG rfl rfl rfl hc13) rfl rfl (x_fieldAddr rfl e1 FA_34_1) ?_
      obtain ⟨x14, q14, h⟩ := h
      refine wpR_val (v := (Value.int .i64 x14)) (w' := w2) (wantG rfl rfl rfl hc13) rfl rfl (x_load1 rfl rfl SH_3 q14) ?_
      refine wpR_enter (wantG rfl rfl rfl hc13) rfl rfl (x_call (vs := [(Value.int .i64 x14), (Value.int .i64 0), (Value.int .i64 11)]) rfl rfl (mapl_cons rfl (mapl_cons rfl (mapl_cons rfl mapl_nil))) Try.func35 NN_35 NB_35) (Calls.mono h ?_)
      rintro _ w3 ⟨r15, rfl, h⟩
      refine ⟨_, rfl, ?_⟩
      refine wpR_val (v := (Value.bool r15)) (w' := w3) rfl rfl rfl (x_pickT (v := (Value.bool r15)) rfl rfl hc13 rfl) ?_
      refine wpR_nil ?_
      exact ⟨r15, ⟨rfl, e1, trivial⟩, h⟩
    · replace h := h.2 hc13
      refine wpR_pass (wantN rfl rfl rfl hc13) rfl rfl ?_
      refine wpR_pass (wantN rfl rfl rfl hc13) rfl rfl ?_
      refine wpR_pass (wantN rfl rfl rfl hc13) rfl rfl ?_
      refine wpR_val (v := (Value.bool false)) (w' := w2) rfl rfl rfl (x_pickF (v := (Value.bool false)) rfl rfl hc13 rfl) ?_
      refine wpR_nil ?_
      exact ⟨false, ⟨rfl, e1, trivial⟩, h⟩
  clear h
  rintro c16 ρ w4 ⟨e10, e1, -⟩ h
  replace h := hk c16 w4 h
  clear hk
  refine wpR_val (v := (Value.bool c16)) (w' := w4) rfl rfl rfl (x_move (v := (Value.bool c16)) rfl e10) ?_
  obtain ⟨J17, h, hk⟩ := h
  refine wpR_joinJ 4 (fun x ρ => ρ 15 = Value.bool x ∧ ρ 1 = (Value.pointer (some (Addr.mk b9 0 none))) ∧ True) (J17) ?_ ?_
  · clear hk
    rcases Bool.eq_false_or_eq_true (c16) with hc18 | hc18
    · replace h := h.1 hc18
      refine wpR_val (v := (Value.pointer (some ((Addr.mk b9 0 none).add 2)))) (w' := w4) (wantG rfl rfl rfl hc18) rfl rfl (x_fieldAddr rfl e1 FA_34_2) ?_
      obtain ⟨x19, q19, h⟩ := h
      refine wpR_val (v := (Value.int .i64 x19)) (w' := w4) (wantG rfl rfl rfl hc18) rfl rfl (x_load1 rfl rfl SH_3 q19) ?_
      refine wpR_enter (wantG rfl rfl rfl hc18) rfl rfl (x_call (vs := [(Value.int .i64 x19), (Value.int .i64 1), (Value.int .i64 1099511627776)]) rfl rfl (mapl_cons rfl (mapl_cons rfl (mapl_cons rfl mapl_nil))) Try.func35 NN_35 NB_35) (Calls.mono h ?_)
      rintro _ w5 ⟨r20, rfl, h⟩
      refine ⟨_, rfl, ?_⟩
      refine wpR_val (v := (Value.bool r20)) (w' := w5) rfl rfl rfl (x_pickT (v := (Value.bool r20)) rfl rfl hc18 rfl) ?_
      refine wpR_nil ?_
      exact ⟨r20, ⟨rfl, e1, trivial⟩, h⟩
    · replace h := h.2 hc18
      refine wpR_pass (wantN rfl rfl rfl hc18) rfl rfl ?_
      refine wpR_pass (wantN rfl rfl rfl hc18) rfl rfl ?_
      refine wpR_pass (wantN rfl rfl rfl hc18) rfl rfl ?_
      refine wpR_val (v := (Value.bool false)) (w' := w4) rfl rfl rfl (x_pickF (v := (Value.bool false)) rfl rfl hc18 rfl) ?_
      refine wpR_nil ?_
      exact ⟨false, ⟨rfl, e1, trivial⟩, h⟩
  clear h
  rintro c21 ρ w6 ⟨e15, e1, -⟩ h
  replace h := hk c21 w6 h
  clear hk
  refine wpR_val (v := (Value.bool c21)) (w' := w6) rfl rfl rfl (x_move (v := (Value.bool c21)) rfl e15) ?_
  obtain ⟨J22, h, hk⟩ := h
  refine wpR_joinJ 4 (fun x ρ => ρ 20 = Value.bool x ∧ True) (J22) ?_ ?_
  · clear hk
    rcases Bool.eq_false_or_eq_true (c21) with hc23 | hc23
    · replace h := h.1 hc23
      refine wpR_val (v := (Value.pointer (some ((Addr.mk b9 0 none).add 3)))) (w' := w6) (wantG rfl rfl rfl hc23) rfl rfl (x_fieldAddr rfl e1 FA_34_3) ?_
      obtain ⟨x24, q24, h⟩ := h
      refine wpR_val (v := (Value.int .i64 x24)) (w' := w6) (wantG rfl rfl rfl hc23) rfl rfl (x_load1 rfl rfl SH_3 q24) ?_
      refine wpR_enter (wantG rfl rfl rfl hc23) rfl rfl (x_call (vs := [(Value.int .i64 x24), (Value.int .i64 0), (Value.int .i64 1073741824)]) rfl rfl (mapl_cons rfl (mapl_cons rfl (mapl_cons rfl mapl_nil))) Try.func35 NN_35 NB_35) (Calls.mono h ?_)
      rintro _ w7 ⟨r25, rfl, h⟩
      refine ⟨_, rfl, ?_⟩
      refine wpR_val (v := (Value.bool r25)) (w' := w7) rfl rfl rfl (x_pickT (v := (Value.bool r25)) rfl rfl hc23 rfl) ?_
      refine wpR_nil ?_
      exact ⟨r25, ⟨rfl, trivial⟩, h⟩
    · replace h := h.2 hc23
      refine wpR_pass (wantN rfl rfl rfl hc23) rfl rfl ?_
      refine wpR_pass (wantN rfl rfl rfl hc23) rfl rfl ?_
      refine wpR_pass (wantN rfl rfl rfl hc23) rfl rfl ?_
      refine wpR_val (v := (Value.bool false)) (w' := w6) rfl rfl rfl (x_pickF (v := (Value.bool false)) rfl rfl hc23 rfl) ?_
      refine wpR_nil ?_
      exact ⟨false, ⟨rfl, trivial⟩, h⟩
  clear h
  rintro c26 ρ w8 ⟨e20, -⟩ h
  replace h := hk c26 w8 h
  clear hk
  refine wpR_val (v := (Value.bool c26)) (w' := w8) rfl rfl rfl (x_assign (v := (Value.bool c26)) rfl e20) ?_
  refine wpR_nil ?_
  refine wpC_ret ?_
  exact ⟨.inl rfl, fun a ha => ⟨_, results_rep1 rfl ha rfl, c26, rfl, h⟩⟩

/-- queue.has -/
def F21 (p0 : Sl) (p1 : Int) (p2 : Int) (w0 : World) (K : Bool → World → Prop) : Prop :=
  nw 3 #[(Value.int .i64 p1)] w0 fun b9 w1 =>
  nw 3 #[(Value.int .i64 p2)] w1 fun b10 w2 =>
  callC Try.prog 36 #[(Sl.v p0), (Value.func (.func 37) #[] (List.toArray [(Value.pointer (some (Addr.mk b9 0 none))), (Value.pointer (some (Addr.mk b10 0 none)))]))] (fun (r : Bool) => (Value.bool r)) w2 fun r11 w3 =>
  K r11 w3
set_option maxRecDepth 100000 in
theorem D21 (p0 : Sl) (p1 : Int) (p2 : Int) (w0 : World) (K : Bool → World → Prop) (h : F21 p0 p1 p2 w0 K) : callC Try.prog 21 #[(Sl.v p0), (Value.int .i64 p1), (Value.int .i64 p2)] (fun (r : Bool) => (Value.bool r)) w0 K := by
  unfold F21 at h
  refine calls_of_wpC Try.func21 rfl 10 rfl (by simp) ?_
  intro ρ hρ
  have e0 : ρ 0 = (Sl.v p0) := hρ 0
  have e1 : ρ 1 = (Value.int .i64 p1) := hρ 1
  have e2 : ρ 2 = (Value.int .i64 p2) := hρ 2
  clear hρ
  refine wpC_seq ?_
  refine wpC_region ?_
  obtain ⟨b9, hb9⟩ : ∃ u, u = w0.heap.size := ⟨_, rfl⟩
  obtain ⟨w1, hw9⟩ : ∃ u, u = w0.alloc (.cells #[(Value.int .i64 p1)] 3) := ⟨_, rfl⟩
  replace h := h b9 w1 hb9 hw9
  refine wpR_val (v := (Value.pointer (some (Addr.mk b9 0 none)))) (w' := w1) rfl rfl rfl ((x_box (v := (Value.int .i64 p1)) rfl e1).trans (by rw [hb9, hw9]; rfl)) ?_
  obtain ⟨b10, hb10⟩ : ∃ u, u = w1.heap.size := ⟨_, rfl⟩
  obtain ⟨w2, hw10⟩ : ∃ u, u = w1.alloc (.cells #[(Value.int .i64 p2)] 3) := ⟨_, rfl⟩
  replace h := h b10 w2 hb10 hw10
  refine wpR_val (v := (Value.pointer (some (Addr.mk b10 0 none)))) (w' := w2) rfl rfl rfl ((x_box (v := (Value.int .i64 p2)) rfl e2).trans (by rw [hb10, hw10]; rfl)) ?_
  refine wpR_val (v := (Value.bool false)) (w' := w2) rfl rfl rfl (x_assign (v := (Value.bool false)) rfl rfl) ?_
  refine wpR_nil ?_
  refine wpC_seq ?_
  refine wpC_cut (fun ρ => ρ 0 = (Sl.v p0) ∧ ρ 4 = (Value.pointer (some (Addr.mk b9 0 none))) ∧ ρ 5 = (Value.pointer (some (Addr.mk b10 0 none))) ∧ True) ⟨e0, rfl, rfl, trivial⟩ ?_
  rintro ρ ⟨e0, e4, e5, -⟩
  refine wpC_region ?_
  refine wpR_val (v := (Sl.v p0)) (w' := w2) rfl rfl rfl (x_move (v := (Sl.v p0)) rfl e0) ?_
  refine wpR_val (v := (Value.func (.func 37) #[] (List.toArray [(Value.pointer (some (Addr.mk b9 0 none))), (Value.pointer (some (Addr.mk b10 0 none)))]))) (w' := w2) rfl rfl rfl (x_makeFunc (vs := [(Value.pointer (some (Addr.mk b9 0 none))), (Value.pointer (some (Addr.mk b10 0 none)))]) rfl (mapl_cons e4 (mapl_cons e5 mapl_nil))) ?_
  refine wpR_enter rfl rfl rfl (x_call (vs := [(Sl.v p0), (Value.func (.func 37) #[] (List.toArray [(Value.pointer (some (Addr.mk b9 0 none))), (Value.pointer (some (Addr.mk b10 0 none)))]))]) rfl rfl (mapl_cons rfl (mapl_cons rfl mapl_nil)) Try.func36 NN_36 NB_36) (Calls.mono h ?_)
  rintro _ w3 ⟨r11, rfl, h⟩
  refine ⟨_, rfl, ?_⟩
  refine wpR_val (v := (Value.bool r11)) (w' := w3) rfl rfl rfl (x_assign (v := (Value.bool r11)) rfl rfl) ?_
  refine wpR_nil ?_
  refine wpC_ret ?_
  exact ⟨.inl rfl, fun a ha => ⟨_, results_rep1 rfl ha rfl, r11, rfl, h⟩⟩

/-- admit.Plan -/
def F22 (p0_0 : ByteArray) (p0_1 : Int) (p0_2 : Int) (p0_3 : Int) (p0_4 : Bool) (p0_5 : Int) (p0_6 : Bool) (p0_7 : Bool) (p0_8 : Int) (p0_9 : Int) (p0_10 : Int) (p0_11 : Int) (p0_12 : Sl) (p0_13 : Int) (p0_14 : Int) (p0_15 : Int) (p0_16 : Int) (p0_17 : Bool) (p0_18 : Int) (p0_19 : Int) (p0_20 : Int) (p0_21 : Int) (p1 : Sl) (p2 : Int) (w0 : World) (K : (Sl × Int × Int) → World → Prop) : Prop :=
  nw 24 (A23 p0_0 p0_1 p0_2 p0_3 p0_4 p0_5 p0_6 p0_7 p0_8 p0_9 p0_10 p0_11 p0_12 p0_13 p0_14 p0_15 p0_16 p0_17 p0_18 p0_19 p0_20 p0_21) w0 fun b9 w1 =>
  L23 (Addr.mk b9 0 none) w1 fun x10 x11 x12 x13 x14 x15 x16 x17 x18 x19 x20 x21 x22 x23 x24 x25 x26 x27 x28 x29 x30 x31 =>
  callC Try.prog 38 #[(V23 x10 x11 x12 x13 x14 x15 x16 x17 x18 x19 x20 x21 x22 x23 x24 x25 x26 x27 x28 x29 x30 x31), (Sl.v p1), (Value.int .i64 p2)] (fun (r : Sl × Bool) => (Value.tuple #[(Sl.v r.1), (Value.bool r.2)])) w1 fun r32 w2 =>
  cnd (!r32.2)
    (
    K (Sl.nil, (-1), 1) w2
    )
    (
    lp (fun (next34 : (Sl × Int) → World → Prop) l34 w3 =>
      cnd (decide (l34.2 < (r32.1.len : Int)))
        (
        ix r32.1 l34.2 5 fun p36 =>
        ld (Value.int .i64) (p36.add 0) w3 fun x37 =>
        ld (Value.int .i64) (p36.add 1) w3 fun x38 =>
        ld (Value.int .i64) (p36.add 2) w3 fun x39 =>
        ld (Value.int .i64) (p36.add 3) w3 fun x40 =>
        ld (Value.int .i64) (p36.add 4) w3 fun x41 =>
        nw 98 #[(Value.int .i64 0), (Value.int .i64 0), (Value.int .i64 0), (Value.int .i64 0), (Value.int .i64 0)] w3 fun b42 w4 =>
        st (Addr.mk b42 0 none) [(Value.int .i64 x37), (Value.int .i64 x38), (Value.int .i64 x39), (Value.int .i64 x40), (Value.int .i64 x41)] w4 fun w5 =>
        ld (Value.int .i64) ((Addr.mk b42 0 none).add 3) w5 fun x44 =>
        ld (Value.int .i64) ((Addr.mk b42 0 none).add 4) w5 fun x45 =>
        cnd (decide (x45 < x44))
          (
          jn (fun (J48 : (Sl × Int × Int) → World → Prop) => tk w5 fun w6 =>
            ld (Value.int .i64) (((Addr.mk b42 0 none).add 0).add 0) w6 fun x49 =>
            J48 (Sl.nil, x49, 16) w6
          )
          fun l50 w7 =>
          K (l50.1, l50.2.1, l50.2.2) w7
          )
          (
          ld (Value.int .i64) ((Addr.mk b42 0 none).add 4) w5 fun x51 =>
          ld (Value.int .i64) ((Addr.mk b42 0 none).add 3) w5 fun x52 =>
          nw 3 #[(Value.int .i64 (IntKind.i64.wrap (x51 - x52)))] w5 fun b53 w8 =>
          rn Try.prog (Builtin.append_ #[38, 38] 38 #[Sl.v l34.1, Sl.v (⟨some ⟨b53, 0, none⟩, 1, 1⟩ : Sl)]) Sl.v w8 fun r54 w9 =>
          next34 (r54, IntKind.i64.wrap (l34.2 + 1)) w9
          )
        )
        (
        K (l34.1, (-1), 0) w3
        )
    ) (Sl.nil, 0) w2
    )
set_option maxRecDepth 100000 in
theorem D22 (p0_0 : ByteArray) (p0_1 : Int) (p0_2 : Int) (p0_3 : Int) (p0_4 : Bool) (p0_5 : Int) (p0_6 : Bool) (p0_7 : Bool) (p0_8 : Int) (p0_9 : Int) (p0_10 : Int) (p0_11 : Int) (p0_12 : Sl) (p0_13 : Int) (p0_14 : Int) (p0_15 : Int) (p0_16 : Int) (p0_17 : Bool) (p0_18 : Int) (p0_19 : Int) (p0_20 : Int) (p0_21 : Int) (p1 : Sl) (p2 : Int) (w0 : World) (K : (Sl × Int × Int) → World → Prop) (h : F22 p0_0 p0_1 p0_2 p0_3 p0_4 p0_5 p0_6 p0_7 p0_8 p0_9 p0_10 p0_11 p0_12 p0_13 p0_14 p0_15 p0_16 p0_17 p0_18 p0_19 p0_20 p0_21 p1 p2 w0 K) : callC Try.prog 22 #[(V23 p0_0 p0_1 p0_2 p0_3 p0_4 p0_5 p0_6 p0_7 p0_8 p0_9 p0_10 p0_11 p0_12 p0_13 p0_14 p0_15 p0_16 p0_17 p0_18 p0_19 p0_20 p0_21), (Sl.v p1), (Value.int .i64 p2)] (fun (r : Sl × Int × Int) => (Value.tuple #[(Sl.v r.1), (Value.int .i64 r.2.1), (Value.int .i64 r.2.2)])) w0 K := by
  unfold F22 at h
  refine calls_of_wpC Try.func22 rfl 47 rfl (by simp) ?_
  intro ρ hρ
  have e0 : ρ 0 = (V23 p0_0 p0_1 p0_2 p0_3 p0_4 p0_5 p0_6 p0_7 p0_8 p0_9 p0_10 p0_11 p0_12 p0_13 p0_14 p0_15 p0_16 p0_17 p0_18 p0_19 p0_20 p0_21) := hρ 0
  have e1 : ρ 1 = (Sl.v p1) := hρ 1
  have e2 : ρ 2 = (Value.int .i64 p2) := hρ 2
  clear hρ
  refine wpC_seq ?_
  refine wpC_region ?_
  obtain ⟨b9, hb9⟩ : ∃ u, u = w0.heap.size := ⟨_, rfl⟩
  obtain ⟨w1, hw9⟩ : ∃ u, u = w0.alloc (.cells (A23 p0_0 p0_1 p0_2 p0_3 p0_4 p0_5 p0_6 p0_7 p0_8 p0_9 p0_10 p0_11 p0_12 p0_13 p0_14 p0_15 p0_16 p0_17 p0_18 p0_19 p0_20 p0_21) 24) := ⟨_, rfl⟩
  replace h := h b9 w1 hb9 hw9
  refine wpR_val (v := (Value.pointer (some (Addr.mk b9 0 none)))) (w' := w1) rfl rfl rfl ((x_box (v := (V23 p0_0 p0_1 p0_2 p0_3 p0_4 p0_5 p0_6 p0_7 p0_8 p0_9 p0_10 p0_11 p0_12 p0_13 p0_14 p0_15 p0_16 p0_17 p0_18 p0_19 p0_20 p0_21)) rfl e0).trans (by rw [hb9, hw9]; rfl)) ?_
  refine wpR_val (v := (Sl.v Sl.nil)) (w' := w1) rfl rfl rfl (x_assign (v := (Sl.v Sl.nil)) rfl rfl) ?_
  refine wpR_val (v := (Value.int .i64 0)) (w' := w1) rfl rfl rfl (x_assign (v := (Value.int .i64 0)) rfl rfl) ?_
  refine wpR_val (v := (Value.int .i64 0)) (w' := w1) rfl rfl rfl (x_assign (v := (Value.int .i64 0)) rfl rfl) ?_
  refine wpR_nil ?_
  refine wpC_seq ?_
  refine wpC_cut (fun ρ => ρ 1 = (Sl.v p1) ∧ ρ 2 = (Value.int .i64 p2) ∧ ρ 3 = (Value.pointer (some (Addr.mk b9 0 none))) ∧ True) ⟨e1, e2, rfl, trivial⟩ ?_
  rintro ρ ⟨e1, e2, e3, -⟩
  refine wpC_region ?_
  obtain ⟨x10, q10, x11, q11, x12, q12, x13, q13, x14, q14, x15, q15, x16, q16, x17, q17, x18, q18, x19, q19, x20, q20, x21, q21, x22, q22, x23, q23, x24, q24, x25, q25, x26, q26, x27, q27, x28, q28, x29, q29, x30, q30, x31, q31, h⟩ := h
  refine wpR_val (v := (V23 x10 x11 x12 x13 x14 x15 x16 x17 x18 x19 x20 x21 x22 x23 x24 x25 x26 x27 x28 x29 x30 x31)) (w' := w1) rfl rfl rfl (x_loadN (S23 x10 x11 x12 x13 x14 x15 x16 x17 x18 x19 x20 x21 x22 x23 x24 x25 x26 x27 x28 x29 x30 x31) rfl e3 SH_24 (K23 ⟨q10, q11, q12, q13, q14, q15, q16, q17, q18, q19, q20, q21, q22, q23, q24, q25, q26, q27, q28, q29, q30, q31⟩)) ?_
  refine wpR_val (v := (Sl.v p1)) (w' := w1) rfl rfl rfl (x_move (v := (Sl.v p1)) rfl e1) ?_
  refine wpR_val (v := (Value.int .i64 p2)) (w' := w1) rfl rfl rfl (x_move (v := (Value.int .i64 p2)) rfl e2) ?_
  refine wpR_enter rfl rfl rfl (x_call (vs := [(V23 x10 x11 x12 x13 x14 x15 x16 x17 x18 x19 x20 x21 x22 x23 x24 x25 x26 x27 x28 x29 x30 x31), (Sl.v p1), (Value.int .i64 p2)]) rfl rfl (mapl_cons rfl (mapl_cons rfl (mapl_cons rfl mapl_nil))) Try.func38 NN_38 NB_38) (Calls.mono h ?_)
  rintro _ w2 ⟨r32, rfl, h⟩
  refine ⟨_, rfl, ?_⟩
  refine wpR_val (v := (Value.tuple #[(Sl.v r32.1), (Value.bool r32.2)])) (w' := w2) rfl rfl rfl (x_move (v := (Value.tuple #[(Sl.v r32.1), (Value.bool r32.2)])) rfl rfl) ?_
  refine wpR_val (v := (Sl.v r32.1)) (w' := w2) rfl rfl rfl (x_extract rfl rfl rfl) ?_
  refine wpR_val (v := (Value.bool r32.2)) (w' := w2) rfl rfl rfl (x_extract rfl rfl rfl) ?_
  refine wpR_val (v := (Sl.v r32.1)) (w' := w2) rfl rfl rfl (x_assign (v := (Sl.v r32.1)) rfl rfl) ?_
  refine wpR_val (v := (Value.bool r32.2)) (w' := w2) rfl rfl rfl (x_assign (v := (Value.bool r32.2)) rfl rfl) ?_
  refine wpR_nil ?_
  refine wpC_seq ?_
  refine wpC_seq ?_
  refine wpC_cut (fun ρ => ρ 9 = (Sl.v r32.1) ∧ ρ 10 = (Value.bool r32.2) ∧ True) ⟨rfl, rfl, trivial⟩ ?_
  rintro ρ ⟨e9, e10, -⟩
  refine wpC_region ?_
  refine wpR_val (v := (Value.bool r32.2)) (w' := w2) rfl rfl rfl (x_move (v := (Value.bool r32.2)) rfl e10) ?_
  refine wpR_val (v := (Value.bool (!r32.2))) (w' := w2) rfl rfl rfl (x_not rfl rfl) ?_
  refine wpR_nil ?_
  refine wpC_cond (b := !r32.2) rfl (fun hc33 => ?_) (fun hc33 => ?_)
  · replace h := h.1 hc33
    refine wpC_seq ?_
    refine wpC_cut (fun ρ => True) trivial ?_
    rintro ρ -
    refine wpC_region ?_
    refine wpR_val (v := (Sl.v Sl.nil)) (w' := w2) rfl rfl rfl (x_assign (v := (Sl.v Sl.nil)) rfl rfl) ?_
    refine wpR_val (v := (Value.int .i64 (-1))) (w' := w2) rfl rfl rfl (x_assign (v := (Value.int .i64 (-1))) rfl rfl) ?_
    refine wpR_val (v := (Value.int .i64 1)) (w' := w2) rfl rfl rfl (x_assign (v := (Value.int .i64 1)) rfl rfl) ?_
    refine wpR_nil ?_
    refine wpC_ret ?_
    exact ⟨.inl rfl, fun a ha => ⟨_, results_rep3 rfl ha rfl rfl rfl, (Sl.nil, (-1), 1), rfl, h⟩⟩
  · replace h := h.2 hc33
    refine wpC_skip ?_
    refine wpC_seq ?_
    refine wpC_cut (fun ρ => ρ 9 = (Sl.v r32.1) ∧ True) ⟨e9, trivial⟩ ?_
    rintro ρ ⟨e9, -⟩
    refine wpC_region ?_
    refine wpR_val (v := (Sl.v Sl.nil)) (w' := w2) rfl rfl rfl (x_assign (v := (Sl.v Sl.nil)) rfl rfl) ?_
    refine wpR_nil ?_
    refine wpC_seq ?_
    refine wpC_seq ?_
    refine wpC_cut (fun ρ => ρ 9 = (Sl.v r32.1) ∧ ρ 11 = (Sl.v Sl.nil) ∧ True) ⟨e9, rfl, trivial⟩ ?_
    rintro ρ ⟨e9, e11, -⟩
    refine wpC_region ?_
    refine wpR_val (v := (Sl.v r32.1)) (w' := w2) rfl rfl rfl (x_move (v := (Sl.v r32.1)) rfl e9) ?_
    refine wpR_val (v := (Value.int .i64 (r32.1.len : Int))) (w' := w2) rfl rfl rfl (x_lenS (s := r32.1) rfl rfl isSliceT_94) ?_
    refine wpR_val (v := (Value.int .i64 0)) (w' := w2) rfl rfl rfl (x_move (v := (Value.int .i64 0)) rfl rfl) ?_
    refine wpR_nil ?_
    refine wpC_block ?_
    obtain ⟨I34, μ34, hI34, hr34⟩ := h
    refine wpC_loop (fun (x : Sl × Int) ρ => ρ 11 = (Sl.v x.1) ∧ ρ 25 = (Value.int .i64 x.2) ∧ ρ 23 = (Sl.v r32.1) ∧ ρ 24 = (Value.int .i64 (r32.1.len : Int)) ∧ True) I34 μ34 (Sl.nil, 0) ⟨e11, rfl, rfl, rfl, trivial⟩ hI34 ?_
    rintro l34 ρ w3 ⟨e11, e25, e23, e24, -⟩ h
    replace h := hr34 l34 w3 h
    clear hr34 hI34
    refine wpC_seq ?_
    refine wpC_region ?_
    refine wpR_val (v := (Value.bool (decide (l34.2 < (r32.1.len : Int))))) (w' := w3) rfl rfl rfl (x_lss rfl e25 e24) ?_
    refine wpR_nil ?_
    refine wpC_seq ?_
    refine wpC_cond (b := decide (l34.2 < (r32.1.len : Int))) rfl (fun hc35 => ?_) (fun hc35 => ?_)
    · replace h := h.1 hc35
      refine wpC_skip ?_
      refine wpC_seq ?_
      refine wpC_block ?_
      refine wpC_seq ?_
      refine wpC_cut (fun ρ => ρ 11 = (Sl.v l34.1) ∧ ρ 23 = (Sl.v r32.1) ∧ ρ 24 = (Value.int .i64 (r32.1.len : Int)) ∧ ρ 25 = (Value.int .i64 l34.2) ∧ True) ⟨e11, e23, e24, e25, trivial⟩ ?_
      rintro ρ ⟨e11, e23, e24, e25, -⟩
      refine wpC_region ?_
      obtain ⟨q36, z36, r36, h⟩ := h
      generalize hp36 : z36.add ((l34.2 : Int).toNat * 5) = p36 at h
      refine wpR_val (v := (Value.pointer (some p36))) (w' := w3) rfl rfl rfl ((x_indexAddr (s := r32.1) rfl e23 e25 ES_94 q36 r36).trans (by rw [hp36])) ?_
      obtain ⟨x37, q37, x38, q38, x39, q39, x40, q40, x41, q41, h⟩ := h
      refine wpR_val (v := (Value.agg #[(Value.int .i64 x37), (Value.int .i64 x38), (Value.int .i64 x39), (Value.int .i64 x40), (Value.int .i64 x41)])) (w' := w3) rfl rfl rfl (x_loadN [(Value.int .i64 x37), (Value.int .i64 x38), (Value.int .i64 x39), (Value.int .i64 x40), (Value.int .i64 x41)] rfl rfl SH_98 (CellsAt.out (CellsAt.cons q37 (CellsAt.cons q38 (CellsAt.cons q39 (CellsAt.cons q40 (CellsAt.cons q41 CellsAt.nil))))))) ?_
      obtain ⟨b42, hb42⟩ : ∃ u, u = w3.heap.size := ⟨_, rfl⟩
      obtain ⟨w4, hw42⟩ : ∃ u, u = w3.alloc (.cells #[(Value.int .i64 0), (Value.int .i64 0), (Value.int .i64 0), (Value.int .i64 0), (Value.int .i64 0)] 98) := ⟨_, rfl⟩
      replace h := h b42 w4 hb42 hw42
      refine wpR_val (v := (Value.pointer (some (Addr.mk b42 0 none)))) (w' := w4) rfl rfl rfl ((x_alloc rfl ZV_98).trans (by rw [hb42, hw42]; rfl)) ?_
      obtain ⟨q43, h⟩ := h
      obtain ⟨w5, hw43⟩ : ∃ u, u = setAll w4 (Addr.mk b42 0 none) [(Value.int .i64 x37), (Value.int .i64 x38), (Value.int .i64 x39), (Value.int .i64 x40), (Value.int .i64 x41)] 0 := ⟨_, rfl⟩
      replace h := h w5 hw43
      refine wpR_skp (w' := w5) rfl rfl ((x_store (v := (Value.agg #[(Value.int .i64 x37), (Value.int .i64 x38), (Value.int .i64 x39), (Value.int .i64 x40), (Value.int .i64 x41)])) rfl rfl rfl SZ_98 (ones (by rfl)) q43).trans (by rw [hw43]; rfl)) ?_
      refine wpR_nil ?_
      refine wpC_seq ?_
      refine wpC_seq ?_
      refine wpC_cut (fun ρ => ρ 11 = (Sl.v l34.1) ∧ ρ 13 = (Value.pointer (some (Addr.mk b42 0 none))) ∧ ρ 23 = (Sl.v r32.1) ∧ ρ 24 = (Value.int .i64 (r32.1.len : Int)) ∧ ρ 25 = (Value.int .i64 l34.2) ∧ True) ⟨e11, rfl, e23, e24, e25, trivial⟩ ?_
      rintro ρ ⟨e11, e13, e23, e24, e25, -⟩
      refine wpC_region ?_
      refine wpR_val (v := (Value.pointer (some ((Addr.mk b42 0 none).add 3)))) (w' := w5) rfl rfl rfl (x_fieldAddr rfl e13 FA_98_1) ?_
      obtain ⟨x44, q44, h⟩ := h
      refine wpR_val (v := (Value.int .i64 x44)) (w' := w5) rfl rfl rfl (x_load1 rfl rfl SH_3 q44) ?_
      refine wpR_val (v := (Value.pointer (some ((Addr.mk b42 0 none).add 4)))) (w' := w5) rfl rfl rfl (x_fieldAddr rfl e13 FA_98_2) ?_
      obtain ⟨x45, q45, h⟩ := h
      refine wpR_val (v := (Value.int .i64 x45)) (w' := w5) rfl rfl rfl (x_load1 rfl rfl SH_3 q45) ?_
      refine wpR_val (v := (Value.bool (decide (x45 < x44)))) (w' := w5) rfl rfl rfl (x_gtr rfl rfl rfl) ?_
      refine wpR_nil ?_
      refine wpC_cond (b := decide (x45 < x44)) rfl (fun hc46 => ?_) (fun hc46 => ?_)
      · replace h := h.1 hc46
        refine wpC_seq ?_
        refine wpC_cut (fun ρ => ρ 13 = (Value.pointer (some (Addr.mk b42 0 none))) ∧ True) ⟨e13, trivial⟩ ?_
        rintro ρ ⟨e13, -⟩
        obtain ⟨J48, h, hk⟩ := h
        refine wpC_drawJ (by kernel_rfl) (fun (x : Sl × Int × Int) ρ => ρ 6 = (Sl.v x.1) ∧ ρ 7 = (Value.int .i64 x.2.1) ∧ ρ 8 = (Value.int .i64 x.2.2) ∧ True) J48 ?_ ?_
        · clear hk
          unfold tk at h
          generalize w5.drew = w6 at h ⊢
          refine wpD_take (v := (Value.pointer (some ((Addr.mk b42 0 none).add 0)))) 0 (fun _ => True) rfl (by kernel_rfl) (by kernel_rfl) (by kernel_rfl) rfl rfl rfl trivial (fun w _ => (x_fieldAddr rfl e13 FA_98_0)) ?_
          refine wpD_take (v := (Value.pointer (some (((Addr.mk b42 0 none).add 0).add 0)))) 1 (fun _ => True) rfl (by kernel_rfl) (by kernel_rfl) (by kernel_rfl) rfl rfl rfl trivial (fun w _ => (x_fieldAddr rfl rfl FA_73_0)) ?_
          obtain ⟨x49, q49, h⟩ := h
          refine wpD_take (v := (Value.int .i64 x49)) 2 (fun w => w.cell? (((Addr.mk b42 0 none).add 0).add 0) = some (Value.int .i64 x49)) rfl (by kernel_rfl) (by kernel_rfl) (by kernel_rfl) rfl rfl rfl q49 (fun w q49 => (x_load1 rfl rfl SH_3 q49)) ?_
          refine wpD_take (v := (Sl.v Sl.nil)) 3 (fun _ => True) rfl (by kernel_rfl) (by kernel_rfl) (by kernel_rfl) rfl rfl rfl trivial (fun w _ => (x_assign (v := (Sl.v Sl.nil)) rfl rfl)) ?_
          refine wpD_take (v := (Value.int .i64 x49)) 4 (fun _ => True) rfl (by kernel_rfl) (by kernel_rfl) (by kernel_rfl) rfl rfl rfl trivial (fun w _ => (x_assign (v := (Value.int .i64 x49)) rfl rfl)) ?_
          refine wpD_take (v := (Value.int .i64 16)) 5 (fun _ => True) rfl (by kernel_rfl) (by kernel_rfl) (by kernel_rfl) rfl rfl rfl trivial (fun w _ => (x_assign (v := (Value.int .i64 16)) rfl rfl)) ?_
          exact wpD_done (by kernel_rfl) ⟨(Sl.nil, x49, 16), ⟨rfl, rfl, rfl, trivial⟩, h⟩
        clear h
        rintro l50 ρ w7 ⟨e6, e7, e8, -⟩ h
        replace h := hk l50 w7 h
        clear hk
        refine wpC_ret ?_
        exact ⟨.inl rfl, fun a ha => ⟨_, results_rep3 rfl ha e6 e7 e8, (l50.1, l50.2.1, l50.2.2), rfl, h⟩⟩
      · replace h := h.2 hc46
        refine wpC_skip ?_
        refine wpC_cut (fun ρ => ρ 11 = (Sl.v l34.1) ∧ ρ 13 = (Value.pointer (some (Addr.mk b42 0 none))) ∧ ρ 23 = (Sl.v r32.1) ∧ ρ 24 = (Value.int .i64 (r32.1.len : Int)) ∧ ρ 25 = (Value.int .i64 l34.2) ∧ True) ⟨e11, e13, e23, e24, e25, trivial⟩ ?_
        rintro ρ ⟨e11, e13, e23, e24, e25, -⟩
        refine wpC_region ?_
        refine wpR_val (v := (Sl.v l34.1)) (w' := w5) rfl rfl rfl (x_move (v := (Sl.v l34.1)) rfl e11) ?_
        refine wpR_val (v := (Value.pointer (some ((Addr.mk b42 0 none).add 4)))) (w' := w5) rfl rfl rfl (x_fieldAddr rfl e13 FA_98_2) ?_
        obtain ⟨x51, q51, h⟩ := h
        refine wpR_val (v := (Value.int .i64 x51)) (w' := w5) rfl rfl rfl (x_load1 rfl rfl SH_3 q51) ?_
        refine wpR_val (v := (Value.pointer (some ((Addr.mk b42 0 none).add 3)))) (w' := w5) rfl rfl rfl (x_fieldAddr rfl e13 FA_98_1) ?_
        obtain ⟨x52, q52, h⟩ := h
        refine wpR_val (v := (Value.int .i64 x52)) (w' := w5) rfl rfl rfl (x_load1 rfl rfl SH_3 q52) ?_
        refine wpR_val (v := (Value.int .i64 (IntKind.i64.wrap (x51 - x52)))) (w' := w5) rfl rfl rfl (x_sub rfl rfl rfl) ?_
        obtain ⟨b53, hb53⟩ : ∃ u, u = w5.heap.size := ⟨_, rfl⟩
        obtain ⟨w8, hw53⟩ : ∃ u, u = w5.alloc (.cells #[(Value.int .i64 (IntKind.i64.wrap (x51 - x52)))] 3) := ⟨_, rfl⟩
        replace h := h b53 w8 hb53 hw53
        refine wpR_val (v := (Sl.v (⟨some ⟨b53, 0, none⟩, 1, 1⟩ : Sl))) (w' := w8) rfl rfl rfl ((x_buildSlice (qs := [(0, (Value.int .i64 (IntKind.i64.wrap (x51 - x52))))]) rfl (by rfl) (BS_38_1_0 (IntKind.i64.wrap (x51 - x52)))).trans (by rw [← hb53, ← hw53])) ?_
        obtain ⟨r54, w9, q54, h⟩ := h
        refine wpR_val (v := (Sl.v r54)) (w' := w9) rfl rfl rfl (x_append (s := l34.1) (u := (⟨some ⟨b53, 0, none⟩, 1, 1⟩ : Sl)) rfl rfl rfl rfl q54) ?_
        refine wpR_val (v := (Sl.v r54)) (w' := w9) rfl rfl rfl (x_assign (v := (Sl.v r54)) rfl rfl) ?_
        refine wpR_nil ?_
        refine wpC_cut (fun ρ => ρ 11 = (Sl.v r54) ∧ ρ 23 = (Sl.v r32.1) ∧ ρ 24 = (Value.int .i64 (r32.1.len : Int)) ∧ ρ 25 = (Value.int .i64 l34.2) ∧ True) ⟨rfl, e23, e24, e25, trivial⟩ ?_
        rintro ρ ⟨e11, e23, e24, e25, -⟩
        refine wpC_region ?_
        refine wpR_val (v := (Value.int .i64 (IntKind.i64.wrap (l34.2 + 1)))) (w' := w9) rfl rfl rfl (x_add rfl e25 rfl) ?_
        refine wpR_val (v := (Value.int .i64 (IntKind.i64.wrap (l34.2 + 1)))) (w' := w9) rfl rfl rfl (x_move (v := (Value.int .i64 (IntKind.i64.wrap (l34.2 + 1)))) rfl rfl) ?_
        refine wpR_nil ?_
        exact ⟨(r54, IntKind.i64.wrap (l34.2 + 1)), ⟨e11, rfl, e23, e24, trivial⟩, h⟩
    · replace h := h.2 hc35
      refine wpC_exit ?_
      refine wpC_seq ?_
      refine wpC_cut (fun ρ => ρ 11 = (Sl.v l34.1) ∧ True) ⟨e11, trivial⟩ ?_
      rintro ρ ⟨e11, -⟩
      refine wpC_region ?_
      refine wpR_val (v := (Sl.v l34.1)) (w' := w3) rfl rfl rfl (x_move (v := (Sl.v l34.1)) rfl e11) ?_
      refine wpR_val (v := (Sl.v l34.1)) (w' := w3) rfl rfl rfl (x_assign (v := (Sl.v l34.1)) rfl rfl) ?_
      refine wpR_val (v := (Value.int .i64 (-1))) (w' := w3) rfl rfl rfl (x_assign (v := (Value.int .i64 (-1))) rfl rfl) ?_
      refine wpR_val (v := (Value.int .i64 0)) (w' := w3) rfl rfl rfl (x_assign (v := (Value.int .i64 0)) rfl rfl) ?_
      refine wpR_nil ?_
      refine wpC_ret ?_
      exact ⟨.inl rfl, fun a ha => ⟨_, results_rep3 rfl ha rfl rfl rfl, (l34.1, (-1), 0), rfl, h⟩⟩

/-- profile.Check -/
def F23 (p0_0 : ByteArray) (p0_1 : Int) (p0_2 : Int) (p0_3 : Int) (p0_4 : Bool) (p0_5 : Int) (p0_6 : Bool) (p0_7 : Bool) (p0_8 : Int) (p0_9 : Int) (p0_10 : Int) (p0_11 : Int) (p0_12 : Sl) (p0_13 : Int) (p0_14 : Int) (p0_15 : Int) (p0_16 : Int) (p0_17 : Bool) (p0_18 : Int) (p0_19 : Int) (p0_20 : Int) (p0_21 : Int) (w0 : World) (K : Int → World → Prop) : Prop :=
  nw 24 (A23 p0_0 p0_1 p0_2 p0_3 p0_4 p0_5 p0_6 p0_7 p0_8 p0_9 p0_10 p0_11 p0_12 p0_13 p0_14 p0_15 p0_16 p0_17 p0_18 p0_19 p0_20 p0_21) w0 fun b9 w1 =>
  L23 (Addr.mk b9 0 none) w1 fun x10 x11 x12 x13 x14 x15 x16 x17 x18 x19 x20 x21 x22 x23 x24 x25 x26 x27 x28 x29 x30 x31 =>
  callC Try.prog 39 #[(V23 x10 x11 x12 x13 x14 x15 x16 x17 x18 x19 x20 x21 x22 x23 x24 x25 x26 x27 x28 x29 x30 x31)] (fun (r : Bool) => (Value.bool r)) w1 fun r32 w2 =>
  cnd (!r32)
    (
    K 1 w2
    )
    (
    ld (Value.int .i64) ((Addr.mk b9 0 none).add 8) w2 fun x34 =>
    callC Try.prog 40 #[(Value.int .i64 x34), (Value.int .i64 40), (Value.int .i64 4000)] (fun (r : Bool) => (Value.bool r)) w2 fun r35 w3 =>
    jn (fun J36 => cnd (!r35)
      (
      J36 true w3
      )
      (
      ld (Value.int .i64) ((Addr.mk b9 0 none).add 9) w3 fun x38 =>
      callC Try.prog 40 #[(Value.int .i64 x38), (Value.int .i64 1), (Value.int .i64 20)] (fun (r : Bool) => (Value.bool r)) w3 fun r39 w4 =>
      J36 (!r39) w4
      ))
    fun c40 w5 =>
    jp (fun J41 => cnd (c40)
      (
      J41 true
      )
      (
      ld (Value.int .i64) ((Addr.mk b9 0 none).add 10) w5 fun x43 =>
      J41 (decide (4 < x43))
      ))
    fun c44 =>
    jp (fun J45 => cnd (c44)
      (
      J45 true
      )
      (
      ld (Value.int .i64) ((Addr.mk b9 0 none).add 11) w5 fun x47 =>
      J45 (decide (65536 < x47))
      ))
    fun c48 =>
    jp (fun J49 => cnd (c48)
      (
      J49 true
      )
      (
      ld (Value.int .i64) ((Addr.mk b9 0 none).add 18) w5 fun x51 =>
      J49 (decide (x51 < 1))
      ))
    fun c52 =>
    jp (fun J53 => cnd (c52)
      (
      J53 true
      )
      (
      ld (Value.int .i64) ((Addr.mk b9 0 none).add 19) w5 fun x55 =>
      jp (fun J56 => cnd (!decide (x55 = 0))
        (
        ld (Value.int .i64) ((Addr.mk b9 0 none).add 19) w5 fun x58 =>
        ld (Value.int .i64) ((Addr.mk b9 0 none).add 20) w5 fun x59 =>
        J56 (decide (x59 ≤ x58))
        )
        (
        J56 false
        ))
      fun c60 =>
      J53 c60
      ))
    fun c61 =>
    jn (fun J62 => cnd (c61)
      (
      J62 true w5
      )
      (
      L23 (Addr.mk b9 0 none) w5 fun x64 x65 x66 x67 x68 x69 x70 x71 x72 x73 x74 x75 x76 x77 x78 x79 x80 x81 x82 x83 x84 x85 =>
      callC Try.prog 41 #[(V23 x64 x65 x66 x67 x68 x69 x70 x71 x72 x73 x74 x75 x76 x77 x78 x79 x80 x81 x82 x83 x84 x85)] (fun (r : Bool) => (Value.bool r)) w5 fun r86 w6 =>
      J62 (!r86) w6
      ))
    fun c87 w7 =>
    cnd (c87)
      (
      K 3 w7
      )
      (
      ld Sl.v ((Addr.mk b9 0 none).add 12) w7 fun x89 =>
      lp (fun (next90 : Int → World → Prop) l90 w8 =>
        cnd (decide (l90 < (x89.len : Int)))
          (
          ix x89 l90 1 fun p92 =>
          ld Value.string p92 w8 fun x93 =>
          ld Sl.v ((Addr.mk b9 0 none).add 12) w8 fun x94 =>
          rn Try.prog (Instr.sliceAt 22 (Sl.v x94) none (some (Value.int .i64 l90)) none) (fun (r : Sl) => (Sl.v r)) w8 fun r95 w9 =>
          callC Try.prog 42 #[(Sl.v r95), (Value.string x93)] (fun (r : Bool) => (Value.bool r)) w9 fun r96 w10 =>
          cnd (r96)
            (
            K 5 w10
            )
            (
            next90 (IntKind.i64.wrap (l90 + 1)) w10
            )
          )
          (
          K 0 w8
          )
      ) 0 w7
      )
    )
set_option maxRecDepth 100000 in
theorem D23 (p0_0 : ByteArray) (p0_1 : Int) (p0_2 : Int) (p0_3 : Int) (p0_4 : Bool) (p0_5 : Int) (p0_6 : Bool) (p0_7 : Bool) (p0_8 : Int) (p0_9 : Int) (p0_10 : Int) (p0_11 : Int) (p0_12 : Sl) (p0_13 : Int) (p0_14 : Int) (p0_15 : Int) (p0_16 : Int) (p0_17 : Bool) (p0_18 : Int) (p0_19 : Int) (p0_20 : Int) (p0_21 : Int) (w0 : World) (K : Int → World → Prop) (h : F23 p0_0 p0_1 p0_2 p0_3 p0_4 p0_5 p0_6 p0_7 p0_8 p0_9 p0_10 p0_11 p0_12 p0_13 p0_14 p0_15 p0_16 p0_17 p0_18 p0_19 p0_20 p0_21 w0 K) : callC Try.prog 23 #[(V23 p0_0 p0_1 p0_2 p0_3 p0_4 p0_5 p0_6 p0_7 p0_8 p0_9 p0_10 p0_11 p0_12 p0_13 p0_14 p0_15 p0_16 p0_17 p0_18 p0_19 p0_20 p0_21)] (fun (r : Int) => (Value.int .i64 r)) w0 K := by
  unfold F23 at h
  refine calls_of_wpC Try.func23 rfl 65 rfl (by simp) ?_
  intro ρ hρ
  have e0 : ρ 0 = (V23 p0_0 p0_1 p0_2 p0_3 p0_4 p0_5 p0_6 p0_7 p0_8 p0_9 p0_10 p0_11 p0_12 p0_13 p0_14 p0_15 p0_16 p0_17 p0_18 p0_19 p0_20 p0_21) := hρ 0
  clear hρ
  refine wpC_seq ?_
  refine wpC_region ?_
  obtain ⟨b9, hb9⟩ : ∃ u, u = w0.heap.size := ⟨_, rfl⟩
  obtain ⟨w1, hw9⟩ : ∃ u, u = w0.alloc (.cells (A23 p0_0 p0_1 p0_2 p0_3 p0_4 p0_5 p0_6 p0_7 p0_8 p0_9 p0_10 p0_11 p0_12 p0_13 p0_14 p0_15 p0_16 p0_17 p0_18 p0_19 p0_20 p0_21) 24) := ⟨_, rfl⟩
  replace h := h b9 w1 hb9 hw9
  refine wpR_val (v := (Value.pointer (some (Addr.mk b9 0 none)))) (w' := w1) rfl rfl rfl ((x_box (v := (V23 p0_0 p0_1 p0_2 p0_3 p0_4 p0_5 p0_6 p0_7 p0_8 p0_9 p0_10 p0_11 p0_12 p0_13 p0_14 p0_15 p0_16 p0_17 p0_18 p0_19 p0_20 p0_21)) rfl e0).trans (by rw [hb9, hw9]; rfl)) ?_
  refine wpR_val (v := (Value.int .i64 0)) (w' := w1) rfl rfl rfl (x_assign (v := (Value.int .i64 0)) rfl rfl) ?_
  refine wpR_nil ?_
  refine wpC_seq ?_
  refine wpC_seq ?_
  refine wpC_cut (fun ρ => ρ 1 = (Value.pointer (some (Addr.mk b9 0 none))) ∧ True) ⟨rfl, trivial⟩ ?_
  rintro ρ ⟨e1, -⟩
  refine wpC_region ?_
  obtain ⟨x10, q10, x11, q11, x12, q12, x13, q13, x14, q14, x15, q15, x16, q16, x17, q17, x18, q18, x19, q19, x20, q20, x21, q21, x22, q22, x23, q23, x24, q24, x25, q25, x26, q26, x27, q27, x28, q28, x29, q29, x30, q30, x31, q31, h⟩ := h
  refine wpR_val (v := (V23 x10 x11 x12 x13 x14 x15 x16 x17 x18 x19 x20 x21 x22 x23 x24 x25 x26 x27 x28 x29 x30 x31)) (w' := w1) rfl rfl rfl (x_loadN (S23 x10 x11 x12 x13 x14 x15 x16 x17 x18 x19 x20 x21 x22 x23 x24 x25 x26 x27 x28 x29 x30 x31) rfl e1 SH_24 (K23 ⟨q10, q11, q12, q13, q14, q15, q16, q17, q18, q19, q20, q21, q22, q23, q24, q25, q26, q27, q28, q29, q30, q31⟩)) ?_
  refine wpR_enter rfl rfl rfl (x_call (vs := [(V23 x10 x11 x12 x13 x14 x15 x16 x17 x18 x19 x20 x21 x22 x23 x24 x25 x26 x27 x28 x29 x30 x31)]) rfl rfl (mapl_cons rfl mapl_nil) Try.func39 NN_39 NB_39) (Calls.mono h ?_)
  rintro _ w2 ⟨r32, rfl, h⟩
  refine ⟨_, rfl, ?_⟩
  refine wpR_val (v := (Value.bool (!r32))) (w' := w2) rfl rfl rfl (x_not rfl rfl) ?_
  refine wpR_nil ?_
  refine wpC_cond (b := !r32) rfl (fun hc33 => ?_) (fun hc33 => ?_)
  · replace h := h.1 hc33
    refine wpC_seq ?_
    refine wpC_cut (fun ρ => True) trivial ?_
    rintro ρ -
    refine wpC_region ?_
    refine wpR_val (v := (Value.int .i64 1)) (w' := w2) rfl rfl rfl (x_assign (v := (Value.int .i64 1)) rfl rfl) ?_
    refine wpR_nil ?_
    refine wpC_ret ?_
    exact ⟨.inl rfl, fun a ha => ⟨_, results_rep1 rfl ha rfl, 1, rfl, h⟩⟩
  · replace h := h.2 hc33
    refine wpC_skip ?_
    refine wpC_seq ?_
    refine wpC_seq ?_
    refine wpC_cut (fun ρ => ρ 1 = (Value.pointer (some (Addr.mk b9 0 none))) ∧ True) ⟨e1, trivial⟩ ?_
    rintro ρ ⟨e1, -⟩
    refine wpC_region ?_
    refine wpR_val (v := (Value.pointer (some ((Addr.mk b9 0 none).add 8)))) (w' := w2) rfl rfl rfl (x_fieldAddr rfl e1 FA_24_8) ?_
    obtain ⟨x34, q34, h⟩ := h
    refine wpR_val (v := (Value.int .i64 x34)) (w' := w2) rfl rfl rfl (x_load1 rfl rfl SH_3 q34) ?_
    refine wpR_enter rfl rfl rfl (x_call (vs := [(Value.int .i64 x34), (Value.int .i64 40), (Value.int .i64 4000)]) rfl rfl (mapl_cons rfl (mapl_cons rfl (mapl_cons rfl mapl_nil))) Try.func40 NN_40 NB_40) (Calls.mono h ?_)
    rintro _ w3 ⟨r35, rfl, h⟩
    refine ⟨_, rfl, ?_⟩
    refine wpR_val (v := (Value.bool (!r35))) (w' := w3) rfl rfl rfl (x_not rfl rfl) ?_
    refine wpR_val (v := (Value.bool (!r35))) (w' := w3) rfl rfl rfl (x_move (v := (Value.bool (!r35))) rfl rfl) ?_
    obtain ⟨J36, h, hk⟩ := h
    refine wpR_joinJ 5 (fun x ρ => ρ 17 = Value.bool x ∧ ρ 1 = (Value.pointer (some (Addr.mk b9 0 none))) ∧ True) (J36) ?_ ?_
    · clear hk
      rcases Bool.eq_false_or_eq_true (!r35) with hc37 | hc37
      · replace h := h.1 hc37
        refine wpR_pass (wantN rfl rfl rfl hc37) rfl rfl ?_
        refine wpR_pass (wantN rfl rfl rfl hc37) rfl rfl ?_
        refine wpR_pass (wantN rfl rfl rfl hc37) rfl rfl ?_
        refine wpR_pass (wantN rfl rfl rfl hc37) rfl rfl ?_
        refine wpR_val (v := (Value.bool true)) (w' := w3) rfl rfl rfl (x_pickT (v := (Value.bool true)) rfl rfl hc37 rfl) ?_
        refine wpR_nil ?_
        exact ⟨true, ⟨rfl, e1, trivial⟩, h⟩
      · replace h := h.2 hc37
        refine wpR_val (v := (Value.pointer (some ((Addr.mk b9 0 none).add 9)))) (w' := w3) (wantG rfl rfl rfl hc37) rfl rfl (x_fieldAddr rfl e1 FA_24_9) ?_
        obtain ⟨x38, q38, h⟩ := h
        refine wpR_val (v := (Value.int .i64 x38)) (w' := w3) (wantG rfl rfl rfl hc37) rfl rfl (x_load1 rfl rfl SH_3 q38) ?_
        refine wpR_enter (wantG rfl rfl rfl hc37) rfl rfl (x_call (vs := [(Value.int .i64 x38), (Value.int .i64 1), (Value.int .i64 20)]) rfl rfl (mapl_cons rfl (mapl_cons rfl (mapl_cons rfl mapl_nil))) Try.func40 NN_40 NB_40) (Calls.mono h ?_)
        rintro _ w4 ⟨r39, rfl, h⟩
        refine ⟨_, rfl, ?_⟩
        refine wpR_val (v := (Value.bool (!r39))) (w' := w4) (wantG rfl rfl rfl hc37) rfl rfl (x_not rfl rfl) ?_
        refine wpR_val (v := (Value.bool (!r39))) (w' := w4) rfl rfl rfl (x_pickF (v := (Value.bool (!r39))) rfl rfl hc37 rfl) ?_
        refine wpR_nil ?_
        exact ⟨!r39, ⟨rfl, e1, trivial⟩, h⟩
    clear h
    rintro c40 ρ w5 ⟨e17, e1, -⟩ h
    replace h := hk c40 w5 h
    clear hk
    refine wpR_val (v := (Value.bool c40)) (w' := w5) rfl rfl rfl (x_move (v := (Value.bool c40)) rfl e17) ?_
    obtain ⟨J41, h, hk⟩ := h
    refine wpR_joinJ 4 (fun x ρ => ρ 22 = Value.bool x ∧ ρ 1 = (Value.pointer (some (Addr.mk b9 0 none))) ∧ True) (fun x w => J41 x ∧ w5 = w) ?_ ?_
    · clear hk
      rcases Bool.eq_false_or_eq_true (c40) with hc42 | hc42
      · replace h := h.1 hc42
        refine wpR_pass (wantN rfl rfl rfl hc42) rfl rfl ?_
        refine wpR_pass (wantN rfl rfl rfl hc42) rfl rfl ?_
        refine wpR_pass (wantN rfl rfl rfl hc42) rfl rfl ?_
        refine wpR_val (v := (Value.bool true)) (w' := w5) rfl rfl rfl (x_pickT (v := (Value.bool true)) rfl rfl hc42 rfl) ?_
        refine wpR_nil ?_
        exact ⟨true, ⟨rfl, e1, trivial⟩, h, rfl⟩
      · replace h := h.2 hc42
        refine wpR_val (v := (Value.pointer (some ((Addr.mk b9 0 none).add 10)))) (w' := w5) (wantG rfl rfl rfl hc42) rfl rfl (x_fieldAddr rfl e1 FA_24_10) ?_
        obtain ⟨x43, q43, h⟩ := h
        refine wpR_val (v := (Value.int .i64 x43)) (w' := w5) (wantG rfl rfl rfl hc42) rfl rfl (x_load1 rfl rfl SH_3 q43) ?_
        refine wpR_val (v := (Value.bool (decide (4 < x43)))) (w' := w5) (wantG rfl rfl rfl hc42) rfl rfl (x_gtr rfl rfl rfl) ?_
        refine wpR_val (v := (Value.bool (decide (4 < x43)))) (w' := w5) rfl rfl rfl (x_pickF (v := (Value.bool (decide (4 < x43)))) rfl rfl hc42 rfl) ?_
        refine wpR_nil ?_
        exact ⟨decide (4 < x43), ⟨rfl, e1, trivial⟩, h, rfl⟩
    clear h
    rintro c44 ρ wj ⟨e22, e1, -⟩ ⟨h, rfl⟩
    replace h := hk c44 h
    clear hk
    refine wpR_val (v := (Value.bool c44)) (w' := w5) rfl rfl rfl (x_move (v := (Value.bool c44)) rfl e22) ?_
    obtain ⟨J45, h, hk⟩ := h
    refine wpR_joinJ 4 (fun x ρ => ρ 27 = Value.bool x ∧ ρ 1 = (Value.pointer (some (Addr.mk b9 0 none))) ∧ True) (fun x w => J45 x ∧ w5 = w) ?_ ?_
    · clear hk
      rcases Bool.eq_false_or_eq_true (c44) with hc46 | hc46
      · replace h := h.1 hc46
        refine wpR_pass (wantN rfl rfl rfl hc46) rfl rfl ?_
        refine wpR_pass (wantN rfl rfl rfl hc46) rfl rfl ?_
        refine wpR_pass (wantN rfl rfl rfl hc46) rfl rfl ?_
        refine wpR_val (v := (Value.bool true)) (w' := w5) rfl rfl rfl (x_pickT (v := (Value.bool true)) rfl rfl hc46 rfl) ?_
        refine wpR_nil ?_
        exact ⟨true, ⟨rfl, e1, trivial⟩, h, rfl⟩
      · replace h := h.2 hc46
        refine wpR_val (v := (Value.pointer (some ((Addr.mk b9 0 none).add 11)))) (w' := w5) (wantG rfl rfl rfl hc46) rfl rfl (x_fieldAddr rfl e1 FA_24_11) ?_
        obtain ⟨x47, q47, h⟩ := h
        refine wpR_val (v := (Value.int .i64 x47)) (w' := w5) (wantG rfl rfl rfl hc46) rfl rfl (x_load1 rfl rfl SH_3 q47) ?_
        refine wpR_val (v := (Value.bool (decide (65536 < x47)))) (w' := w5) (wantG rfl rfl rfl hc46) rfl rfl (x_gtr rfl rfl rfl) ?_
        refine wpR_val (v := (Value.bool (decide (65536 < x47)))) (w' := w5) rfl rfl rfl (x_pickF (v := (Value.bool (decide (65536 < x47)))) rfl rfl hc46 rfl) ?_
        refine wpR_nil ?_
        exact ⟨decide (65536 < x47), ⟨rfl, e1, trivial⟩, h, rfl⟩
    clear h
    rintro c48 ρ wj ⟨e27, e1, -⟩ ⟨h, rfl⟩
    replace h := hk c48 h
    clear hk
    refine wpR_val (v := (Value.bool c48)) (w' := w5) rfl rfl rfl (x_move (v := (Value.bool c48)) rfl e27) ?_
    obtain ⟨J49, h, hk⟩ := h
    refine wpR_joinJ 4 (fun x ρ => ρ 32 = Value.bool x ∧ ρ 1 = (Value.pointer (some (Addr.mk b9 0 none))) ∧ True) (fun x w => J49 x ∧ w5 = w) ?_ ?_
    · clear hk
      rcases Bool.eq_false_or_eq_true (c48) with hc50 | hc50
      · replace h := h.1 hc50
        refine wpR_pass (wantN rfl rfl rfl hc50) rfl rfl ?_
        refine wpR_pass (wantN rfl rfl rfl hc50) rfl rfl ?_
        refine wpR_pass (wantN rfl rfl rfl hc50) rfl rfl ?_
        refine wpR_val (v := (Value.bool true)) (w' := w5) rfl rfl rfl (x_pickT (v := (Value.bool true)) rfl rfl hc50 rfl) ?_
        refine wpR_nil ?_
        exact ⟨true, ⟨rfl, e1, trivial⟩, h, rfl⟩
      · replace h := h.2 hc50
        refine wpR_val (v := (Value.pointer (some ((Addr.mk b9 0 none).add 18)))) (w' := w5) (wantG rfl rfl rfl hc50) rfl rfl (x_fieldAddr rfl e1 FA_24_18) ?_
        obtain ⟨x51, q51, h⟩ := h
        refine wpR_val (v := (Value.int .i64 x51)) (w' := w5) (wantG rfl rfl rfl hc50) rfl rfl (x_load1 rfl rfl SH_3 q51) ?_
        refine wpR_val (v := (Value.bool (decide (x51 < 1)))) (w' := w5) (wantG rfl rfl rfl hc50) rfl rfl (x_lss rfl rfl rfl) ?_
        refine wpR_val (v := (Value.bool (decide (x51 < 1)))) (w' := w5) rfl rfl rfl (x_pickF (v := (Value.bool (decide (x51 < 1)))) rfl rfl hc50 rfl) ?_
        refine wpR_nil ?_
        exact ⟨decide (x51 < 1), ⟨rfl, e1, trivial⟩, h, rfl⟩
    clear h
    rintro c52 ρ wj ⟨e32, e1, -⟩ ⟨h, rfl⟩
    replace h := hk c52 h
    clear hk
    refine wpR_val (v := (Value.bool c52)) (w' := w5) rfl rfl rfl (x_move (v := (Value.bool c52)) rfl e32) ?_
    obtain ⟨J53, h, hk⟩ := h
    refine wpR_joinJ 11 (fun x ρ => ρ 44 = Value.bool x ∧ ρ 1 = (Value.pointer (some (Addr.mk b9 0 none))) ∧ True) (fun x w => J53 x ∧ w5 = w) ?_ ?_
    · clear hk
      rcases Bool.eq_false_or_eq_true (c52) with hc54 | hc54
      · replace h := h.1 hc54
        refine wpR_pass (wantN rfl rfl rfl hc54) rfl rfl ?_
        refine wpR_pass (wantN rfl rfl rfl hc54) rfl rfl ?_
        refine wpR_pass (wantN rfl rfl rfl hc54) rfl rfl ?_
        refine wpR_pass (wantN rfl rfl rfl hc54) rfl rfl ?_
        refine wpR_pass (wantU rfl rfl rfl) rfl rfl ?_
        refine wpR_pass (wantU rfl rfl rfl) rfl rfl ?_
        refine wpR_pass (wantU rfl rfl rfl) rfl rfl ?_
        refine wpR_pass (wantU rfl rfl rfl) rfl rfl ?_
        refine wpR_pass (wantU rfl rfl rfl) rfl rfl ?_
        refine wpR_pass (wantN rfl rfl rfl hc54) rfl rfl ?_
        refine wpR_val (v := (Value.bool true)) (w' := w5) rfl rfl rfl (x_pickT (v := (Value.bool true)) rfl rfl hc54 rfl) ?_
        refine wpR_nil ?_
        exact ⟨true, ⟨rfl, e1, trivial⟩, h, rfl⟩
      · replace h := h.2 hc54
        refine wpR_val (v := (Value.pointer (some ((Addr.mk b9 0 none).add 19)))) (w' := w5) (wantG rfl rfl rfl hc54) rfl rfl (x_fieldAddr rfl e1 FA_24_19) ?_
        obtain ⟨x55, q55, h⟩ := h
        refine wpR_val (v := (Value.int .i64 x55)) (w' := w5) (wantG rfl rfl rfl hc54) rfl rfl (x_load1 rfl rfl SH_3 q55) ?_
        refine wpR_val (v := (Value.bool (!decide (x55 = 0)))) (w' := w5) (wantG rfl rfl rfl hc54) rfl rfl (x_neq rfl rfl rfl) ?_
        refine wpR_val (v := (Value.bool (!decide (x55 = 0)))) (w' := w5) (wantG rfl rfl rfl hc54) rfl rfl (x_move (v := (Value.bool (!decide (x55 = 0)))) rfl rfl) ?_
        obtain ⟨J56, h, hk⟩ := h
        refine wpR_joinJ 6 (fun x ρ => ρ 43 = Value.bool x ∧ ρ 1 = (Value.pointer (some (Addr.mk b9 0 none))) ∧ ρ 33 = (Value.bool c52) ∧ True) (fun x w => J56 x ∧ w5 = w) ?_ ?_
        · clear hk
          rcases Bool.eq_false_or_eq_true (!decide (x55 = 0)) with hc57 | hc57
          · replace h := h.1 hc57
            refine wpR_val (v := (Value.pointer (some ((Addr.mk b9 0 none).add 19)))) (w' := w5) (wantG rfl rfl rfl hc57) rfl rfl (x_fieldAddr rfl e1 FA_24_19) ?_
            obtain ⟨x58, q58, h⟩ := h
            refine wpR_val (v := (Value.int .i64 x58)) (w' := w5) (wantG rfl rfl rfl hc57) rfl rfl (x_load1 rfl rfl SH_3 q58) ?_
            refine wpR_val (v := (Value.pointer (some ((Addr.mk b9 0 none).add 20)))) (w' := w5) (wantG rfl rfl rfl hc57) rfl rfl (x_fieldAddr rfl e1 FA_24_20) ?_
            obtain ⟨x59, q59, h⟩ := h
            refine wpR_val (v := (Value.int .i64 x59)) (w' := w5) (wantG rfl rfl rfl hc57) rfl rfl (x_load1 rfl rfl SH_3 q59) ?_
            refine wpR_val (v := (Value.bool (decide (x59 ≤ x58)))) (w' := w5) (wantG rfl rfl rfl hc57) rfl rfl (x_geq rfl rfl rfl) ?_
            refine wpR_val (v := (Value.bool (decide (x59 ≤ x58)))) (w' := w5) (wantG rfl rfl rfl hc54) rfl rfl (x_pickT (v := (Value.bool (decide (x59 ≤ x58)))) rfl rfl hc57 rfl) ?_
            refine wpR_nil ?_
            exact ⟨decide (x59 ≤ x58), ⟨rfl, e1, rfl, trivial⟩, h, rfl⟩
          · replace h := h.2 hc57
            refine wpR_pass (wantN rfl rfl rfl hc57) rfl rfl ?_
            refine wpR_pass (wantN rfl rfl rfl hc57) rfl rfl ?_
            refine wpR_pass (wantN rfl rfl rfl hc57) rfl rfl ?_
            refine wpR_pass (wantN rfl rfl rfl hc57) rfl rfl ?_
            refine wpR_pass (wantN rfl rfl rfl hc57) rfl rfl ?_
            refine wpR_val (v := (Value.bool false)) (w' := w5) (wantG rfl rfl rfl hc54) rfl rfl (x_pickF (v := (Value.bool false)) rfl rfl hc57 rfl) ?_
            refine wpR_nil ?_
            exact ⟨false, ⟨rfl, e1, rfl, trivial⟩, h, rfl⟩
        clear h
        rintro c60 ρ wj ⟨e43, e1, e33, -⟩ ⟨h, rfl⟩
        replace h := hk c60 h
        clear hk
        refine wpR_val (v := (Value.bool c60)) (w' := w5) rfl rfl rfl (x_pickF (v := (Value.bool c60)) rfl e33 hc54 e43) ?_
        refine wpR_nil ?_
        exact ⟨c60, ⟨rfl, e1, trivial⟩, h, rfl⟩
    clear h
    rintro c61 ρ wj ⟨e44, e1, -⟩ ⟨h, rfl⟩
    replace h := hk c61 h
    clear hk
    refine wpR_val (v := (Value.bool c61)) (w' := w5) rfl rfl rfl (x_move (v := (Value.bool c61)) rfl e44) ?_
    obtain ⟨J62, h, hk⟩ := h
    refine wpR_joinJ 4 (fun x ρ => ρ 49 = Value.bool x ∧ ρ 1 = (Value.pointer (some (Addr.mk b9 0 none))) ∧ True) (J62) ?_ ?_
    · clear hk
      rcases Bool.eq_false_or_eq_true (c61) with hc63 | hc63
      · replace h := h.1 hc63
        refine wpR_pass (wantN rfl rfl rfl hc63) rfl rfl ?_
        refine wpR_pass (wantN rfl rfl rfl hc63) rfl rfl ?_
        refine wpR_pass (wantN rfl rfl rfl hc63) rfl rfl ?_
        refine wpR_val (v := (Value.bool true)) (w' := w5) rfl rfl rfl (x_pickT (v := (Value.bool true)) rfl rfl hc63 rfl) ?_
        refine wpR_nil ?_
        exact ⟨true, ⟨rfl, e1, trivial⟩, h⟩
      · replace h := h.2 hc63
        obtain ⟨x64, q64, x65, q65, x66, q66, x67, q67, x68, q68, x69, q69, x70, q70, x71, q71, x72, q72, x73, q73, x74, q74, x75, q75, x76, q76, x77, q77, x78, q78, x79, q79, x80, q80, x81, q81, x82, q82, x83, q83, x84, q84, x85, q85, h⟩ := h
        refine wpR_val (v := (V23 x64 x65 x66 x67 x68 x69 x70 x71 x72 x73 x74 x75 x76 x77 x78 x79 x80 x81 x82 x83 x84 x85)) (w' := w5) (wantG rfl rfl rfl hc63) rfl rfl (x_loadN (S23 x64 x65 x66 x67 x68 x69 x70 x71 x72 x73 x74 x75 x76 x77 x78 x79 x80 x81 x82 x83 x84 x85) rfl e1 SH_24 (K23 ⟨q64, q65, q66, q67, q68, q69, q70, q71, q72, q73, q74, q75, q76, q77, q78, q79, q80, q81, q82, q83, q84, q85⟩)) ?_
        refine wpR_enter (wantG rfl rfl rfl hc63) rfl rfl (x_call (vs := [(V23 x64 x65 x66 x67 x68 x69 x70 x71 x72 x73 x74 x75 x76 x77 x78 x79 x80 x81 x82 x83 x84 x85)]) rfl rfl (mapl_cons rfl mapl_nil) Try.func41 NN_41 NB_41) (Calls.mono h ?_)
        rintro _ w6 ⟨r86, rfl, h⟩
        refine ⟨_, rfl, ?_⟩
        refine wpR_val (v := (Value.bool (!r86))) (w' := w6) (wantG rfl rfl rfl hc63) rfl rfl (x_not rfl rfl) ?_
        refine wpR_val (v := (Value.bool (!r86))) (w' := w6) rfl rfl rfl (x_pickF (v := (Value.bool (!r86))) rfl rfl hc63 rfl) ?_
        refine wpR_nil ?_
        exact ⟨!r86, ⟨rfl, e1, trivial⟩, h⟩
    clear h
    rintro c87 ρ w7 ⟨e49, e1, -⟩ h
    replace h := hk c87 w7 h
    clear hk
    refine wpR_nil ?_
    refine wpC_cond (b := c87) e49 (fun hc88 => ?_) (fun hc88 => ?_)
    · replace h := h.1 hc88
      refine wpC_seq ?_
      refine wpC_region ?_
      refine wpR_val (v := (Value.int .i64 3)) (w' := w7) rfl rfl rfl (x_assign (v := (Value.int .i64 3)) rfl rfl) ?_
      refine wpR_nil ?_
      refine wpC_ret ?_
      exact ⟨.inl rfl, fun a ha => ⟨_, results_rep1 rfl ha rfl, 3, rfl, h⟩⟩
    · replace h := h.2 hc88
      refine wpC_skip ?_
      refine wpC_seq ?_
      refine wpC_seq ?_
      refine wpC_region ?_
      refine wpR_val (v := (Value.pointer (some ((Addr.mk b9 0 none).add 12)))) (w' := w7) rfl rfl rfl (x_fieldAddr rfl e1 FA_24_12) ?_
      obtain ⟨x89, q89, h⟩ := h
      refine wpR_val (v := (Sl.v x89)) (w' := w7) rfl rfl rfl (x_load1 rfl rfl SH_22 q89) ?_
      refine wpR_val (v := (Value.int .i64 (x89.len : Int))) (w' := w7) rfl rfl rfl (x_lenS (s := x89) rfl rfl isSliceT_22) ?_
      refine wpR_val (v := (Value.int .i64 0)) (w' := w7) rfl rfl rfl (x_move (v := (Value.int .i64 0)) rfl rfl) ?_
      refine wpR_nil ?_
      refine wpC_block ?_
      obtain ⟨I90, μ90, hI90, hr90⟩ := h
      refine wpC_loop (fun (x : Int) ρ => ρ 53 = (Value.int .i64 x) ∧ ρ 1 = (Value.pointer (some (Addr.mk b9 0 none))) ∧ ρ 51 = (Sl.v x89) ∧ ρ 52 = (Value.int .i64 (x89.len : Int)) ∧ True) I90 μ90 0 ⟨rfl, e1, rfl, rfl, trivial⟩ hI90 ?_
      rintro l90 ρ w8 ⟨e53, e1, e51, e52, -⟩ h
      replace h := hr90 l90 w8 h
      clear hr90 hI90
      refine wpC_seq ?_
      refine wpC_region ?_
      refine wpR_val (v := (Value.bool (decide (l90 < (x89.len : Int))))) (w' := w8) rfl rfl rfl (x_lss rfl e53 e52) ?_
      refine wpR_nil ?_
      refine wpC_seq ?_
      refine wpC_cond (b := decide (l90 < (x89.len : Int))) rfl (fun hc91 => ?_) (fun hc91 => ?_)
      · replace h := h.1 hc91
        refine wpC_skip ?_
        refine wpC_seq ?_
        refine wpC_block ?_
        refine wpC_seq ?_
        refine wpC_cut (fun ρ => ρ 1 = (Value.pointer (some (Addr.mk b9 0 none))) ∧ ρ 51 = (Sl.v x89) ∧ ρ 52 = (Value.int .i64 (x89.len : Int)) ∧ ρ 53 = (Value.int .i64 l90) ∧ True) ⟨e1, e51, e52, e53, trivial⟩ ?_
        rintro ρ ⟨e1, e51, e52, e53, -⟩
        refine wpC_region ?_
        refine wpR_val (v := (Value.int .i64 l90)) (w' := w8) rfl rfl rfl (x_move (v := (Value.int .i64 l90)) rfl e53) ?_
        obtain ⟨q92, z92, r92, h⟩ := h
        generalize hp92 : z92.add ((l90 : Int).toNat * 1) = p92 at h
        refine wpR_val (v := (Value.pointer (some p92))) (w' := w8) rfl rfl rfl ((x_indexAddr (s := x89) rfl e51 e53 ES_22 q92 r92).trans (by rw [hp92])) ?_
        obtain ⟨x93, q93, h⟩ := h
        refine wpR_val (v := (Value.string x93)) (w' := w8) rfl rfl rfl (x_load1 rfl rfl SH_9 q93) ?_
        refine wpR_val (v := (Value.int .i64 l90)) (w' := w8) rfl rfl rfl (x_assign (v := (Value.int .i64 l90)) rfl rfl) ?_
        refine wpR_val (v := (Value.string x93)) (w' := w8) rfl rfl rfl (x_assign (v := (Value.string x93)) rfl rfl) ?_
        refine wpR_nil ?_
        refine wpC_seq ?_
        refine wpC_cut (fun ρ => ρ 1 = (Value.pointer (some (Addr.mk b9 0 none))) ∧ ρ 3 = (Value.int .i64 l90) ∧ ρ 4 = (Value.string x93) ∧ ρ 51 = (Sl.v x89) ∧ ρ 52 = (Value.int .i64 (x89.len : Int)) ∧ ρ 53 = (Value.int .i64 l90) ∧ True) ⟨e1, rfl, rfl, e51, e52, e53, trivial⟩ ?_
        rintro ρ ⟨e1, e3, e4, e51, e52, e53, -⟩
        refine wpC_region ?_
        refine wpR_val (v := (Value.pointer (some ((Addr.mk b9 0 none).add 12)))) (w' := w8) rfl rfl rfl (x_fieldAddr rfl e1 FA_24_12) ?_
        obtain ⟨x94, q94, h⟩ := h
        refine wpR_val (v := (Sl.v x94)) (w' := w8) rfl rfl rfl (x_load1 rfl rfl SH_22 q94) ?_
        refine wpR_val (v := (Value.int .i64 l90)) (w' := w8) rfl rfl rfl (x_move (v := (Value.int .i64 l90)) rfl e3) ?_
        obtain ⟨r95, w9, q95, h⟩ := h
        refine wpR_val (v := (Sl.v r95)) (w' := w9) rfl rfl rfl (x_sliceAt rfl rfl rfl (congrArg some rfl) rfl q95) ?_
        refine wpR_val (v := (Value.string x93)) (w' := w9) rfl rfl rfl (x_move (v := (Value.string x93)) rfl e4) ?_
        refine wpR_enter rfl rfl rfl (x_call (vs := [(Sl.v r95), (Value.string x93)]) rfl rfl (mapl_cons rfl (mapl_cons rfl mapl_nil)) Try.func42 NN_42 NB_42) (Calls.mono h ?_)
        rintro _ w10 ⟨r96, rfl, h⟩
        refine ⟨_, rfl, ?_⟩
        refine wpR_nil ?_
        refine wpC_cond (b := r96) rfl (fun hc97 => ?_) (fun hc97 => ?_)
        · replace h := h.1 hc97
          refine wpC_seq ?_
          refine wpC_cut (fun ρ => True) trivial ?_
          rintro ρ -
          refine wpC_region ?_
          refine wpR_val (v := (Value.int .i64 5)) (w' := w10) rfl rfl rfl (x_assign (v := (Value.int .i64 5)) rfl rfl) ?_
          refine wpR_nil ?_
          refine wpC_ret ?_
          exact ⟨.inl rfl, fun a ha => ⟨_, results_rep1 rfl ha rfl, 5, rfl, h⟩⟩
        · replace h := h.2 hc97
          refine wpC_skip ?_
          refine wpC_cut (fun ρ => ρ 1 = (Value.pointer (some (Addr.mk b9 0 none))) ∧ ρ 51 = (Sl.v x89) ∧ ρ 52 = (Value.int .i64 (x89.len : Int)) ∧ ρ 53 = (Value.int .i64 l90) ∧ True) ⟨e1, e51, e52, e53, trivial⟩ ?_
          rintro ρ ⟨e1, e51, e52, e53, -⟩
          refine wpC_region ?_
          refine wpR_val (v := (Value.int .i64 (IntKind.i64.wrap (l90 + 1)))) (w' := w10) rfl rfl rfl (x_add rfl e53 rfl) ?_
          refine wpR_val (v := (Value.int .i64 (IntKind.i64.wrap (l90 + 1)))) (w' := w10) rfl rfl rfl (x_move (v := (Value.int .i64 (IntKind.i64.wrap (l90 + 1)))) rfl rfl) ?_
          refine wpR_nil ?_
          exact ⟨IntKind.i64.wrap (l90 + 1), ⟨rfl, e1, e51, e52, trivial⟩, h⟩
      · replace h := h.2 hc91
        refine wpC_exit ?_
        refine wpC_seq ?_
        refine wpC_cut (fun ρ => True) trivial ?_
        rintro ρ -
        refine wpC_region ?_
        refine wpR_val (v := (Value.int .i64 0)) (w' := w8) rfl rfl rfl (x_assign (v := (Value.int .i64 0)) rfl rfl) ?_
        refine wpR_nil ?_
        refine wpC_ret ?_
        exact ⟨.inl rfl, fun a ha => ⟨_, results_rep1 rfl ha rfl, 0, rfl, h⟩⟩

/-- queue.Step$1 -/
def F25 (p0 : Int) (p1 : Int) (c2 : Addr) (w0 : World) (K : Int → World → Prop) : Prop :=
  jn (fun (J10 : Int → World → Prop) => tk w0 fun w1 =>
    ld Sl.v c2 w1 fun x11 =>
    ix x11 p0 4 fun p12 =>
    ld (Value.int .i64) (p12.add 3) w1 fun x13 =>
    ld Sl.v c2 w1 fun x14 =>
    ix x14 p1 4 fun p15 =>
    ld (Value.int .i64) (p15.add 3) w1 fun x16 =>
    ld Sl.v c2 w1 fun x17 =>
    ix x17 p0 4 fun p18 =>
    ld (Value.int .i64) (p18.add 0) w1 fun x19 =>
    ld Sl.v c2 w1 fun x20 =>
    ix x20 p1 4 fun p21 =>
    ld (Value.int .i64) (p21.add 0) w1 fun x22 =>
    callC Try.prog 27 #[(Value.int .i64 x13), (Value.int .i64 x16)] (fun (r : Int) => (Value.int .i64 r)) w1 fun r23 w2 =>
    (w2.cell? (p21.add 0) = some (Value.int .i64 x22)) ∧
    (w2.cell? c2 = some (Sl.v x20)) ∧
    (w2.cell? (p18.add 0) = some (Value.int .i64 x19)) ∧
    (w2.cell? c2 = some (Sl.v x17)) ∧
    (w2.cell? c2 = some (Sl.v x14)) ∧
    (w2.cell? c2 = some (Sl.v x11)) ∧
    callC Try.prog 27 #[(Value.int .i64 x19), (Value.int .i64 x22)] (fun (r : Int) => (Value.int .i64 r)) w2 fun r24 w3 =>
    (w3.cell? c2 = some (Sl.v x20)) ∧
    (w3.cell? c2 = some (Sl.v x17)) ∧
    (w3.cell? c2 = some (Sl.v x14)) ∧
    (w3.cell? c2 = some (Sl.v x11)) ∧
    nw 3 #[(Value.int .i64 r23), (Value.int .i64 r24)] w3 fun b25 w4 =>
    (w4.cell? c2 = some (Sl.v x20)) ∧
    (w4.cell? c2 = some (Sl.v x17)) ∧
    (w4.cell? c2 = some (Sl.v x14)) ∧
    (w4.cell? c2 = some (Sl.v x11)) ∧
    callC Try.prog 26 #[(Sl.v (⟨some ⟨b25, 0, none⟩, 2, 2⟩ : Sl))] (fun (r : Int) => (Value.int .i64 r)) w4 fun r26 w5 =>
    (w5.cell? c2 = some (Sl.v x20)) ∧
    (w5.cell? c2 = some (Sl.v x17)) ∧
    (w5.cell? c2 = some (Sl.v x14)) ∧
    (w5.cell? c2 = some (Sl.v x11)) ∧
    J10 r26 w5
  )
  fun l27 w6 =>
  K l27 w6
set_option maxRecDepth 100000 in
theorem D25 (p0 : Int) (p1 : Int) (c2 : Addr) (w0 : World) (K : Int → World → Prop) (h : F25 p0 p1 c2 w0 K) : callC Try.prog 25 #[(Value.int .i64 p0), (Value.int .i64 p1), (Value.pointer (some c2))] (fun (r : Int) => (Value.int .i64 r)) w0 K := by
  unfold F25 at h
  refine calls_of_wpC Try.func25 rfl 30 rfl (by simp) ?_
  intro ρ hρ
  have e0 : ρ 0 = (Value.int .i64 p0) := hρ 0
  have e1 : ρ 1 = (Value.int .i64 p1) := hρ 1
  have e2 : ρ 2 = (Value.pointer (some c2)) := hρ 2
  clear hρ
  refine wpC_seq ?_
  refine wpC_region ?_
  refine wpR_val (v := (Value.int .i64 0)) (w' := w0) rfl rfl rfl (x_assign (v := (Value.int .i64 0)) rfl rfl) ?_
  refine wpR_nil ?_
  refine wpC_seq ?_
  refine wpC_cut (fun ρ => ρ 0 = (Value.int .i64 p0) ∧ ρ 1 = (Value.int .i64 p1) ∧ ρ 2 = (Value.pointer (some c2)) ∧ True) ⟨e0, e1, e2, trivial⟩ ?_
  rintro ρ ⟨e0, e1, e2, -⟩
  obtain ⟨J10, h, hk⟩ := h
  refine wpC_drawJ (by kernel_rfl) (fun (x : Int) ρ => ρ 5 = (Value.int .i64 x) ∧ True) J10 ?_ ?_
  · clear hk
    unfold tk at h
    generalize w0.drew = w1 at h ⊢
    obtain ⟨x11, q11, h⟩ := h
    refine wpD_take (v := (Sl.v x11)) 0 (fun w => w.cell? c2 = some (Sl.v x11)) rfl (by kernel_rfl) (by kernel_rfl) (by kernel_rfl) rfl rfl rfl q11 (fun w q11 => (x_load1 rfl e2 SH_25 q11)) ?_
    refine wpD_take (v := (Value.int .i64 p0)) 1 (fun _ => True) rfl (by kernel_rfl) (by kernel_rfl) (by kernel_rfl) rfl rfl rfl trivial (fun w _ => (x_move (v := (Value.int .i64 p0)) rfl e0)) ?_
    obtain ⟨q12, z12, r12, h⟩ := h
    generalize hp12 : z12.add ((p0 : Int).toNat * 4) = p12 at h
    refine wpD_take (v := (Value.pointer (some p12))) 2 (fun _ => True) rfl (by kernel_rfl) (by kernel_rfl) (by kernel_rfl) rfl rfl rfl trivial (fun w _ => ((x_indexAddr (s := x11) rfl rfl rfl ES_25 q12 r12).trans (by rw [hp12]))) ?_
    refine wpD_take (v := (Value.pointer (some (p12.add 3)))) 3 (fun _ => True) rfl (by kernel_rfl) (by kernel_rfl) (by kernel_rfl) rfl rfl rfl trivial (fun w _ => (x_fieldAddr rfl rfl FA_34_3)) ?_
    obtain ⟨x13, q13, h⟩ := h
    refine wpD_take (v := (Value.int .i64 x13)) 4 (fun w => w.cell? (p12.add 3) = some (Value.int .i64 x13)) rfl (by kernel_rfl) (by kernel_rfl) (by kernel_rfl) rfl rfl rfl q13 (fun w q13 => (x_load1 rfl rfl SH_3 q13)) ?_
    obtain ⟨x14, q14, h⟩ := h
    refine wpD_take (v := (Sl.v x14)) 5 (fun w => w.cell? c2 = some (Sl.v x14)) rfl (by kernel_rfl) (by kernel_rfl) (by kernel_rfl) rfl rfl rfl q14 (fun w q14 => (x_load1 rfl e2 SH_25 q14)) ?_
    refine wpD_take (v := (Value.int .i64 p1)) 6 (fun _ => True) rfl (by kernel_rfl) (by kernel_rfl) (by kernel_rfl) rfl rfl rfl trivial (fun w _ => (x_move (v := (Value.int .i64 p1)) rfl e1)) ?_
    obtain ⟨q15, z15, r15, h⟩ := h
    generalize hp15 : z15.add ((p1 : Int).toNat * 4) = p15 at h
    refine wpD_take (v := (Value.pointer (some p15))) 7 (fun _ => True) rfl (by kernel_rfl) (by kernel_rfl) (by kernel_rfl) rfl rfl rfl trivial (fun w _ => ((x_indexAddr (s := x14) rfl rfl rfl ES_25 q15 r15).trans (by rw [hp15]))) ?_
    refine wpD_take (v := (Value.pointer (some (p15.add 3)))) 8 (fun _ => True) rfl (by kernel_rfl) (by kernel_rfl) (by kernel_rfl) rfl rfl rfl trivial (fun w _ => (x_fieldAddr rfl rfl FA_34_3)) ?_
    obtain ⟨x16, q16, h⟩ := h
    refine wpD_take (v := (Value.int .i64 x16)) 9 (fun w => w.cell? (p15.add 3) = some (Value.int .i64 x16)) rfl (by kernel_rfl) (by kernel_rfl) (by kernel_rfl) rfl rfl rfl q16 (fun w q16 => (x_load1 rfl rfl SH_3 q16)) ?_
    obtain ⟨x17, q17, h⟩ := h
    refine wpD_take (v := (Sl.v x17)) 11 (fun w => w.cell? c2 = some (Sl.v x17)) rfl (by kernel_rfl) (by kernel_rfl) (by kernel_rfl) rfl rfl rfl q17 (fun w q17 => (x_load1 rfl e2 SH_25 q17)) ?_
    refine wpD_take (v := (Value.int .i64 p0)) 12 (fun _ => True) rfl (by kernel_rfl) (by kernel_rfl) (by kernel_rfl) rfl rfl rfl trivial (fun w _ => (x_move (v := (Value.int .i64 p0)) rfl e0)) ?_
    obtain ⟨q18, z18, r18, h⟩ := h
    generalize hp18 : z18.add ((p0 : Int).toNat * 4) = p18 at h
    refine wpD_take (v := (Value.pointer (some p18))) 13 (fun _ => True) rfl (by kernel_rfl) (by kernel_rfl) (by kernel_rfl) rfl rfl rfl trivial (fun w _ => ((x_indexAddr (s := x17) rfl rfl rfl ES_25 q18 r18).trans (by rw [hp18]))) ?_
    refine wpD_take (v := (Value.pointer (some (p18.add 0)))) 14 (fun _ => True) rfl (by kernel_rfl) (by kernel_rfl) (by kernel_rfl) rfl rfl rfl trivial (fun w _ => (x_fieldAddr rfl rfl FA_34_0)) ?_
    obtain ⟨x19, q19, h⟩ := h
    refine wpD_take (v := (Value.int .i64 x19)) 15 (fun w => w.cell? (p18.add 0) = some (Value.int .i64 x19)) rfl (by kernel_rfl) (by kernel_rfl) (by kernel_rfl) rfl rfl rfl q19 (fun w q19 => (x_load1 rfl rfl SH_3 q19)) ?_
    obtain ⟨x20, q20, h⟩ := h
    refine wpD_take (v := (Sl.v x20)) 16 (fun w => w.cell? c2 = some (Sl.v x20)) rfl (by kernel_rfl) (by kernel_rfl) (by kernel_rfl) rfl rfl rfl q20 (fun w q20 => (x_load1 rfl e2 SH_25 q20)) ?_
    refine wpD_take (v := (Value.int .i64 p1)) 17 (fun _ => True) rfl (by kernel_rfl) (by kernel_rfl) (by kernel_rfl) rfl rfl rfl trivial (fun w _ => (x_move (v := (Value.int .i64 p1)) rfl e1)) ?_
    obtain ⟨q21, z21, r21, h⟩ := h
    generalize hp21 : z21.add ((p1 : Int).toNat * 4) = p21 at h
    refine wpD_take (v := (Value.pointer (some p21))) 18 (fun _ => True) rfl (by kernel_rfl) (by kernel_rfl) (by kernel_rfl) rfl rfl rfl trivial (fun w _ => ((x_indexAddr (s := x20) rfl rfl rfl ES_25 q21 r21).trans (by rw [hp21]))) ?_
    refine wpD_take (v := (Value.pointer (some (p21.add 0)))) 19 (fun _ => True) rfl (by kernel_rfl) (by kernel_rfl) (by kernel_rfl) rfl rfl rfl trivial (fun w _ => (x_fieldAddr rfl rfl FA_34_0)) ?_
    obtain ⟨x22, q22, h⟩ := h
    refine wpD_take (v := (Value.int .i64 x22)) 20 (fun w => w.cell? (p21.add 0) = some (Value.int .i64 x22)) rfl (by kernel_rfl) (by kernel_rfl) (by kernel_rfl) rfl rfl rfl q22 (fun w q22 => (x_load1 rfl rfl SH_3 q22)) ?_
    refine wpD_all (rs := [10]) (by kernel_rfl) (by simp) (allD_cons ?_ allD_nil)
    refine stepD_enterL (L' := [(20, fun w => w.cell? (p21.add 0) = some (Value.int .i64 x22)), (19, fun _ => True), (18, fun _ => True), (17, fun _ => True), (16, fun w => w.cell? c2 = some (Sl.v x20)), (15, fun w => w.cell? (p18.add 0) = some (Value.int .i64 x19)), (14, fun _ => True), (13, fun _ => True), (12, fun _ => True), (11, fun w => w.cell? c2 = some (Sl.v x17)), (8, fun _ => True), (7, fun _ => True), (6, fun _ => True), (5, fun w => w.cell? c2 = some (Sl.v x14)), (3, fun _ => True), (2, fun _ => True), (1, fun _ => True), (0, fun w => w.cell? c2 = some (Sl.v x11))]) rfl rfl rfl rfl (x_call (vs := [(Value.int .i64 x13), (Value.int .i64 x16)]) rfl rfl (mapl_cons rfl (mapl_cons rfl mapl_nil)) Try.func27 NN_27 NB_27) (by kernel_rfl) (Calls.mono h ?_)
    rintro _ w2 ⟨r23, rfl, h⟩
    obtain ⟨o20, h⟩ := h
    obtain ⟨o16, h⟩ := h
    obtain ⟨o15, h⟩ := h
    obtain ⟨o11, h⟩ := h
    obtain ⟨o5, h⟩ := h
    obtain ⟨o0, h⟩ := h
    refine ⟨_, rfl, (held_cons o20 (held_cons trivial (held_cons trivial (held_cons trivial (held_cons o16 (held_cons o15 (held_cons trivial (held_cons trivial (held_cons trivial (held_cons o11 (held_cons trivial (held_cons trivial (held_cons trivial (held_cons o5 (held_cons trivial (held_cons trivial (held_cons trivial (held_cons o0 held_nil)))))))))))))))))), ?_⟩
    refine wpD_all (rs := [21]) (by kernel_rfl) (by simp) (allD_cons ?_ allD_nil)
    refine stepD_enterL (L' := [(19, fun _ => True), (18, fun _ => True), (17, fun _ => True), (16, fun w => w.cell? c2 = some (Sl.v x20)), (14, fun _ => True), (13, fun _ => True), (12, fun _ => True), (11, fun w => w.cell? c2 = some (Sl.v x17)), (8, fun _ => True), (7, fun _ => True), (6, fun _ => True), (5, fun w => w.cell? c2 = some (Sl.v x14)), (3, fun _ => True), (2, fun _ => True), (1, fun _ => True), (0, fun w => w.cell? c2 = some (Sl.v x11))]) rfl rfl rfl rfl (x_call (vs := [(Value.int .i64 x19), (Value.int .i64 x22)]) rfl rfl (mapl_cons rfl (mapl_cons rfl mapl_nil)) Try.func27 NN_27 NB_27) (by kernel_rfl) (Calls.mono h ?_)
    rintro _ w3 ⟨r24, rfl, h⟩
    obtain ⟨o16, h⟩ := h
    obtain ⟨o11, h⟩ := h
    obtain ⟨o5, h⟩ := h
    obtain ⟨o0, h⟩ := h
    refine ⟨_, rfl, (held_cons trivial (held_cons trivial (held_cons trivial (held_cons o16 (held_cons trivial (held_cons trivial (held_cons trivial (held_cons o11 (held_cons trivial (held_cons trivial (held_cons trivial (held_cons o5 (held_cons trivial (held_cons trivial (held_cons trivial (held_cons o0 held_nil)))))))))))))))), ?_⟩
    refine wpD_all (rs := [22]) (by kernel_rfl) (by simp) (allD_cons ?_ allD_nil)
    obtain ⟨b25, hb25⟩ : ∃ u, u = w3.heap.size := ⟨_, rfl⟩
    obtain ⟨w4, hw25⟩ : ∃ u, u = w3.alloc (.cells #[(Value.int .i64 r23), (Value.int .i64 r24)] 3) := ⟨_, rfl⟩
    replace h := h b25 w4 hb25 hw25
    obtain ⟨o16, h⟩ := h
    obtain ⟨o11, h⟩ := h
    obtain ⟨o5, h⟩ := h
    obtain ⟨o0, h⟩ := h
    refine stepD_valL (L' := [(19, fun _ => True), (18, fun _ => True), (17, fun _ => True), (16, fun w => w.cell? c2 = some (Sl.v x20)), (14, fun _ => True), (13, fun _ => True), (12, fun _ => True), (11, fun w => w.cell? c2 = some (Sl.v x17)), (8, fun _ => True), (7, fun _ => True), (6, fun _ => True), (5, fun w => w.cell? c2 = some (Sl.v x14)), (3, fun _ => True), (2, fun _ => True), (1, fun _ => True), (0, fun w => w.cell? c2 = some (Sl.v x11))]) (v := (Sl.v (⟨some ⟨b25, 0, none⟩, 2, 2⟩ : Sl))) (w' := w4) rfl rfl rfl rfl ((x_buildSlice (qs := [(0, (Value.int .i64 r23)), (1, (Value.int .i64 r24))]) rfl (by rfl) (BS_38_2_0_1 r23 r24)).trans (by rw [← hb25, ← hw25])) (by kernel_rfl) (held_cons trivial (held_cons trivial (held_cons trivial (held_cons o16 (held_cons trivial (held_cons trivial (held_cons trivial (held_cons o11 (held_cons trivial (held_cons trivial (held_cons trivial (held_cons o5 (held_cons trivial (held_cons trivial (held_cons trivial (held_cons o0 held_nil)))))))))))))))) ?_
    refine wpD_all (rs := [23]) (by kernel_rfl) (by simp) (allD_cons ?_ allD_nil)
    refine stepD_enterL (L' := [(19, fun _ => True), (18, fun _ => True), (17, fun _ => True), (16, fun w => w.cell? c2 = some (Sl.v x20)), (14, fun _ => True), (13, fun _ => True), (12, fun _ => True), (11, fun w => w.cell? c2 = some (Sl.v x17)), (8, fun _ => True), (7, fun _ => True), (6, fun _ => True), (5, fun w => w.cell? c2 = some (Sl.v x14)), (3, fun _ => True), (2, fun _ => True), (1, fun _ => True), (0, fun w => w.cell? c2 = some (Sl.v x11))]) rfl rfl rfl rfl (x_call (vs := [(Sl.v (⟨some ⟨b25, 0, none⟩, 2, 2⟩ : Sl))]) rfl rfl (mapl_cons rfl mapl_nil) Try.func26 NN_26 NB_26) (by kernel_rfl) (Calls.mono h ?_)
    rintro _ w5 ⟨r26, rfl, h⟩
    obtain ⟨o16, h⟩ := h
    obtain ⟨o11, h⟩ := h
    obtain ⟨o5, h⟩ := h
    obtain ⟨o0, h⟩ := h
    refine ⟨_, rfl, (held_cons trivial (held_cons trivial (held_cons trivial (held_cons o16 (held_cons trivial (held_cons trivial (held_cons trivial (held_cons o11 (held_cons trivial (held_cons trivial (held_cons trivial (held_cons o5 (held_cons trivial (held_cons trivial (held_cons trivial (held_cons o0 held_nil)))))))))))))))), ?_⟩
    refine wpD_take (v := (Value.int .i64 r26)) 24 (fun _ => True) rfl (by kernel_rfl) (by kernel_rfl) (by kernel_rfl) rfl rfl rfl trivial (fun w _ => (x_assign (v := (Value.int .i64 r26)) rfl rfl)) ?_
    exact wpD_done (by kernel_rfl) ⟨r26, ⟨rfl, trivial⟩, h⟩
  clear h
  rintro l27 ρ w6 ⟨e5, -⟩ h
  replace h := hk l27 w6 h
  clear hk
  refine wpC_ret ?_
  exact ⟨.inl rfl, fun a ha => ⟨_, results_rep1 rfl ha e5, l27, rfl, h⟩⟩

/-- cmp.Or[int] -/
def F26 (p0 : Sl) (w0 : World) (K : Int → World → Prop) : Prop :=
  lp (fun (next9 : Int → World → Prop) l9 w1 =>
    cnd (decide (l9 < (p0.len : Int)))
      (
      ix p0 l9 1 fun p11 =>
      ld (Value.int .i64) p11 w1 fun x12 =>
      cnd (!decide (x12 = 0))
        (
        K x12 w1
        )
        (
        next9 (IntKind.i64.wrap (l9 + 1)) w1
        )
      )
      (
      K 0 w1
      )
  ) 0 w0
set_option maxRecDepth 100000 in
theorem D26 (p0 : Sl) (w0 : World) (K : Int → World → Prop) (h : F26 p0 w0 K) : callC Try.prog 26 #[(Sl.v p0)] (fun (r : Int) => (Value.int .i64 r)) w0 K := by
  unfold F26 at h
  refine calls_of_wpC Try.func26 rfl 18 rfl (by simp) ?_
  intro ρ hρ
  have e0 : ρ 0 = (Sl.v p0) := hρ 0
  clear hρ
  refine wpC_seq ?_
  refine wpC_region ?_
  refine wpR_val (v := (Value.int .i64 0)) (w' := w0) rfl rfl rfl (x_assign (v := (Value.int .i64 0)) rfl rfl) ?_
  refine wpR_nil ?_
  refine wpC_seq ?_
  refine wpC_cut (fun ρ => ρ 0 = (Sl.v p0) ∧ True) ⟨e0, trivial⟩ ?_
  rintro ρ ⟨e0, -⟩
  refine wpC_region ?_
  refine wpR_val (v := (Value.int .i64 0)) (w' := w0) rfl rfl rfl (x_assign (v := (Value.int .i64 0)) rfl rfl) ?_
  refine wpR_nil ?_
  refine wpC_seq ?_
  refine wpC_seq ?_
  refine wpC_cut (fun ρ => ρ 0 = (Sl.v p0) ∧ ρ 3 = (Value.int .i64 0) ∧ True) ⟨e0, rfl, trivial⟩ ?_
  rintro ρ ⟨e0, e3, -⟩
  refine wpC_region ?_
  refine wpR_val (v := (Sl.v p0)) (w' := w0) rfl rfl rfl (x_move (v := (Sl.v p0)) rfl e0) ?_
  refine wpR_val (v := (Value.int .i64 (p0.len : Int))) (w' := w0) rfl rfl rfl (x_lenS (s := p0) rfl rfl isSliceT_38) ?_
  refine wpR_val (v := (Value.int .i64 0)) (w' := w0) rfl rfl rfl (x_move (v := (Value.int .i64 0)) rfl rfl) ?_
  refine wpR_nil ?_
  refine wpC_block ?_
  obtain ⟨I9, μ9, hI9, hr9⟩ := h
  refine wpC_loop (fun (x : Int) ρ => ρ 8 = (Value.int .i64 x) ∧ ρ 3 = (Value.int .i64 0) ∧ ρ 6 = (Sl.v p0) ∧ ρ 7 = (Value.int .i64 (p0.len : Int)) ∧ True) I9 μ9 0 ⟨rfl, e3, rfl, rfl, trivial⟩ hI9 ?_
  rintro l9 ρ w1 ⟨e8, e3, e6, e7, -⟩ h
  replace h := hr9 l9 w1 h
  clear hr9 hI9
  refine wpC_seq ?_
  refine wpC_region ?_
  refine wpR_val (v := (Value.bool (decide (l9 < (p0.len : Int))))) (w' := w1) rfl rfl rfl (x_lss rfl e8 e7) ?_
  refine wpR_nil ?_
  refine wpC_seq ?_
  refine wpC_cond (b := decide (l9 < (p0.len : Int))) rfl (fun hc10 => ?_) (fun hc10 => ?_)
  · replace h := h.1 hc10
    refine wpC_skip ?_
    refine wpC_seq ?_
    refine wpC_block ?_
    refine wpC_seq ?_
    refine wpC_cut (fun ρ => ρ 3 = (Value.int .i64 0) ∧ ρ 6 = (Sl.v p0) ∧ ρ 7 = (Value.int .i64 (p0.len : Int)) ∧ ρ 8 = (Value.int .i64 l9) ∧ True) ⟨e3, e6, e7, e8, trivial⟩ ?_
    rintro ρ ⟨e3, e6, e7, e8, -⟩
    refine wpC_region ?_
    obtain ⟨q11, z11, r11, h⟩ := h
    generalize hp11 : z11.add ((l9 : Int).toNat * 1) = p11 at h
    refine wpR_val (v := (Value.pointer (some p11))) (w' := w1) rfl rfl rfl ((x_indexAddr (s := p0) rfl e6 e8 ES_38 q11 r11).trans (by rw [hp11])) ?_
    obtain ⟨x12, q12, h⟩ := h
    refine wpR_val (v := (Value.int .i64 x12)) (w' := w1) rfl rfl rfl (x_load1 rfl rfl SH_3 q12) ?_
    refine wpR_val (v := (Value.int .i64 x12)) (w' := w1) rfl rfl rfl (x_assign (v := (Value.int .i64 x12)) rfl rfl) ?_
    refine wpR_nil ?_
    refine wpC_seq ?_
    refine wpC_cut (fun ρ => ρ 3 = (Value.int .i64 0) ∧ ρ 5 = (Value.int .i64 x12) ∧ ρ 6 = (Sl.v p0) ∧ ρ 7 = (Value.int .i64 (p0.len : Int)) ∧ ρ 8 = (Value.int .i64 l9) ∧ True) ⟨e3, rfl, e6, e7, e8, trivial⟩ ?_
    rintro ρ ⟨e3, e5, e6, e7, e8, -⟩
    refine wpC_region ?_
    refine wpR_val (v := (Value.int .i64 x12)) (w' := w1) rfl rfl rfl (x_move (v := (Value.int .i64 x12)) rfl e5) ?_
    refine wpR_val (v := (Value.int .i64 0)) (w' := w1) rfl rfl rfl (x_move (v := (Value.int .i64 0)) rfl e3) ?_
    refine wpR_val (v := (Value.bool (!decide (x12 = 0)))) (w' := w1) rfl rfl rfl (x_neq rfl rfl rfl) ?_
    refine wpR_nil ?_
    refine wpC_cond (b := !decide (x12 = 0)) rfl (fun hc13 => ?_) (fun hc13 => ?_)
    · replace h := h.1 hc13
      refine wpC_seq ?_
      refine wpC_cut (fun ρ => ρ 5 = (Value.int .i64 x12) ∧ True) ⟨e5, trivial⟩ ?_
      rintro ρ ⟨e5, -⟩
      refine wpC_region ?_
      refine wpR_val (v := (Value.int .i64 x12)) (w' := w1) rfl rfl rfl (x_move (v := (Value.int .i64 x12)) rfl e5) ?_
      refine wpR_val (v := (Value.int .i64 x12)) (w' := w1) rfl rfl rfl (x_assign (v := (Value.int .i64 x12)) rfl rfl) ?_
      refine wpR_nil ?_
      refine wpC_ret ?_
      exact ⟨.inl rfl, fun a ha => ⟨_, results_rep1 rfl ha rfl, x12, rfl, h⟩⟩
    · replace h := h.2 hc13
      refine wpC_skip ?_
      refine wpC_cut (fun ρ => ρ 3 = (Value.int .i64 0) ∧ ρ 6 = (Sl.v p0) ∧ ρ 7 = (Value.int .i64 (p0.len : Int)) ∧ ρ 8 = (Value.int .i64 l9) ∧ True) ⟨e3, e6, e7, e8, trivial⟩ ?_
      rintro ρ ⟨e3, e6, e7, e8, -⟩
      refine wpC_region ?_
      refine wpR_val (v := (Value.int .i64 (IntKind.i64.wrap (l9 + 1)))) (w' := w1) rfl rfl rfl (x_add rfl e8 rfl) ?_
      refine wpR_val (v := (Value.int .i64 (IntKind.i64.wrap (l9 + 1)))) (w' := w1) rfl rfl rfl (x_move (v := (Value.int .i64 (IntKind.i64.wrap (l9 + 1)))) rfl rfl) ?_
      refine wpR_nil ?_
      exact ⟨IntKind.i64.wrap (l9 + 1), ⟨rfl, e3, e6, e7, trivial⟩, h⟩
  · replace h := h.2 hc10
    refine wpC_exit ?_
    refine wpC_seq ?_
    refine wpC_cut (fun ρ => ρ 3 = (Value.int .i64 0) ∧ True) ⟨e3, trivial⟩ ?_
    rintro ρ ⟨e3, -⟩
    refine wpC_region ?_
    refine wpR_val (v := (Value.int .i64 0)) (w' := w1) rfl rfl rfl (x_move (v := (Value.int .i64 0)) rfl e3) ?_
    refine wpR_val (v := (Value.int .i64 0)) (w' := w1) rfl rfl rfl (x_assign (v := (Value.int .i64 0)) rfl rfl) ?_
    refine wpR_nil ?_
    refine wpC_ret ?_
    exact ⟨.inl rfl, fun a ha => ⟨_, results_rep1 rfl ha rfl, 0, rfl, h⟩⟩

/-- cmp.Compare[int] -/
def F27 (p0 : Int) (p1 : Int) (w0 : World) (K : Int → World → Prop) : Prop :=
  callC Try.prog 45 #[(Value.int .i64 p0)] (fun (r : Bool) => (Value.bool r)) w0 fun r9 w1 =>
  callC Try.prog 45 #[(Value.int .i64 p1)] (fun (r : Bool) => (Value.bool r)) w1 fun r10 w2 =>
  cnd (r9)
    (
    cnd (r10)
      (
      K 0 w2
      )
      (
      K (-1) w2
      )
    )
    (
    cnd (r10)
      (
      K 1 w2
      )
      (
      cnd (decide (p0 < p1))
        (
        K (-1) w2
        )
        (
        cnd (decide (p1 < p0))
          (
          K 1 w2
          )
          (
          K 0 w2
          )
        )
      )
    )
set_option maxRecDepth 100000 in
theorem D27 (p0 : Int) (p1 : Int) (w0 : World) (K : Int → World → Prop) (h : F27 p0 p1 w0 K) : callC Try.prog 27 #[(Value.int .i64 p0), (Value.int .i64 p1)] (fun (r : Int) => (Value.int .i64 r)) w0 K := by
  unfold F27 at h
  refine calls_of_wpC Try.func27 rfl 20 rfl (by simp) ?_
  intro ρ hρ
  have e0 : ρ 0 = (Value.int .i64 p0) := hρ 0
  have e1 : ρ 1 = (Value.int .i64 p1) := hρ 1
  clear hρ
  refine wpC_seq ?_
  refine wpC_region ?_
  refine wpR_val (v := (Value.int .i64 0)) (w' := w0) rfl rfl rfl (x_assign (v := (Value.int .i64 0)) rfl rfl) ?_
  refine wpR_nil ?_
  refine wpC_seq ?_
  refine wpC_cut (fun ρ => ρ 0 = (Value.int .i64 p0) ∧ ρ 1 = (Value.int .i64 p1) ∧ True) ⟨e0, e1, trivial⟩ ?_
  rintro ρ ⟨e0, e1, -⟩
  refine wpC_region ?_
  refine wpR_val (v := (Value.int .i64 p0)) (w' := w0) rfl rfl rfl (x_move (v := (Value.int .i64 p0)) rfl e0) ?_
  refine wpR_enter rfl rfl rfl (x_call (vs := [(Value.int .i64 p0)]) rfl rfl (mapl_cons rfl mapl_nil) Try.func45 NN_45 NB_45) (Calls.mono h ?_)
  rintro _ w1 ⟨r9, rfl, h⟩
  refine ⟨_, rfl, ?_⟩
  refine wpR_val (v := (Value.bool r9)) (w' := w1) rfl rfl rfl (x_assign (v := (Value.bool r9)) rfl rfl) ?_
  refine wpR_nil ?_
  refine wpC_seq ?_
  refine wpC_cut (fun ρ => ρ 0 = (Value.int .i64 p0) ∧ ρ 1 = (Value.int .i64 p1) ∧ ρ 5 = (Value.bool r9) ∧ True) ⟨e0, e1, rfl, trivial⟩ ?_
  rintro ρ ⟨e0, e1, e5, -⟩
  refine wpC_region ?_
  refine wpR_val (v := (Value.int .i64 p1)) (w' := w1) rfl rfl rfl (x_move (v := (Value.int .i64 p1)) rfl e1) ?_
  refine wpR_enter rfl rfl rfl (x_call (vs := [(Value.int .i64 p1)]) rfl rfl (mapl_cons rfl mapl_nil) Try.func45 NN_45 NB_45) (Calls.mono h ?_)
  rintro _ w2 ⟨r10, rfl, h⟩
  refine ⟨_, rfl, ?_⟩
  refine wpR_val (v := (Value.bool r10)) (w' := w2) rfl rfl rfl (x_assign (v := (Value.bool r10)) rfl rfl) ?_
  refine wpR_nil ?_
  refine wpC_seq ?_
  refine wpC_seq ?_
  refine wpC_cut (fun ρ => ρ 0 = (Value.int .i64 p0) ∧ ρ 1 = (Value.int .i64 p1) ∧ ρ 5 = (Value.bool r9) ∧ ρ 6 = (Value.bool r10) ∧ True) ⟨e0, e1, e5, rfl, trivial⟩ ?_
  rintro ρ ⟨e0, e1, e5, e6, -⟩
  refine wpC_region ?_
  refine wpR_val (v := (Value.bool r9)) (w' := w2) rfl rfl rfl (x_move (v := (Value.bool r9)) rfl e5) ?_
  refine wpR_nil ?_
  refine wpC_cond (b := r9) rfl (fun hc11 => ?_) (fun hc11 => ?_)
  · replace h := h.1 hc11
    refine wpC_seq ?_
    refine wpC_seq ?_
    refine wpC_cut (fun ρ => ρ 6 = (Value.bool r10) ∧ True) ⟨e6, trivial⟩ ?_
    rintro ρ ⟨e6, -⟩
    refine wpC_region ?_
    refine wpR_val (v := (Value.bool r10)) (w' := w2) rfl rfl rfl (x_move (v := (Value.bool r10)) rfl e6) ?_
    refine wpR_nil ?_
    refine wpC_cond (b := r10) rfl (fun hc12 => ?_) (fun hc12 => ?_)
    · replace h := h.1 hc12
      refine wpC_seq ?_
      refine wpC_cut (fun ρ => True) trivial ?_
      rintro ρ -
      refine wpC_region ?_
      refine wpR_val (v := (Value.int .i64 0)) (w' := w2) rfl rfl rfl (x_assign (v := (Value.int .i64 0)) rfl rfl) ?_
      refine wpR_nil ?_
      refine wpC_ret ?_
      exact ⟨.inl rfl, fun a ha => ⟨_, results_rep1 rfl ha rfl, 0, rfl, h⟩⟩
    · replace h := h.2 hc12
      refine wpC_skip ?_
      refine wpC_seq ?_
      refine wpC_cut (fun ρ => True) trivial ?_
      rintro ρ -
      refine wpC_region ?_
      refine wpR_val (v := (Value.int .i64 (-1))) (w' := w2) rfl rfl rfl (x_assign (v := (Value.int .i64 (-1))) rfl rfl) ?_
      refine wpR_nil ?_
      refine wpC_ret ?_
      exact ⟨.inl rfl, fun a ha => ⟨_, results_rep1 rfl ha rfl, (-1), rfl, h⟩⟩
  · replace h := h.2 hc11
    refine wpC_skip ?_
    refine wpC_seq ?_
    refine wpC_seq ?_
    refine wpC_cut (fun ρ => ρ 0 = (Value.int .i64 p0) ∧ ρ 1 = (Value.int .i64 p1) ∧ ρ 6 = (Value.bool r10) ∧ True) ⟨e0, e1, e6, trivial⟩ ?_
    rintro ρ ⟨e0, e1, e6, -⟩
    refine wpC_region ?_
    refine wpR_val (v := (Value.bool r10)) (w' := w2) rfl rfl rfl (x_move (v := (Value.bool r10)) rfl e6) ?_
    refine wpR_nil ?_
    refine wpC_cond (b := r10) rfl (fun hc13 => ?_) (fun hc13 => ?_)
    · replace h := h.1 hc13
      refine wpC_seq ?_
      refine wpC_cut (fun ρ => True) trivial ?_
      rintro ρ -
      refine wpC_region ?_
      refine wpR_val (v := (Value.int .i64 1)) (w' := w2) rfl rfl rfl (x_assign (v := (Value.int .i64 1)) rfl rfl) ?_
      refine wpR_nil ?_
      refine wpC_ret ?_
      exact ⟨.inl rfl, fun a ha => ⟨_, results_rep1 rfl ha rfl, 1, rfl, h⟩⟩
    · replace h := h.2 hc13
      refine wpC_skip ?_
      refine wpC_seq ?_
      refine wpC_seq ?_
      refine wpC_cut (fun ρ => ρ 0 = (Value.int .i64 p0) ∧ ρ 1 = (Value.int .i64 p1) ∧ True) ⟨e0, e1, trivial⟩ ?_
      rintro ρ ⟨e0, e1, -⟩
      refine wpC_region ?_
      refine wpR_val (v := (Value.int .i64 p0)) (w' := w2) rfl rfl rfl (x_move (v := (Value.int .i64 p0)) rfl e0) ?_
      refine wpR_val (v := (Value.int .i64 p1)) (w' := w2) rfl rfl rfl (x_move (v := (Value.int .i64 p1)) rfl e1) ?_
      refine wpR_val (v := (Value.bool (decide (p0 < p1)))) (w' := w2) rfl rfl rfl (x_lss rfl rfl rfl) ?_
      refine wpR_nil ?_
      refine wpC_cond (b := decide (p0 < p1)) rfl (fun hc14 => ?_) (fun hc14 => ?_)
      · replace h := h.1 hc14
        refine wpC_seq ?_
        refine wpC_cut (fun ρ => True) trivial ?_
        rintro ρ -
        refine wpC_region ?_
        refine wpR_val (v := (Value.int .i64 (-1))) (w' := w2) rfl rfl rfl (x_assign (v := (Value.int .i64 (-1))) rfl rfl) ?_
        refine wpR_nil ?_
        refine wpC_ret ?_
        exact ⟨.inl rfl, fun a ha => ⟨_, results_rep1 rfl ha rfl, (-1), rfl, h⟩⟩
      · replace h := h.2 hc14
        refine wpC_skip ?_
        refine wpC_seq ?_
        refine wpC_seq ?_
        refine wpC_cut (fun ρ => ρ 0 = (Value.int .i64 p0) ∧ ρ 1 = (Value.int .i64 p1) ∧ True) ⟨e0, e1, trivial⟩ ?_
        rintro ρ ⟨e0, e1, -⟩
        refine wpC_region ?_
        refine wpR_val (v := (Value.int .i64 p0)) (w' := w2) rfl rfl rfl (x_move (v := (Value.int .i64 p0)) rfl e0) ?_
        refine wpR_val (v := (Value.int .i64 p1)) (w' := w2) rfl rfl rfl (x_move (v := (Value.int .i64 p1)) rfl e1) ?_
        refine wpR_val (v := (Value.bool (decide (p1 < p0)))) (w' := w2) rfl rfl rfl (x_gtr rfl rfl rfl) ?_
        refine wpR_nil ?_
        refine wpC_cond (b := decide (p1 < p0)) rfl (fun hc15 => ?_) (fun hc15 => ?_)
        · replace h := h.1 hc15
          refine wpC_seq ?_
          refine wpC_cut (fun ρ => True) trivial ?_
          rintro ρ -
          refine wpC_region ?_
          refine wpR_val (v := (Value.int .i64 1)) (w' := w2) rfl rfl rfl (x_assign (v := (Value.int .i64 1)) rfl rfl) ?_
          refine wpR_nil ?_
          refine wpC_ret ?_
          exact ⟨.inl rfl, fun a ha => ⟨_, results_rep1 rfl ha rfl, 1, rfl, h⟩⟩
        · replace h := h.2 hc15
          refine wpC_skip ?_
          refine wpC_seq ?_
          refine wpC_cut (fun ρ => True) trivial ?_
          rintro ρ -
          refine wpC_region ?_
          refine wpR_val (v := (Value.int .i64 0)) (w' := w2) rfl rfl rfl (x_assign (v := (Value.int .i64 0)) rfl rfl) ?_
          refine wpR_nil ?_
          refine wpC_ret ?_
          exact ⟨.inl rfl, fun a ha => ⟨_, results_rep1 rfl ha rfl, 0, rfl, h⟩⟩


end Go.Proofs.Ytgbhghoppjfofaa
