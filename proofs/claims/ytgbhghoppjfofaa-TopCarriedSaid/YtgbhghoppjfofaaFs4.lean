import Derived.Test.YtgbhghoppjfofaaRows
import Derived.Test.YtgbhghoppjfofaaFs1
import Derived.Test.YtgbhghoppjfofaaDecRaw
namespace Go.Proofs.Ytgbhghoppjfofaa
open Go.Dec
set_option maxHeartbeats 400000
set_option maxRecDepth 100000

/-- slices.DeleteFunc[[]api.Waiting,api.Waiting] -/
def F28 (p0 : Sl) (p1 : Value) (w0 : World) (K : Sl → World → Prop) : Prop :=
  callC Try.prog 46 #[(Sl.v p0), p1] (fun (r : Int) => (Value.int .i64 r)) w0 fun r9 w1 =>
  cnd (decide (r9 = (-1)))
    (
    K p0 w1
    )
    (
    lp (fun (next11 : (Int × Int) → World → Prop) l11 w2 =>
      cnd (decide (l11.2 < (p0.len : Int)))
        (
        jn (fun (J13 : Int → World → Prop) =>
          ix p0 l11.2 4 fun p15 =>
          ld (Value.int .i64) (p15.add 0) w2 fun x16 =>
          ld (Value.int .i64) (p15.add 1) w2 fun x17 =>
          ld (Value.int .i64) (p15.add 2) w2 fun x18 =>
          ld (Value.int .i64) (p15.add 3) w2 fun x19 =>
          nw 34 #[(Value.int .i64 0), (Value.int .i64 0), (Value.int .i64 0), (Value.int .i64 0)] w2 fun b20 w4 =>
          st (Addr.mk b20 0 none) [(Value.int .i64 x16), (Value.int .i64 x17), (Value.int .i64 x18), (Value.int .i64 x19)] w4 fun w5 =>
          ld (Value.int .i64) ((Addr.mk b20 0 none).add 0) w5 fun x22 =>
          ld (Value.int .i64) ((Addr.mk b20 0 none).add 1) w5 fun x23 =>
          ld (Value.int .i64) ((Addr.mk b20 0 none).add 2) w5 fun x24 =>
          ld (Value.int .i64) ((Addr.mk b20 0 none).add 3) w5 fun x25 =>
          cv Try.prog p1 [(Value.agg #[(Value.int .i64 x22), (Value.int .i64 x23), (Value.int .i64 x24), (Value.int .i64 x25)])] (fun (r : Bool) => (Value.bool r)) w5 fun r26 w6 =>
          cnd (!r26)
            (
            ld (Value.int .i64) ((Addr.mk b20 0 none).add 0) w6 fun x28 =>
            ld (Value.int .i64) ((Addr.mk b20 0 none).add 1) w6 fun x29 =>
            ld (Value.int .i64) ((Addr.mk b20 0 none).add 2) w6 fun x30 =>
            ld (Value.int .i64) ((Addr.mk b20 0 none).add 3) w6 fun x31 =>
            ix p0 l11.1 4 fun p32 =>
            st p32 [(Value.int .i64 x28), (Value.int .i64 x29), (Value.int .i64 x30), (Value.int .i64 x31)] w6 fun w7 =>
            J13 (IntKind.i64.wrap (l11.1 + 1)) w7
            )
            (
            J13 l11.1 w6
            )
        )
        fun l14 w3 =>
        next11 (l14, IntKind.i64.wrap (l11.2 + 1)) w3
        )
        (
        rn Try.prog (Instr.sliceAt 25 (Sl.v p0) (some (Value.int .i64 l11.1)) none none) (fun (r : Sl) => (Sl.v r)) w2 fun r34 w8 =>
        rn Try.prog (Builtin.clear_ #[25] 0 #[(Sl.v r34)]) (fun _ : Unit => Value.tuple #[]) w8 fun _r35 w9 =>
        rn Try.prog (Instr.sliceAt 25 (Sl.v p0) none (some (Value.int .i64 l11.1)) none) (fun (r : Sl) => (Sl.v r)) w9 fun r36 w10 =>
        K r36 w10
        )
    ) (r9, IntKind.i64.wrap (r9 + 1)) w1
    )
set_option maxRecDepth 100000 in
theorem D28 (p0 : Sl) (p1 : Value) (w0 : World) (K : Sl → World → Prop) (h : F28 p0 p1 w0 K) : callC Try.prog 28 #[(Sl.v p0), p1] (fun (r : Sl) => (Sl.v r)) w0 K := by
  unfold F28 at h
  refine calls_of_wpC Try.func28 rfl 42 rfl (by simp) ?_
  intro ρ hρ
  have e0 : ρ 0 = (Sl.v p0) := hρ 0
  have e1 : ρ 1 = p1 := hρ 1
  clear hρ
  refine wpC_seq ?_
  refine wpC_region ?_
  refine wpR_val (v := (Sl.v Sl.nil)) (w' := w0) rfl rfl rfl (x_assign (v := (Sl.v Sl.nil)) rfl rfl) ?_
  refine wpR_nil ?_
  refine wpC_seq ?_
  refine wpC_cut (fun ρ => ρ 0 = (Sl.v p0) ∧ ρ 1 = p1 ∧ True) ⟨e0, e1, trivial⟩ ?_
  rintro ρ ⟨e0, e1, -⟩
  refine wpC_region ?_
  refine wpR_val (v := (Sl.v p0)) (w' := w0) rfl rfl rfl (x_move (v := (Sl.v p0)) rfl e0) ?_
  refine wpR_val (v := p1) (w' := w0) rfl rfl rfl (x_move (v := p1) rfl e1) ?_
  refine wpR_enter rfl rfl rfl (x_call (vs := [(Sl.v p0), p1]) rfl rfl (mapl_cons rfl (mapl_cons rfl mapl_nil)) Try.func46 NN_46 NB_46) (Calls.mono h ?_)
  rintro _ w1 ⟨r9, rfl, h⟩
  refine ⟨_, rfl, ?_⟩
  refine wpR_val (v := (Value.int .i64 r9)) (w' := w1) rfl rfl rfl (x_assign (v := (Value.int .i64 r9)) rfl rfl) ?_
  refine wpR_nil ?_
  refine wpC_seq ?_
  refine wpC_seq ?_
  refine wpC_cut (fun ρ => ρ 0 = (Sl.v p0) ∧ ρ 1 = p1 ∧ ρ 5 = (Value.int .i64 r9) ∧ True) ⟨e0, e1, rfl, trivial⟩ ?_
  rintro ρ ⟨e0, e1, e5, -⟩
  refine wpC_region ?_
  refine wpR_val (v := (Value.int .i64 r9)) (w' := w1) rfl rfl rfl (x_move (v := (Value.int .i64 r9)) rfl e5) ?_
  refine wpR_val (v := (Value.bool (decide (r9 = (-1))))) (w' := w1) rfl rfl rfl (x_eql rfl rfl rfl) ?_
  refine wpR_nil ?_
  refine wpC_cond (b := decide (r9 = (-1))) rfl (fun hc10 => ?_) (fun hc10 => ?_)
  · replace h := h.1 hc10
    refine wpC_seq ?_
    refine wpC_cut (fun ρ => ρ 0 = (Sl.v p0) ∧ True) ⟨e0, trivial⟩ ?_
    rintro ρ ⟨e0, -⟩
    refine wpC_region ?_
    refine wpR_val (v := (Sl.v p0)) (w' := w1) rfl rfl rfl (x_move (v := (Sl.v p0)) rfl e0) ?_
    refine wpR_val (v := (Sl.v p0)) (w' := w1) rfl rfl rfl (x_assign (v := (Sl.v p0)) rfl rfl) ?_
    refine wpR_nil ?_
    refine wpC_ret ?_
    exact ⟨.inl rfl, fun a ha => ⟨_, results_rep1 rfl ha rfl, p0, rfl, h⟩⟩
  · replace h := h.2 hc10
    refine wpC_skip ?_
    refine wpC_seq ?_
    refine wpC_seq ?_
    refine wpC_cut (fun ρ => ρ 0 = (Sl.v p0) ∧ ρ 1 = p1 ∧ ρ 5 = (Value.int .i64 r9) ∧ True) ⟨e0, e1, e5, trivial⟩ ?_
    rintro ρ ⟨e0, e1, e5, -⟩
    refine wpC_region ?_
    refine wpR_val (v := (Value.int .i64 r9)) (w' := w1) rfl rfl rfl (x_move (v := (Value.int .i64 r9)) rfl e5) ?_
    refine wpR_val (v := (Value.int .i64 (IntKind.i64.wrap (r9 + 1)))) (w' := w1) rfl rfl rfl (x_add rfl rfl rfl) ?_
    refine wpR_val (v := (Value.int .i64 (IntKind.i64.wrap (r9 + 1)))) (w' := w1) rfl rfl rfl (x_assign (v := (Value.int .i64 (IntKind.i64.wrap (r9 + 1)))) rfl rfl) ?_
    refine wpR_nil ?_
    refine wpC_block ?_
    obtain ⟨I11, μ11, hI11, hr11⟩ := h
    refine wpC_loop (fun (x : Int × Int) ρ => ρ 5 = (Value.int .i64 x.1) ∧ ρ 6 = (Value.int .i64 x.2) ∧ ρ 0 = (Sl.v p0) ∧ ρ 1 = p1 ∧ True) I11 μ11 (r9, IntKind.i64.wrap (r9 + 1)) ⟨e5, rfl, e0, e1, trivial⟩ hI11 ?_
    rintro l11 ρ w2 ⟨e5, e6, e0, e1, -⟩ h
    replace h := hr11 l11 w2 h
    clear hr11 hI11
    refine wpC_seq ?_
    refine wpC_seq ?_
    refine wpC_region ?_
    refine wpR_val (v := (Value.int .i64 l11.2)) (w' := w2) rfl rfl rfl (x_move (v := (Value.int .i64 l11.2)) rfl e6) ?_
    refine wpR_val (v := (Sl.v p0)) (w' := w2) rfl rfl rfl (x_move (v := (Sl.v p0)) rfl e0) ?_
    refine wpR_val (v := (Value.int .i64 (p0.len : Int))) (w' := w2) rfl rfl rfl (x_lenS (s := p0) rfl rfl isSliceT_25) ?_
    refine wpR_val (v := (Value.bool (decide (l11.2 < (p0.len : Int))))) (w' := w2) rfl rfl rfl (x_lss rfl rfl rfl) ?_
    refine wpR_nil ?_
    refine wpC_cond (b := decide (l11.2 < (p0.len : Int))) rfl (fun hc12 => ?_) (fun hc12 => ?_)
    · replace h := h.1 hc12
      refine wpC_skip ?_
      obtain ⟨J13, h, hk⟩ := h
      refine wpC_seqJ (fun (x : Int) ρ => ρ 5 = (Value.int .i64 x) ∧ ρ 0 = (Sl.v p0) ∧ ρ 1 = p1 ∧ ρ 6 = (Value.int .i64 l11.2) ∧ True) J13 ?_ ?_
      · clear hk
        refine wpC_block ?_
        refine wpC_seq ?_
        refine wpC_cut (fun ρ => ρ 0 = (Sl.v p0) ∧ ρ 1 = p1 ∧ ρ 5 = (Value.int .i64 l11.1) ∧ ρ 6 = (Value.int .i64 l11.2) ∧ True) ⟨e0, e1, e5, e6, trivial⟩ ?_
        rintro ρ ⟨e0, e1, e5, e6, -⟩
        refine wpC_region ?_
        refine wpR_val (v := (Sl.v p0)) (w' := w2) rfl rfl rfl (x_move (v := (Sl.v p0)) rfl e0) ?_
        refine wpR_val (v := (Value.int .i64 l11.2)) (w' := w2) rfl rfl rfl (x_move (v := (Value.int .i64 l11.2)) rfl e6) ?_
        obtain ⟨q15, z15, r15, h⟩ := h
        generalize hp15 : z15.add ((l11.2 : Int).toNat * 4) = p15 at h
        refine wpR_val (v := (Value.pointer (some p15))) (w' := w2) rfl rfl rfl ((x_indexAddr (s := p0) rfl rfl rfl ES_25 q15 r15).trans (by rw [hp15])) ?_
        obtain ⟨x16, q16, x17, q17, x18, q18, x19, q19, h⟩ := h
        refine wpR_val (v := (Value.agg #[(Value.int .i64 x16), (Value.int .i64 x17), (Value.int .i64 x18), (Value.int .i64 x19)])) (w' := w2) rfl rfl rfl (x_loadN [(Value.int .i64 x16), (Value.int .i64 x17), (Value.int .i64 x18), (Value.int .i64 x19)] rfl rfl SH_34 (CellsAt.out (CellsAt.cons q16 (CellsAt.cons q17 (CellsAt.cons q18 (CellsAt.cons q19 CellsAt.nil)))))) ?_
        obtain ⟨b20, hb20⟩ : ∃ u, u = w2.heap.size := ⟨_, rfl⟩
        obtain ⟨w4, hw20⟩ : ∃ u, u = w2.alloc (.cells #[(Value.int .i64 0), (Value.int .i64 0), (Value.int .i64 0), (Value.int .i64 0)] 34) := ⟨_, rfl⟩
        replace h := h b20 w4 hb20 hw20
        refine wpR_val (v := (Value.pointer (some (Addr.mk b20 0 none)))) (w' := w4) rfl rfl rfl ((x_alloc rfl ZV_34).trans (by rw [hb20, hw20]; rfl)) ?_
        obtain ⟨q21, h⟩ := h
        obtain ⟨w5, hw21⟩ : ∃ u, u = setAll w4 (Addr.mk b20 0 none) [(Value.int .i64 x16), (Value.int .i64 x17), (Value.int .i64 x18), (Value.int .i64 x19)] 0 := ⟨_, rfl⟩
        replace h := h w5 hw21
        refine wpR_skp (w' := w5) rfl rfl ((x_store (v := (Value.agg #[(Value.int .i64 x16), (Value.int .i64 x17), (Value.int .i64 x18), (Value.int .i64 x19)])) rfl rfl rfl SZ_34 (ones (by rfl)) q21).trans (by rw [hw21]; rfl)) ?_
        refine wpR_nil ?_
        refine wpC_seq ?_
        refine wpC_cut (fun ρ => ρ 0 = (Sl.v p0) ∧ ρ 1 = p1 ∧ ρ 5 = (Value.int .i64 l11.1) ∧ ρ 6 = (Value.int .i64 l11.2) ∧ ρ 7 = (Value.pointer (some (Addr.mk b20 0 none))) ∧ True) ⟨e0, e1, e5, e6, rfl, trivial⟩ ?_
        rintro ρ ⟨e0, e1, e5, e6, e7, -⟩
        refine wpC_region ?_
        refine wpR_val (v := p1) (w' := w5) rfl rfl rfl (x_move (v := p1) rfl e1) ?_
        obtain ⟨x22, q22, x23, q23, x24, q24, x25, q25, h⟩ := h
        refine wpR_val (v := (Value.agg #[(Value.int .i64 x22), (Value.int .i64 x23), (Value.int .i64 x24), (Value.int .i64 x25)])) (w' := w5) rfl rfl rfl (x_loadN [(Value.int .i64 x22), (Value.int .i64 x23), (Value.int .i64 x24), (Value.int .i64 x25)] rfl e7 SH_34 (CellsAt.out (CellsAt.cons q22 (CellsAt.cons q23 (CellsAt.cons q24 (CellsAt.cons q25 CellsAt.nil)))))) ?_
        obtain ⟨f26, fi26, ca26, fn26, qv26, qf26, qn26, qb26, h⟩ := h
        refine wpR_enter rfl rfl rfl (x_callv (vs := [(Value.agg #[(Value.int .i64 x22), (Value.int .i64 x23), (Value.int .i64 x24), (Value.int .i64 x25)])]) rfl ((show _ = p1 from rfl).trans qv26) (mapl_cons rfl mapl_nil) qf26 qn26 qb26) (Calls.mono h ?_)
        rintro _ w6 ⟨r26, rfl, h⟩
        refine ⟨_, rfl, ?_⟩
        refine wpR_val (v := (Value.bool (!r26))) (w' := w6) rfl rfl rfl (x_not rfl rfl) ?_
        refine wpR_nil ?_
        refine wpC_cond (b := !r26) rfl (fun hc27 => ?_) (fun hc27 => ?_)
        · replace h := h.1 hc27
          refine wpC_seq ?_
          refine wpC_cut (fun ρ => ρ 0 = (Sl.v p0) ∧ ρ 1 = p1 ∧ ρ 5 = (Value.int .i64 l11.1) ∧ ρ 6 = (Value.int .i64 l11.2) ∧ ρ 7 = (Value.pointer (some (Addr.mk b20 0 none))) ∧ True) ⟨e0, e1, e5, e6, e7, trivial⟩ ?_
          rintro ρ ⟨e0, e1, e5, e6, e7, -⟩
          refine wpC_region ?_
          refine wpR_val (v := (Sl.v p0)) (w' := w6) rfl rfl rfl (x_move (v := (Sl.v p0)) rfl e0) ?_
          refine wpR_val (v := (Value.int .i64 l11.1)) (w' := w6) rfl rfl rfl (x_move (v := (Value.int .i64 l11.1)) rfl e5) ?_
          obtain ⟨x28, q28, x29, q29, x30, q30, x31, q31, h⟩ := h
          refine wpR_val (v := (Value.agg #[(Value.int .i64 x28), (Value.int .i64 x29), (Value.int .i64 x30), (Value.int .i64 x31)])) (w' := w6) rfl rfl rfl (x_loadN [(Value.int .i64 x28), (Value.int .i64 x29), (Value.int .i64 x30), (Value.int .i64 x31)] rfl e7 SH_34 (CellsAt.out (CellsAt.cons q28 (CellsAt.cons q29 (CellsAt.cons q30 (CellsAt.cons q31 CellsAt.nil)))))) ?_
          obtain ⟨q32, z32, r32, h⟩ := h
          generalize hp32 : z32.add ((l11.1 : Int).toNat * 4) = p32 at h
          refine wpR_val (v := (Value.pointer (some p32))) (w' := w6) rfl rfl rfl ((x_indexAddr (s := p0) rfl rfl rfl ES_25 q32 r32).trans (by rw [hp32])) ?_
          obtain ⟨q33, h⟩ := h
          obtain ⟨w7, hw33⟩ : ∃ u, u = setAll w6 p32 [(Value.int .i64 x28), (Value.int .i64 x29), (Value.int .i64 x30), (Value.int .i64 x31)] 0 := ⟨_, rfl⟩
          replace h := h w7 hw33
          refine wpR_skp (w' := w7) rfl rfl ((x_store (v := (Value.agg #[(Value.int .i64 x28), (Value.int .i64 x29), (Value.int .i64 x30), (Value.int .i64 x31)])) rfl rfl rfl SZ_34 (ones (by rfl)) q33).trans (by rw [hw33]; rfl)) ?_
          refine wpR_nil ?_
          refine wpC_cut (fun ρ => ρ 0 = (Sl.v p0) ∧ ρ 1 = p1 ∧ ρ 5 = (Value.int .i64 l11.1) ∧ ρ 6 = (Value.int .i64 l11.2) ∧ True) ⟨e0, e1, e5, e6, trivial⟩ ?_
          rintro ρ ⟨e0, e1, e5, e6, -⟩
          refine wpC_region ?_
          refine wpR_val (v := (Value.int .i64 l11.1)) (w' := w7) rfl rfl rfl (x_move (v := (Value.int .i64 l11.1)) rfl e5) ?_
          refine wpR_val (v := (Value.int .i64 (IntKind.i64.wrap (l11.1 + 1)))) (w' := w7) rfl rfl rfl (x_add rfl rfl rfl) ?_
          refine wpR_val (v := (Value.int .i64 (IntKind.i64.wrap (l11.1 + 1)))) (w' := w7) rfl rfl rfl (x_assign (v := (Value.int .i64 (IntKind.i64.wrap (l11.1 + 1)))) rfl rfl) ?_
          refine wpR_nil ?_
          exact ⟨IntKind.i64.wrap (l11.1 + 1), ⟨rfl, e0, e1, e6, trivial⟩, h⟩
        · replace h := h.2 hc27
          refine wpC_skip ?_
          exact ⟨l11.1, ⟨e5, e0, e1, e6, trivial⟩, h⟩
      clear h
      rintro l14 ρ w3 ⟨e5, e0, e1, e6, -⟩ h
      replace h := hk l14 w3 h
      clear hk
      refine wpC_region ?_
      refine wpR_val (v := (Value.int .i64 l11.2)) (w' := w3) rfl rfl rfl (x_move (v := (Value.int .i64 l11.2)) rfl e6) ?_
      refine wpR_val (v := (Value.int .i64 (IntKind.i64.wrap (l11.2 + 1)))) (w' := w3) rfl rfl rfl (x_add rfl rfl rfl) ?_
      refine wpR_val (v := (Value.int .i64 (IntKind.i64.wrap (l11.2 + 1)))) (w' := w3) rfl rfl rfl (x_assign (v := (Value.int .i64 (IntKind.i64.wrap (l11.2 + 1)))) rfl rfl) ?_
      refine wpR_nil ?_
      exact ⟨(l14, IntKind.i64.wrap (l11.2 + 1)), ⟨e5, rfl, e0, e1, trivial⟩, h⟩
    · replace h := h.2 hc12
      refine wpC_exit ?_
      refine wpC_seq ?_
      refine wpC_cut (fun ρ => ρ 0 = (Sl.v p0) ∧ ρ 5 = (Value.int .i64 l11.1) ∧ True) ⟨e0, e5, trivial⟩ ?_
      rintro ρ ⟨e0, e5, -⟩
      refine wpC_region ?_
      refine wpR_val (v := (Sl.v p0)) (w' := w2) rfl rfl rfl (x_move (v := (Sl.v p0)) rfl e0) ?_
      refine wpR_val (v := (Value.int .i64 l11.1)) (w' := w2) rfl rfl rfl (x_move (v := (Value.int .i64 l11.1)) rfl e5) ?_
      obtain ⟨r34, w8, q34, h⟩ := h
      refine wpR_val (v := (Sl.v r34)) (w' := w8) rfl rfl rfl (x_sliceAt rfl rfl (congrArg some rfl) rfl rfl q34) ?_
      obtain ⟨r35, w9, q35, h⟩ := h
      refine wpR_val0 (v := (Value.tuple #[])) (w' := w9) rfl rfl (x_clear rfl rfl rfl q35) ?_
      refine wpR_nil ?_
      refine wpC_seq ?_
      refine wpC_cut (fun ρ => ρ 0 = (Sl.v p0) ∧ ρ 5 = (Value.int .i64 l11.1) ∧ True) ⟨e0, e5, trivial⟩ ?_
      rintro ρ ⟨e0, e5, -⟩
      refine wpC_region ?_
      refine wpR_val (v := (Sl.v p0)) (w' := w9) rfl rfl rfl (x_move (v := (Sl.v p0)) rfl e0) ?_
      refine wpR_val (v := (Value.int .i64 l11.1)) (w' := w9) rfl rfl rfl (x_move (v := (Value.int .i64 l11.1)) rfl e5) ?_
      obtain ⟨r36, w10, q36, h⟩ := h
      refine wpR_val (v := (Sl.v r36)) (w' := w10) rfl rfl rfl (x_sliceAt rfl rfl rfl (congrArg some rfl) rfl q36) ?_
      refine wpR_val (v := (Sl.v r36)) (w' := w10) rfl rfl rfl (x_assign (v := (Sl.v r36)) rfl rfl) ?_
      refine wpR_nil ?_
      refine wpC_ret ?_
      exact ⟨.inl rfl, fun a ha => ⟨_, results_rep1 rfl ha rfl, r36, rfl, h⟩⟩

/-- queue.Step$2 -/
def F29 (p0_0 : Int) (p0_1 : Int) (p0_2 : Int) (p0_3 : Int) (w0 : World) (K : Bool → World → Prop) : Prop :=
  nw 34 #[(Value.int .i64 p0_0), (Value.int .i64 p0_1), (Value.int .i64 p0_2), (Value.int .i64 p0_3)] w0 fun b9 w1 =>
  ld (Value.int .i64) ((Addr.mk b9 0 none).add 2) w1 fun x10 =>
  K (decide (x10 = 0)) w1
set_option maxRecDepth 100000 in
theorem D29 (p0_0 : Int) (p0_1 : Int) (p0_2 : Int) (p0_3 : Int) (w0 : World) (K : Bool → World → Prop) (h : F29 p0_0 p0_1 p0_2 p0_3 w0 K) : callC Try.prog 29 #[(Value.agg #[(Value.int .i64 p0_0), (Value.int .i64 p0_1), (Value.int .i64 p0_2), (Value.int .i64 p0_3)])] (fun (r : Bool) => (Value.bool r)) w0 K := by
  unfold F29 at h
  refine calls_of_wpC Try.func29 rfl 6 rfl (by simp) ?_
  intro ρ hρ
  have e0 : ρ 0 = (Value.agg #[(Value.int .i64 p0_0), (Value.int .i64 p0_1), (Value.int .i64 p0_2), (Value.int .i64 p0_3)]) := hρ 0
  clear hρ
  refine wpC_seq ?_
  refine wpC_region ?_
  obtain ⟨b9, hb9⟩ : ∃ u, u = w0.heap.size := ⟨_, rfl⟩
  obtain ⟨w1, hw9⟩ : ∃ u, u = w0.alloc (.cells #[(Value.int .i64 p0_0), (Value.int .i64 p0_1), (Value.int .i64 p0_2), (Value.int .i64 p0_3)] 34) := ⟨_, rfl⟩
  replace h := h b9 w1 hb9 hw9
  refine wpR_val (v := (Value.pointer (some (Addr.mk b9 0 none)))) (w' := w1) rfl rfl rfl ((x_box (v := (Value.agg #[(Value.int .i64 p0_0), (Value.int .i64 p0_1), (Value.int .i64 p0_2), (Value.int .i64 p0_3)])) rfl e0).trans (by rw [hb9, hw9]; rfl)) ?_
  refine wpR_val (v := (Value.bool false)) (w' := w1) rfl rfl rfl (x_assign (v := (Value.bool false)) rfl rfl) ?_
  refine wpR_nil ?_
  refine wpC_seq ?_
  refine wpC_cut (fun ρ => ρ 1 = (Value.pointer (some (Addr.mk b9 0 none))) ∧ True) ⟨rfl, trivial⟩ ?_
  rintro ρ ⟨e1, -⟩
  refine wpC_region ?_
  refine wpR_val (v := (Value.pointer (some ((Addr.mk b9 0 none).add 2)))) (w' := w1) rfl rfl rfl (x_fieldAddr rfl e1 FA_34_2) ?_
  obtain ⟨x10, q10, h⟩ := h
  refine wpR_val (v := (Value.int .i64 x10)) (w' := w1) rfl rfl rfl (x_load1 rfl rfl SH_3 q10) ?_
  refine wpR_val (v := (Value.bool (decide (x10 = 0)))) (w' := w1) rfl rfl rfl (x_eql rfl rfl rfl) ?_
  refine wpR_val (v := (Value.bool (decide (x10 = 0)))) (w' := w1) rfl rfl rfl (x_assign (v := (Value.bool (decide (x10 = 0)))) rfl rfl) ?_
  refine wpR_nil ?_
  refine wpC_ret ?_
  exact ⟨.inl rfl, fun a ha => ⟨_, results_rep1 rfl ha rfl, decide (x10 = 0), rfl, h⟩⟩

/-- ring.valid -/
def F30 (p0 : Sl) (p1 : Int) (w0 : World) (K : Bool → World → Prop) : Prop :=
  nw 3 #[(Value.int .i64 p1)] w0 fun b9 w1 =>
  ld (Value.int .i64) (Addr.mk b9 0 none) w1 fun x10 =>
  jp (fun J11 => cnd (decide (1 ≤ x10))
    (
    ld (Value.int .i64) (Addr.mk b9 0 none) w1 fun x13 =>
    J11 (decide (x13 ≤ 12))
    )
    (
    J11 false
    ))
  fun c14 =>
  jn (fun J17 => cnd (c14 && (decide ((p0.len : Int) ≤ 200)))
    (
    callC Try.prog 47 #[(Sl.v p0), (Value.func (.func 48) #[] (List.toArray [(Value.pointer (some (Addr.mk b9 0 none)))]))] (fun (r : Bool) => (Value.bool r)) w1 fun r19 w2 =>
    J17 (!r19) w2
    )
    (
    J17 false w1
    ))
  fun c20 w3 =>
  K c20 w3
set_option maxRecDepth 100000 in
theorem D30 (p0 : Sl) (p1 : Int) (w0 : World) (K : Bool → World → Prop) (h : F30 p0 p1 w0 K) : callC Try.prog 30 #[(Sl.v p0), (Value.int .i64 p1)] (fun (r : Bool) => (Value.bool r)) w0 K := by
  unfold F30 at h
  refine calls_of_wpC Try.func30 rfl 22 rfl (by simp) ?_
  intro ρ hρ
  have e0 : ρ 0 = (Sl.v p0) := hρ 0
  have e1 : ρ 1 = (Value.int .i64 p1) := hρ 1
  clear hρ
  refine wpC_seq ?_
  refine wpC_region ?_
  obtain ⟨b9, hb9⟩ : ∃ u, u = w0.heap.size := ⟨_, rfl⟩
  obtain ⟨w1, hw9⟩ : ∃ u, u = w0.alloc (.cells #[(Value.int .i64 p1)] 3) := ⟨_, rfl⟩
  replace h := h b9 w1 hb9 hw9
  refine wpR_val (v := (Value.pointer (some (Addr.mk b9 0 none)))) (w' := w1) rfl rfl rfl ((x_box (v := (Value.int .i64 p1)) rfl e1).trans (by rw [hb9, hw9]; rfl)) ?_
  refine wpR_val (v := (Value.bool false)) (w' := w1) rfl rfl rfl (x_assign (v := (Value.bool false)) rfl rfl) ?_
  refine wpR_nil ?_
  refine wpC_seq ?_
  refine wpC_cut (fun ρ => ρ 0 = (Sl.v p0) ∧ ρ 3 = (Value.pointer (some (Addr.mk b9 0 none))) ∧ True) ⟨e0, rfl, trivial⟩ ?_
  rintro ρ ⟨e0, e3, -⟩
  refine wpC_region ?_
  obtain ⟨x10, q10, h⟩ := h
  refine wpR_val (v := (Value.int .i64 x10)) (w' := w1) rfl rfl rfl (x_load1 rfl e3 SH_3 q10) ?_
  refine wpR_val (v := (Value.bool (decide (1 ≤ x10)))) (w' := w1) rfl rfl rfl (x_geq rfl rfl rfl) ?_
  refine wpR_val (v := (Value.bool (decide (1 ≤ x10)))) (w' := w1) rfl rfl rfl (x_move (v := (Value.bool (decide (1 ≤ x10)))) rfl rfl) ?_
  obtain ⟨J11, h, hk⟩ := h
  refine wpR_joinJ 3 (fun x ρ => ρ 10 = Value.bool x ∧ ρ 0 = (Sl.v p0) ∧ ρ 3 = (Value.pointer (some (Addr.mk b9 0 none))) ∧ True) (fun x w => J11 x ∧ w1 = w) ?_ ?_
  · clear hk
    rcases Bool.eq_false_or_eq_true (decide (1 ≤ x10)) with hc12 | hc12
    · replace h := h.1 hc12
      obtain ⟨x13, q13, h⟩ := h
      refine wpR_val (v := (Value.int .i64 x13)) (w' := w1) (wantG rfl rfl rfl hc12) rfl rfl (x_load1 rfl e3 SH_3 q13) ?_
      refine wpR_val (v := (Value.bool (decide (x13 ≤ 12)))) (w' := w1) (wantG rfl rfl rfl hc12) rfl rfl (x_leq rfl rfl rfl) ?_
      refine wpR_val (v := (Value.bool (decide (x13 ≤ 12)))) (w' := w1) rfl rfl rfl (x_pickT (v := (Value.bool (decide (x13 ≤ 12)))) rfl rfl hc12 rfl) ?_
      refine wpR_nil ?_
      exact ⟨decide (x13 ≤ 12), ⟨rfl, e0, e3, trivial⟩, h, rfl⟩
    · replace h := h.2 hc12
      refine wpR_pass (wantN rfl rfl rfl hc12) rfl rfl ?_
      refine wpR_pass (wantN rfl rfl rfl hc12) rfl rfl ?_
      refine wpR_val (v := (Value.bool false)) (w' := w1) rfl rfl rfl (x_pickF (v := (Value.bool false)) rfl rfl hc12 rfl) ?_
      refine wpR_nil ?_
      exact ⟨false, ⟨rfl, e0, e3, trivial⟩, h, rfl⟩
  clear h
  rintro c14 ρ wj ⟨e10, e0, e3, -⟩ ⟨h, rfl⟩
  replace h := hk c14 h
  clear hk
  refine wpR_val (v := (Value.bool c14)) (w' := w1) rfl rfl rfl (x_move (v := (Value.bool c14)) rfl e10) ?_
  refine wpR_joinJ 4 (fun (_ : Unit) ρ => ρ 15 = Value.bool (c14 && (decide ((p0.len : Int) ≤ 200))) ∧ ρ 0 = (Sl.v p0) ∧ ρ 3 = (Value.pointer (some (Addr.mk b9 0 none))) ∧ True) (fun _ w => w1 = w) ?_ ?_
  · clear h
    rcases Bool.eq_false_or_eq_true (c14) with hc16 | hc16
    · skip
      refine wpR_val (v := (Sl.v p0)) (w' := w1) (wantG rfl rfl rfl hc16) rfl rfl (x_move (v := (Sl.v p0)) rfl e0) ?_
      refine wpR_val (v := (Value.int .i64 (p0.len : Int))) (w' := w1) (wantG rfl rfl rfl hc16) rfl rfl (x_lenS (s := p0) rfl rfl isSliceT_55) ?_
      refine wpR_val (v := (Value.bool (decide ((p0.len : Int) ≤ 200)))) (w' := w1) (wantG rfl rfl rfl hc16) rfl rfl (x_leq rfl rfl rfl) ?_
      refine wpR_val (v := (Value.bool (decide ((p0.len : Int) ≤ 200)))) (w' := w1) rfl rfl rfl (x_pickT (v := (Value.bool (decide ((p0.len : Int) ≤ 200)))) rfl rfl hc16 rfl) ?_
      refine wpR_nil ?_
      exact ⟨(), ⟨(by rw [hc16]; rfl), e0, e3, trivial⟩, rfl⟩
    · skip
      refine wpR_pass (wantN rfl rfl rfl hc16) rfl rfl ?_
      refine wpR_pass (wantN rfl rfl rfl hc16) rfl rfl ?_
      refine wpR_pass (wantN rfl rfl rfl hc16) rfl rfl ?_
      refine wpR_val (v := (Value.bool false)) (w' := w1) rfl rfl rfl (x_pickF (v := (Value.bool false)) rfl rfl hc16 rfl) ?_
      refine wpR_nil ?_
      exact ⟨(), ⟨(by rw [hc16]; rfl), e0, e3, trivial⟩, rfl⟩
  rintro _ ρ wj ⟨e15, e0, e3, -⟩ rfl
  refine wpR_val (v := (Value.bool (c14 && (decide ((p0.len : Int) ≤ 200))))) (w' := w1) rfl rfl rfl (x_move (v := (Value.bool (c14 && (decide ((p0.len : Int) ≤ 200))))) rfl e15) ?_
  obtain ⟨J17, h, hk⟩ := h
  refine wpR_joinJ 5 (fun x ρ => ρ 21 = Value.bool x ∧ True) (J17) ?_ ?_
  · clear hk
    rcases Bool.eq_false_or_eq_true (c14 && (decide ((p0.len : Int) ≤ 200))) with hc18 | hc18
    · replace h := h.1 hc18
      refine wpR_val (v := (Sl.v p0)) (w' := w1) (wantG rfl rfl rfl hc18) rfl rfl (x_move (v := (Sl.v p0)) rfl e0) ?_
      refine wpR_val (v := (Value.func (.func 48) #[] (List.toArray [(Value.pointer (some (Addr.mk b9 0 none)))]))) (w' := w1) (wantG rfl rfl rfl hc18) rfl rfl (x_makeFunc (vs := [(Value.pointer (some (Addr.mk b9 0 none)))]) rfl (mapl_cons e3 mapl_nil)) ?_
      refine wpR_enter (wantG rfl rfl rfl hc18) rfl rfl (x_call (vs := [(Sl.v p0), (Value.func (.func 48) #[] (List.toArray [(Value.pointer (some (Addr.mk b9 0 none)))]))]) rfl rfl (mapl_cons rfl (mapl_cons rfl mapl_nil)) Try.func47 NN_47 NB_47) (Calls.mono h ?_)
      rintro _ w2 ⟨r19, rfl, h⟩
      refine ⟨_, rfl, ?_⟩
      refine wpR_val (v := (Value.bool (!r19))) (w' := w2) (wantG rfl rfl rfl hc18) rfl rfl (x_not rfl rfl) ?_
      refine wpR_val (v := (Value.bool (!r19))) (w' := w2) rfl rfl rfl (x_pickT (v := (Value.bool (!r19))) rfl rfl hc18 rfl) ?_
      refine wpR_nil ?_
      exact ⟨!r19, ⟨rfl, trivial⟩, h⟩
    · replace h := h.2 hc18
      refine wpR_pass (wantN rfl rfl rfl hc18) rfl rfl ?_
      refine wpR_pass (wantN rfl rfl rfl hc18) rfl rfl ?_
      refine wpR_pass (wantN rfl rfl rfl hc18) rfl rfl ?_
      refine wpR_pass (wantN rfl rfl rfl hc18) rfl rfl ?_
      refine wpR_val (v := (Value.bool false)) (w' := w1) rfl rfl rfl (x_pickF (v := (Value.bool false)) rfl rfl hc18 rfl) ?_
      refine wpR_nil ?_
      exact ⟨false, ⟨rfl, trivial⟩, h⟩
  clear h
  rintro c20 ρ w3 ⟨e21, -⟩ h
  replace h := hk c20 w3 h
  clear hk
  refine wpR_val (v := (Value.bool c20)) (w' := w3) rfl rfl rfl (x_assign (v := (Value.bool c20)) rfl e21) ?_
  refine wpR_nil ?_
  refine wpC_ret ?_
  exact ⟨.inl rfl, fun a ha => ⟨_, results_rep1 rfl ha rfl, c20, rfl, h⟩⟩

/-- ring.path -/
def F31 (p0 : Sl) (p1 : Sl) (p2 : Int) (p3 : Int) (w0 : World) (K : (Sl × Bool) → World → Prop) : Prop :=
  rn Try.prog (Instr.makeMap 106 none) (fun (r : (Option Nat)) => (Value.map r)) w0 fun r9 w1 =>
  rn0 Try.prog (Instr.mapUpdate 106 (Value.map r9) (Value.int .i64 p2) (Value.int .i64 (-1))) w1 fun w2 =>
  nw 3 #[(Value.int .i64 p2)] w2 fun b11 w3 =>
  lp (fun (next12 : Sl → World → Prop) l12 w4 =>
    cnd (decide (0 < (l12.len : Int)))
      (
      ix l12 0 1 fun p14 =>
      ld (Value.int .i64) p14 w4 fun x15 =>
      rn Try.prog (Instr.sliceAt 38 (Sl.v l12) (some (Value.int .i64 1)) none none) (fun (r : Sl) => (Sl.v r)) w4 fun r16 w5 =>
      lp (fun (next17 : (Sl × Int) → World → Prop) l17 w6 =>
        cnd (decide (l17.2 < (p1.len : Int)))
          (
          jn (fun (J19 : Sl → World → Prop) =>
            ix p1 l17.2 1 fun p21 =>
            ld (Value.int .i64) p21 w6 fun x22 =>
            ix p0 x22 3 fun p23 =>
            ld (Value.int .i64) (p23.add 0) w6 fun x24 =>
            ld (Value.int .i64) (p23.add 1) w6 fun x25 =>
            ld Value.bool (p23.add 2) w6 fun x26 =>
            nw 54 #[(Value.int .i64 0), (Value.int .i64 0), (Value.bool false)] w6 fun b27 w8 =>
            st (Addr.mk b27 0 none) [(Value.int .i64 x24), (Value.int .i64 x25), (Value.bool x26)] w8 fun w9 =>
            ld (Value.int .i64) ((Addr.mk b27 0 none).add 1) w9 fun x29 =>
            rn Try.prog (Instr.lookup 106 (Value.map r9) (Value.int .i64 x29) true) (fun (r : Int × Bool) => (Value.tuple #[(Value.int .i64 r.1), (Value.bool r.2)])) w9 fun r30 w10 =>
            ld (Value.int .i64) ((Addr.mk b27 0 none).add 0) w10 fun x31 =>
            cnd ((decide (x31 = x15)) && (!r30.2))
              (
              ld (Value.int .i64) ((Addr.mk b27 0 none).add 1) w10 fun x35 =>
              rn0 Try.prog (Instr.mapUpdate 106 (Value.map r9) (Value.int .i64 x35) (Value.int .i64 x22)) w10 fun w11 =>
              ld (Value.int .i64) ((Addr.mk b27 0 none).add 1) w11 fun x37 =>
              nw 3 #[(Value.int .i64 x37)] w11 fun b38 w12 =>
              rn Try.prog (Builtin.append_ #[38, 38] 38 #[Sl.v l17.1, Sl.v (⟨some ⟨b38, 0, none⟩, 1, 1⟩ : Sl)]) Sl.v w12 fun r39 w13 =>
              J19 r39 w13
              )
              (
              J19 l17.1 w10
              )
          )
          fun l20 w7 =>
          next17 (l20, IntKind.i64.wrap (l17.2 + 1)) w7
          )
          (
          next12 l17.1 w6
          )
      ) (r16, 0) w5
      )
      (
      rn Try.prog (Instr.lookup 106 (Value.map r9) (Value.int .i64 p3) true) (fun (r : Int × Bool) => (Value.tuple #[(Value.int .i64 r.1), (Value.bool r.2)])) w4 fun r40 w14 =>
      cnd (!r40.2)
        (
        K (Sl.nil, false) w14
        )
        (
        lp (fun (next42 : (Sl × Int) → World → Prop) l42 w15 =>
          cnd (!decide (l42.2 = p2))
            (
            rn Try.prog (Instr.lookup 106 (Value.map r9) (Value.int .i64 l42.2) false) (fun (r : Int) => (Value.int .i64 r)) w15 fun r44 w16 =>
            nw 3 #[(Value.int .i64 r44)] w16 fun b45 w17 =>
            rn Try.prog (Builtin.append_ #[38, 38] 38 #[Sl.v l42.1, Sl.v (⟨some ⟨b45, 0, none⟩, 1, 1⟩ : Sl)]) Sl.v w17 fun r46 w18 =>
            rn Try.prog (Instr.lookup 106 (Value.map r9) (Value.int .i64 l42.2) false) (fun (r : Int) => (Value.int .i64 r)) w18 fun r47 w19 =>
            ix p0 r47 3 fun p48 =>
            ld (Value.int .i64) (p48.add 0) w19 fun x49 =>
            next42 (r46, x49) w19
            )
            (
            callC Try.prog 49 #[(Sl.v l42.1)] (fun (_ : Unit) => (Value.tuple #[])) w15 fun _r50 w20 =>
            K (l42.1, true) w20
            )
        ) (Sl.nil, p3) w14
        )
      )
  ) (⟨some ⟨b11, 0, none⟩, 1, 1⟩ : Sl) w3
set_option maxRecDepth 100000 in
theorem D31 (p0 : Sl) (p1 : Sl) (p2 : Int) (p3 : Int) (w0 : World) (K : (Sl × Bool) → World → Prop) (h : F31 p0 p1 p2 p3 w0 K) : callC Try.prog 31 #[(Sl.v p0), (Sl.v p1), (Value.int .i64 p2), (Value.int .i64 p3)] (fun (r : Sl × Bool) => (Value.tuple #[(Sl.v r.1), (Value.bool r.2)])) w0 K := by
  unfold F31 at h
  refine calls_of_wpC Try.func31 rfl 98 rfl (by simp) ?_
  intro ρ hρ
  have e0 : ρ 0 = (Sl.v p0) := hρ 0
  have e1 : ρ 1 = (Sl.v p1) := hρ 1
  have e2 : ρ 2 = (Value.int .i64 p2) := hρ 2
  have e3 : ρ 3 = (Value.int .i64 p3) := hρ 3
  clear hρ
  refine wpC_seq ?_
  refine wpC_region ?_
  refine wpR_val (v := (Sl.v Sl.nil)) (w' := w0) rfl rfl rfl (x_assign (v := (Sl.v Sl.nil)) rfl rfl) ?_
  refine wpR_val (v := (Value.bool false)) (w' := w0) rfl rfl rfl (x_assign (v := (Value.bool false)) rfl rfl) ?_
  refine wpR_nil ?_
  refine wpC_seq ?_
  refine wpC_cut (fun ρ => ρ 0 = (Sl.v p0) ∧ ρ 1 = (Sl.v p1) ∧ ρ 2 = (Value.int .i64 p2) ∧ ρ 3 = (Value.int .i64 p3) ∧ True) ⟨e0, e1, e2, e3, trivial⟩ ?_
  rintro ρ ⟨e0, e1, e2, e3, -⟩
  refine wpC_region ?_
  obtain ⟨r9, w1, q9, h⟩ := h
  refine wpR_val (v := (Value.map r9)) (w' := w1) rfl rfl rfl (x_makeMap rfl rfl q9) ?_
  refine wpR_val (v := (Value.int .i64 p2)) (w' := w1) rfl rfl rfl (x_move (v := (Value.int .i64 p2)) rfl e2) ?_
  obtain ⟨w2, q10, h⟩ := h
  refine wpR_skp (w' := w2) rfl rfl (x_insert rfl rfl rfl rfl q10) ?_
  refine wpR_val (v := (Value.map r9)) (w' := w2) rfl rfl rfl (x_move (v := (Value.map r9)) rfl rfl) ?_
  refine wpR_val (v := (Value.int .i64 p2)) (w' := w2) rfl rfl rfl (x_move (v := (Value.int .i64 p2)) rfl e2) ?_
  obtain ⟨b11, hb11⟩ : ∃ u, u = w2.heap.size := ⟨_, rfl⟩
  obtain ⟨w3, hw11⟩ : ∃ u, u = w2.alloc (.cells #[(Value.int .i64 p2)] 3) := ⟨_, rfl⟩
  replace h := h b11 w3 hb11 hw11
  refine wpR_val (v := (Sl.v (⟨some ⟨b11, 0, none⟩, 1, 1⟩ : Sl))) (w' := w3) rfl rfl rfl ((x_buildSlice (qs := [(0, (Value.int .i64 p2))]) rfl (by rfl) (BS_38_1_0 p2)).trans (by rw [← hb11, ← hw11])) ?_
  refine wpR_val (v := (Value.map r9)) (w' := w3) rfl rfl rfl (x_assign (v := (Value.map r9)) rfl rfl) ?_
  refine wpR_val (v := (Sl.v (⟨some ⟨b11, 0, none⟩, 1, 1⟩ : Sl))) (w' := w3) rfl rfl rfl (x_assign (v := (Sl.v (⟨some ⟨b11, 0, none⟩, 1, 1⟩ : Sl))) rfl rfl) ?_
  refine wpR_nil ?_
  refine wpC_seq ?_
  refine wpC_block ?_
  obtain ⟨I12, μ12, hI12, hr12⟩ := h
  refine wpC_loop (fun (x : Sl) ρ => ρ 11 = (Sl.v x) ∧ ρ 0 = (Sl.v p0) ∧ ρ 1 = (Sl.v p1) ∧ ρ 2 = (Value.int .i64 p2) ∧ ρ 3 = (Value.int .i64 p3) ∧ ρ 10 = (Value.map r9) ∧ True) I12 μ12 (⟨some ⟨b11, 0, none⟩, 1, 1⟩ : Sl) ⟨rfl, e0, e1, e2, e3, rfl, trivial⟩ hI12 ?_
  rintro l12 ρ w4 ⟨e11, e0, e1, e2, e3, e10, -⟩ h
  replace h := hr12 l12 w4 h
  clear hr12 hI12
  refine wpC_seq ?_
  refine wpC_seq ?_
  refine wpC_region ?_
  refine wpR_val (v := (Sl.v l12)) (w' := w4) rfl rfl rfl (x_move (v := (Sl.v l12)) rfl e11) ?_
  refine wpR_val (v := (Value.int .i64 (l12.len : Int))) (w' := w4) rfl rfl rfl (x_lenS (s := l12) rfl rfl isSliceT_38) ?_
  refine wpR_val (v := (Value.bool (decide (0 < (l12.len : Int))))) (w' := w4) rfl rfl rfl (x_gtr rfl rfl rfl) ?_
  refine wpR_nil ?_
  refine wpC_cond (b := decide (0 < (l12.len : Int))) rfl (fun hc13 => ?_) (fun hc13 => ?_)
  · replace h := h.1 hc13
    refine wpC_skip ?_
    refine wpC_block ?_
    refine wpC_seq ?_
    refine wpC_cut (fun ρ => ρ 0 = (Sl.v p0) ∧ ρ 1 = (Sl.v p1) ∧ ρ 2 = (Value.int .i64 p2) ∧ ρ 3 = (Value.int .i64 p3) ∧ ρ 10 = (Value.map r9) ∧ ρ 11 = (Sl.v l12) ∧ True) ⟨e0, e1, e2, e3, e10, e11, trivial⟩ ?_
    rintro ρ ⟨e0, e1, e2, e3, e10, e11, -⟩
    refine wpC_region ?_
    refine wpR_val (v := (Sl.v l12)) (w' := w4) rfl rfl rfl (x_move (v := (Sl.v l12)) rfl e11) ?_
    obtain ⟨q14, z14, r14, h⟩ := h
    generalize hp14 : z14.add ((0 : Int).toNat * 1) = p14 at h
    refine wpR_val (v := (Value.pointer (some p14))) (w' := w4) rfl rfl rfl ((x_indexAddr (s := l12) rfl rfl rfl ES_38 q14 r14).trans (by rw [hp14])) ?_
    obtain ⟨x15, q15, h⟩ := h
    refine wpR_val (v := (Value.int .i64 x15)) (w' := w4) rfl rfl rfl (x_load1 rfl rfl SH_3 q15) ?_
    refine wpR_val (v := (Value.int .i64 x15)) (w' := w4) rfl rfl rfl (x_assign (v := (Value.int .i64 x15)) rfl rfl) ?_
    refine wpR_nil ?_
    refine wpC_seq ?_
    refine wpC_cut (fun ρ => ρ 0 = (Sl.v p0) ∧ ρ 1 = (Sl.v p1) ∧ ρ 2 = (Value.int .i64 p2) ∧ ρ 3 = (Value.int .i64 p3) ∧ ρ 10 = (Value.map r9) ∧ ρ 11 = (Sl.v l12) ∧ ρ 12 = (Value.int .i64 x15) ∧ True) ⟨e0, e1, e2, e3, e10, e11, rfl, trivial⟩ ?_
    rintro ρ ⟨e0, e1, e2, e3, e10, e11, e12, -⟩
    refine wpC_region ?_
    refine wpR_val (v := (Sl.v l12)) (w' := w4) rfl rfl rfl (x_move (v := (Sl.v l12)) rfl e11) ?_
    obtain ⟨r16, w5, q16, h⟩ := h
    refine wpR_val (v := (Sl.v r16)) (w' := w5) rfl rfl rfl (x_sliceAt rfl rfl (congrArg some rfl) rfl rfl q16) ?_
    refine wpR_val (v := (Sl.v r16)) (w' := w5) rfl rfl rfl (x_assign (v := (Sl.v r16)) rfl rfl) ?_
    refine wpR_nil ?_
    refine wpC_seq ?_
    refine wpC_cut (fun ρ => ρ 0 = (Sl.v p0) ∧ ρ 1 = (Sl.v p1) ∧ ρ 2 = (Value.int .i64 p2) ∧ ρ 3 = (Value.int .i64 p3) ∧ ρ 10 = (Value.map r9) ∧ ρ 11 = (Sl.v r16) ∧ ρ 12 = (Value.int .i64 x15) ∧ True) ⟨e0, e1, e2, e3, e10, rfl, e12, trivial⟩ ?_
    rintro ρ ⟨e0, e1, e2, e3, e10, e11, e12, -⟩
    refine wpC_region ?_
    refine wpR_val (v := (Sl.v p1)) (w' := w5) rfl rfl rfl (x_move (v := (Sl.v p1)) rfl e1) ?_
    refine wpR_val (v := (Value.int .i64 (p1.len : Int))) (w' := w5) rfl rfl rfl (x_lenS (s := p1) rfl rfl isSliceT_38) ?_
    refine wpR_val (v := (Value.int .i64 0)) (w' := w5) rfl rfl rfl (x_move (v := (Value.int .i64 0)) rfl rfl) ?_
    refine wpR_nil ?_
    refine wpC_block ?_
    obtain ⟨I17, μ17, hI17, hr17⟩ := h
    refine wpC_loop (fun (x : Sl × Int) ρ => ρ 11 = (Sl.v x.1) ∧ ρ 37 = (Value.int .i64 x.2) ∧ ρ 0 = (Sl.v p0) ∧ ρ 1 = (Sl.v p1) ∧ ρ 2 = (Value.int .i64 p2) ∧ ρ 3 = (Value.int .i64 p3) ∧ ρ 10 = (Value.map r9) ∧ ρ 12 = (Value.int .i64 x15) ∧ ρ 35 = (Sl.v p1) ∧ ρ 36 = (Value.int .i64 (p1.len : Int)) ∧ True) I17 μ17 (r16, 0) ⟨e11, rfl, e0, e1, e2, e3, e10, e12, rfl, rfl, trivial⟩ hI17 ?_
    rintro l17 ρ w6 ⟨e11, e37, e0, e1, e2, e3, e10, e12, e35, e36, -⟩ h
    replace h := hr17 l17 w6 h
    clear hr17 hI17
    refine wpC_seq ?_
    refine wpC_region ?_
    refine wpR_val (v := (Value.bool (decide (l17.2 < (p1.len : Int))))) (w' := w6) rfl rfl rfl (x_lss rfl e37 e36) ?_
    refine wpR_nil ?_
    refine wpC_seq ?_
    refine wpC_cond (b := decide (l17.2 < (p1.len : Int))) rfl (fun hc18 => ?_) (fun hc18 => ?_)
    · replace h := h.1 hc18
      refine wpC_skip ?_
      obtain ⟨J19, h, hk⟩ := h
      refine wpC_seqJ (fun (x : Sl) ρ => ρ 11 = (Sl.v x) ∧ ρ 0 = (Sl.v p0) ∧ ρ 1 = (Sl.v p1) ∧ ρ 2 = (Value.int .i64 p2) ∧ ρ 3 = (Value.int .i64 p3) ∧ ρ 10 = (Value.map r9) ∧ ρ 12 = (Value.int .i64 x15) ∧ ρ 35 = (Sl.v p1) ∧ ρ 36 = (Value.int .i64 (p1.len : Int)) ∧ ρ 37 = (Value.int .i64 l17.2) ∧ True) J19 ?_ ?_
      · clear hk
        refine wpC_block ?_
        refine wpC_seq ?_
        refine wpC_cut (fun ρ => ρ 0 = (Sl.v p0) ∧ ρ 1 = (Sl.v p1) ∧ ρ 2 = (Value.int .i64 p2) ∧ ρ 3 = (Value.int .i64 p3) ∧ ρ 10 = (Value.map r9) ∧ ρ 11 = (Sl.v l17.1) ∧ ρ 12 = (Value.int .i64 x15) ∧ ρ 35 = (Sl.v p1) ∧ ρ 36 = (Value.int .i64 (p1.len : Int)) ∧ ρ 37 = (Value.int .i64 l17.2) ∧ True) ⟨e0, e1, e2, e3, e10, e11, e12, e35, e36, e37, trivial⟩ ?_
        rintro ρ ⟨e0, e1, e2, e3, e10, e11, e12, e35, e36, e37, -⟩
        refine wpC_region ?_
        obtain ⟨q21, z21, r21, h⟩ := h
        generalize hp21 : z21.add ((l17.2 : Int).toNat * 1) = p21 at h
        refine wpR_val (v := (Value.pointer (some p21))) (w' := w6) rfl rfl rfl ((x_indexAddr (s := p1) rfl e35 e37 ES_38 q21 r21).trans (by rw [hp21])) ?_
        obtain ⟨x22, q22, h⟩ := h
        refine wpR_val (v := (Value.int .i64 x22)) (w' := w6) rfl rfl rfl (x_load1 rfl rfl SH_3 q22) ?_
        refine wpR_val (v := (Value.int .i64 x22)) (w' := w6) rfl rfl rfl (x_assign (v := (Value.int .i64 x22)) rfl rfl) ?_
        refine wpR_nil ?_
        refine wpC_seq ?_
        refine wpC_cut (fun ρ => ρ 0 = (Sl.v p0) ∧ ρ 1 = (Sl.v p1) ∧ ρ 2 = (Value.int .i64 p2) ∧ ρ 3 = (Value.int .i64 p3) ∧ ρ 10 = (Value.map r9) ∧ ρ 11 = (Sl.v l17.1) ∧ ρ 12 = (Value.int .i64 x15) ∧ ρ 14 = (Value.int .i64 x22) ∧ ρ 35 = (Sl.v p1) ∧ ρ 36 = (Value.int .i64 (p1.len : Int)) ∧ ρ 37 = (Value.int .i64 l17.2) ∧ True) ⟨e0, e1, e2, e3, e10, e11, e12, rfl, e35, e36, e37, trivial⟩ ?_
        rintro ρ ⟨e0, e1, e2, e3, e10, e11, e12, e14, e35, e36, e37, -⟩
        refine wpC_region ?_
        refine wpR_val (v := (Sl.v p0)) (w' := w6) rfl rfl rfl (x_move (v := (Sl.v p0)) rfl e0) ?_
        refine wpR_val (v := (Value.int .i64 x22)) (w' := w6) rfl rfl rfl (x_move (v := (Value.int .i64 x22)) rfl e14) ?_
        obtain ⟨q23, z23, r23, h⟩ := h
        generalize hp23 : z23.add ((x22 : Int).toNat * 3) = p23 at h
        refine wpR_val (v := (Value.pointer (some p23))) (w' := w6) rfl rfl rfl ((x_indexAddr (s := p0) rfl rfl rfl ES_55 q23 r23).trans (by rw [hp23])) ?_
        obtain ⟨x24, q24, x25, q25, x26, q26, h⟩ := h
        refine wpR_val (v := (Value.agg #[(Value.int .i64 x24), (Value.int .i64 x25), (Value.bool x26)])) (w' := w6) rfl rfl rfl (x_loadN [(Value.int .i64 x24), (Value.int .i64 x25), (Value.bool x26)] rfl rfl SH_54 (CellsAt.out (CellsAt.cons q24 (CellsAt.cons q25 (CellsAt.cons q26 CellsAt.nil))))) ?_
        obtain ⟨b27, hb27⟩ : ∃ u, u = w6.heap.size := ⟨_, rfl⟩
        obtain ⟨w8, hw27⟩ : ∃ u, u = w6.alloc (.cells #[(Value.int .i64 0), (Value.int .i64 0), (Value.bool false)] 54) := ⟨_, rfl⟩
        replace h := h b27 w8 hb27 hw27
        refine wpR_val (v := (Value.pointer (some (Addr.mk b27 0 none)))) (w' := w8) rfl rfl rfl ((x_alloc rfl ZV_54).trans (by rw [hb27, hw27]; rfl)) ?_
        obtain ⟨q28, h⟩ := h
        obtain ⟨w9, hw28⟩ : ∃ u, u = setAll w8 (Addr.mk b27 0 none) [(Value.int .i64 x24), (Value.int .i64 x25), (Value.bool x26)] 0 := ⟨_, rfl⟩
        replace h := h w9 hw28
        refine wpR_skp (w' := w9) rfl rfl ((x_store (v := (Value.agg #[(Value.int .i64 x24), (Value.int .i64 x25), (Value.bool x26)])) rfl rfl rfl SZ_54 (ones (by rfl)) q28).trans (by rw [hw28]; rfl)) ?_
        refine wpR_nil ?_
        refine wpC_seq ?_
        refine wpC_cut (fun ρ => ρ 0 = (Sl.v p0) ∧ ρ 1 = (Sl.v p1) ∧ ρ 2 = (Value.int .i64 p2) ∧ ρ 3 = (Value.int .i64 p3) ∧ ρ 10 = (Value.map r9) ∧ ρ 11 = (Sl.v l17.1) ∧ ρ 12 = (Value.int .i64 x15) ∧ ρ 14 = (Value.int .i64 x22) ∧ ρ 15 = (Value.pointer (some (Addr.mk b27 0 none))) ∧ ρ 35 = (Sl.v p1) ∧ ρ 36 = (Value.int .i64 (p1.len : Int)) ∧ ρ 37 = (Value.int .i64 l17.2) ∧ True) ⟨e0, e1, e2, e3, e10, e11, e12, e14, rfl, e35, e36, e37, trivial⟩ ?_
        rintro ρ ⟨e0, e1, e2, e3, e10, e11, e12, e14, e15, e35, e36, e37, -⟩
        refine wpC_region ?_
        refine wpR_val (v := (Value.map r9)) (w' := w9) rfl rfl rfl (x_move (v := (Value.map r9)) rfl e10) ?_
        refine wpR_val (v := (Value.pointer (some ((Addr.mk b27 0 none).add 1)))) (w' := w9) rfl rfl rfl (x_fieldAddr rfl e15 FA_54_1) ?_
        obtain ⟨x29, q29, h⟩ := h
        refine wpR_val (v := (Value.int .i64 x29)) (w' := w9) rfl rfl rfl (x_load1 rfl rfl SH_3 q29) ?_
        obtain ⟨r30, w10, q30, h⟩ := h
        refine wpR_val (v := (Value.tuple #[(Value.int .i64 r30.1), (Value.bool r30.2)])) (w' := w10) rfl rfl rfl (x_lookup rfl rfl rfl q30) ?_
        refine wpR_val (v := (Value.tuple #[(Value.int .i64 r30.1), (Value.bool r30.2)])) (w' := w10) rfl rfl rfl (x_move (v := (Value.tuple #[(Value.int .i64 r30.1), (Value.bool r30.2)])) rfl rfl) ?_
        refine wpR_val (v := (Value.int .i64 r30.1)) (w' := w10) rfl rfl rfl (x_extract rfl rfl rfl) ?_
        refine wpR_val (v := (Value.bool r30.2)) (w' := w10) rfl rfl rfl (x_extract rfl rfl rfl) ?_
        refine wpR_val (v := (Value.int .i64 r30.1)) (w' := w10) rfl rfl rfl (x_assign (v := (Value.int .i64 r30.1)) rfl rfl) ?_
        refine wpR_val (v := (Value.bool r30.2)) (w' := w10) rfl rfl rfl (x_assign (v := (Value.bool r30.2)) rfl rfl) ?_
        refine wpR_nil ?_
        refine wpC_seq ?_
        refine wpC_cut (fun ρ => ρ 0 = (Sl.v p0) ∧ ρ 1 = (Sl.v p1) ∧ ρ 2 = (Value.int .i64 p2) ∧ ρ 3 = (Value.int .i64 p3) ∧ ρ 10 = (Value.map r9) ∧ ρ 11 = (Sl.v l17.1) ∧ ρ 12 = (Value.int .i64 x15) ∧ ρ 14 = (Value.int .i64 x22) ∧ ρ 15 = (Value.pointer (some (Addr.mk b27 0 none))) ∧ ρ 17 = (Value.bool r30.2) ∧ ρ 35 = (Sl.v p1) ∧ ρ 36 = (Value.int .i64 (p1.len : Int)) ∧ ρ 37 = (Value.int .i64 l17.2) ∧ True) ⟨e0, e1, e2, e3, e10, e11, e12, e14, e15, rfl, e35, e36, e37, trivial⟩ ?_
        rintro ρ ⟨e0, e1, e2, e3, e10, e11, e12, e14, e15, e17, e35, e36, e37, -⟩
        refine wpC_region ?_
        refine wpR_val (v := (Value.pointer (some ((Addr.mk b27 0 none).add 0)))) (w' := w10) rfl rfl rfl (x_fieldAddr rfl e15 FA_54_0) ?_
        obtain ⟨x31, q31, h⟩ := h
        refine wpR_val (v := (Value.int .i64 x31)) (w' := w10) rfl rfl rfl (x_load1 rfl rfl SH_3 q31) ?_
        refine wpR_val (v := (Value.int .i64 x15)) (w' := w10) rfl rfl rfl (x_move (v := (Value.int .i64 x15)) rfl e12) ?_
        refine wpR_val (v := (Value.bool (decide (x31 = x15)))) (w' := w10) rfl rfl rfl (x_eql rfl rfl rfl) ?_
        refine wpR_val (v := (Value.bool (decide (x31 = x15)))) (w' := w10) rfl rfl rfl (x_move (v := (Value.bool (decide (x31 = x15)))) rfl rfl) ?_
        refine wpR_joinJ 3 (fun (_ : Unit) ρ => ρ 59 = Value.bool ((decide (x31 = x15)) && (!r30.2)) ∧ ρ 0 = (Sl.v p0) ∧ ρ 1 = (Sl.v p1) ∧ ρ 2 = (Value.int .i64 p2) ∧ ρ 3 = (Value.int .i64 p3) ∧ ρ 10 = (Value.map r9) ∧ ρ 11 = (Sl.v l17.1) ∧ ρ 12 = (Value.int .i64 x15) ∧ ρ 14 = (Value.int .i64 x22) ∧ ρ 15 = (Value.pointer (some (Addr.mk b27 0 none))) ∧ ρ 35 = (Sl.v p1) ∧ ρ 36 = (Value.int .i64 (p1.len : Int)) ∧ ρ 37 = (Value.int .i64 l17.2) ∧ True) (fun _ w => w10 = w) ?_ ?_
        · clear h
          rcases Bool.eq_false_or_eq_true (decide (x31 = x15)) with hc33 | hc33
          · skip
            refine wpR_val (v := (Value.bool r30.2)) (w' := w10) (wantG rfl rfl rfl hc33) rfl rfl (x_move (v := (Value.bool r30.2)) rfl e17) ?_
            refine wpR_val (v := (Value.bool (!r30.2))) (w' := w10) (wantG rfl rfl rfl hc33) rfl rfl (x_not rfl rfl) ?_
            refine wpR_val (v := (Value.bool (!r30.2))) (w' := w10) rfl rfl rfl (x_pickT (v := (Value.bool (!r30.2))) rfl rfl hc33 rfl) ?_
            refine wpR_nil ?_
            exact ⟨(), ⟨(by rw [hc33]; rfl), e0, e1, e2, e3, e10, e11, e12, e14, e15, e35, e36, e37, trivial⟩, rfl⟩
          · skip
            refine wpR_pass (wantN rfl rfl rfl hc33) rfl rfl ?_
            refine wpR_pass (wantN rfl rfl rfl hc33) rfl rfl ?_
            refine wpR_val (v := (Value.bool false)) (w' := w10) rfl rfl rfl (x_pickF (v := (Value.bool false)) rfl rfl hc33 rfl) ?_
            refine wpR_nil ?_
            exact ⟨(), ⟨(by rw [hc33]; rfl), e0, e1, e2, e3, e10, e11, e12, e14, e15, e35, e36, e37, trivial⟩, rfl⟩
        rintro _ ρ wj ⟨e59, e0, e1, e2, e3, e10, e11, e12, e14, e15, e35, e36, e37, -⟩ rfl
        refine wpR_nil ?_
        refine wpC_cond (b := (decide (x31 = x15)) && (!r30.2)) e59 (fun hc34 => ?_) (fun hc34 => ?_)
        · replace h := h.1 hc34
          refine wpC_seq ?_
          refine wpC_region ?_
          refine wpR_val (v := (Value.map r9)) (w' := w10) rfl rfl rfl (x_move (v := (Value.map r9)) rfl e10) ?_
          refine wpR_val (v := (Value.pointer (some ((Addr.mk b27 0 none).add 1)))) (w' := w10) rfl rfl rfl (x_fieldAddr rfl e15 FA_54_1) ?_
          obtain ⟨x35, q35, h⟩ := h
          refine wpR_val (v := (Value.int .i64 x35)) (w' := w10) rfl rfl rfl (x_load1 rfl rfl SH_3 q35) ?_
          refine wpR_val (v := (Value.int .i64 x22)) (w' := w10) rfl rfl rfl (x_move (v := (Value.int .i64 x22)) rfl e14) ?_
          obtain ⟨w11, q36, h⟩ := h
          refine wpR_skp (w' := w11) rfl rfl (x_mapUpdate rfl rfl rfl rfl q36) ?_
          refine wpR_nil ?_
          refine wpC_cut (fun ρ => ρ 0 = (Sl.v p0) ∧ ρ 1 = (Sl.v p1) ∧ ρ 2 = (Value.int .i64 p2) ∧ ρ 3 = (Value.int .i64 p3) ∧ ρ 10 = (Value.map r9) ∧ ρ 11 = (Sl.v l17.1) ∧ ρ 12 = (Value.int .i64 x15) ∧ ρ 15 = (Value.pointer (some (Addr.mk b27 0 none))) ∧ ρ 35 = (Sl.v p1) ∧ ρ 36 = (Value.int .i64 (p1.len : Int)) ∧ ρ 37 = (Value.int .i64 l17.2) ∧ True) ⟨e0, e1, e2, e3, e10, e11, e12, e15, e35, e36, e37, trivial⟩ ?_
          rintro ρ ⟨e0, e1, e2, e3, e10, e11, e12, e15, e35, e36, e37, -⟩
          refine wpC_region ?_
          refine wpR_val (v := (Sl.v l17.1)) (w' := w11) rfl rfl rfl (x_move (v := (Sl.v l17.1)) rfl e11) ?_
          refine wpR_val (v := (Value.pointer (some ((Addr.mk b27 0 none).add 1)))) (w' := w11) rfl rfl rfl (x_fieldAddr rfl e15 FA_54_1) ?_
          obtain ⟨x37, q37, h⟩ := h
          refine wpR_val (v := (Value.int .i64 x37)) (w' := w11) rfl rfl rfl (x_load1 rfl rfl SH_3 q37) ?_
          obtain ⟨b38, hb38⟩ : ∃ u, u = w11.heap.size := ⟨_, rfl⟩
          obtain ⟨w12, hw38⟩ : ∃ u, u = w11.alloc (.cells #[(Value.int .i64 x37)] 3) := ⟨_, rfl⟩
          replace h := h b38 w12 hb38 hw38
          refine wpR_val (v := (Sl.v (⟨some ⟨b38, 0, none⟩, 1, 1⟩ : Sl))) (w' := w12) rfl rfl rfl ((x_buildSlice (qs := [(0, (Value.int .i64 x37))]) rfl (by rfl) (BS_38_1_0 x37)).trans (by rw [← hb38, ← hw38])) ?_
          obtain ⟨r39, w13, q39, h⟩ := h
          refine wpR_val (v := (Sl.v r39)) (w' := w13) rfl rfl rfl (x_append (s := l17.1) (u := (⟨some ⟨b38, 0, none⟩, 1, 1⟩ : Sl)) rfl rfl rfl rfl q39) ?_
          refine wpR_val (v := (Sl.v r39)) (w' := w13) rfl rfl rfl (x_assign (v := (Sl.v r39)) rfl rfl) ?_
          refine wpR_nil ?_
          exact ⟨r39, ⟨rfl, e0, e1, e2, e3, e10, e12, e35, e36, e37, trivial⟩, h⟩
        · replace h := h.2 hc34
          refine wpC_skip ?_
          exact ⟨l17.1, ⟨e11, e0, e1, e2, e3, e10, e12, e35, e36, e37, trivial⟩, h⟩
      clear h
      rintro l20 ρ w7 ⟨e11, e0, e1, e2, e3, e10, e12, e35, e36, e37, -⟩ h
      replace h := hk l20 w7 h
      clear hk
      refine wpC_region ?_
      refine wpR_val (v := (Value.int .i64 (IntKind.i64.wrap (l17.2 + 1)))) (w' := w7) rfl rfl rfl (x_add rfl e37 rfl) ?_
      refine wpR_val (v := (Value.int .i64 (IntKind.i64.wrap (l17.2 + 1)))) (w' := w7) rfl rfl rfl (x_move (v := (Value.int .i64 (IntKind.i64.wrap (l17.2 + 1)))) rfl rfl) ?_
      refine wpR_nil ?_
      exact ⟨(l20, IntKind.i64.wrap (l17.2 + 1)), ⟨e11, rfl, e0, e1, e2, e3, e10, e12, e35, e36, trivial⟩, h⟩
    · replace h := h.2 hc18
      refine wpC_exit ?_
      exact ⟨l17.1, ⟨e11, e0, e1, e2, e3, e10, trivial⟩, h⟩
  · replace h := h.2 hc13
    refine wpC_exit ?_
    refine wpC_seq ?_
    refine wpC_seq ?_
    refine wpC_cut (fun ρ => ρ 0 = (Sl.v p0) ∧ ρ 2 = (Value.int .i64 p2) ∧ ρ 3 = (Value.int .i64 p3) ∧ ρ 10 = (Value.map r9) ∧ True) ⟨e0, e2, e3, e10, trivial⟩ ?_
    rintro ρ ⟨e0, e2, e3, e10, -⟩
    refine wpC_region ?_
    refine wpR_val (v := (Value.map r9)) (w' := w4) rfl rfl rfl (x_move (v := (Value.map r9)) rfl e10) ?_
    refine wpR_val (v := (Value.int .i64 p3)) (w' := w4) rfl rfl rfl (x_move (v := (Value.int .i64 p3)) rfl e3) ?_
    obtain ⟨r40, w14, q40, h⟩ := h
    refine wpR_val (v := (Value.tuple #[(Value.int .i64 r40.1), (Value.bool r40.2)])) (w' := w14) rfl rfl rfl (x_lookup rfl rfl rfl q40) ?_
    refine wpR_val (v := (Value.tuple #[(Value.int .i64 r40.1), (Value.bool r40.2)])) (w' := w14) rfl rfl rfl (x_move (v := (Value.tuple #[(Value.int .i64 r40.1), (Value.bool r40.2)])) rfl rfl) ?_
    refine wpR_val (v := (Value.int .i64 r40.1)) (w' := w14) rfl rfl rfl (x_extract rfl rfl rfl) ?_
    refine wpR_val (v := (Value.bool r40.2)) (w' := w14) rfl rfl rfl (x_extract rfl rfl rfl) ?_
    refine wpR_val (v := (Value.int .i64 r40.1)) (w' := w14) rfl rfl rfl (x_assign (v := (Value.int .i64 r40.1)) rfl rfl) ?_
    refine wpR_val (v := (Value.bool r40.2)) (w' := w14) rfl rfl rfl (x_assign (v := (Value.bool r40.2)) rfl rfl) ?_
    refine wpR_nil ?_
    refine wpC_seq ?_
    refine wpC_cut (fun ρ => ρ 0 = (Sl.v p0) ∧ ρ 2 = (Value.int .i64 p2) ∧ ρ 3 = (Value.int .i64 p3) ∧ ρ 10 = (Value.map r9) ∧ ρ 19 = (Value.bool r40.2) ∧ True) ⟨e0, e2, e3, e10, rfl, trivial⟩ ?_
    rintro ρ ⟨e0, e2, e3, e10, e19, -⟩
    refine wpC_region ?_
    refine wpR_val (v := (Value.bool r40.2)) (w' := w14) rfl rfl rfl (x_move (v := (Value.bool r40.2)) rfl e19) ?_
    refine wpR_val (v := (Value.bool (!r40.2))) (w' := w14) rfl rfl rfl (x_not rfl rfl) ?_
    refine wpR_nil ?_
    refine wpC_cond (b := !r40.2) rfl (fun hc41 => ?_) (fun hc41 => ?_)
    · replace h := h.1 hc41
      refine wpC_seq ?_
      refine wpC_cut (fun ρ => True) trivial ?_
      rintro ρ -
      refine wpC_region ?_
      refine wpR_val (v := (Sl.v Sl.nil)) (w' := w14) rfl rfl rfl (x_assign (v := (Sl.v Sl.nil)) rfl rfl) ?_
      refine wpR_val (v := (Value.bool false)) (w' := w14) rfl rfl rfl (x_assign (v := (Value.bool false)) rfl rfl) ?_
      refine wpR_nil ?_
      refine wpC_ret ?_
      exact ⟨.inl rfl, fun a ha => ⟨_, results_rep2 rfl ha rfl rfl, (Sl.nil, false), rfl, h⟩⟩
    · replace h := h.2 hc41
      refine wpC_skip ?_
      refine wpC_seq ?_
      refine wpC_cut (fun ρ => ρ 0 = (Sl.v p0) ∧ ρ 2 = (Value.int .i64 p2) ∧ ρ 3 = (Value.int .i64 p3) ∧ ρ 10 = (Value.map r9) ∧ True) ⟨e0, e2, e3, e10, trivial⟩ ?_
      rintro ρ ⟨e0, e2, e3, e10, -⟩
      refine wpC_region ?_
      refine wpR_val (v := (Sl.v Sl.nil)) (w' := w14) rfl rfl rfl (x_assign (v := (Sl.v Sl.nil)) rfl rfl) ?_
      refine wpR_nil ?_
      refine wpC_seq ?_
      refine wpC_seq ?_
      refine wpC_cut (fun ρ => ρ 0 = (Sl.v p0) ∧ ρ 2 = (Value.int .i64 p2) ∧ ρ 3 = (Value.int .i64 p3) ∧ ρ 10 = (Value.map r9) ∧ ρ 20 = (Sl.v Sl.nil) ∧ True) ⟨e0, e2, e3, e10, rfl, trivial⟩ ?_
      rintro ρ ⟨e0, e2, e3, e10, e20, -⟩
      refine wpC_region ?_
      refine wpR_val (v := (Value.int .i64 p3)) (w' := w14) rfl rfl rfl (x_move (v := (Value.int .i64 p3)) rfl e3) ?_
      refine wpR_val (v := (Value.int .i64 p3)) (w' := w14) rfl rfl rfl (x_assign (v := (Value.int .i64 p3)) rfl rfl) ?_
      refine wpR_nil ?_
      refine wpC_block ?_
      obtain ⟨I42, μ42, hI42, hr42⟩ := h
      refine wpC_loop (fun (x : Sl × Int) ρ => ρ 20 = (Sl.v x.1) ∧ ρ 21 = (Value.int .i64 x.2) ∧ ρ 0 = (Sl.v p0) ∧ ρ 2 = (Value.int .i64 p2) ∧ ρ 10 = (Value.map r9) ∧ True) I42 μ42 (Sl.nil, p3) ⟨e20, rfl, e0, e2, e10, trivial⟩ hI42 ?_
      rintro l42 ρ w15 ⟨e20, e21, e0, e2, e10, -⟩ h
      replace h := hr42 l42 w15 h
      clear hr42 hI42
      refine wpC_seq ?_
      refine wpC_seq ?_
      refine wpC_region ?_
      refine wpR_val (v := (Value.int .i64 l42.2)) (w' := w15) rfl rfl rfl (x_move (v := (Value.int .i64 l42.2)) rfl e21) ?_
      refine wpR_val (v := (Value.int .i64 p2)) (w' := w15) rfl rfl rfl (x_move (v := (Value.int .i64 p2)) rfl e2) ?_
      refine wpR_val (v := (Value.bool (!decide (l42.2 = p2)))) (w' := w15) rfl rfl rfl (x_neq rfl rfl rfl) ?_
      refine wpR_nil ?_
      refine wpC_cond (b := !decide (l42.2 = p2)) rfl (fun hc43 => ?_) (fun hc43 => ?_)
      · replace h := h.1 hc43
        refine wpC_skip ?_
        refine wpC_seq ?_
        refine wpC_block ?_
        refine wpC_cut (fun ρ => ρ 0 = (Sl.v p0) ∧ ρ 2 = (Value.int .i64 p2) ∧ ρ 10 = (Value.map r9) ∧ ρ 20 = (Sl.v l42.1) ∧ ρ 21 = (Value.int .i64 l42.2) ∧ True) ⟨e0, e2, e10, e20, e21, trivial⟩ ?_
        rintro ρ ⟨e0, e2, e10, e20, e21, -⟩
        refine wpC_region ?_
        refine wpR_val (v := (Sl.v l42.1)) (w' := w15) rfl rfl rfl (x_move (v := (Sl.v l42.1)) rfl e20) ?_
        refine wpR_val (v := (Value.map r9)) (w' := w15) rfl rfl rfl (x_move (v := (Value.map r9)) rfl e10) ?_
        refine wpR_val (v := (Value.int .i64 l42.2)) (w' := w15) rfl rfl rfl (x_move (v := (Value.int .i64 l42.2)) rfl e21) ?_
        obtain ⟨r44, w16, q44, h⟩ := h
        refine wpR_val (v := (Value.int .i64 r44)) (w' := w16) rfl rfl rfl (x_lookup rfl rfl rfl q44) ?_
        obtain ⟨b45, hb45⟩ : ∃ u, u = w16.heap.size := ⟨_, rfl⟩
        obtain ⟨w17, hw45⟩ : ∃ u, u = w16.alloc (.cells #[(Value.int .i64 r44)] 3) := ⟨_, rfl⟩
        replace h := h b45 w17 hb45 hw45
        refine wpR_val (v := (Sl.v (⟨some ⟨b45, 0, none⟩, 1, 1⟩ : Sl))) (w' := w17) rfl rfl rfl ((x_buildSlice (qs := [(0, (Value.int .i64 r44))]) rfl (by rfl) (BS_38_1_0 r44)).trans (by rw [← hb45, ← hw45])) ?_
        obtain ⟨r46, w18, q46, h⟩ := h
        refine wpR_val (v := (Sl.v r46)) (w' := w18) rfl rfl rfl (x_append (s := l42.1) (u := (⟨some ⟨b45, 0, none⟩, 1, 1⟩ : Sl)) rfl rfl rfl rfl q46) ?_
        refine wpR_val (v := (Sl.v r46)) (w' := w18) rfl rfl rfl (x_assign (v := (Sl.v r46)) rfl rfl) ?_
        refine wpR_nil ?_
        refine wpC_cut (fun ρ => ρ 0 = (Sl.v p0) ∧ ρ 2 = (Value.int .i64 p2) ∧ ρ 10 = (Value.map r9) ∧ ρ 20 = (Sl.v r46) ∧ ρ 21 = (Value.int .i64 l42.2) ∧ True) ⟨e0, e2, e10, rfl, e21, trivial⟩ ?_
        rintro ρ ⟨e0, e2, e10, e20, e21, -⟩
        refine wpC_region ?_
        refine wpR_val (v := (Sl.v p0)) (w' := w18) rfl rfl rfl (x_move (v := (Sl.v p0)) rfl e0) ?_
        refine wpR_val (v := (Value.map r9)) (w' := w18) rfl rfl rfl (x_move (v := (Value.map r9)) rfl e10) ?_
        refine wpR_val (v := (Value.int .i64 l42.2)) (w' := w18) rfl rfl rfl (x_move (v := (Value.int .i64 l42.2)) rfl e21) ?_
        obtain ⟨r47, w19, q47, h⟩ := h
        refine wpR_val (v := (Value.int .i64 r47)) (w' := w19) rfl rfl rfl (x_lookup rfl rfl rfl q47) ?_
        obtain ⟨q48, z48, r48, h⟩ := h
        generalize hp48 : z48.add ((r47 : Int).toNat * 3) = p48 at h
        refine wpR_val (v := (Value.pointer (some p48))) (w' := w19) rfl rfl rfl ((x_indexAddr (s := p0) rfl rfl rfl ES_55 q48 r48).trans (by rw [hp48])) ?_
        refine wpR_val (v := (Value.pointer (some (p48.add 0)))) (w' := w19) rfl rfl rfl (x_fieldAddr rfl rfl FA_54_0) ?_
        obtain ⟨x49, q49, h⟩ := h
        refine wpR_val (v := (Value.int .i64 x49)) (w' := w19) rfl rfl rfl (x_load1 rfl rfl SH_3 q49) ?_
        refine wpR_val (v := (Value.int .i64 x49)) (w' := w19) rfl rfl rfl (x_assign (v := (Value.int .i64 x49)) rfl rfl) ?_
        refine wpR_nil ?_
        exact ⟨(r46, x49), ⟨e20, rfl, e0, e2, e10, trivial⟩, h⟩
      · replace h := h.2 hc43
        refine wpC_exit ?_
        refine wpC_seq ?_
        refine wpC_cut (fun ρ => ρ 20 = (Sl.v l42.1) ∧ True) ⟨e20, trivial⟩ ?_
        rintro ρ ⟨e20, -⟩
        refine wpC_region ?_
        refine wpR_val (v := (Sl.v l42.1)) (w' := w15) rfl rfl rfl (x_move (v := (Sl.v l42.1)) rfl e20) ?_
        refine wpR_enter rfl rfl rfl (x_call (vs := [(Sl.v l42.1)]) rfl rfl (mapl_cons rfl mapl_nil) Try.func49 NN_49 NB_49) (Calls.mono h ?_)
        rintro _ w20 ⟨r50, rfl, h⟩
        refine ⟨_, rfl, ?_⟩
        refine wpR_nil ?_
        refine wpC_seq ?_
        refine wpC_cut (fun ρ => ρ 20 = (Sl.v l42.1) ∧ True) ⟨e20, trivial⟩ ?_
        rintro ρ ⟨e20, -⟩
        refine wpC_region ?_
        refine wpR_val (v := (Sl.v l42.1)) (w' := w20) rfl rfl rfl (x_move (v := (Sl.v l42.1)) rfl e20) ?_
        refine wpR_val (v := (Sl.v l42.1)) (w' := w20) rfl rfl rfl (x_assign (v := (Sl.v l42.1)) rfl rfl) ?_
        refine wpR_val (v := (Value.bool true)) (w' := w20) rfl rfl rfl (x_assign (v := (Value.bool true)) rfl rfl) ?_
        refine wpR_nil ?_
        refine wpC_ret ?_
        exact ⟨.inl rfl, fun a ha => ⟨_, results_rep2 rfl ha rfl rfl, (l42.1, true), rfl, h⟩⟩

/-- ring.ranks -/
def F32 (p0 : Sl) (p1 : Sl) (p2 : Int) (w0 : World) (K : Sl → World → Prop) : Prop :=
  rn Try.prog (Instr.makeSlice 38 (Value.int .i64 p2) (Value.int .i64 p2)) (fun (r : Sl) => (Sl.v r)) w0 fun r9 w1 =>
  lp (fun (next10 : Int → World → Prop) l10 w2 =>
    cnd (decide (l10 < p2))
      (
      lp (fun (next12 : Int → World → Prop) l12 w3 =>
        cnd (decide (l12 < (p1.len : Int)))
          (
          ix p1 l12 1 fun p14 =>
          ld (Value.int .i64) p14 w3 fun x15 =>
          ix p0 x15 3 fun p16 =>
          ld (Value.int .i64) (p16.add 0) w3 fun x17 =>
          ld (Value.int .i64) (p16.add 1) w3 fun x18 =>
          ld Value.bool (p16.add 2) w3 fun x19 =>
          nw 54 #[(Value.int .i64 0), (Value.int .i64 0), (Value.bool false)] w3 fun b20 w4 =>
          st (Addr.mk b20 0 none) [(Value.int .i64 x17), (Value.int .i64 x18), (Value.bool x19)] w4 fun w5 =>
          jn (fun (J23 : Unit → World → Prop) => tk w5 fun w6 =>
            ld (Value.int .i64) ((Addr.mk b20 0 none).add 1) w6 fun x24 =>
            ld (Value.int .i64) ((Addr.mk b20 0 none).add 1) w6 fun x25 =>
            ix r9 x25 1 fun p26 =>
            ld (Value.int .i64) p26 w6 fun x27 =>
            ld (Value.int .i64) ((Addr.mk b20 0 none).add 0) w6 fun x28 =>
            ix r9 x28 1 fun p29 =>
            ld (Value.int .i64) p29 w6 fun x30 =>
            ix r9 x24 1 fun p31 =>
            st p31 [(Value.int .i64 (max x27 (IntKind.i64.wrap (x30 + 1))))] w6 fun w7 =>
            J23 () w7
          )
          fun _l33 w8 =>
          next12 (IntKind.i64.wrap (l12 + 1)) w8
          )
          (
          next10 (IntKind.i64.wrap (l10 + 1)) w3
          )
      ) 0 w2
      )
      (
      K r9 w2
      )
  ) 0 w1
set_option maxRecDepth 100000 in
theorem D32 (p0 : Sl) (p1 : Sl) (p2 : Int) (w0 : World) (K : Sl → World → Prop) (h : F32 p0 p1 p2 w0 K) : callC Try.prog 32 #[(Sl.v p0), (Sl.v p1), (Value.int .i64 p2)] (fun (r : Sl) => (Sl.v r)) w0 K := by
  unfold F32 at h
  refine calls_of_wpC Try.func32 rfl 45 rfl (by simp) ?_
  intro ρ hρ
  have e0 : ρ 0 = (Sl.v p0) := hρ 0
  have e1 : ρ 1 = (Sl.v p1) := hρ 1
  have e2 : ρ 2 = (Value.int .i64 p2) := hρ 2
  clear hρ
  refine wpC_seq ?_
  refine wpC_region ?_
  refine wpR_val (v := (Sl.v Sl.nil)) (w' := w0) rfl rfl rfl (x_assign (v := (Sl.v Sl.nil)) rfl rfl) ?_
  refine wpR_nil ?_
  refine wpC_seq ?_
  refine wpC_cut (fun ρ => ρ 0 = (Sl.v p0) ∧ ρ 1 = (Sl.v p1) ∧ ρ 2 = (Value.int .i64 p2) ∧ True) ⟨e0, e1, e2, trivial⟩ ?_
  rintro ρ ⟨e0, e1, e2, -⟩
  refine wpC_region ?_
  refine wpR_val (v := (Value.int .i64 p2)) (w' := w0) rfl rfl rfl (x_move (v := (Value.int .i64 p2)) rfl e2) ?_
  obtain ⟨r9, w1, q9, h⟩ := h
  refine wpR_val (v := (Sl.v r9)) (w' := w1) rfl rfl rfl (x_makeSlice rfl rfl rfl q9) ?_
  refine wpR_val (v := (Sl.v r9)) (w' := w1) rfl rfl rfl (x_assign (v := (Sl.v r9)) rfl rfl) ?_
  refine wpR_nil ?_
  refine wpC_seq ?_
  refine wpC_seq ?_
  refine wpC_cut (fun ρ => ρ 0 = (Sl.v p0) ∧ ρ 1 = (Sl.v p1) ∧ ρ 2 = (Value.int .i64 p2) ∧ ρ 7 = (Sl.v r9) ∧ True) ⟨e0, e1, e2, rfl, trivial⟩ ?_
  rintro ρ ⟨e0, e1, e2, e7, -⟩
  refine wpC_region ?_
  refine wpR_val (v := (Value.int .i64 p2)) (w' := w1) rfl rfl rfl (x_move (v := (Value.int .i64 p2)) rfl e2) ?_
  refine wpR_val (v := (Value.int .i64 0)) (w' := w1) rfl rfl rfl (x_move (v := (Value.int .i64 0)) rfl rfl) ?_
  refine wpR_nil ?_
  refine wpC_block ?_
  obtain ⟨I10, μ10, hI10, hr10⟩ := h
  refine wpC_loop (fun (x : Int) ρ => ρ 14 = (Value.int .i64 x) ∧ ρ 0 = (Sl.v p0) ∧ ρ 1 = (Sl.v p1) ∧ ρ 7 = (Sl.v r9) ∧ ρ 13 = (Value.int .i64 p2) ∧ True) I10 μ10 0 ⟨rfl, e0, e1, e7, rfl, trivial⟩ hI10 ?_
  rintro l10 ρ w2 ⟨e14, e0, e1, e7, e13, -⟩ h
  replace h := hr10 l10 w2 h
  clear hr10 hI10
  refine wpC_seq ?_
  refine wpC_region ?_
  refine wpR_val (v := (Value.bool (decide (l10 < p2)))) (w' := w2) rfl rfl rfl (x_lss rfl e14 e13) ?_
  refine wpR_nil ?_
  refine wpC_seq ?_
  refine wpC_cond (b := decide (l10 < p2)) rfl (fun hc11 => ?_) (fun hc11 => ?_)
  · replace h := h.1 hc11
    refine wpC_skip ?_
    refine wpC_seq ?_
    refine wpC_block ?_
    refine wpC_seq ?_
    refine wpC_cut (fun ρ => ρ 0 = (Sl.v p0) ∧ ρ 1 = (Sl.v p1) ∧ ρ 7 = (Sl.v r9) ∧ ρ 13 = (Value.int .i64 p2) ∧ ρ 14 = (Value.int .i64 l10) ∧ True) ⟨e0, e1, e7, e13, e14, trivial⟩ ?_
    rintro ρ ⟨e0, e1, e7, e13, e14, -⟩
    refine wpC_region ?_
    refine wpR_val (v := (Sl.v p1)) (w' := w2) rfl rfl rfl (x_move (v := (Sl.v p1)) rfl e1) ?_
    refine wpR_val (v := (Value.int .i64 (p1.len : Int))) (w' := w2) rfl rfl rfl (x_lenS (s := p1) rfl rfl isSliceT_38) ?_
    refine wpR_val (v := (Value.int .i64 0)) (w' := w2) rfl rfl rfl (x_move (v := (Value.int .i64 0)) rfl rfl) ?_
    refine wpR_nil ?_
    refine wpC_block ?_
    obtain ⟨I12, μ12, hI12, hr12⟩ := h
    refine wpC_loop (fun (x : Int) ρ => ρ 18 = (Value.int .i64 x) ∧ ρ 0 = (Sl.v p0) ∧ ρ 1 = (Sl.v p1) ∧ ρ 7 = (Sl.v r9) ∧ ρ 13 = (Value.int .i64 p2) ∧ ρ 14 = (Value.int .i64 l10) ∧ ρ 16 = (Sl.v p1) ∧ ρ 17 = (Value.int .i64 (p1.len : Int)) ∧ True) I12 μ12 0 ⟨rfl, e0, e1, e7, e13, e14, rfl, rfl, trivial⟩ hI12 ?_
    rintro l12 ρ w3 ⟨e18, e0, e1, e7, e13, e14, e16, e17, -⟩ h
    replace h := hr12 l12 w3 h
    clear hr12 hI12
    refine wpC_seq ?_
    refine wpC_region ?_
    refine wpR_val (v := (Value.bool (decide (l12 < (p1.len : Int))))) (w' := w3) rfl rfl rfl (x_lss rfl e18 e17) ?_
    refine wpR_nil ?_
    refine wpC_seq ?_
    refine wpC_cond (b := decide (l12 < (p1.len : Int))) rfl (fun hc13 => ?_) (fun hc13 => ?_)
    · replace h := h.1 hc13
      refine wpC_skip ?_
      refine wpC_seq ?_
      refine wpC_block ?_
      refine wpC_seq ?_
      refine wpC_cut (fun ρ => ρ 0 = (Sl.v p0) ∧ ρ 1 = (Sl.v p1) ∧ ρ 7 = (Sl.v r9) ∧ ρ 13 = (Value.int .i64 p2) ∧ ρ 14 = (Value.int .i64 l10) ∧ ρ 16 = (Sl.v p1) ∧ ρ 17 = (Value.int .i64 (p1.len : Int)) ∧ ρ 18 = (Value.int .i64 l12) ∧ True) ⟨e0, e1, e7, e13, e14, e16, e17, e18, trivial⟩ ?_
      rintro ρ ⟨e0, e1, e7, e13, e14, e16, e17, e18, -⟩
      refine wpC_region ?_
      obtain ⟨q14, z14, r14, h⟩ := h
      generalize hp14 : z14.add ((l12 : Int).toNat * 1) = p14 at h
      refine wpR_val (v := (Value.pointer (some p14))) (w' := w3) rfl rfl rfl ((x_indexAddr (s := p1) rfl e16 e18 ES_38 q14 r14).trans (by rw [hp14])) ?_
      obtain ⟨x15, q15, h⟩ := h
      refine wpR_val (v := (Value.int .i64 x15)) (w' := w3) rfl rfl rfl (x_load1 rfl rfl SH_3 q15) ?_
      refine wpR_val (v := (Value.int .i64 x15)) (w' := w3) rfl rfl rfl (x_assign (v := (Value.int .i64 x15)) rfl rfl) ?_
      refine wpR_nil ?_
      refine wpC_seq ?_
      refine wpC_cut (fun ρ => ρ 0 = (Sl.v p0) ∧ ρ 1 = (Sl.v p1) ∧ ρ 7 = (Sl.v r9) ∧ ρ 9 = (Value.int .i64 x15) ∧ ρ 13 = (Value.int .i64 p2) ∧ ρ 14 = (Value.int .i64 l10) ∧ ρ 16 = (Sl.v p1) ∧ ρ 17 = (Value.int .i64 (p1.len : Int)) ∧ ρ 18 = (Value.int .i64 l12) ∧ True) ⟨e0, e1, e7, rfl, e13, e14, e16, e17, e18, trivial⟩ ?_
      rintro ρ ⟨e0, e1, e7, e9, e13, e14, e16, e17, e18, -⟩
      refine wpC_region ?_
      refine wpR_val (v := (Sl.v p0)) (w' := w3) rfl rfl rfl (x_move (v := (Sl.v p0)) rfl e0) ?_
      refine wpR_val (v := (Value.int .i64 x15)) (w' := w3) rfl rfl rfl (x_move (v := (Value.int .i64 x15)) rfl e9) ?_
      obtain ⟨q16, z16, r16, h⟩ := h
      generalize hp16 : z16.add ((x15 : Int).toNat * 3) = p16 at h
      refine wpR_val (v := (Value.pointer (some p16))) (w' := w3) rfl rfl rfl ((x_indexAddr (s := p0) rfl rfl rfl ES_55 q16 r16).trans (by rw [hp16])) ?_
      obtain ⟨x17, q17, x18, q18, x19, q19, h⟩ := h
      refine wpR_val (v := (Value.agg #[(Value.int .i64 x17), (Value.int .i64 x18), (Value.bool x19)])) (w' := w3) rfl rfl rfl (x_loadN [(Value.int .i64 x17), (Value.int .i64 x18), (Value.bool x19)] rfl rfl SH_54 (CellsAt.out (CellsAt.cons q17 (CellsAt.cons q18 (CellsAt.cons q19 CellsAt.nil))))) ?_
      obtain ⟨b20, hb20⟩ : ∃ u, u = w3.heap.size := ⟨_, rfl⟩
      obtain ⟨w4, hw20⟩ : ∃ u, u = w3.alloc (.cells #[(Value.int .i64 0), (Value.int .i64 0), (Value.bool false)] 54) := ⟨_, rfl⟩
      replace h := h b20 w4 hb20 hw20
      refine wpR_val (v := (Value.pointer (some (Addr.mk b20 0 none)))) (w' := w4) rfl rfl rfl ((x_alloc rfl ZV_54).trans (by rw [hb20, hw20]; rfl)) ?_
      obtain ⟨q21, h⟩ := h
      obtain ⟨w5, hw21⟩ : ∃ u, u = setAll w4 (Addr.mk b20 0 none) [(Value.int .i64 x17), (Value.int .i64 x18), (Value.bool x19)] 0 := ⟨_, rfl⟩
      replace h := h w5 hw21
      refine wpR_skp (w' := w5) rfl rfl ((x_store (v := (Value.agg #[(Value.int .i64 x17), (Value.int .i64 x18), (Value.bool x19)])) rfl rfl rfl SZ_54 (ones (by rfl)) q21).trans (by rw [hw21]; rfl)) ?_
      refine wpR_nil ?_
      refine wpC_cut (fun ρ => ρ 0 = (Sl.v p0) ∧ ρ 1 = (Sl.v p1) ∧ ρ 7 = (Sl.v r9) ∧ ρ 10 = (Value.pointer (some (Addr.mk b20 0 none))) ∧ ρ 13 = (Value.int .i64 p2) ∧ ρ 14 = (Value.int .i64 l10) ∧ ρ 16 = (Sl.v p1) ∧ ρ 17 = (Value.int .i64 (p1.len : Int)) ∧ ρ 18 = (Value.int .i64 l12) ∧ True) ⟨e0, e1, e7, rfl, e13, e14, e16, e17, e18, trivial⟩ ?_
      rintro ρ ⟨e0, e1, e7, e10, e13, e14, e16, e17, e18, -⟩
      obtain ⟨J23, h, hk⟩ := h
      refine wpC_drawJ (by kernel_rfl) (fun (x : Unit) ρ => ρ 0 = (Sl.v p0) ∧ ρ 1 = (Sl.v p1) ∧ ρ 7 = (Sl.v r9) ∧ ρ 13 = (Value.int .i64 p2) ∧ ρ 14 = (Value.int .i64 l10) ∧ ρ 16 = (Sl.v p1) ∧ ρ 17 = (Value.int .i64 (p1.len : Int)) ∧ ρ 18 = (Value.int .i64 l12) ∧ True) J23 ?_ ?_
      · clear hk
        unfold tk at h
        generalize w5.drew = w6 at h ⊢
        refine wpD_take (v := (Sl.v r9)) 0 (fun _ => True) rfl (by kernel_rfl) (by kernel_rfl) (by kernel_rfl) rfl rfl rfl trivial (fun w _ => (x_move (v := (Sl.v r9)) rfl e7)) ?_
        refine wpD_take (v := (Value.pointer (some ((Addr.mk b20 0 none).add 1)))) 1 (fun _ => True) rfl (by kernel_rfl) (by kernel_rfl) (by kernel_rfl) rfl rfl rfl trivial (fun w _ => (x_fieldAddr rfl e10 FA_54_1)) ?_
        obtain ⟨x24, q24, h⟩ := h
        refine wpD_take (v := (Value.int .i64 x24)) 2 (fun w => w.cell? ((Addr.mk b20 0 none).add 1) = some (Value.int .i64 x24)) rfl (by kernel_rfl) (by kernel_rfl) (by kernel_rfl) rfl rfl rfl q24 (fun w q24 => (x_load1 rfl rfl SH_3 q24)) ?_
        refine wpD_take (v := (Sl.v r9)) 3 (fun _ => True) rfl (by kernel_rfl) (by kernel_rfl) (by kernel_rfl) rfl rfl rfl trivial (fun w _ => (x_move (v := (Sl.v r9)) rfl e7)) ?_
        refine wpD_take (v := (Value.pointer (some ((Addr.mk b20 0 none).add 1)))) 4 (fun _ => True) rfl (by kernel_rfl) (by kernel_rfl) (by kernel_rfl) rfl rfl rfl trivial (fun w _ => (x_fieldAddr rfl e10 FA_54_1)) ?_
        obtain ⟨x25, q25, h⟩ := h
        refine wpD_take (v := (Value.int .i64 x25)) 5 (fun w => w.cell? ((Addr.mk b20 0 none).add 1) = some (Value.int .i64 x25)) rfl (by kernel_rfl) (by kernel_rfl) (by kernel_rfl) rfl rfl rfl q25 (fun w q25 => (x_load1 rfl rfl SH_3 q25)) ?_
        obtain ⟨q26, z26, r26, h⟩ := h
        generalize hp26 : z26.add ((x25 : Int).toNat * 1) = p26 at h
        refine wpD_take (v := (Value.pointer (some p26))) 6 (fun _ => True) rfl (by kernel_rfl) (by kernel_rfl) (by kernel_rfl) rfl rfl rfl trivial (fun w _ => ((x_indexAddr (s := r9) rfl rfl rfl ES_38 q26 r26).trans (by rw [hp26]))) ?_
        obtain ⟨x27, q27, h⟩ := h
        refine wpD_take (v := (Value.int .i64 x27)) 7 (fun w => w.cell? p26 = some (Value.int .i64 x27)) rfl (by kernel_rfl) (by kernel_rfl) (by kernel_rfl) rfl rfl rfl q27 (fun w q27 => (x_load1 rfl rfl SH_3 q27)) ?_
        refine wpD_take (v := (Sl.v r9)) 8 (fun _ => True) rfl (by kernel_rfl) (by kernel_rfl) (by kernel_rfl) rfl rfl rfl trivial (fun w _ => (x_move (v := (Sl.v r9)) rfl e7)) ?_
        refine wpD_take (v := (Value.pointer (some ((Addr.mk b20 0 none).add 0)))) 9 (fun _ => True) rfl (by kernel_rfl) (by kernel_rfl) (by kernel_rfl) rfl rfl rfl trivial (fun w _ => (x_fieldAddr rfl e10 FA_54_0)) ?_
        obtain ⟨x28, q28, h⟩ := h
        refine wpD_take (v := (Value.int .i64 x28)) 10 (fun w => w.cell? ((Addr.mk b20 0 none).add 0) = some (Value.int .i64 x28)) rfl (by kernel_rfl) (by kernel_rfl) (by kernel_rfl) rfl rfl rfl q28 (fun w q28 => (x_load1 rfl rfl SH_3 q28)) ?_
        obtain ⟨q29, z29, r29, h⟩ := h
        generalize hp29 : z29.add ((x28 : Int).toNat * 1) = p29 at h
        refine wpD_take (v := (Value.pointer (some p29))) 11 (fun _ => True) rfl (by kernel_rfl) (by kernel_rfl) (by kernel_rfl) rfl rfl rfl trivial (fun w _ => ((x_indexAddr (s := r9) rfl rfl rfl ES_38 q29 r29).trans (by rw [hp29]))) ?_
        obtain ⟨x30, q30, h⟩ := h
        refine wpD_take (v := (Value.int .i64 x30)) 12 (fun w => w.cell? p29 = some (Value.int .i64 x30)) rfl (by kernel_rfl) (by kernel_rfl) (by kernel_rfl) rfl rfl rfl q30 (fun w q30 => (x_load1 rfl rfl SH_3 q30)) ?_
        refine wpD_take (v := (Value.int .i64 (IntKind.i64.wrap (x30 + 1)))) 13 (fun _ => True) rfl (by kernel_rfl) (by kernel_rfl) (by kernel_rfl) rfl rfl rfl trivial (fun w _ => (x_add rfl rfl rfl)) ?_
        refine wpD_take (v := (Value.int .i64 (max x27 (IntKind.i64.wrap (x30 + 1))))) 14 (fun _ => True) rfl (by kernel_rfl) (by kernel_rfl) (by kernel_rfl) rfl rfl rfl trivial (fun w _ => (x_max rfl rfl rfl)) ?_
        obtain ⟨q31, z31, r31, h⟩ := h
        generalize hp31 : z31.add ((x24 : Int).toNat * 1) = p31 at h
        refine wpD_take (v := (Value.pointer (some p31))) 15 (fun _ => True) rfl (by kernel_rfl) (by kernel_rfl) (by kernel_rfl) rfl rfl rfl trivial (fun w _ => ((x_indexAddr (s := r9) rfl rfl rfl ES_38 q31 r31).trans (by rw [hp31]))) ?_
        refine wpD_all (rs := [16]) (by kernel_rfl) (by simp) (allD_cons ?_ allD_nil)
        obtain ⟨q32, h⟩ := h
        obtain ⟨w7, hw32⟩ : ∃ u, u = setAll w6 p31 [(Value.int .i64 (max x27 (IntKind.i64.wrap (x30 + 1))))] 0 := ⟨_, rfl⟩
        replace h := h w7 hw32
        refine stepD_skpL (L' := []) (w' := w7) rfl rfl rfl ((x_store (v := (Value.int .i64 (max x27 (IntKind.i64.wrap (x30 + 1))))) rfl rfl rfl SZ_3 (ones (by rfl)) q32).trans (by rw [hw32]; rfl)) (by kernel_rfl) held_nil ?_
        exact wpD_done (by kernel_rfl) ⟨(), ⟨e0, e1, e7, e13, e14, e16, e17, e18, trivial⟩, h⟩
      clear h
      rintro l33 ρ w8 ⟨e0, e1, e7, e13, e14, e16, e17, e18, -⟩ h
      replace h := hk l33 w8 h
      clear hk
      refine wpC_region ?_
      refine wpR_val (v := (Value.int .i64 (IntKind.i64.wrap (l12 + 1)))) (w' := w8) rfl rfl rfl (x_add rfl e18 rfl) ?_
      refine wpR_val (v := (Value.int .i64 (IntKind.i64.wrap (l12 + 1)))) (w' := w8) rfl rfl rfl (x_move (v := (Value.int .i64 (IntKind.i64.wrap (l12 + 1)))) rfl rfl) ?_
      refine wpR_nil ?_
      exact ⟨IntKind.i64.wrap (l12 + 1), ⟨rfl, e0, e1, e7, e13, e14, e16, e17, trivial⟩, h⟩
    · replace h := h.2 hc13
      refine wpC_exit ?_
      refine wpC_cut (fun ρ => ρ 0 = (Sl.v p0) ∧ ρ 1 = (Sl.v p1) ∧ ρ 7 = (Sl.v r9) ∧ ρ 13 = (Value.int .i64 p2) ∧ ρ 14 = (Value.int .i64 l10) ∧ True) ⟨e0, e1, e7, e13, e14, trivial⟩ ?_
      rintro ρ ⟨e0, e1, e7, e13, e14, -⟩
      refine wpC_region ?_
      refine wpR_val (v := (Value.int .i64 (IntKind.i64.wrap (l10 + 1)))) (w' := w3) rfl rfl rfl (x_add rfl e14 rfl) ?_
      refine wpR_val (v := (Value.int .i64 (IntKind.i64.wrap (l10 + 1)))) (w' := w3) rfl rfl rfl (x_move (v := (Value.int .i64 (IntKind.i64.wrap (l10 + 1)))) rfl rfl) ?_
      refine wpR_nil ?_
      exact ⟨IntKind.i64.wrap (l10 + 1), ⟨rfl, e0, e1, e7, e13, trivial⟩, h⟩
  · replace h := h.2 hc11
    refine wpC_exit ?_
    refine wpC_seq ?_
    refine wpC_cut (fun ρ => ρ 7 = (Sl.v r9) ∧ True) ⟨e7, trivial⟩ ?_
    rintro ρ ⟨e7, -⟩
    refine wpC_region ?_
    refine wpR_val (v := (Sl.v r9)) (w' := w2) rfl rfl rfl (x_move (v := (Sl.v r9)) rfl e7) ?_
    refine wpR_val (v := (Sl.v r9)) (w' := w2) rfl rfl rfl (x_assign (v := (Sl.v r9)) rfl rfl) ?_
    refine wpR_nil ?_
    refine wpC_ret ?_
    exact ⟨.inl rfl, fun a ha => ⟨_, results_rep1 rfl ha rfl, r9, rfl, h⟩⟩

/-- echo.last -/
def F33 (p0 : Sl) (p1_0 : Int) (p1_1 : Int) (p1_2 : Int) (p1_3 : Int) (p1_4 : Int) (p2 : Int) (p3 : Value) (w0 : World) (K : Int → World → Prop) : Prop :=
  nw 63 #[(Value.int .i64 p1_0), (Value.int .i64 p1_1), (Value.int .i64 p1_2), (Value.int .i64 p1_3), (Value.int .i64 p1_4)] w0 fun b9 w1 =>
  lp (fun (next10 : Int → World → Prop) l10 w2 =>
    cnd (decide (0 ≤ l10))
      (
      jn (fun (J13 : Bool → World → Prop) => tk w2 fun w3 =>
        ix p0 l10 5 fun p14 =>
        ld (Value.int .i64) (p14.add 0) w3 fun x15 =>
        ld (Value.int .i64) (p14.add 1) w3 fun x16 =>
        ld (Value.int .i64) (p14.add 2) w3 fun x17 =>
        ld (Value.int .i64) (p14.add 3) w3 fun x18 =>
        ld (Value.int .i64) (p14.add 4) w3 fun x19 =>
        ld (Value.int .i64) ((Addr.mk b9 0 none).add 0) w3 fun x20 =>
        ld (Value.int .i64) ((Addr.mk b9 0 none).add 1) w3 fun x21 =>
        ld (Value.int .i64) ((Addr.mk b9 0 none).add 2) w3 fun x22 =>
        ld (Value.int .i64) ((Addr.mk b9 0 none).add 3) w3 fun x23 =>
        ld (Value.int .i64) ((Addr.mk b9 0 none).add 4) w3 fun x24 =>
        callC Try.prog 50 #[(Value.agg #[(Value.int .i64 x15), (Value.int .i64 x16), (Value.int .i64 x17), (Value.int .i64 x18), (Value.int .i64 x19)]), (Value.agg #[(Value.int .i64 x20), (Value.int .i64 x21), (Value.int .i64 x22), (Value.int .i64 x23), (Value.int .i64 x24)]), (Value.int .i64 p2)] (fun (r : Bool) => (Value.bool r)) w3 fun r25 w4 =>
        cnd (r25)
          (
          cv Try.prog p3 [(Value.int .i64 l10)] (fun (r : Bool) => (Value.bool r)) w4 fun r27 w5 =>
          J13 (!r27) w5
          )
          (
          J13 false w4
          )
      )
      fun l28 w6 =>
      cnd (l28)
        (
        K l10 w6
        )
        (
        next10 (IntKind.i64.wrap (l10 - 1)) w6
        )
      )
      (
      K (-1) w2
      )
  ) (IntKind.i64.wrap ((p0.len : Int) - 1)) w1
set_option maxRecDepth 100000 in
theorem D33 (p0 : Sl) (p1_0 : Int) (p1_1 : Int) (p1_2 : Int) (p1_3 : Int) (p1_4 : Int) (p2 : Int) (p3 : Value) (w0 : World) (K : Int → World → Prop) (h : F33 p0 p1_0 p1_1 p1_2 p1_3 p1_4 p2 p3 w0 K) : callC Try.prog 33 #[(Sl.v p0), (Value.agg #[(Value.int .i64 p1_0), (Value.int .i64 p1_1), (Value.int .i64 p1_2), (Value.int .i64 p1_3), (Value.int .i64 p1_4)]), (Value.int .i64 p2), p3] (fun (r : Int) => (Value.int .i64 r)) w0 K := by
  unfold F33 at h
  refine calls_of_wpC Try.func33 rfl 31 rfl (by simp) ?_
  intro ρ hρ
  have e0 : ρ 0 = (Sl.v p0) := hρ 0
  have e1 : ρ 1 = (Value.agg #[(Value.int .i64 p1_0), (Value.int .i64 p1_1), (Value.int .i64 p1_2), (Value.int .i64 p1_3), (Value.int .i64 p1_4)]) := hρ 1
  have e2 : ρ 2 = (Value.int .i64 p2) := hρ 2
  have e3 : ρ 3 = p3 := hρ 3
  clear hρ
  refine wpC_seq ?_
  refine wpC_region ?_
  obtain ⟨b9, hb9⟩ : ∃ u, u = w0.heap.size := ⟨_, rfl⟩
  obtain ⟨w1, hw9⟩ : ∃ u, u = w0.alloc (.cells #[(Value.int .i64 p1_0), (Value.int .i64 p1_1), (Value.int .i64 p1_2), (Value.int .i64 p1_3), (Value.int .i64 p1_4)] 63) := ⟨_, rfl⟩
  replace h := h b9 w1 hb9 hw9
  refine wpR_val (v := (Value.pointer (some (Addr.mk b9 0 none)))) (w' := w1) rfl rfl rfl ((x_box (v := (Value.agg #[(Value.int .i64 p1_0), (Value.int .i64 p1_1), (Value.int .i64 p1_2), (Value.int .i64 p1_3), (Value.int .i64 p1_4)])) rfl e1).trans (by rw [hb9, hw9]; rfl)) ?_
  refine wpR_val (v := (Value.int .i64 0)) (w' := w1) rfl rfl rfl (x_assign (v := (Value.int .i64 0)) rfl rfl) ?_
  refine wpR_nil ?_
  refine wpC_seq ?_
  refine wpC_seq ?_
  refine wpC_cut (fun ρ => ρ 0 = (Sl.v p0) ∧ ρ 2 = (Value.int .i64 p2) ∧ ρ 3 = p3 ∧ ρ 5 = (Value.pointer (some (Addr.mk b9 0 none))) ∧ True) ⟨e0, e2, e3, rfl, trivial⟩ ?_
  rintro ρ ⟨e0, e2, e3, e5, -⟩
  refine wpC_region ?_
  refine wpR_val (v := (Sl.v p0)) (w' := w1) rfl rfl rfl (x_move (v := (Sl.v p0)) rfl e0) ?_
  refine wpR_val (v := (Value.int .i64 (p0.len : Int))) (w' := w1) rfl rfl rfl (x_lenS (s := p0) rfl rfl isSliceT_64) ?_
  refine wpR_val (v := (Value.int .i64 (IntKind.i64.wrap ((p0.len : Int) - 1)))) (w' := w1) rfl rfl rfl (x_sub rfl rfl rfl) ?_
  refine wpR_val (v := (Value.int .i64 (IntKind.i64.wrap ((p0.len : Int) - 1)))) (w' := w1) rfl rfl rfl (x_assign (v := (Value.int .i64 (IntKind.i64.wrap ((p0.len : Int) - 1)))) rfl rfl) ?_
  refine wpR_nil ?_
  refine wpC_block ?_
  obtain ⟨I10, μ10, hI10, hr10⟩ := h
  refine wpC_loop (fun (x : Int) ρ => ρ 9 = (Value.int .i64 x) ∧ ρ 0 = (Sl.v p0) ∧ ρ 2 = (Value.int .i64 p2) ∧ ρ 3 = p3 ∧ ρ 5 = (Value.pointer (some (Addr.mk b9 0 none))) ∧ True) I10 μ10 (IntKind.i64.wrap ((p0.len : Int) - 1)) ⟨rfl, e0, e2, e3, e5, trivial⟩ hI10 ?_
  rintro l10 ρ w2 ⟨e9, e0, e2, e3, e5, -⟩ h
  replace h := hr10 l10 w2 h
  clear hr10 hI10
  refine wpC_seq ?_
  refine wpC_seq ?_
  refine wpC_region ?_
  refine wpR_val (v := (Value.int .i64 l10)) (w' := w2) rfl rfl rfl (x_move (v := (Value.int .i64 l10)) rfl e9) ?_
  refine wpR_val (v := (Value.bool (decide (0 ≤ l10)))) (w' := w2) rfl rfl rfl (x_geq rfl rfl rfl) ?_
  refine wpR_nil ?_
  refine wpC_cond (b := decide (0 ≤ l10)) rfl (fun hc11 => ?_) (fun hc11 => ?_)
  · replace h := h.1 hc11
    refine wpC_skip ?_
    refine wpC_seq ?_
    refine wpC_block ?_
    refine wpC_seq ?_
    refine wpC_cut (fun ρ => ρ 0 = (Sl.v p0) ∧ ρ 2 = (Value.int .i64 p2) ∧ ρ 3 = p3 ∧ ρ 5 = (Value.pointer (some (Addr.mk b9 0 none))) ∧ ρ 9 = (Value.int .i64 l10) ∧ True) ⟨e0, e2, e3, e5, e9, trivial⟩ ?_
    rintro ρ ⟨e0, e2, e3, e5, e9, -⟩
    obtain ⟨J13, h, hk⟩ := h
    refine wpC_drawJ (by kernel_rfl) (fun (x : Bool) ρ => ρ 29 = (Value.bool x) ∧ ρ 0 = (Sl.v p0) ∧ ρ 2 = (Value.int .i64 p2) ∧ ρ 3 = p3 ∧ ρ 5 = (Value.pointer (some (Addr.mk b9 0 none))) ∧ ρ 9 = (Value.int .i64 l10) ∧ True) J13 ?_ ?_
    · clear hk
      unfold tk at h
      generalize w2.drew = w3 at h ⊢
      refine wpD_take (v := (Sl.v p0)) 0 (fun _ => True) rfl (by kernel_rfl) (by kernel_rfl) (by kernel_rfl) rfl rfl rfl trivial (fun w _ => (x_move (v := (Sl.v p0)) rfl e0)) ?_
      refine wpD_take (v := (Value.int .i64 l10)) 1 (fun _ => True) rfl (by kernel_rfl) (by kernel_rfl) (by kernel_rfl) rfl rfl rfl trivial (fun w _ => (x_move (v := (Value.int .i64 l10)) rfl e9)) ?_
      obtain ⟨q14, z14, r14, h⟩ := h
      generalize hp14 : z14.add ((l10 : Int).toNat * 5) = p14 at h
      refine wpD_take (v := (Value.pointer (some p14))) 2 (fun _ => True) rfl (by kernel_rfl) (by kernel_rfl) (by kernel_rfl) rfl rfl rfl trivial (fun w _ => ((x_indexAddr (s := p0) rfl rfl rfl ES_64 q14 r14).trans (by rw [hp14]))) ?_
      obtain ⟨x15, q15, x16, q16, x17, q17, x18, q18, x19, q19, h⟩ := h
      refine wpD_take (v := (Value.agg #[(Value.int .i64 x15), (Value.int .i64 x16), (Value.int .i64 x17), (Value.int .i64 x18), (Value.int .i64 x19)])) 3 (fun w => w.cell? (p14.add 0) = some (Value.int .i64 x15) ∧ w.cell? (p14.add 1) = some (Value.int .i64 x16) ∧ w.cell? (p14.add 2) = some (Value.int .i64 x17) ∧ w.cell? (p14.add 3) = some (Value.int .i64 x18) ∧ w.cell? (p14.add 4) = some (Value.int .i64 x19)) rfl (by kernel_rfl) (by kernel_rfl) (by kernel_rfl) rfl rfl rfl ⟨q15, q16, q17, q18, q19⟩ (fun w ⟨q15, q16, q17, q18, q19⟩ => (x_loadN [(Value.int .i64 x15), (Value.int .i64 x16), (Value.int .i64 x17), (Value.int .i64 x18), (Value.int .i64 x19)] rfl rfl SH_63 (CellsAt.out (CellsAt.cons q15 (CellsAt.cons q16 (CellsAt.cons q17 (CellsAt.cons q18 (CellsAt.cons q19 CellsAt.nil)))))))) ?_
      obtain ⟨x20, q20, x21, q21, x22, q22, x23, q23, x24, q24, h⟩ := h
      refine wpD_take (v := (Value.agg #[(Value.int .i64 x20), (Value.int .i64 x21), (Value.int .i64 x22), (Value.int .i64 x23), (Value.int .i64 x24)])) 4 (fun w => w.cell? ((Addr.mk b9 0 none).add 0) = some (Value.int .i64 x20) ∧ w.cell? ((Addr.mk b9 0 none).add 1) = some (Value.int .i64 x21) ∧ w.cell? ((Addr.mk b9 0 none).add 2) = some (Value.int .i64 x22) ∧ w.cell? ((Addr.mk b9 0 none).add 3) = some (Value.int .i64 x23) ∧ w.cell? ((Addr.mk b9 0 none).add 4) = some (Value.int .i64 x24)) rfl (by kernel_rfl) (by kernel_rfl) (by kernel_rfl) rfl rfl rfl ⟨q20, q21, q22, q23, q24⟩ (fun w ⟨q20, q21, q22, q23, q24⟩ => (x_loadN [(Value.int .i64 x20), (Value.int .i64 x21), (Value.int .i64 x22), (Value.int .i64 x23), (Value.int .i64 x24)] rfl e5 SH_63 (CellsAt.out (CellsAt.cons q20 (CellsAt.cons q21 (CellsAt.cons q22 (CellsAt.cons q23 (CellsAt.cons q24 CellsAt.nil)))))))) ?_
      refine wpD_take (v := (Value.int .i64 p2)) 5 (fun _ => True) rfl (by kernel_rfl) (by kernel_rfl) (by kernel_rfl) rfl rfl rfl trivial (fun w _ => (x_move (v := (Value.int .i64 p2)) rfl e2)) ?_
      refine wpD_all (rs := [6]) (by kernel_rfl) (by simp) (allD_cons ?_ allD_nil)
      refine stepD_enterL (L' := [(2, fun _ => True), (1, fun _ => True), (0, fun _ => True)]) rfl rfl rfl rfl (x_call (vs := [(Value.agg #[(Value.int .i64 x15), (Value.int .i64 x16), (Value.int .i64 x17), (Value.int .i64 x18), (Value.int .i64 x19)]), (Value.agg #[(Value.int .i64 x20), (Value.int .i64 x21), (Value.int .i64 x22), (Value.int .i64 x23), (Value.int .i64 x24)]), (Value.int .i64 p2)]) rfl rfl (mapl_cons rfl (mapl_cons rfl (mapl_cons rfl mapl_nil))) Try.func50 NN_50 NB_50) (by kernel_rfl) (Calls.mono h ?_)
      rintro _ w4 ⟨r25, rfl, h⟩
      refine ⟨_, rfl, (held_cons trivial (held_cons trivial (held_cons trivial held_nil))), ?_⟩
      refine wpD_take (v := (Value.bool r25)) 7 (fun _ => True) rfl (by kernel_rfl) (by kernel_rfl) (by kernel_rfl) rfl rfl rfl trivial (fun w _ => (x_move (v := (Value.bool r25)) rfl rfl)) ?_
      rcases Bool.eq_false_or_eq_true (r25) with hc26 | hc26
      · replace h := h.1 hc26
        refine wpD_take (v := p3) 8 (fun _ => True) rfl (by kernel_rfl) (by kernel_rfl) (by kernel_rfl) (wantG rfl rfl rfl hc26) rfl rfl trivial (fun w _ => (x_move (v := p3) rfl e3)) ?_
        refine wpD_take (v := (Value.int .i64 l10)) 9 (fun _ => True) rfl (by kernel_rfl) (by kernel_rfl) (by kernel_rfl) (wantG rfl rfl rfl hc26) rfl rfl trivial (fun w _ => (x_move (v := (Value.int .i64 l10)) rfl e9)) ?_
        refine wpD_all (rs := [10]) (by kernel_rfl) (by simp) (allD_cons ?_ allD_nil)
        obtain ⟨f27, fi27, ca27, fn27, qv27, qf27, qn27, qb27, h⟩ := h
        refine stepD_enterL (L' := [(2, fun _ => True), (1, fun _ => True), (0, fun _ => True)]) rfl (wantG rfl rfl rfl hc26) rfl rfl (x_callv (vs := [(Value.int .i64 l10)]) rfl ((show _ = p3 from rfl).trans qv27) (mapl_cons rfl mapl_nil) qf27 qn27 qb27) (by kernel_rfl) (Calls.mono h ?_)
        rintro _ w5 ⟨r27, rfl, h⟩
        refine ⟨_, rfl, (held_cons trivial (held_cons trivial (held_cons trivial held_nil))), ?_⟩
        refine wpD_take (v := (Value.bool (!r27))) 11 (fun _ => True) rfl (by kernel_rfl) (by kernel_rfl) (by kernel_rfl) (wantG rfl rfl rfl hc26) rfl rfl trivial (fun w _ => (x_not rfl rfl)) ?_
        refine wpD_take (v := (Value.bool (!r27))) 12 (fun _ => True) rfl (by kernel_rfl) (by kernel_rfl) (by kernel_rfl) rfl rfl rfl trivial (fun w _ => (x_pickT (v := (Value.bool (!r27))) rfl rfl hc26 rfl)) ?_
        exact wpD_done (by kernel_rfl) ⟨!r27, ⟨rfl, e0, e2, e3, e5, e9, trivial⟩, h⟩
      · replace h := h.2 hc26
        refine wpD_pass 8 rfl (by kernel_rfl) (by kernel_rfl) (by kernel_rfl) (wantN rfl rfl rfl hc26) rfl rfl ?_
        refine wpD_pass 9 rfl (by kernel_rfl) (by kernel_rfl) (by kernel_rfl) (wantN rfl rfl rfl hc26) rfl rfl ?_
        refine wpD_pass 10 rfl (by kernel_rfl) (by kernel_rfl) (by kernel_rfl) (wantN rfl rfl rfl hc26) rfl rfl ?_
        refine wpD_pass 11 rfl (by kernel_rfl) (by kernel_rfl) (by kernel_rfl) (wantN rfl rfl rfl hc26) rfl rfl ?_
        refine wpD_take (v := (Value.bool false)) 12 (fun _ => True) rfl (by kernel_rfl) (by kernel_rfl) (by kernel_rfl) rfl rfl rfl trivial (fun w _ => (x_pickF (v := (Value.bool false)) rfl rfl hc26 rfl)) ?_
        exact wpD_done (by kernel_rfl) ⟨false, ⟨rfl, e0, e2, e3, e5, e9, trivial⟩, h⟩
    clear h
    rintro l28 ρ w6 ⟨e29, e0, e2, e3, e5, e9, -⟩ h
    replace h := hk l28 w6 h
    clear hk
    refine wpC_cond (b := l28) e29 (fun hc29 => ?_) (fun hc29 => ?_)
    · replace h := h.1 hc29
      refine wpC_seq ?_
      refine wpC_region ?_
      refine wpR_val (v := (Value.int .i64 l10)) (w' := w6) rfl rfl rfl (x_move (v := (Value.int .i64 l10)) rfl e9) ?_
      refine wpR_val (v := (Value.int .i64 l10)) (w' := w6) rfl rfl rfl (x_assign (v := (Value.int .i64 l10)) rfl rfl) ?_
      refine wpR_nil ?_
      refine wpC_ret ?_
      exact ⟨.inl rfl, fun a ha => ⟨_, results_rep1 rfl ha rfl, l10, rfl, h⟩⟩
    · replace h := h.2 hc29
      refine wpC_skip ?_
      refine wpC_region ?_
      refine wpR_val (v := (Value.int .i64 l10)) (w' := w6) rfl rfl rfl (x_move (v := (Value.int .i64 l10)) rfl e9) ?_
      refine wpR_val (v := (Value.int .i64 (IntKind.i64.wrap (l10 - 1)))) (w' := w6) rfl rfl rfl (x_sub rfl rfl rfl) ?_
      refine wpR_val (v := (Value.int .i64 (IntKind.i64.wrap (l10 - 1)))) (w' := w6) rfl rfl rfl (x_assign (v := (Value.int .i64 (IntKind.i64.wrap (l10 - 1)))) rfl rfl) ?_
      refine wpR_nil ?_
      exact ⟨IntKind.i64.wrap (l10 - 1), ⟨rfl, e0, e2, e3, e5, trivial⟩, h⟩
  · replace h := h.2 hc11
    refine wpC_exit ?_
    refine wpC_seq ?_
    refine wpC_cut (fun ρ => True) trivial ?_
    rintro ρ -
    refine wpC_region ?_
    refine wpR_val (v := (Value.int .i64 (-1))) (w' := w2) rfl rfl rfl (x_assign (v := (Value.int .i64 (-1))) rfl rfl) ?_
    refine wpR_nil ?_
    refine wpC_ret ?_
    exact ⟨.inl rfl, fun a ha => ⟨_, results_rep1 rfl ha rfl, (-1), rfl, h⟩⟩

/-- echo.Match$1 -/
def F34 (p0 : Int) (w0 : World) (K : Bool → World → Prop) : Prop :=
  K false w0
set_option maxRecDepth 100000 in
theorem D34 (p0 : Int) (w0 : World) (K : Bool → World → Prop) (h : F34 p0 w0 K) : callC Try.prog 34 #[(Value.int .i64 p0)] (fun (r : Bool) => (Value.bool r)) w0 K := by
  unfold F34 at h
  refine calls_of_wpC Try.func34 rfl 3 rfl (by simp) ?_
  intro ρ hρ
  have e0 : ρ 0 = (Value.int .i64 p0) := hρ 0
  clear hρ
  refine wpC_seq ?_
  refine wpC_region ?_
  refine wpR_val (v := (Value.bool false)) (w' := w0) rfl rfl rfl (x_assign (v := (Value.bool false)) rfl rfl) ?_
  refine wpR_nil ?_
  refine wpC_seq ?_
  refine wpC_cut (fun ρ => True) trivial ?_
  rintro ρ -
  refine wpC_region ?_
  refine wpR_val (v := (Value.bool false)) (w' := w0) rfl rfl rfl (x_assign (v := (Value.bool false)) rfl rfl) ?_
  refine wpR_nil ?_
  refine wpC_ret ?_
  exact ⟨.inl rfl, fun a ha => ⟨_, results_rep1 rfl ha rfl, false, rfl, h⟩⟩

/-- queue.to -/
def F35 (p0 : Int) (p1 : Int) (p2 : Int) (w0 : World) (K : Bool → World → Prop) : Prop :=
  K ((decide (p1 ≤ p0)) && (decide (p0 ≤ p2))) w0
set_option maxRecDepth 100000 in
theorem D35 (p0 : Int) (p1 : Int) (p2 : Int) (w0 : World) (K : Bool → World → Prop) (h : F35 p0 p1 p2 w0 K) : callC Try.prog 35 #[(Value.int .i64 p0), (Value.int .i64 p1), (Value.int .i64 p2)] (fun (r : Bool) => (Value.bool r)) w0 K := by
  unfold F35 at h
  refine calls_of_wpC Try.func35 rfl 15 rfl (by simp) ?_
  intro ρ hρ
  have e0 : ρ 0 = (Value.int .i64 p0) := hρ 0
  have e1 : ρ 1 = (Value.int .i64 p1) := hρ 1
  have e2 : ρ 2 = (Value.int .i64 p2) := hρ 2
  clear hρ
  refine wpC_seq ?_
  refine wpC_region ?_
  refine wpR_val (v := (Value.bool false)) (w' := w0) rfl rfl rfl (x_assign (v := (Value.bool false)) rfl rfl) ?_
  refine wpR_nil ?_
  refine wpC_seq ?_
  refine wpC_cut (fun ρ => ρ 0 = (Value.int .i64 p0) ∧ ρ 1 = (Value.int .i64 p1) ∧ ρ 2 = (Value.int .i64 p2) ∧ True) ⟨e0, e1, e2, trivial⟩ ?_
  rintro ρ ⟨e0, e1, e2, -⟩
  refine wpC_region ?_
  refine wpR_val (v := (Value.int .i64 p1)) (w' := w0) rfl rfl rfl (x_move (v := (Value.int .i64 p1)) rfl e1) ?_
  refine wpR_val (v := (Value.int .i64 p0)) (w' := w0) rfl rfl rfl (x_move (v := (Value.int .i64 p0)) rfl e0) ?_
  refine wpR_val (v := (Value.bool (decide (p1 ≤ p0)))) (w' := w0) rfl rfl rfl (x_leq rfl rfl rfl) ?_
  refine wpR_val (v := (Value.bool (decide (p1 ≤ p0)))) (w' := w0) rfl rfl rfl (x_move (v := (Value.bool (decide (p1 ≤ p0)))) rfl rfl) ?_
  refine wpR_joinJ 4 (fun (_ : Unit) ρ => ρ 14 = Value.bool ((decide (p1 ≤ p0)) && (decide (p0 ≤ p2))) ∧ True) (fun _ w => w0 = w) ?_ ?_
  · clear h
    rcases Bool.eq_false_or_eq_true (decide (p1 ≤ p0)) with hc10 | hc10
    · skip
      refine wpR_val (v := (Value.int .i64 p0)) (w' := w0) (wantG rfl rfl rfl hc10) rfl rfl (x_move (v := (Value.int .i64 p0)) rfl e0) ?_
      refine wpR_val (v := (Value.int .i64 p2)) (w' := w0) (wantG rfl rfl rfl hc10) rfl rfl (x_move (v := (Value.int .i64 p2)) rfl e2) ?_
      refine wpR_val (v := (Value.bool (decide (p0 ≤ p2)))) (w' := w0) (wantG rfl rfl rfl hc10) rfl rfl (x_leq rfl rfl rfl) ?_
      refine wpR_val (v := (Value.bool (decide (p0 ≤ p2)))) (w' := w0) rfl rfl rfl (x_pickT (v := (Value.bool (decide (p0 ≤ p2)))) rfl rfl hc10 rfl) ?_
      refine wpR_nil ?_
      exact ⟨(), ⟨(by rw [hc10]; rfl), trivial⟩, rfl⟩
    · skip
      refine wpR_pass (wantN rfl rfl rfl hc10) rfl rfl ?_
      refine wpR_pass (wantN rfl rfl rfl hc10) rfl rfl ?_
      refine wpR_pass (wantN rfl rfl rfl hc10) rfl rfl ?_
      refine wpR_val (v := (Value.bool false)) (w' := w0) rfl rfl rfl (x_pickF (v := (Value.bool false)) rfl rfl hc10 rfl) ?_
      refine wpR_nil ?_
      exact ⟨(), ⟨(by rw [hc10]; rfl), trivial⟩, rfl⟩
  rintro _ ρ wj ⟨e14, -⟩ rfl
  refine wpR_val (v := (Value.bool ((decide (p1 ≤ p0)) && (decide (p0 ≤ p2))))) (w' := w0) rfl rfl rfl (x_assign (v := (Value.bool ((decide (p1 ≤ p0)) && (decide (p0 ≤ p2))))) rfl e14) ?_
  refine wpR_nil ?_
  refine wpC_ret ?_
  exact ⟨.inl rfl, fun a ha => ⟨_, results_rep1 rfl ha rfl, (decide (p1 ≤ p0)) && (decide (p0 ≤ p2)), rfl, h⟩⟩

/-- slices.ContainsFunc[[]api.Waiting,api.Waiting] -/
def F36 (p0 : Sl) (p1 : Value) (w0 : World) (K : Bool → World → Prop) : Prop :=
  callC Try.prog 46 #[(Sl.v p0), p1] (fun (r : Int) => (Value.int .i64 r)) w0 fun r9 w1 =>
  K (decide (0 ≤ r9)) w1
set_option maxRecDepth 100000 in
theorem D36 (p0 : Sl) (p1 : Value) (w0 : World) (K : Bool → World → Prop) (h : F36 p0 p1 w0 K) : callC Try.prog 36 #[(Sl.v p0), p1] (fun (r : Bool) => (Value.bool r)) w0 K := by
  unfold F36 at h
  refine calls_of_wpC Try.func36 rfl 9 rfl (by simp) ?_
  intro ρ hρ
  have e0 : ρ 0 = (Sl.v p0) := hρ 0
  have e1 : ρ 1 = p1 := hρ 1
  clear hρ
  refine wpC_seq ?_
  refine wpC_region ?_
  refine wpR_val (v := (Value.bool false)) (w' := w0) rfl rfl rfl (x_assign (v := (Value.bool false)) rfl rfl) ?_
  refine wpR_nil ?_
  refine wpC_seq ?_
  refine wpC_cut (fun ρ => ρ 0 = (Sl.v p0) ∧ ρ 1 = p1 ∧ True) ⟨e0, e1, trivial⟩ ?_
  rintro ρ ⟨e0, e1, -⟩
  refine wpC_region ?_
  refine wpR_val (v := (Sl.v p0)) (w' := w0) rfl rfl rfl (x_move (v := (Sl.v p0)) rfl e0) ?_
  refine wpR_val (v := p1) (w' := w0) rfl rfl rfl (x_move (v := p1) rfl e1) ?_
  refine wpR_enter rfl rfl rfl (x_call (vs := [(Sl.v p0), p1]) rfl rfl (mapl_cons rfl (mapl_cons rfl mapl_nil)) Try.func46 NN_46 NB_46) (Calls.mono h ?_)
  rintro _ w1 ⟨r9, rfl, h⟩
  refine ⟨_, rfl, ?_⟩
  refine wpR_val (v := (Value.bool (decide (0 ≤ r9)))) (w' := w1) rfl rfl rfl (x_geq rfl rfl rfl) ?_
  refine wpR_val (v := (Value.bool (decide (0 ≤ r9)))) (w' := w1) rfl rfl rfl (x_assign (v := (Value.bool (decide (0 ≤ r9)))) rfl rfl) ?_
  refine wpR_nil ?_
  refine wpC_ret ?_
  exact ⟨.inl rfl, fun a ha => ⟨_, results_rep1 rfl ha rfl, decide (0 ≤ r9), rfl, h⟩⟩

/-- queue.has$1 -/
def F37 (p0_0 : Int) (p0_1 : Int) (p0_2 : Int) (p0_3 : Int) (c1 : Addr) (c2 : Addr) (w0 : World) (K : Bool → World → Prop) : Prop :=
  nw 34 #[(Value.int .i64 p0_0), (Value.int .i64 p0_1), (Value.int .i64 p0_2), (Value.int .i64 p0_3)] w0 fun b9 w1 =>
  ld (Value.int .i64) ((Addr.mk b9 0 none).add 0) w1 fun x10 =>
  ld (Value.int .i64) c1 w1 fun x11 =>
  jp (fun J12 => cnd (decide (x10 = x11))
    (
    ld (Value.int .i64) ((Addr.mk b9 0 none).add 1) w1 fun x14 =>
    ld (Value.int .i64) c2 w1 fun x15 =>
    J12 (decide (x14 = x15))
    )
    (
    J12 false
    ))
  fun c16 =>
  K c16 w1
set_option maxRecDepth 100000 in
theorem D37 (p0_0 : Int) (p0_1 : Int) (p0_2 : Int) (p0_3 : Int) (c1 : Addr) (c2 : Addr) (w0 : World) (K : Bool → World → Prop) (h : F37 p0_0 p0_1 p0_2 p0_3 c1 c2 w0 K) : callC Try.prog 37 #[(Value.agg #[(Value.int .i64 p0_0), (Value.int .i64 p0_1), (Value.int .i64 p0_2), (Value.int .i64 p0_3)]), (Value.pointer (some c1)), (Value.pointer (some c2))] (fun (r : Bool) => (Value.bool r)) w0 K := by
  unfold F37 at h
  refine calls_of_wpC Try.func37 rfl 15 rfl (by simp) ?_
  intro ρ hρ
  have e0 : ρ 0 = (Value.agg #[(Value.int .i64 p0_0), (Value.int .i64 p0_1), (Value.int .i64 p0_2), (Value.int .i64 p0_3)]) := hρ 0
  have e1 : ρ 1 = (Value.pointer (some c1)) := hρ 1
  have e2 : ρ 2 = (Value.pointer (some c2)) := hρ 2
  clear hρ
  refine wpC_seq ?_
  refine wpC_region ?_
  obtain ⟨b9, hb9⟩ : ∃ u, u = w0.heap.size := ⟨_, rfl⟩
  obtain ⟨w1, hw9⟩ : ∃ u, u = w0.alloc (.cells #[(Value.int .i64 p0_0), (Value.int .i64 p0_1), (Value.int .i64 p0_2), (Value.int .i64 p0_3)] 34) := ⟨_, rfl⟩
  replace h := h b9 w1 hb9 hw9
  refine wpR_val (v := (Value.pointer (some (Addr.mk b9 0 none)))) (w' := w1) rfl rfl rfl ((x_box (v := (Value.agg #[(Value.int .i64 p0_0), (Value.int .i64 p0_1), (Value.int .i64 p0_2), (Value.int .i64 p0_3)])) rfl e0).trans (by rw [hb9, hw9]; rfl)) ?_
  refine wpR_val (v := (Value.bool false)) (w' := w1) rfl rfl rfl (x_assign (v := (Value.bool false)) rfl rfl) ?_
  refine wpR_nil ?_
  refine wpC_seq ?_
  refine wpC_cut (fun ρ => ρ 1 = (Value.pointer (some c1)) ∧ ρ 2 = (Value.pointer (some c2)) ∧ ρ 3 = (Value.pointer (some (Addr.mk b9 0 none))) ∧ True) ⟨e1, e2, rfl, trivial⟩ ?_
  rintro ρ ⟨e1, e2, e3, -⟩
  refine wpC_region ?_
  refine wpR_val (v := (Value.pointer (some ((Addr.mk b9 0 none).add 0)))) (w' := w1) rfl rfl rfl (x_fieldAddr rfl e3 FA_34_0) ?_
  obtain ⟨x10, q10, h⟩ := h
  refine wpR_val (v := (Value.int .i64 x10)) (w' := w1) rfl rfl rfl (x_load1 rfl rfl SH_3 q10) ?_
  obtain ⟨x11, q11, h⟩ := h
  refine wpR_val (v := (Value.int .i64 x11)) (w' := w1) rfl rfl rfl (x_load1 rfl e1 SH_3 q11) ?_
  refine wpR_val (v := (Value.bool (decide (x10 = x11)))) (w' := w1) rfl rfl rfl (x_eql rfl rfl rfl) ?_
  refine wpR_val (v := (Value.bool (decide (x10 = x11)))) (w' := w1) rfl rfl rfl (x_move (v := (Value.bool (decide (x10 = x11)))) rfl rfl) ?_
  obtain ⟨J12, h, hk⟩ := h
  refine wpR_joinJ 5 (fun x ρ => ρ 14 = Value.bool x ∧ True) (fun x w => J12 x ∧ w1 = w) ?_ ?_
  · clear hk
    rcases Bool.eq_false_or_eq_true (decide (x10 = x11)) with hc13 | hc13
    · replace h := h.1 hc13
      refine wpR_val (v := (Value.pointer (some ((Addr.mk b9 0 none).add 1)))) (w' := w1) (wantG rfl rfl rfl hc13) rfl rfl (x_fieldAddr rfl e3 FA_34_1) ?_
      obtain ⟨x14, q14, h⟩ := h
      refine wpR_val (v := (Value.int .i64 x14)) (w' := w1) (wantG rfl rfl rfl hc13) rfl rfl (x_load1 rfl rfl SH_3 q14) ?_
      obtain ⟨x15, q15, h⟩ := h
      refine wpR_val (v := (Value.int .i64 x15)) (w' := w1) (wantG rfl rfl rfl hc13) rfl rfl (x_load1 rfl e2 SH_3 q15) ?_
      refine wpR_val (v := (Value.bool (decide (x14 = x15)))) (w' := w1) (wantG rfl rfl rfl hc13) rfl rfl (x_eql rfl rfl rfl) ?_
      refine wpR_val (v := (Value.bool (decide (x14 = x15)))) (w' := w1) rfl rfl rfl (x_pickT (v := (Value.bool (decide (x14 = x15)))) rfl rfl hc13 rfl) ?_
      refine wpR_nil ?_
      exact ⟨decide (x14 = x15), ⟨rfl, trivial⟩, h, rfl⟩
    · replace h := h.2 hc13
      refine wpR_pass (wantN rfl rfl rfl hc13) rfl rfl ?_
      refine wpR_pass (wantN rfl rfl rfl hc13) rfl rfl ?_
      refine wpR_pass (wantN rfl rfl rfl hc13) rfl rfl ?_
      refine wpR_pass (wantN rfl rfl rfl hc13) rfl rfl ?_
      refine wpR_val (v := (Value.bool false)) (w' := w1) rfl rfl rfl (x_pickF (v := (Value.bool false)) rfl rfl hc13 rfl) ?_
      refine wpR_nil ?_
      exact ⟨false, ⟨rfl, trivial⟩, h, rfl⟩
  clear h
  rintro c16 ρ wj ⟨e14, -⟩ ⟨h, rfl⟩
  replace h := hk c16 h
  clear hk
  refine wpR_val (v := (Value.bool c16)) (w' := w1) rfl rfl rfl (x_assign (v := (Value.bool c16)) rfl e14) ?_
  refine wpR_nil ?_
  refine wpC_ret ?_
  exact ⟨.inl rfl, fun a ha => ⟨_, results_rep1 rfl ha rfl, c16, rfl, h⟩⟩

/-- admit.demands -/
def F38 (p0_0 : ByteArray) (p0_1 : Int) (p0_2 : Int) (p0_3 : Int) (p0_4 : Bool) (p0_5 : Int) (p0_6 : Bool) (p0_7 : Bool) (p0_8 : Int) (p0_9 : Int) (p0_10 : Int) (p0_11 : Int) (p0_12 : Sl) (p0_13 : Int) (p0_14 : Int) (p0_15 : Int) (p0_16 : Int) (p0_17 : Bool) (p0_18 : Int) (p0_19 : Int) (p0_20 : Int) (p0_21 : Int) (p1 : Sl) (p2 : Int) (w0 : World) (K : (Sl × Bool) → World → Prop) : Prop :=
  nw 24 (A23 p0_0 p0_1 p0_2 p0_3 p0_4 p0_5 p0_6 p0_7 p0_8 p0_9 p0_10 p0_11 p0_12 p0_13 p0_14 p0_15 p0_16 p0_17 p0_18 p0_19 p0_20 p0_21) w0 fun b9 w1 =>
  L23 (Addr.mk b9 0 none) w1 fun x10 x11 x12 x13 x14 x15 x16 x17 x18 x19 x20 x21 x22 x23 x24 x25 x26 x27 x28 x29 x30 x31 =>
  callC Try.prog 23 #[(V23 x10 x11 x12 x13 x14 x15 x16 x17 x18 x19 x20 x21 x22 x23 x24 x25 x26 x27 x28 x29 x30 x31)] (fun (r : Int) => (Value.int .i64 r)) w1 fun r32 w2 =>
  jn (fun J33 => cnd (!decide (r32 = 0))
    (
    J33 true w2
    )
    (
    callC Try.prog 51 #[(Sl.v p1)] (fun (r : Bool) => (Value.bool r)) w2 fun r35 w3 =>
    J33 (!r35) w3
    ))
  fun c36 w4 =>
  cnd ((c36 || (decide (p2 < 0))) || (decide (1073741824 < p2)))
    (
    K (Sl.nil, false) w4
    )
    (
    callC Try.prog 52 #[(Sl.v p1)] (fun (r : Sl) => (Sl.v r)) w4 fun r42 w5 =>
    callC Try.prog 53 #[(Sl.v r42), (Value.func (.func 54) #[] #[])] (fun (_ : Unit) => (Value.tuple #[])) w5 fun _r43 w6 =>
    lp (fun (next44 : (Sl × Int × Int) → World → Prop) l44 w7 =>
      cnd (decide (l44.2.2 < (r42.len : Int)))
        (
        ix r42 l44.2.2 3 fun p46 =>
        ld (Value.int .i64) (p46.add 0) w7 fun x47 =>
        ld (Value.int .i64) (p46.add 1) w7 fun x48 =>
        ld (Value.int .i64) (p46.add 2) w7 fun x49 =>
        nw 73 #[(Value.int .i64 0), (Value.int .i64 0), (Value.int .i64 0)] w7 fun b50 w8 =>
        st (Addr.mk b50 0 none) [(Value.int .i64 x47), (Value.int .i64 x48), (Value.int .i64 x49)] w8 fun w9 =>
        ld (Value.int .i64) ((Addr.mk b50 0 none).add 1) w9 fun x52 =>
        jn (fun (J54 : Sl → World → Prop) => tk w9 fun w10 =>
          ld (Value.int .i64) ((Addr.mk b50 0 none).add 0) w10 fun x55 =>
          ld (Value.int .i64) ((Addr.mk b50 0 none).add 1) w10 fun x56 =>
          ld (Value.int .i64) ((Addr.mk b50 0 none).add 2) w10 fun x57 =>
          L23 (Addr.mk b9 0 none) w10 fun x58 x59 x60 x61 x62 x63 x64 x65 x66 x67 x68 x69 x70 x71 x72 x73 x74 x75 x76 x77 x78 x79 =>
          ld (Value.int .i64) ((Addr.mk b50 0 none).add 2) w10 fun x80 =>
          callC Try.prog 55 #[(V23 x58 x59 x60 x61 x62 x63 x64 x65 x66 x67 x68 x69 x70 x71 x72 x73 x74 x75 x76 x77 x78 x79), (Value.int .i64 p2), (Value.int .i64 x80)] (fun (r : Int) => (Value.int .i64 r)) w10 fun r81 w11 =>
          (w11.cell? ((Addr.mk b50 0 none).add 0) = some (Value.int .i64 x55) ∧ w11.cell? ((Addr.mk b50 0 none).add 1) = some (Value.int .i64 x56) ∧ w11.cell? ((Addr.mk b50 0 none).add 2) = some (Value.int .i64 x57)) ∧
          nw 98 #[(Value.int .i64 x55), (Value.int .i64 x56), (Value.int .i64 x57), (Value.int .i64 (IntKind.i64.wrap (l44.2.1 + x52))), (Value.int .i64 r81)] w11 fun b82 w12 =>
          (w12.cell? ((Addr.mk b50 0 none).add 0) = some (Value.int .i64 x55) ∧ w12.cell? ((Addr.mk b50 0 none).add 1) = some (Value.int .i64 x56) ∧ w12.cell? ((Addr.mk b50 0 none).add 2) = some (Value.int .i64 x57)) ∧
          rn Try.prog (Builtin.append_ #[94, 94] 94 #[Sl.v l44.1, Sl.v (⟨some ⟨b82, 0, none⟩, 1, 1⟩ : Sl)]) Sl.v w12 fun r83 w13 =>
          (w13.cell? ((Addr.mk b50 0 none).add 0) = some (Value.int .i64 x55) ∧ w13.cell? ((Addr.mk b50 0 none).add 1) = some (Value.int .i64 x56) ∧ w13.cell? ((Addr.mk b50 0 none).add 2) = some (Value.int .i64 x57)) ∧
          J54 r83 w13
        )
        fun l84 w14 =>
        next44 (l84, IntKind.i64.wrap (l44.2.1 + x52), IntKind.i64.wrap (l44.2.2 + 1)) w14
        )
        (
        K (l44.1, true) w7
        )
    ) (Sl.nil, 0, 0) w6
    )
set_option maxRecDepth 100000 in
theorem D38 (p0_0 : ByteArray) (p0_1 : Int) (p0_2 : Int) (p0_3 : Int) (p0_4 : Bool) (p0_5 : Int) (p0_6 : Bool) (p0_7 : Bool) (p0_8 : Int) (p0_9 : Int) (p0_10 : Int) (p0_11 : Int) (p0_12 : Sl) (p0_13 : Int) (p0_14 : Int) (p0_15 : Int) (p0_16 : Int) (p0_17 : Bool) (p0_18 : Int) (p0_19 : Int) (p0_20 : Int) (p0_21 : Int) (p1 : Sl) (p2 : Int) (w0 : World) (K : (Sl × Bool) → World → Prop) (h : F38 p0_0 p0_1 p0_2 p0_3 p0_4 p0_5 p0_6 p0_7 p0_8 p0_9 p0_10 p0_11 p0_12 p0_13 p0_14 p0_15 p0_16 p0_17 p0_18 p0_19 p0_20 p0_21 p1 p2 w0 K) : callC Try.prog 38 #[(V23 p0_0 p0_1 p0_2 p0_3 p0_4 p0_5 p0_6 p0_7 p0_8 p0_9 p0_10 p0_11 p0_12 p0_13 p0_14 p0_15 p0_16 p0_17 p0_18 p0_19 p0_20 p0_21), (Sl.v p1), (Value.int .i64 p2)] (fun (r : Sl × Bool) => (Value.tuple #[(Sl.v r.1), (Value.bool r.2)])) w0 K := by
  unfold F38 at h
  refine calls_of_wpC Try.func38 rfl 56 rfl (by simp) ?_
  intro ρ hρ
  have e0 : ρ 0 = (V23 p0_0 p0_1 p0_2 p0_3 p0_4 p0_5 p0_6 p0_7 p0_8 p0_9 p0_10 p0_11 p0_12 p0_13 p0_14 p0_15 p0_16 p0_17 p0_18 p0_19 p0_20 p0_21) := hρ 0
  have e1 : ρ 1 = (Sl.v p1) := hρ 1
  have e2 : ρ 2 = (Value.int .i64 p2) := hρ 2
  clear hρ
  refine wpC_seq ?_
  refine wpC_region ?_
  obtain ⟨b9, hb9⟩ : ∃ u, u = w0.heap.size := ⟨_, rfl⟩
  obtain ⟨w1, hw9⟩ : ∃ u, u = w0.alloc (.cells (A23 p0_0 p0_1 p0_2 p0_3 p0_4 p0_5 p0_6 p0_7 p0_8 p0_9 p0_10 p0_11 p0_12 p0_13 p0_14 p0_15 p0_16 p0_17 p0_18 p0_19 p0_20 p0_21) 24) := ⟨_, rfl⟩
  replace h := h b9 w1 hb9 hw9
  refine wpR_val (v := (Value.pointer (some (Addr.mk b9 0 none)))) (w' := w1) rfl rfl rfl ((x_box (v := (V23 p0_0 p0_1 p0_2 p0_3 p0_4 p0_5 p0_6 p0_7 p0_8 p0_9 p0_10 p0_11 p0_12 p0_13 p0_14 p0_15 p0_16 p0_17 p0_18 p0_19 p0_20 p0_21)) rfl e0).trans (by rw [hb9, hw9]; rfl)) ?_
  refine wpR_val (v := (Sl.v Sl.nil)) (w' := w1) rfl rfl rfl (x_assign (v := (Sl.v Sl.nil)) rfl rfl) ?_
  refine wpR_val (v := (Value.bool false)) (w' := w1) rfl rfl rfl (x_assign (v := (Value.bool false)) rfl rfl) ?_
  refine wpR_nil ?_
  refine wpC_seq ?_
  refine wpC_seq ?_
  refine wpC_cut (fun ρ => ρ 1 = (Sl.v p1) ∧ ρ 2 = (Value.int .i64 p2) ∧ ρ 3 = (Value.pointer (some (Addr.mk b9 0 none))) ∧ True) ⟨e1, e2, rfl, trivial⟩ ?_
  rintro ρ ⟨e1, e2, e3, -⟩
  refine wpC_region ?_
  obtain ⟨x10, q10, x11, q11, x12, q12, x13, q13, x14, q14, x15, q15, x16, q16, x17, q17, x18, q18, x19, q19, x20, q20, x21, q21, x22, q22, x23, q23, x24, q24, x25, q25, x26, q26, x27, q27, x28, q28, x29, q29, x30, q30, x31, q31, h⟩ := h
  refine wpR_val (v := (V23 x10 x11 x12 x13 x14 x15 x16 x17 x18 x19 x20 x21 x22 x23 x24 x25 x26 x27 x28 x29 x30 x31)) (w' := w1) rfl rfl rfl (x_loadN (S23 x10 x11 x12 x13 x14 x15 x16 x17 x18 x19 x20 x21 x22 x23 x24 x25 x26 x27 x28 x29 x30 x31) rfl e3 SH_24 (K23 ⟨q10, q11, q12, q13, q14, q15, q16, q17, q18, q19, q20, q21, q22, q23, q24, q25, q26, q27, q28, q29, q30, q31⟩)) ?_
  refine wpR_enter rfl rfl rfl (x_call (vs := [(V23 x10 x11 x12 x13 x14 x15 x16 x17 x18 x19 x20 x21 x22 x23 x24 x25 x26 x27 x28 x29 x30 x31)]) rfl rfl (mapl_cons rfl mapl_nil) Try.func23 NN_23 NB_23) (Calls.mono h ?_)
  rintro _ w2 ⟨r32, rfl, h⟩
  refine ⟨_, rfl, ?_⟩
  refine wpR_val (v := (Value.bool (!decide (r32 = 0)))) (w' := w2) rfl rfl rfl (x_neq rfl rfl rfl) ?_
  refine wpR_val (v := (Value.bool (!decide (r32 = 0)))) (w' := w2) rfl rfl rfl (x_move (v := (Value.bool (!decide (r32 = 0)))) rfl rfl) ?_
  obtain ⟨J33, h, hk⟩ := h
  refine wpR_joinJ 4 (fun x ρ => ρ 20 = Value.bool x ∧ ρ 1 = (Sl.v p1) ∧ ρ 2 = (Value.int .i64 p2) ∧ ρ 3 = (Value.pointer (some (Addr.mk b9 0 none))) ∧ True) (J33) ?_ ?_
  · clear hk
    rcases Bool.eq_false_or_eq_true (!decide (r32 = 0)) with hc34 | hc34
    · replace h := h.1 hc34
      refine wpR_pass (wantN rfl rfl rfl hc34) rfl rfl ?_
      refine wpR_pass (wantN rfl rfl rfl hc34) rfl rfl ?_
      refine wpR_pass (wantN rfl rfl rfl hc34) rfl rfl ?_
      refine wpR_val (v := (Value.bool true)) (w' := w2) rfl rfl rfl (x_pickT (v := (Value.bool true)) rfl rfl hc34 rfl) ?_
      refine wpR_nil ?_
      exact ⟨true, ⟨rfl, e1, e2, e3, trivial⟩, h⟩
    · replace h := h.2 hc34
      refine wpR_val (v := (Sl.v p1)) (w' := w2) (wantG rfl rfl rfl hc34) rfl rfl (x_move (v := (Sl.v p1)) rfl e1) ?_
      refine wpR_enter (wantG rfl rfl rfl hc34) rfl rfl (x_call (vs := [(Sl.v p1)]) rfl rfl (mapl_cons rfl mapl_nil) Try.func51 NN_51 NB_51) (Calls.mono h ?_)
      rintro _ w3 ⟨r35, rfl, h⟩
      refine ⟨_, rfl, ?_⟩
      refine wpR_val (v := (Value.bool (!r35))) (w' := w3) (wantG rfl rfl rfl hc34) rfl rfl (x_not rfl rfl) ?_
      refine wpR_val (v := (Value.bool (!r35))) (w' := w3) rfl rfl rfl (x_pickF (v := (Value.bool (!r35))) rfl rfl hc34 rfl) ?_
      refine wpR_nil ?_
      exact ⟨!r35, ⟨rfl, e1, e2, e3, trivial⟩, h⟩
  clear h
  rintro c36 ρ w4 ⟨e20, e1, e2, e3, -⟩ h
  replace h := hk c36 w4 h
  clear hk
  refine wpR_val (v := (Value.bool c36)) (w' := w4) rfl rfl rfl (x_move (v := (Value.bool c36)) rfl e20) ?_
  refine wpR_joinJ 3 (fun (_ : Unit) ρ => ρ 24 = Value.bool (c36 || (decide (p2 < 0))) ∧ ρ 1 = (Sl.v p1) ∧ ρ 2 = (Value.int .i64 p2) ∧ ρ 3 = (Value.pointer (some (Addr.mk b9 0 none))) ∧ True) (fun _ w => w4 = w) ?_ ?_
  · clear h
    rcases Bool.eq_false_or_eq_true (c36) with hc38 | hc38
    · skip
      refine wpR_pass (wantN rfl rfl rfl hc38) rfl rfl ?_
      refine wpR_pass (wantN rfl rfl rfl hc38) rfl rfl ?_
      refine wpR_val (v := (Value.bool true)) (w' := w4) rfl rfl rfl (x_pickT (v := (Value.bool true)) rfl rfl hc38 rfl) ?_
      refine wpR_nil ?_
      exact ⟨(), ⟨(by rw [hc38]; rfl), e1, e2, e3, trivial⟩, rfl⟩
    · skip
      refine wpR_val (v := (Value.int .i64 p2)) (w' := w4) (wantG rfl rfl rfl hc38) rfl rfl (x_move (v := (Value.int .i64 p2)) rfl e2) ?_
      refine wpR_val (v := (Value.bool (decide (p2 < 0)))) (w' := w4) (wantG rfl rfl rfl hc38) rfl rfl (x_lss rfl rfl rfl) ?_
      refine wpR_val (v := (Value.bool (decide (p2 < 0)))) (w' := w4) rfl rfl rfl (x_pickF (v := (Value.bool (decide (p2 < 0)))) rfl rfl hc38 rfl) ?_
      refine wpR_nil ?_
      exact ⟨(), ⟨(by rw [hc38]; rfl), e1, e2, e3, trivial⟩, rfl⟩
  rintro _ ρ wj ⟨e24, e1, e2, e3, -⟩ rfl
  refine wpR_val (v := (Value.bool (c36 || (decide (p2 < 0))))) (w' := w4) rfl rfl rfl (x_move (v := (Value.bool (c36 || (decide (p2 < 0))))) rfl e24) ?_
  refine wpR_joinJ 3 (fun (_ : Unit) ρ => ρ 28 = Value.bool ((c36 || (decide (p2 < 0))) || (decide (1073741824 < p2))) ∧ ρ 1 = (Sl.v p1) ∧ ρ 2 = (Value.int .i64 p2) ∧ ρ 3 = (Value.pointer (some (Addr.mk b9 0 none))) ∧ True) (fun _ w => w4 = w) ?_ ?_
  · clear h
    rcases Bool.eq_false_or_eq_true (c36 || (decide (p2 < 0))) with hc40 | hc40
    · skip
      refine wpR_pass (wantN rfl rfl rfl hc40) rfl rfl ?_
      refine wpR_pass (wantN rfl rfl rfl hc40) rfl rfl ?_
      refine wpR_val (v := (Value.bool true)) (w' := w4) rfl rfl rfl (x_pickT (v := (Value.bool true)) rfl rfl hc40 rfl) ?_
      refine wpR_nil ?_
      exact ⟨(), ⟨(by rw [hc40]; rfl), e1, e2, e3, trivial⟩, rfl⟩
    · skip
      refine wpR_val (v := (Value.int .i64 p2)) (w' := w4) (wantG rfl rfl rfl hc40) rfl rfl (x_move (v := (Value.int .i64 p2)) rfl e2) ?_
      refine wpR_val (v := (Value.bool (decide (1073741824 < p2)))) (w' := w4) (wantG rfl rfl rfl hc40) rfl rfl (x_gtr rfl rfl rfl) ?_
      refine wpR_val (v := (Value.bool (decide (1073741824 < p2)))) (w' := w4) rfl rfl rfl (x_pickF (v := (Value.bool (decide (1073741824 < p2)))) rfl rfl hc40 rfl) ?_
      refine wpR_nil ?_
      exact ⟨(), ⟨(by rw [hc40]; rfl), e1, e2, e3, trivial⟩, rfl⟩
  rintro _ ρ wj ⟨e28, e1, e2, e3, -⟩ rfl
  refine wpR_nil ?_
  refine wpC_cond (b := (c36 || (decide (p2 < 0))) || (decide (1073741824 < p2))) e28 (fun hc41 => ?_) (fun hc41 => ?_)
  · replace h := h.1 hc41
    refine wpC_seq ?_
    refine wpC_region ?_
    refine wpR_val (v := (Sl.v Sl.nil)) (w' := w4) rfl rfl rfl (x_assign (v := (Sl.v Sl.nil)) rfl rfl) ?_
    refine wpR_val (v := (Value.bool false)) (w' := w4) rfl rfl rfl (x_assign (v := (Value.bool false)) rfl rfl) ?_
    refine wpR_nil ?_
    refine wpC_ret ?_
    exact ⟨.inl rfl, fun a ha => ⟨_, results_rep2 rfl ha rfl rfl, (Sl.nil, false), rfl, h⟩⟩
  · replace h := h.2 hc41
    refine wpC_skip ?_
    refine wpC_seq ?_
    refine wpC_region ?_
    refine wpR_val (v := (Sl.v p1)) (w' := w4) rfl rfl rfl (x_move (v := (Sl.v p1)) rfl e1) ?_
    refine wpR_enter rfl rfl rfl (x_call (vs := [(Sl.v p1)]) rfl rfl (mapl_cons rfl mapl_nil) Try.func52 NN_52 NB_52) (Calls.mono h ?_)
    rintro _ w5 ⟨r42, rfl, h⟩
    refine ⟨_, rfl, ?_⟩
    refine wpR_val (v := (Sl.v r42)) (w' := w5) rfl rfl rfl (x_assign (v := (Sl.v r42)) rfl rfl) ?_
    refine wpR_nil ?_
    refine wpC_seq ?_
    refine wpC_cut (fun ρ => ρ 2 = (Value.int .i64 p2) ∧ ρ 3 = (Value.pointer (some (Addr.mk b9 0 none))) ∧ ρ 8 = (Sl.v r42) ∧ True) ⟨e2, e3, rfl, trivial⟩ ?_
    rintro ρ ⟨e2, e3, e8, -⟩
    refine wpC_region ?_
    refine wpR_val (v := (Sl.v r42)) (w' := w5) rfl rfl rfl (x_move (v := (Sl.v r42)) rfl e8) ?_
    refine wpR_enter rfl rfl rfl (x_call (vs := [(Sl.v r42), (Value.func (.func 54) #[] #[])]) rfl rfl (mapl_cons rfl (mapl_cons rfl mapl_nil)) Try.func53 NN_53 NB_53) (Calls.mono h ?_)
    rintro _ w6 ⟨r43, rfl, h⟩
    refine ⟨_, rfl, ?_⟩
    refine wpR_nil ?_
    refine wpC_seq ?_
    refine wpC_cut (fun ρ => ρ 2 = (Value.int .i64 p2) ∧ ρ 3 = (Value.pointer (some (Addr.mk b9 0 none))) ∧ ρ 8 = (Sl.v r42) ∧ True) ⟨e2, e3, e8, trivial⟩ ?_
    rintro ρ ⟨e2, e3, e8, -⟩
    refine wpC_region ?_
    refine wpR_val (v := (Sl.v Sl.nil)) (w' := w6) rfl rfl rfl (x_assign (v := (Sl.v Sl.nil)) rfl rfl) ?_
    refine wpR_nil ?_
    refine wpC_seq ?_
    refine wpC_cut (fun ρ => ρ 2 = (Value.int .i64 p2) ∧ ρ 3 = (Value.pointer (some (Addr.mk b9 0 none))) ∧ ρ 8 = (Sl.v r42) ∧ ρ 9 = (Sl.v Sl.nil) ∧ True) ⟨e2, e3, e8, rfl, trivial⟩ ?_
    rintro ρ ⟨e2, e3, e8, e9, -⟩
    refine wpC_region ?_
    refine wpR_val (v := (Value.int .i64 0)) (w' := w6) rfl rfl rfl (x_assign (v := (Value.int .i64 0)) rfl rfl) ?_
    refine wpR_nil ?_
    refine wpC_seq ?_
    refine wpC_seq ?_
    refine wpC_cut (fun ρ => ρ 2 = (Value.int .i64 p2) ∧ ρ 3 = (Value.pointer (some (Addr.mk b9 0 none))) ∧ ρ 8 = (Sl.v r42) ∧ ρ 9 = (Sl.v Sl.nil) ∧ ρ 10 = (Value.int .i64 0) ∧ True) ⟨e2, e3, e8, e9, rfl, trivial⟩ ?_
    rintro ρ ⟨e2, e3, e8, e9, e10, -⟩
    refine wpC_region ?_
    refine wpR_val (v := (Sl.v r42)) (w' := w6) rfl rfl rfl (x_move (v := (Sl.v r42)) rfl e8) ?_
    refine wpR_val (v := (Value.int .i64 (r42.len : Int))) (w' := w6) rfl rfl rfl (x_lenS (s := r42) rfl rfl isSliceT_71) ?_
    refine wpR_val (v := (Value.int .i64 0)) (w' := w6) rfl rfl rfl (x_move (v := (Value.int .i64 0)) rfl rfl) ?_
    refine wpR_nil ?_
    refine wpC_block ?_
    obtain ⟨I44, μ44, hI44, hr44⟩ := h
    refine wpC_loop (fun (x : Sl × Int × Int) ρ => ρ 9 = (Sl.v x.1) ∧ ρ 10 = (Value.int .i64 x.2.1) ∧ ρ 35 = (Value.int .i64 x.2.2) ∧ ρ 2 = (Value.int .i64 p2) ∧ ρ 3 = (Value.pointer (some (Addr.mk b9 0 none))) ∧ ρ 33 = (Sl.v r42) ∧ ρ 34 = (Value.int .i64 (r42.len : Int)) ∧ True) I44 μ44 (Sl.nil, 0, 0) ⟨e9, e10, rfl, e2, e3, rfl, rfl, trivial⟩ hI44 ?_
    rintro l44 ρ w7 ⟨e9, e10, e35, e2, e3, e33, e34, -⟩ h
    replace h := hr44 l44 w7 h
    clear hr44 hI44
    refine wpC_seq ?_
    refine wpC_region ?_
    refine wpR_val (v := (Value.bool (decide (l44.2.2 < (r42.len : Int))))) (w' := w7) rfl rfl rfl (x_lss rfl e35 e34) ?_
    refine wpR_nil ?_
    refine wpC_seq ?_
    refine wpC_cond (b := decide (l44.2.2 < (r42.len : Int))) rfl (fun hc45 => ?_) (fun hc45 => ?_)
    · replace h := h.1 hc45
      refine wpC_skip ?_
      refine wpC_seq ?_
      refine wpC_block ?_
      refine wpC_seq ?_
      refine wpC_cut (fun ρ => ρ 2 = (Value.int .i64 p2) ∧ ρ 3 = (Value.pointer (some (Addr.mk b9 0 none))) ∧ ρ 9 = (Sl.v l44.1) ∧ ρ 10 = (Value.int .i64 l44.2.1) ∧ ρ 33 = (Sl.v r42) ∧ ρ 34 = (Value.int .i64 (r42.len : Int)) ∧ ρ 35 = (Value.int .i64 l44.2.2) ∧ True) ⟨e2, e3, e9, e10, e33, e34, e35, trivial⟩ ?_
      rintro ρ ⟨e2, e3, e9, e10, e33, e34, e35, -⟩
      refine wpC_region ?_
      obtain ⟨q46, z46, r46, h⟩ := h
      generalize hp46 : z46.add ((l44.2.2 : Int).toNat * 3) = p46 at h
      refine wpR_val (v := (Value.pointer (some p46))) (w' := w7) rfl rfl rfl ((x_indexAddr (s := r42) rfl e33 e35 ES_71 q46 r46).trans (by rw [hp46])) ?_
      obtain ⟨x47, q47, x48, q48, x49, q49, h⟩ := h
      refine wpR_val (v := (Value.agg #[(Value.int .i64 x47), (Value.int .i64 x48), (Value.int .i64 x49)])) (w' := w7) rfl rfl rfl (x_loadN [(Value.int .i64 x47), (Value.int .i64 x48), (Value.int .i64 x49)] rfl rfl SH_73 (CellsAt.out (CellsAt.cons q47 (CellsAt.cons q48 (CellsAt.cons q49 CellsAt.nil))))) ?_
      obtain ⟨b50, hb50⟩ : ∃ u, u = w7.heap.size := ⟨_, rfl⟩
      obtain ⟨w8, hw50⟩ : ∃ u, u = w7.alloc (.cells #[(Value.int .i64 0), (Value.int .i64 0), (Value.int .i64 0)] 73) := ⟨_, rfl⟩
      replace h := h b50 w8 hb50 hw50
      refine wpR_val (v := (Value.pointer (some (Addr.mk b50 0 none)))) (w' := w8) rfl rfl rfl ((x_alloc rfl ZV_73).trans (by rw [hb50, hw50]; rfl)) ?_
      obtain ⟨q51, h⟩ := h
      obtain ⟨w9, hw51⟩ : ∃ u, u = setAll w8 (Addr.mk b50 0 none) [(Value.int .i64 x47), (Value.int .i64 x48), (Value.int .i64 x49)] 0 := ⟨_, rfl⟩
      replace h := h w9 hw51
      refine wpR_skp (w' := w9) rfl rfl ((x_store (v := (Value.agg #[(Value.int .i64 x47), (Value.int .i64 x48), (Value.int .i64 x49)])) rfl rfl rfl SZ_73 (ones (by rfl)) q51).trans (by rw [hw51]; rfl)) ?_
      refine wpR_nil ?_
      refine wpC_seq ?_
      refine wpC_cut (fun ρ => ρ 2 = (Value.int .i64 p2) ∧ ρ 3 = (Value.pointer (some (Addr.mk b9 0 none))) ∧ ρ 9 = (Sl.v l44.1) ∧ ρ 10 = (Value.int .i64 l44.2.1) ∧ ρ 12 = (Value.pointer (some (Addr.mk b50 0 none))) ∧ ρ 33 = (Sl.v r42) ∧ ρ 34 = (Value.int .i64 (r42.len : Int)) ∧ ρ 35 = (Value.int .i64 l44.2.2) ∧ True) ⟨e2, e3, e9, e10, rfl, e33, e34, e35, trivial⟩ ?_
      rintro ρ ⟨e2, e3, e9, e10, e12, e33, e34, e35, -⟩
      refine wpC_region ?_
      refine wpR_val (v := (Value.int .i64 l44.2.1)) (w' := w9) rfl rfl rfl (x_move (v := (Value.int .i64 l44.2.1)) rfl e10) ?_
      refine wpR_val (v := (Value.pointer (some ((Addr.mk b50 0 none).add 1)))) (w' := w9) rfl rfl rfl (x_fieldAddr rfl e12 FA_73_1) ?_
      obtain ⟨x52, q52, h⟩ := h
      refine wpR_val (v := (Value.int .i64 x52)) (w' := w9) rfl rfl rfl (x_load1 rfl rfl SH_3 q52) ?_
      refine wpR_val (v := (Value.int .i64 (IntKind.i64.wrap (l44.2.1 + x52)))) (w' := w9) rfl rfl rfl (x_add rfl rfl rfl) ?_
      refine wpR_val (v := (Value.int .i64 (IntKind.i64.wrap (l44.2.1 + x52)))) (w' := w9) rfl rfl rfl (x_assign (v := (Value.int .i64 (IntKind.i64.wrap (l44.2.1 + x52)))) rfl rfl) ?_
      refine wpR_nil ?_
      refine wpC_cut (fun ρ => ρ 2 = (Value.int .i64 p2) ∧ ρ 3 = (Value.pointer (some (Addr.mk b9 0 none))) ∧ ρ 9 = (Sl.v l44.1) ∧ ρ 10 = (Value.int .i64 (IntKind.i64.wrap (l44.2.1 + x52))) ∧ ρ 12 = (Value.pointer (some (Addr.mk b50 0 none))) ∧ ρ 33 = (Sl.v r42) ∧ ρ 34 = (Value.int .i64 (r42.len : Int)) ∧ ρ 35 = (Value.int .i64 l44.2.2) ∧ True) ⟨e2, e3, e9, rfl, e12, e33, e34, e35, trivial⟩ ?_
      rintro ρ ⟨e2, e3, e9, e10, e12, e33, e34, e35, -⟩
      obtain ⟨J54, h, hk⟩ := h
      refine wpC_drawJ (by kernel_rfl) (fun (x : Sl) ρ => ρ 9 = (Sl.v x) ∧ ρ 2 = (Value.int .i64 p2) ∧ ρ 3 = (Value.pointer (some (Addr.mk b9 0 none))) ∧ ρ 10 = (Value.int .i64 (IntKind.i64.wrap (l44.2.1 + x52))) ∧ ρ 33 = (Sl.v r42) ∧ ρ 34 = (Value.int .i64 (r42.len : Int)) ∧ ρ 35 = (Value.int .i64 l44.2.2) ∧ True) J54 ?_ ?_
      · clear hk
        unfold tk at h
        generalize w9.drew = w10 at h ⊢
        refine wpD_take (v := (Sl.v l44.1)) 0 (fun _ => True) rfl (by kernel_rfl) (by kernel_rfl) (by kernel_rfl) rfl rfl rfl trivial (fun w _ => (x_move (v := (Sl.v l44.1)) rfl e9)) ?_
        obtain ⟨x55, q55, x56, q56, x57, q57, h⟩ := h
        refine wpD_take (v := (Value.agg #[(Value.int .i64 x55), (Value.int .i64 x56), (Value.int .i64 x57)])) 1 (fun w => w.cell? ((Addr.mk b50 0 none).add 0) = some (Value.int .i64 x55) ∧ w.cell? ((Addr.mk b50 0 none).add 1) = some (Value.int .i64 x56) ∧ w.cell? ((Addr.mk b50 0 none).add 2) = some (Value.int .i64 x57)) rfl (by kernel_rfl) (by kernel_rfl) (by kernel_rfl) rfl rfl rfl ⟨q55, q56, q57⟩ (fun w ⟨q55, q56, q57⟩ => (x_loadN [(Value.int .i64 x55), (Value.int .i64 x56), (Value.int .i64 x57)] rfl e12 SH_73 (CellsAt.out (CellsAt.cons q55 (CellsAt.cons q56 (CellsAt.cons q57 CellsAt.nil)))))) ?_
        refine wpD_take (v := (Value.int .i64 (IntKind.i64.wrap (l44.2.1 + x52)))) 2 (fun _ => True) rfl (by kernel_rfl) (by kernel_rfl) (by kernel_rfl) rfl rfl rfl trivial (fun w _ => (x_move (v := (Value.int .i64 (IntKind.i64.wrap (l44.2.1 + x52)))) rfl e10)) ?_
        obtain ⟨x58, q58, x59, q59, x60, q60, x61, q61, x62, q62, x63, q63, x64, q64, x65, q65, x66, q66, x67, q67, x68, q68, x69, q69, x70, q70, x71, q71, x72, q72, x73, q73, x74, q74, x75, q75, x76, q76, x77, q77, x78, q78, x79, q79, h⟩ := h
        refine wpD_take (v := (V23 x58 x59 x60 x61 x62 x63 x64 x65 x66 x67 x68 x69 x70 x71 x72 x73 x74 x75 x76 x77 x78 x79)) 3 (fun w => C23 (Addr.mk b9 0 none) x58 x59 x60 x61 x62 x63 x64 x65 x66 x67 x68 x69 x70 x71 x72 x73 x74 x75 x76 x77 x78 x79 w) rfl (by kernel_rfl) (by kernel_rfl) (by kernel_rfl) rfl rfl rfl ⟨q58, q59, q60, q61, q62, q63, q64, q65, q66, q67, q68, q69, q70, q71, q72, q73, q74, q75, q76, q77, q78, q79⟩ (fun w q => (x_loadN (S23 x58 x59 x60 x61 x62 x63 x64 x65 x66 x67 x68 x69 x70 x71 x72 x73 x74 x75 x76 x77 x78 x79) rfl e3 SH_24 (K23 q))) ?_
        refine wpD_take (v := (Value.int .i64 p2)) 4 (fun _ => True) rfl (by kernel_rfl) (by kernel_rfl) (by kernel_rfl) rfl rfl rfl trivial (fun w _ => (x_move (v := (Value.int .i64 p2)) rfl e2)) ?_
        refine wpD_take (v := (Value.pointer (some ((Addr.mk b50 0 none).add 2)))) 5 (fun _ => True) rfl (by kernel_rfl) (by kernel_rfl) (by kernel_rfl) rfl rfl rfl trivial (fun w _ => (x_fieldAddr rfl e12 FA_73_2)) ?_
        obtain ⟨x80, q80, h⟩ := h
        refine wpD_take (v := (Value.int .i64 x80)) 6 (fun w => w.cell? ((Addr.mk b50 0 none).add 2) = some (Value.int .i64 x80)) rfl (by kernel_rfl) (by kernel_rfl) (by kernel_rfl) rfl rfl rfl q80 (fun w q80 => (x_load1 rfl rfl SH_3 q80)) ?_
        refine wpD_all (rs := [7]) (by kernel_rfl) (by simp) (allD_cons ?_ allD_nil)
        refine stepD_enterL (L' := [(5, fun _ => True), (2, fun _ => True), (1, fun w => w.cell? ((Addr.mk b50 0 none).add 0) = some (Value.int .i64 x55) ∧ w.cell? ((Addr.mk b50 0 none).add 1) = some (Value.int .i64 x56) ∧ w.cell? ((Addr.mk b50 0 none).add 2) = some (Value.int .i64 x57)), (0, fun _ => True)]) rfl rfl rfl rfl (x_call (vs := [(V23 x58 x59 x60 x61 x62 x63 x64 x65 x66 x67 x68 x69 x70 x71 x72 x73 x74 x75 x76 x77 x78 x79), (Value.int .i64 p2), (Value.int .i64 x80)]) rfl rfl (mapl_cons rfl (mapl_cons rfl (mapl_cons rfl mapl_nil))) Try.func55 NN_55 NB_55) (by kernel_rfl) (Calls.mono h ?_)
        rintro _ w11 ⟨r81, rfl, h⟩
        obtain ⟨o1, h⟩ := h
        refine ⟨_, rfl, (held_cons trivial (held_cons trivial (held_cons o1 (held_cons trivial held_nil)))), ?_⟩
        refine wpD_take (v := (Value.agg #[(Value.int .i64 x55), (Value.int .i64 x56), (Value.int .i64 x57), (Value.int .i64 (IntKind.i64.wrap (l44.2.1 + x52))), (Value.int .i64 r81)])) 8 (fun _ => True) rfl (by kernel_rfl) (by kernel_rfl) (by kernel_rfl) rfl rfl rfl trivial (fun w _ => (x_build (qs := [(0, (Value.agg #[(Value.int .i64 x55), (Value.int .i64 x56), (Value.int .i64 x57)])), (1, (Value.int .i64 (IntKind.i64.wrap (l44.2.1 + x52)))), (2, (Value.int .i64 r81))]) rfl (by rfl) (BD_98_0_1_2 x55 x56 x57 (IntKind.i64.wrap (l44.2.1 + x52)) r81 _))) ?_
        refine wpD_all (rs := [9]) (by kernel_rfl) (by simp) (allD_cons ?_ allD_nil)
        obtain ⟨b82, hb82⟩ : ∃ u, u = w11.heap.size := ⟨_, rfl⟩
        obtain ⟨w12, hw82⟩ : ∃ u, u = w11.alloc (.cells #[(Value.int .i64 x55), (Value.int .i64 x56), (Value.int .i64 x57), (Value.int .i64 (IntKind.i64.wrap (l44.2.1 + x52))), (Value.int .i64 r81)] 98) := ⟨_, rfl⟩
        replace h := h b82 w12 hb82 hw82
        obtain ⟨o1, h⟩ := h
        refine stepD_valL (L' := [(5, fun _ => True), (2, fun _ => True), (1, fun w => w.cell? ((Addr.mk b50 0 none).add 0) = some (Value.int .i64 x55) ∧ w.cell? ((Addr.mk b50 0 none).add 1) = some (Value.int .i64 x56) ∧ w.cell? ((Addr.mk b50 0 none).add 2) = some (Value.int .i64 x57)), (0, fun _ => True)]) (v := (Sl.v (⟨some ⟨b82, 0, none⟩, 1, 1⟩ : Sl))) (w' := w12) rfl rfl rfl rfl ((x_buildSlice (qs := [(0, (Value.agg #[(Value.int .i64 x55), (Value.int .i64 x56), (Value.int .i64 x57), (Value.int .i64 (IntKind.i64.wrap (l44.2.1 + x52))), (Value.int .i64 r81)]))]) rfl (by rfl) (BS_94_1_0 x55 x56 x57 (IntKind.i64.wrap (l44.2.1 + x52)) r81)).trans (by rw [← hb82, ← hw82])) (by kernel_rfl) (held_cons trivial (held_cons trivial (held_cons o1 (held_cons trivial held_nil)))) ?_
        refine wpD_all (rs := [10]) (by kernel_rfl) (by simp) (allD_cons ?_ allD_nil)
        obtain ⟨r83, w13, q83, h⟩ := h
        obtain ⟨o1, h⟩ := h
        refine stepD_valL (L' := [(5, fun _ => True), (2, fun _ => True), (1, fun w => w.cell? ((Addr.mk b50 0 none).add 0) = some (Value.int .i64 x55) ∧ w.cell? ((Addr.mk b50 0 none).add 1) = some (Value.int .i64 x56) ∧ w.cell? ((Addr.mk b50 0 none).add 2) = some (Value.int .i64 x57))]) (v := (Sl.v r83)) (w' := w13) rfl rfl rfl rfl (x_append (s := l44.1) (u := (⟨some ⟨b82, 0, none⟩, 1, 1⟩ : Sl)) rfl rfl rfl rfl q83) (by kernel_rfl) (held_cons trivial (held_cons trivial (held_cons o1 held_nil))) ?_
        refine wpD_take (v := (Sl.v r83)) 11 (fun _ => True) rfl (by kernel_rfl) (by kernel_rfl) (by kernel_rfl) rfl rfl rfl trivial (fun w _ => (x_assign (v := (Sl.v r83)) rfl rfl)) ?_
        exact wpD_done (by kernel_rfl) ⟨r83, ⟨rfl, e2, e3, e10, e33, e34, e35, trivial⟩, h⟩
      clear h
      rintro l84 ρ w14 ⟨e9, e2, e3, e10, e33, e34, e35, -⟩ h
      replace h := hk l84 w14 h
      clear hk
      refine wpC_region ?_
      refine wpR_val (v := (Value.int .i64 (IntKind.i64.wrap (l44.2.2 + 1)))) (w' := w14) rfl rfl rfl (x_add rfl e35 rfl) ?_
      refine wpR_val (v := (Value.int .i64 (IntKind.i64.wrap (l44.2.2 + 1)))) (w' := w14) rfl rfl rfl (x_move (v := (Value.int .i64 (IntKind.i64.wrap (l44.2.2 + 1)))) rfl rfl) ?_
      refine wpR_nil ?_
      exact ⟨(l84, IntKind.i64.wrap (l44.2.1 + x52), IntKind.i64.wrap (l44.2.2 + 1)), ⟨e9, e10, rfl, e2, e3, e33, e34, trivial⟩, h⟩
    · replace h := h.2 hc45
      refine wpC_exit ?_
      refine wpC_seq ?_
      refine wpC_cut (fun ρ => ρ 9 = (Sl.v l44.1) ∧ True) ⟨e9, trivial⟩ ?_
      rintro ρ ⟨e9, -⟩
      refine wpC_region ?_
      refine wpR_val (v := (Sl.v l44.1)) (w' := w7) rfl rfl rfl (x_move (v := (Sl.v l44.1)) rfl e9) ?_
      refine wpR_val (v := (Sl.v l44.1)) (w' := w7) rfl rfl rfl (x_assign (v := (Sl.v l44.1)) rfl rfl) ?_
      refine wpR_val (v := (Value.bool true)) (w' := w7) rfl rfl rfl (x_assign (v := (Value.bool true)) rfl rfl) ?_
      refine wpR_nil ?_
      refine wpC_ret ?_
      exact ⟨.inl rfl, fun a ha => ⟨_, results_rep2 rfl ha rfl rfl, (l44.1, true), rfl, h⟩⟩

/-- syntax.Right -/
def F39 (p0_0 : ByteArray) (p0_1 : Int) (p0_2 : Int) (p0_3 : Int) (p0_4 : Bool) (p0_5 : Int) (p0_6 : Bool) (p0_7 : Bool) (p0_8 : Int) (p0_9 : Int) (p0_10 : Int) (p0_11 : Int) (p0_12 : Sl) (p0_13 : Int) (p0_14 : Int) (p0_15 : Int) (p0_16 : Int) (p0_17 : Bool) (p0_18 : Int) (p0_19 : Int) (p0_20 : Int) (p0_21 : Int) (w0 : World) (K : Bool → World → Prop) : Prop :=
  nw 24 (A23 p0_0 p0_1 p0_2 p0_3 p0_4 p0_5 p0_6 p0_7 p0_8 p0_9 p0_10 p0_11 p0_12 p0_13 p0_14 p0_15 p0_16 p0_17 p0_18 p0_19 p0_20 p0_21) w0 fun b9 w1 =>
  ld (Value.int .i64) ((Addr.mk b9 0 none).add 2) w1 fun x10 =>
  ld (Value.int .i64) ((Addr.mk b9 0 none).add 8) w1 fun x11 =>
  ld (Value.int .i64) ((Addr.mk b9 0 none).add 9) w1 fun x12 =>
  ld (Value.int .i64) ((Addr.mk b9 0 none).add 10) w1 fun x13 =>
  ld (Value.int .i64) ((Addr.mk b9 0 none).add 11) w1 fun x14 =>
  ld (Value.int .i64) ((Addr.mk b9 0 none).add 18) w1 fun x15 =>
  ld (Value.int .i64) ((Addr.mk b9 0 none).add 19) w1 fun x16 =>
  ld (Value.int .i64) ((Addr.mk b9 0 none).add 20) w1 fun x17 =>
  ld (Value.int .i64) ((Addr.mk b9 0 none).add 21) w1 fun x18 =>
  nw 3 #[(Value.int .i64 x10), (Value.int .i64 x11), (Value.int .i64 x12), (Value.int .i64 x13), (Value.int .i64 x14), (Value.int .i64 x15), (Value.int .i64 x16), (Value.int .i64 x17), (Value.int .i64 x18)] w1 fun b19 w2 =>
  lp (fun (next20 : Int → World → Prop) l20 w3 =>
    cnd (decide (l20 < ((⟨some ⟨b19, 0, none⟩, 9, 9⟩ : Sl).len : Int)))
      (
      ix (⟨some ⟨b19, 0, none⟩, 9, 9⟩ : Sl) l20 1 fun p22 =>
      ld (Value.int .i64) p22 w3 fun x23 =>
      cnd ((decide (x23 < 0)) || (decide (1073741824 < x23)))
        (
        K false w3
        )
        (
        next20 (IntKind.i64.wrap (l20 + 1)) w3
        )
      )
      (
      ld (Value.int .i64) ((Addr.mk b9 0 none).add 3) w3 fun x27 =>
      ld (Value.int .i64) ((Addr.mk b9 0 none).add 5) w3 fun x28 =>
      ld (Value.int .i64) ((Addr.mk b9 0 none).add 13) w3 fun x29 =>
      ld (Value.int .i64) ((Addr.mk b9 0 none).add 14) w3 fun x30 =>
      ld (Value.int .i64) ((Addr.mk b9 0 none).add 15) w3 fun x31 =>
      ld (Value.int .i64) ((Addr.mk b9 0 none).add 16) w3 fun x32 =>
      nw 114 #[(Value.int .i64 x27), (Value.int .i64 3), (Value.int .i64 x28), (Value.int .i64 3), (Value.int .i64 x29), (Value.int .i64 3), (Value.int .i64 x30), (Value.int .i64 2), (Value.int .i64 x31), (Value.int .i64 2), (Value.int .i64 x32), (Value.int .i64 5)] w3 fun b33 w4 =>
      lp (fun (next34 : Int → World → Prop) l34 w5 =>
        cnd (decide (l34 < ((⟨some ⟨b33, 0, none⟩, 6, 6⟩ : Sl).len : Int)))
          (
          ix (⟨some ⟨b33, 0, none⟩, 6, 6⟩ : Sl) l34 2 fun p36 =>
          ld (Value.int .i64) (p36.add 0) w5 fun x37 =>
          ld (Value.int .i64) (p36.add 1) w5 fun x38 =>
          nw 114 #[(Value.int .i64 0), (Value.int .i64 0)] w5 fun b39 w6 =>
          st (Addr.mk b39 0 none) [(Value.int .i64 x37), (Value.int .i64 x38)] w6 fun w7 =>
          rn Try.prog (Instr.indexAt 114 (Value.pointer (some (Addr.mk b39 0 none))) (Value.int .i64 0)) (fun a : Addr => Value.pointer (some a)) w7 fun p41 w8 =>
          ld (Value.int .i64) p41 w8 fun x42 =>
          jn (fun J43 => cnd (decide (x42 < 0))
            (
            J43 true w8
            )
            (
            rn Try.prog (Instr.indexAt 114 (Value.pointer (some (Addr.mk b39 0 none))) (Value.int .i64 0)) (fun a : Addr => Value.pointer (some a)) w8 fun p45 w9 =>
            ld (Value.int .i64) p45 w9 fun x46 =>
            rn Try.prog (Instr.indexAt 114 (Value.pointer (some (Addr.mk b39 0 none))) (Value.int .i64 1)) (fun a : Addr => Value.pointer (some a)) w9 fun p47 w10 =>
            ld (Value.int .i64) p47 w10 fun x48 =>
            J43 (decide (x48 ≤ x46)) w10
            ))
          fun c49 w11 =>
          cnd (c49)
            (
            K false w11
            )
            (
            next34 (IntKind.i64.wrap (l34 + 1)) w11
            )
          )
          (
          jn (fun (J51 : Bool → World → Prop) =>
            ld Value.string ((Addr.mk b9 0 none).add 0) w5 fun x53 =>
            callC Try.prog 56 #[(Value.string x53)] (fun (r : Bool) => (Value.bool r)) w5 fun r54 w13 =>
            cnd (!r54)
              (
              J51 (!r54) w13
              )
              (
              ld (Value.int .i64) ((Addr.mk b9 0 none).add 1) w13 fun x56 =>
              jp (fun J57 => cnd (!decide (x56 = 0))
                (
                ld (Value.int .i64) ((Addr.mk b9 0 none).add 1) w13 fun x59 =>
                J57 (!decide (x59 = 2))
                )
                (
                J57 false
                ))
              fun c60 =>
              cnd (c60)
                (
                J51 c60 w13
                )
                (
                ld (Value.int .i64) ((Addr.mk b9 0 none).add 1) w13 fun x62 =>
                jp (fun J63 => cnd (decide (x62 = 0))
                  (
                  ld (Value.int .i64) ((Addr.mk b9 0 none).add 2) w13 fun x65 =>
                  J63 (decide (0 < x65))
                  )
                  (
                  J63 false
                  ))
                fun c66 =>
                J51 c66 w13
                )
              )
          )
          fun l52 w12 =>
          cnd (l52)
            (
            K false w12
            )
            (
            ld (Value.int .i64) ((Addr.mk b9 0 none).add 10) w12 fun x68 =>
            cnd (decide (x68 = 0))
              (
              ld (Value.int .i64) ((Addr.mk b9 0 none).add 11) w12 fun x70 =>
              jp (fun J71 => cnd (decide (x70 = 0))
                (
                ld Sl.v ((Addr.mk b9 0 none).add 12) w12 fun x73 =>
                J71 (decide ((x73.len : Int) = 0))
                )
                (
                J71 false
                ))
              fun c74 =>
              K c74 w12
              )
              (
              ld Sl.v ((Addr.mk b9 0 none).add 12) w12 fun x75 =>
              jp (fun J76 => cnd (decide (1 ≤ (x75.len : Int)))
                (
                ld Sl.v ((Addr.mk b9 0 none).add 12) w12 fun x78 =>
                J76 (decide ((x78.len : Int) ≤ 20))
                )
                (
                J76 false
                ))
              fun c79 =>
              jn (fun J80 => cnd (c79)
                (
                ld Sl.v ((Addr.mk b9 0 none).add 12) w12 fun x82 =>
                callC Try.prog 57 #[(Sl.v x82), (Value.func (.func 58) #[] #[])] (fun (r : Bool) => (Value.bool r)) w12 fun r83 w14 =>
                J80 (!r83) w14
                )
                (
                J80 false w12
                ))
              fun c84 w15 =>
              K c84 w15
              )
            )
          )
      ) 0 w4
      )
  ) 0 w2
set_option maxRecDepth 100000 in
theorem D39 (p0_0 : ByteArray) (p0_1 : Int) (p0_2 : Int) (p0_3 : Int) (p0_4 : Bool) (p0_5 : Int) (p0_6 : Bool) (p0_7 : Bool) (p0_8 : Int) (p0_9 : Int) (p0_10 : Int) (p0_11 : Int) (p0_12 : Sl) (p0_13 : Int) (p0_14 : Int) (p0_15 : Int) (p0_16 : Int) (p0_17 : Bool) (p0_18 : Int) (p0_19 : Int) (p0_20 : Int) (p0_21 : Int) (w0 : World) (K : Bool → World → Prop) (h : F39 p0_0 p0_1 p0_2 p0_3 p0_4 p0_5 p0_6 p0_7 p0_8 p0_9 p0_10 p0_11 p0_12 p0_13 p0_14 p0_15 p0_16 p0_17 p0_18 p0_19 p0_20 p0_21 w0 K) : callC Try.prog 39 #[(V23 p0_0 p0_1 p0_2 p0_3 p0_4 p0_5 p0_6 p0_7 p0_8 p0_9 p0_10 p0_11 p0_12 p0_13 p0_14 p0_15 p0_16 p0_17 p0_18 p0_19 p0_20 p0_21)] (fun (r : Bool) => (Value.bool r)) w0 K := by
  unfold F39 at h
  refine calls_of_wpC Try.func39 rfl 123 rfl (by simp) ?_
  intro ρ hρ
  have e0 : ρ 0 = (V23 p0_0 p0_1 p0_2 p0_3 p0_4 p0_5 p0_6 p0_7 p0_8 p0_9 p0_10 p0_11 p0_12 p0_13 p0_14 p0_15 p0_16 p0_17 p0_18 p0_19 p0_20 p0_21) := hρ 0
  clear hρ
  refine wpC_seq ?_
  refine wpC_region ?_
  obtain ⟨b9, hb9⟩ : ∃ u, u = w0.heap.size := ⟨_, rfl⟩
  obtain ⟨w1, hw9⟩ : ∃ u, u = w0.alloc (.cells (A23 p0_0 p0_1 p0_2 p0_3 p0_4 p0_5 p0_6 p0_7 p0_8 p0_9 p0_10 p0_11 p0_12 p0_13 p0_14 p0_15 p0_16 p0_17 p0_18 p0_19 p0_20 p0_21) 24) := ⟨_, rfl⟩
  replace h := h b9 w1 hb9 hw9
  refine wpR_val (v := (Value.pointer (some (Addr.mk b9 0 none)))) (w' := w1) rfl rfl rfl ((x_box (v := (V23 p0_0 p0_1 p0_2 p0_3 p0_4 p0_5 p0_6 p0_7 p0_8 p0_9 p0_10 p0_11 p0_12 p0_13 p0_14 p0_15 p0_16 p0_17 p0_18 p0_19 p0_20 p0_21)) rfl e0).trans (by rw [hb9, hw9]; rfl)) ?_
  refine wpR_val (v := (Value.bool false)) (w' := w1) rfl rfl rfl (x_assign (v := (Value.bool false)) rfl rfl) ?_
  refine wpR_nil ?_
  refine wpC_seq ?_
  refine wpC_seq ?_
  refine wpC_cut (fun ρ => ρ 1 = (Value.pointer (some (Addr.mk b9 0 none))) ∧ True) ⟨rfl, trivial⟩ ?_
  rintro ρ ⟨e1, -⟩
  refine wpC_region ?_
  refine wpR_val (v := (Value.pointer (some ((Addr.mk b9 0 none).add 2)))) (w' := w1) rfl rfl rfl (x_fieldAddr rfl e1 FA_24_2) ?_
  obtain ⟨x10, q10, h⟩ := h
  refine wpR_val (v := (Value.int .i64 x10)) (w' := w1) rfl rfl rfl (x_load1 rfl rfl SH_3 q10) ?_
  refine wpR_val (v := (Value.pointer (some ((Addr.mk b9 0 none).add 8)))) (w' := w1) rfl rfl rfl (x_fieldAddr rfl e1 FA_24_8) ?_
  obtain ⟨x11, q11, h⟩ := h
  refine wpR_val (v := (Value.int .i64 x11)) (w' := w1) rfl rfl rfl (x_load1 rfl rfl SH_3 q11) ?_
  refine wpR_val (v := (Value.pointer (some ((Addr.mk b9 0 none).add 9)))) (w' := w1) rfl rfl rfl (x_fieldAddr rfl e1 FA_24_9) ?_
  obtain ⟨x12, q12, h⟩ := h
  refine wpR_val (v := (Value.int .i64 x12)) (w' := w1) rfl rfl rfl (x_load1 rfl rfl SH_3 q12) ?_
  refine wpR_val (v := (Value.pointer (some ((Addr.mk b9 0 none).add 10)))) (w' := w1) rfl rfl rfl (x_fieldAddr rfl e1 FA_24_10) ?_
  obtain ⟨x13, q13, h⟩ := h
  refine wpR_val (v := (Value.int .i64 x13)) (w' := w1) rfl rfl rfl (x_load1 rfl rfl SH_3 q13) ?_
  refine wpR_val (v := (Value.pointer (some ((Addr.mk b9 0 none).add 11)))) (w' := w1) rfl rfl rfl (x_fieldAddr rfl e1 FA_24_11) ?_
  obtain ⟨x14, q14, h⟩ := h
  refine wpR_val (v := (Value.int .i64 x14)) (w' := w1) rfl rfl rfl (x_load1 rfl rfl SH_3 q14) ?_
  refine wpR_val (v := (Value.pointer (some ((Addr.mk b9 0 none).add 18)))) (w' := w1) rfl rfl rfl (x_fieldAddr rfl e1 FA_24_18) ?_
  obtain ⟨x15, q15, h⟩ := h
  refine wpR_val (v := (Value.int .i64 x15)) (w' := w1) rfl rfl rfl (x_load1 rfl rfl SH_3 q15) ?_
  refine wpR_val (v := (Value.pointer (some ((Addr.mk b9 0 none).add 19)))) (w' := w1) rfl rfl rfl (x_fieldAddr rfl e1 FA_24_19) ?_
  obtain ⟨x16, q16, h⟩ := h
  refine wpR_val (v := (Value.int .i64 x16)) (w' := w1) rfl rfl rfl (x_load1 rfl rfl SH_3 q16) ?_
  refine wpR_val (v := (Value.pointer (some ((Addr.mk b9 0 none).add 20)))) (w' := w1) rfl rfl rfl (x_fieldAddr rfl e1 FA_24_20) ?_
  obtain ⟨x17, q17, h⟩ := h
  refine wpR_val (v := (Value.int .i64 x17)) (w' := w1) rfl rfl rfl (x_load1 rfl rfl SH_3 q17) ?_
  refine wpR_val (v := (Value.pointer (some ((Addr.mk b9 0 none).add 21)))) (w' := w1) rfl rfl rfl (x_fieldAddr rfl e1 FA_24_21) ?_
  obtain ⟨x18, q18, h⟩ := h
  refine wpR_val (v := (Value.int .i64 x18)) (w' := w1) rfl rfl rfl (x_load1 rfl rfl SH_3 q18) ?_
  obtain ⟨b19, hb19⟩ : ∃ u, u = w1.heap.size := ⟨_, rfl⟩
  obtain ⟨w2, hw19⟩ : ∃ u, u = w1.alloc (.cells #[(Value.int .i64 x10), (Value.int .i64 x11), (Value.int .i64 x12), (Value.int .i64 x13), (Value.int .i64 x14), (Value.int .i64 x15), (Value.int .i64 x16), (Value.int .i64 x17), (Value.int .i64 x18)] 3) := ⟨_, rfl⟩
  replace h := h b19 w2 hb19 hw19
  refine wpR_val (v := (Sl.v (⟨some ⟨b19, 0, none⟩, 9, 9⟩ : Sl))) (w' := w2) rfl rfl rfl ((x_buildSlice (qs := [(0, (Value.int .i64 x10)), (1, (Value.int .i64 x11)), (2, (Value.int .i64 x12)), (3, (Value.int .i64 x13)), (4, (Value.int .i64 x14)), (5, (Value.int .i64 x15)), (6, (Value.int .i64 x16)), (7, (Value.int .i64 x17)), (8, (Value.int .i64 x18))]) rfl (by rfl) (BS_38_9_0_1_2_3_4_5_6_7_8 x10 x11 x12 x13 x14 x15 x16 x17 x18)).trans (by rw [← hb19, ← hw19])) ?_
  refine wpR_val (v := (Value.int .i64 ((⟨some ⟨b19, 0, none⟩, 9, 9⟩ : Sl).len : Int))) (w' := w2) rfl rfl rfl (x_lenS (s := (⟨some ⟨b19, 0, none⟩, 9, 9⟩ : Sl)) rfl rfl isSliceT_38) ?_
  refine wpR_val (v := (Value.int .i64 0)) (w' := w2) rfl rfl rfl (x_move (v := (Value.int .i64 0)) rfl rfl) ?_
  refine wpR_nil ?_
  refine wpC_block ?_
  obtain ⟨I20, μ20, hI20, hr20⟩ := h
  refine wpC_loop (fun (x : Int) ρ => ρ 27 = (Value.int .i64 x) ∧ ρ 1 = (Value.pointer (some (Addr.mk b9 0 none))) ∧ ρ 25 = (Sl.v (⟨some ⟨b19, 0, none⟩, 9, 9⟩ : Sl)) ∧ ρ 26 = (Value.int .i64 ((⟨some ⟨b19, 0, none⟩, 9, 9⟩ : Sl).len : Int)) ∧ True) I20 μ20 0 ⟨rfl, e1, rfl, rfl, trivial⟩ hI20 ?_
  rintro l20 ρ w3 ⟨e27, e1, e25, e26, -⟩ h
  replace h := hr20 l20 w3 h
  clear hr20 hI20
  refine wpC_seq ?_
  refine wpC_region ?_
  refine wpR_val (v := (Value.bool (decide (l20 < ((⟨some ⟨b19, 0, none⟩, 9, 9⟩ : Sl).len : Int))))) (w' := w3) rfl rfl rfl (x_lss rfl e27 e26) ?_
  refine wpR_nil ?_
  refine wpC_seq ?_
  refine wpC_cond (b := decide (l20 < ((⟨some ⟨b19, 0, none⟩, 9, 9⟩ : Sl).len : Int))) rfl (fun hc21 => ?_) (fun hc21 => ?_)
  · replace h := h.1 hc21
    refine wpC_skip ?_
    refine wpC_seq ?_
    refine wpC_block ?_
    refine wpC_seq ?_
    refine wpC_cut (fun ρ => ρ 1 = (Value.pointer (some (Addr.mk b9 0 none))) ∧ ρ 25 = (Sl.v (⟨some ⟨b19, 0, none⟩, 9, 9⟩ : Sl)) ∧ ρ 26 = (Value.int .i64 ((⟨some ⟨b19, 0, none⟩, 9, 9⟩ : Sl).len : Int)) ∧ ρ 27 = (Value.int .i64 l20) ∧ True) ⟨e1, e25, e26, e27, trivial⟩ ?_
    rintro ρ ⟨e1, e25, e26, e27, -⟩
    refine wpC_region ?_
    obtain ⟨q22, z22, r22, h⟩ := h
    generalize hp22 : z22.add ((l20 : Int).toNat * 1) = p22 at h
    refine wpR_val (v := (Value.pointer (some p22))) (w' := w3) rfl rfl rfl ((x_indexAddr (s := (⟨some ⟨b19, 0, none⟩, 9, 9⟩ : Sl)) rfl e25 e27 ES_38 q22 r22).trans (by rw [hp22])) ?_
    obtain ⟨x23, q23, h⟩ := h
    refine wpR_val (v := (Value.int .i64 x23)) (w' := w3) rfl rfl rfl (x_load1 rfl rfl SH_3 q23) ?_
    refine wpR_val (v := (Value.int .i64 x23)) (w' := w3) rfl rfl rfl (x_assign (v := (Value.int .i64 x23)) rfl rfl) ?_
    refine wpR_nil ?_
    refine wpC_seq ?_
    refine wpC_cut (fun ρ => ρ 1 = (Value.pointer (some (Addr.mk b9 0 none))) ∧ ρ 4 = (Value.int .i64 x23) ∧ ρ 25 = (Sl.v (⟨some ⟨b19, 0, none⟩, 9, 9⟩ : Sl)) ∧ ρ 26 = (Value.int .i64 ((⟨some ⟨b19, 0, none⟩, 9, 9⟩ : Sl).len : Int)) ∧ ρ 27 = (Value.int .i64 l20) ∧ True) ⟨e1, rfl, e25, e26, e27, trivial⟩ ?_
    rintro ρ ⟨e1, e4, e25, e26, e27, -⟩
    refine wpC_region ?_
    refine wpR_val (v := (Value.int .i64 x23)) (w' := w3) rfl rfl rfl (x_move (v := (Value.int .i64 x23)) rfl e4) ?_
    refine wpR_val (v := (Value.bool (decide (x23 < 0)))) (w' := w3) rfl rfl rfl (x_lss rfl rfl rfl) ?_
    refine wpR_val (v := (Value.bool (decide (x23 < 0)))) (w' := w3) rfl rfl rfl (x_move (v := (Value.bool (decide (x23 < 0)))) rfl rfl) ?_
    refine wpR_joinJ 3 (fun (_ : Unit) ρ => ρ 36 = Value.bool ((decide (x23 < 0)) || (decide (1073741824 < x23))) ∧ ρ 1 = (Value.pointer (some (Addr.mk b9 0 none))) ∧ ρ 25 = (Sl.v (⟨some ⟨b19, 0, none⟩, 9, 9⟩ : Sl)) ∧ ρ 26 = (Value.int .i64 ((⟨some ⟨b19, 0, none⟩, 9, 9⟩ : Sl).len : Int)) ∧ ρ 27 = (Value.int .i64 l20) ∧ True) (fun _ w => w3 = w) ?_ ?_
    · clear h
      rcases Bool.eq_false_or_eq_true (decide (x23 < 0)) with hc25 | hc25
      · skip
        refine wpR_pass (wantN rfl rfl rfl hc25) rfl rfl ?_
        refine wpR_pass (wantN rfl rfl rfl hc25) rfl rfl ?_
        refine wpR_val (v := (Value.bool true)) (w' := w3) rfl rfl rfl (x_pickT (v := (Value.bool true)) rfl rfl hc25 rfl) ?_
        refine wpR_nil ?_
        exact ⟨(), ⟨(by rw [hc25]; rfl), e1, e25, e26, e27, trivial⟩, rfl⟩
      · skip
        refine wpR_val (v := (Value.int .i64 x23)) (w' := w3) (wantG rfl rfl rfl hc25) rfl rfl (x_move (v := (Value.int .i64 x23)) rfl e4) ?_
        refine wpR_val (v := (Value.bool (decide (1073741824 < x23)))) (w' := w3) (wantG rfl rfl rfl hc25) rfl rfl (x_gtr rfl rfl rfl) ?_
        refine wpR_val (v := (Value.bool (decide (1073741824 < x23)))) (w' := w3) rfl rfl rfl (x_pickF (v := (Value.bool (decide (1073741824 < x23)))) rfl rfl hc25 rfl) ?_
        refine wpR_nil ?_
        exact ⟨(), ⟨(by rw [hc25]; rfl), e1, e25, e26, e27, trivial⟩, rfl⟩
    rintro _ ρ wj ⟨e36, e1, e25, e26, e27, -⟩ rfl
    refine wpR_nil ?_
    refine wpC_cond (b := (decide (x23 < 0)) || (decide (1073741824 < x23))) e36 (fun hc26 => ?_) (fun hc26 => ?_)
    · replace h := h.1 hc26
      refine wpC_seq ?_
      refine wpC_region ?_
      refine wpR_val (v := (Value.bool false)) (w' := w3) rfl rfl rfl (x_assign (v := (Value.bool false)) rfl rfl) ?_
      refine wpR_nil ?_
      refine wpC_ret ?_
      exact ⟨.inl rfl, fun a ha => ⟨_, results_rep1 rfl ha rfl, false, rfl, h⟩⟩
    · replace h := h.2 hc26
      refine wpC_skip ?_
      refine wpC_region ?_
      refine wpR_val (v := (Value.int .i64 (IntKind.i64.wrap (l20 + 1)))) (w' := w3) rfl rfl rfl (x_add rfl e27 rfl) ?_
      refine wpR_val (v := (Value.int .i64 (IntKind.i64.wrap (l20 + 1)))) (w' := w3) rfl rfl rfl (x_move (v := (Value.int .i64 (IntKind.i64.wrap (l20 + 1)))) rfl rfl) ?_
      refine wpR_nil ?_
      exact ⟨IntKind.i64.wrap (l20 + 1), ⟨rfl, e1, e25, e26, trivial⟩, h⟩
  · replace h := h.2 hc21
    refine wpC_exit ?_
    refine wpC_seq ?_
    refine wpC_seq ?_
    refine wpC_cut (fun ρ => ρ 1 = (Value.pointer (some (Addr.mk b9 0 none))) ∧ True) ⟨e1, trivial⟩ ?_
    rintro ρ ⟨e1, -⟩
    refine wpC_region ?_
    refine wpR_val (v := (Value.pointer (some ((Addr.mk b9 0 none).add 3)))) (w' := w3) rfl rfl rfl (x_fieldAddr rfl e1 FA_24_3) ?_
    obtain ⟨x27, q27, h⟩ := h
    refine wpR_val (v := (Value.int .i64 x27)) (w' := w3) rfl rfl rfl (x_load1 rfl rfl SH_3 q27) ?_
    refine wpR_val (v := (Value.agg #[(Value.int .i64 x27), (Value.int .i64 3)])) (w' := w3) rfl rfl rfl (x_build (qs := [(0, (Value.int .i64 x27)), (1, (Value.int .i64 3))]) rfl (by rfl) (BD_114_0_1 x27 3 _)) ?_
    refine wpR_val (v := (Value.pointer (some ((Addr.mk b9 0 none).add 5)))) (w' := w3) rfl rfl rfl (x_fieldAddr rfl e1 FA_24_5) ?_
    obtain ⟨x28, q28, h⟩ := h
    refine wpR_val (v := (Value.int .i64 x28)) (w' := w3) rfl rfl rfl (x_load1 rfl rfl SH_3 q28) ?_
    refine wpR_val (v := (Value.agg #[(Value.int .i64 x28), (Value.int .i64 3)])) (w' := w3) rfl rfl rfl (x_build (qs := [(0, (Value.int .i64 x28)), (1, (Value.int .i64 3))]) rfl (by rfl) (BD_114_0_1 x28 3 _)) ?_
    refine wpR_val (v := (Value.pointer (some ((Addr.mk b9 0 none).add 13)))) (w' := w3) rfl rfl rfl (x_fieldAddr rfl e1 FA_24_13) ?_
    obtain ⟨x29, q29, h⟩ := h
    refine wpR_val (v := (Value.int .i64 x29)) (w' := w3) rfl rfl rfl (x_load1 rfl rfl SH_3 q29) ?_
    refine wpR_val (v := (Value.agg #[(Value.int .i64 x29), (Value.int .i64 3)])) (w' := w3) rfl rfl rfl (x_build (qs := [(0, (Value.int .i64 x29)), (1, (Value.int .i64 3))]) rfl (by rfl) (BD_114_0_1 x29 3 _)) ?_
    refine wpR_val (v := (Value.pointer (some ((Addr.mk b9 0 none).add 14)))) (w' := w3) rfl rfl rfl (x_fieldAddr rfl e1 FA_24_14) ?_
    obtain ⟨x30, q30, h⟩ := h
    refine wpR_val (v := (Value.int .i64 x30)) (w' := w3) rfl rfl rfl (x_load1 rfl rfl SH_3 q30) ?_
    refine wpR_val (v := (Value.agg #[(Value.int .i64 x30), (Value.int .i64 2)])) (w' := w3) rfl rfl rfl (x_build (qs := [(0, (Value.int .i64 x30)), (1, (Value.int .i64 2))]) rfl (by rfl) (BD_114_0_1 x30 2 _)) ?_
    refine wpR_val (v := (Value.pointer (some ((Addr.mk b9 0 none).add 15)))) (w' := w3) rfl rfl rfl (x_fieldAddr rfl e1 FA_24_15) ?_
    obtain ⟨x31, q31, h⟩ := h
    refine wpR_val (v := (Value.int .i64 x31)) (w' := w3) rfl rfl rfl (x_load1 rfl rfl SH_3 q31) ?_
    refine wpR_val (v := (Value.agg #[(Value.int .i64 x31), (Value.int .i64 2)])) (w' := w3) rfl rfl rfl (x_build (qs := [(0, (Value.int .i64 x31)), (1, (Value.int .i64 2))]) rfl (by rfl) (BD_114_0_1 x31 2 _)) ?_
    refine wpR_val (v := (Value.pointer (some ((Addr.mk b9 0 none).add 16)))) (w' := w3) rfl rfl rfl (x_fieldAddr rfl e1 FA_24_16) ?_
    obtain ⟨x32, q32, h⟩ := h
    refine wpR_val (v := (Value.int .i64 x32)) (w' := w3) rfl rfl rfl (x_load1 rfl rfl SH_3 q32) ?_
    refine wpR_val (v := (Value.agg #[(Value.int .i64 x32), (Value.int .i64 5)])) (w' := w3) rfl rfl rfl (x_build (qs := [(0, (Value.int .i64 x32)), (1, (Value.int .i64 5))]) rfl (by rfl) (BD_114_0_1 x32 5 _)) ?_
    obtain ⟨b33, hb33⟩ : ∃ u, u = w3.heap.size := ⟨_, rfl⟩
    obtain ⟨w4, hw33⟩ : ∃ u, u = w3.alloc (.cells #[(Value.int .i64 x27), (Value.int .i64 3), (Value.int .i64 x28), (Value.int .i64 3), (Value.int .i64 x29), (Value.int .i64 3), (Value.int .i64 x30), (Value.int .i64 2), (Value.int .i64 x31), (Value.int .i64 2), (Value.int .i64 x32), (Value.int .i64 5)] 114) := ⟨_, rfl⟩
    replace h := h b33 w4 hb33 hw33
    refine wpR_val (v := (Sl.v (⟨some ⟨b33, 0, none⟩, 6, 6⟩ : Sl))) (w' := w4) rfl rfl rfl ((x_buildSlice (qs := [(0, (Value.agg #[(Value.int .i64 x27), (Value.int .i64 3)])), (1, (Value.agg #[(Value.int .i64 x28), (Value.int .i64 3)])), (2, (Value.agg #[(Value.int .i64 x29), (Value.int .i64 3)])), (3, (Value.agg #[(Value.int .i64 x30), (Value.int .i64 2)])), (4, (Value.agg #[(Value.int .i64 x31), (Value.int .i64 2)])), (5, (Value.agg #[(Value.int .i64 x32), (Value.int .i64 5)]))]) rfl (by rfl) (BS_115_6_0_1_2_3_4_5 x27 3 x28 3 x29 3 x30 2 x31 2 x32 5)).trans (by rw [← hb33, ← hw33])) ?_
    refine wpR_val (v := (Value.int .i64 ((⟨some ⟨b33, 0, none⟩, 6, 6⟩ : Sl).len : Int))) (w' := w4) rfl rfl rfl (x_lenS (s := (⟨some ⟨b33, 0, none⟩, 6, 6⟩ : Sl)) rfl rfl isSliceT_115) ?_
    refine wpR_val (v := (Value.int .i64 0)) (w' := w4) rfl rfl rfl (x_move (v := (Value.int .i64 0)) rfl rfl) ?_
    refine wpR_nil ?_
    refine wpC_block ?_
    obtain ⟨I34, μ34, hI34, hr34⟩ := h
    refine wpC_loop (fun (x : Int) ρ => ρ 58 = (Value.int .i64 x) ∧ ρ 1 = (Value.pointer (some (Addr.mk b9 0 none))) ∧ ρ 56 = (Sl.v (⟨some ⟨b33, 0, none⟩, 6, 6⟩ : Sl)) ∧ ρ 57 = (Value.int .i64 ((⟨some ⟨b33, 0, none⟩, 6, 6⟩ : Sl).len : Int)) ∧ True) I34 μ34 0 ⟨rfl, e1, rfl, rfl, trivial⟩ hI34 ?_
    rintro l34 ρ w5 ⟨e58, e1, e56, e57, -⟩ h
    replace h := hr34 l34 w5 h
    clear hr34 hI34
    refine wpC_seq ?_
    refine wpC_region ?_
    refine wpR_val (v := (Value.bool (decide (l34 < ((⟨some ⟨b33, 0, none⟩, 6, 6⟩ : Sl).len : Int))))) (w' := w5) rfl rfl rfl (x_lss rfl e58 e57) ?_
    refine wpR_nil ?_
    refine wpC_seq ?_
    refine wpC_cond (b := decide (l34 < ((⟨some ⟨b33, 0, none⟩, 6, 6⟩ : Sl).len : Int))) rfl (fun hc35 => ?_) (fun hc35 => ?_)
    · replace h := h.1 hc35
      refine wpC_skip ?_
      refine wpC_seq ?_
      refine wpC_block ?_
      refine wpC_seq ?_
      refine wpC_cut (fun ρ => ρ 1 = (Value.pointer (some (Addr.mk b9 0 none))) ∧ ρ 56 = (Sl.v (⟨some ⟨b33, 0, none⟩, 6, 6⟩ : Sl)) ∧ ρ 57 = (Value.int .i64 ((⟨some ⟨b33, 0, none⟩, 6, 6⟩ : Sl).len : Int)) ∧ ρ 58 = (Value.int .i64 l34) ∧ True) ⟨e1, e56, e57, e58, trivial⟩ ?_
      rintro ρ ⟨e1, e56, e57, e58, -⟩
      refine wpC_region ?_
      obtain ⟨q36, z36, r36, h⟩ := h
      generalize hp36 : z36.add ((l34 : Int).toNat * 2) = p36 at h
      refine wpR_val (v := (Value.pointer (some p36))) (w' := w5) rfl rfl rfl ((x_indexAddr (s := (⟨some ⟨b33, 0, none⟩, 6, 6⟩ : Sl)) rfl e56 e58 ES_115 q36 r36).trans (by rw [hp36])) ?_
      obtain ⟨x37, q37, x38, q38, h⟩ := h
      refine wpR_val (v := (Value.agg #[(Value.int .i64 x37), (Value.int .i64 x38)])) (w' := w5) rfl rfl rfl (x_loadN [(Value.int .i64 x37), (Value.int .i64 x38)] rfl rfl SH_114 (CellsAt.out (CellsAt.cons q37 (CellsAt.cons q38 CellsAt.nil)))) ?_
      obtain ⟨b39, hb39⟩ : ∃ u, u = w5.heap.size := ⟨_, rfl⟩
      obtain ⟨w6, hw39⟩ : ∃ u, u = w5.alloc (.cells #[(Value.int .i64 0), (Value.int .i64 0)] 114) := ⟨_, rfl⟩
      replace h := h b39 w6 hb39 hw39
      refine wpR_val (v := (Value.pointer (some (Addr.mk b39 0 none)))) (w' := w6) rfl rfl rfl ((x_alloc rfl ZV_114).trans (by rw [hb39, hw39]; rfl)) ?_
      obtain ⟨q40, h⟩ := h
      obtain ⟨w7, hw40⟩ : ∃ u, u = setAll w6 (Addr.mk b39 0 none) [(Value.int .i64 x37), (Value.int .i64 x38)] 0 := ⟨_, rfl⟩
      replace h := h w7 hw40
      refine wpR_skp (w' := w7) rfl rfl ((x_store (v := (Value.agg #[(Value.int .i64 x37), (Value.int .i64 x38)])) rfl rfl rfl SZ_114 (ones (by rfl)) q40).trans (by rw [hw40]; rfl)) ?_
      refine wpR_nil ?_
      refine wpC_seq ?_
      refine wpC_cut (fun ρ => ρ 1 = (Value.pointer (some (Addr.mk b9 0 none))) ∧ ρ 6 = (Value.pointer (some (Addr.mk b39 0 none))) ∧ ρ 56 = (Sl.v (⟨some ⟨b33, 0, none⟩, 6, 6⟩ : Sl)) ∧ ρ 57 = (Value.int .i64 ((⟨some ⟨b33, 0, none⟩, 6, 6⟩ : Sl).len : Int)) ∧ ρ 58 = (Value.int .i64 l34) ∧ True) ⟨e1, rfl, e56, e57, e58, trivial⟩ ?_
      rintro ρ ⟨e1, e6, e56, e57, e58, -⟩
      refine wpC_region ?_
      obtain ⟨p41, w8, q41, h⟩ := h
      refine wpR_val (v := (Value.pointer (some p41))) (w' := w8) rfl rfl rfl (x_indexAt rfl e6 rfl q41) ?_
      obtain ⟨x42, q42, h⟩ := h
      refine wpR_val (v := (Value.int .i64 x42)) (w' := w8) rfl rfl rfl (x_load1 rfl rfl SH_3 q42) ?_
      refine wpR_val (v := (Value.bool (decide (x42 < 0)))) (w' := w8) rfl rfl rfl (x_lss rfl rfl rfl) ?_
      refine wpR_val (v := (Value.bool (decide (x42 < 0)))) (w' := w8) rfl rfl rfl (x_move (v := (Value.bool (decide (x42 < 0)))) rfl rfl) ?_
      obtain ⟨J43, h, hk⟩ := h
      refine wpR_joinJ 6 (fun x ρ => ρ 71 = Value.bool x ∧ ρ 1 = (Value.pointer (some (Addr.mk b9 0 none))) ∧ ρ 56 = (Sl.v (⟨some ⟨b33, 0, none⟩, 6, 6⟩ : Sl)) ∧ ρ 57 = (Value.int .i64 ((⟨some ⟨b33, 0, none⟩, 6, 6⟩ : Sl).len : Int)) ∧ ρ 58 = (Value.int .i64 l34) ∧ True) (J43) ?_ ?_
      · clear hk
        rcases Bool.eq_false_or_eq_true (decide (x42 < 0)) with hc44 | hc44
        · replace h := h.1 hc44
          refine wpR_pass (wantN rfl rfl rfl hc44) rfl rfl ?_
          refine wpR_pass (wantN rfl rfl rfl hc44) rfl rfl ?_
          refine wpR_pass (wantN rfl rfl rfl hc44) rfl rfl ?_
          refine wpR_pass (wantN rfl rfl rfl hc44) rfl rfl ?_
          refine wpR_pass (wantN rfl rfl rfl hc44) rfl rfl ?_
          refine wpR_val (v := (Value.bool true)) (w' := w8) rfl rfl rfl (x_pickT (v := (Value.bool true)) rfl rfl hc44 rfl) ?_
          refine wpR_nil ?_
          exact ⟨true, ⟨rfl, e1, e56, e57, e58, trivial⟩, h⟩
        · replace h := h.2 hc44
          obtain ⟨p45, w9, q45, h⟩ := h
          refine wpR_val (v := (Value.pointer (some p45))) (w' := w9) (wantG rfl rfl rfl hc44) rfl rfl (x_indexAt rfl e6 rfl q45) ?_
          obtain ⟨x46, q46, h⟩ := h
          refine wpR_val (v := (Value.int .i64 x46)) (w' := w9) (wantG rfl rfl rfl hc44) rfl rfl (x_load1 rfl rfl SH_3 q46) ?_
          obtain ⟨p47, w10, q47, h⟩ := h
          refine wpR_val (v := (Value.pointer (some p47))) (w' := w10) (wantG rfl rfl rfl hc44) rfl rfl (x_indexAt rfl e6 rfl q47) ?_
          obtain ⟨x48, q48, h⟩ := h
          refine wpR_val (v := (Value.int .i64 x48)) (w' := w10) (wantG rfl rfl rfl hc44) rfl rfl (x_load1 rfl rfl SH_3 q48) ?_
          refine wpR_val (v := (Value.bool (decide (x48 ≤ x46)))) (w' := w10) (wantG rfl rfl rfl hc44) rfl rfl (x_geq rfl rfl rfl) ?_
          refine wpR_val (v := (Value.bool (decide (x48 ≤ x46)))) (w' := w10) rfl rfl rfl (x_pickF (v := (Value.bool (decide (x48 ≤ x46)))) rfl rfl hc44 rfl) ?_
          refine wpR_nil ?_
          exact ⟨decide (x48 ≤ x46), ⟨rfl, e1, e56, e57, e58, trivial⟩, h⟩
      clear h
      rintro c49 ρ w11 ⟨e71, e1, e56, e57, e58, -⟩ h
      replace h := hk c49 w11 h
      clear hk
      refine wpR_nil ?_
      refine wpC_cond (b := c49) e71 (fun hc50 => ?_) (fun hc50 => ?_)
      · replace h := h.1 hc50
        refine wpC_seq ?_
        refine wpC_region ?_
        refine wpR_val (v := (Value.bool false)) (w' := w11) rfl rfl rfl (x_assign (v := (Value.bool false)) rfl rfl) ?_
        refine wpR_nil ?_
        refine wpC_ret ?_
        exact ⟨.inl rfl, fun a ha => ⟨_, results_rep1 rfl ha rfl, false, rfl, h⟩⟩
      · replace h := h.2 hc50
        refine wpC_skip ?_
        refine wpC_region ?_
        refine wpR_val (v := (Value.int .i64 (IntKind.i64.wrap (l34 + 1)))) (w' := w11) rfl rfl rfl (x_add rfl e58 rfl) ?_
        refine wpR_val (v := (Value.int .i64 (IntKind.i64.wrap (l34 + 1)))) (w' := w11) rfl rfl rfl (x_move (v := (Value.int .i64 (IntKind.i64.wrap (l34 + 1)))) rfl rfl) ?_
        refine wpR_nil ?_
        exact ⟨IntKind.i64.wrap (l34 + 1), ⟨rfl, e1, e56, e57, trivial⟩, h⟩
    · replace h := h.2 hc35
      refine wpC_exit ?_
      refine wpC_seq ?_
      refine wpC_block ?_
      obtain ⟨J51, h, hk⟩ := h
      refine wpC_seqJ (fun (x : Bool) ρ => ρ 73 = (Value.bool x) ∧ ρ 1 = (Value.pointer (some (Addr.mk b9 0 none))) ∧ True) J51 ?_ ?_
      · clear hk
        refine wpC_seq ?_
        refine wpC_cut (fun ρ => ρ 1 = (Value.pointer (some (Addr.mk b9 0 none))) ∧ True) ⟨e1, trivial⟩ ?_
        rintro ρ ⟨e1, -⟩
        refine wpC_region ?_
        refine wpR_val (v := (Value.pointer (some ((Addr.mk b9 0 none).add 0)))) (w' := w5) rfl rfl rfl (x_fieldAddr rfl e1 FA_24_0) ?_
        obtain ⟨x53, q53, h⟩ := h
        refine wpR_val (v := (Value.string x53)) (w' := w5) rfl rfl rfl (x_load1 rfl rfl SH_9 q53) ?_
        refine wpR_enter rfl rfl rfl (x_call (vs := [(Value.string x53)]) rfl rfl (mapl_cons rfl mapl_nil) Try.func56 NN_56 NB_56) (Calls.mono h ?_)
        rintro _ w13 ⟨r54, rfl, h⟩
        refine ⟨_, rfl, ?_⟩
        refine wpR_val (v := (Value.bool (!r54))) (w' := w13) rfl rfl rfl (x_not rfl rfl) ?_
        refine wpR_val (v := (Value.bool (!r54))) (w' := w13) rfl rfl rfl (x_assign (v := (Value.bool (!r54))) rfl rfl) ?_
        refine wpR_nil ?_
        refine wpC_cond (b := !r54) rfl (fun hc55 => ?_) (fun hc55 => ?_)
        · replace h := h.1 hc55
          refine wpC_skip ?_
          exact ⟨!r54, ⟨rfl, e1, trivial⟩, h⟩
        · replace h := h.2 hc55
          refine wpC_seq ?_
          refine wpC_cut (fun ρ => ρ 1 = (Value.pointer (some (Addr.mk b9 0 none))) ∧ True) ⟨e1, trivial⟩ ?_
          rintro ρ ⟨e1, -⟩
          refine wpC_region ?_
          refine wpR_val (v := (Value.pointer (some ((Addr.mk b9 0 none).add 1)))) (w' := w13) rfl rfl rfl (x_fieldAddr rfl e1 FA_24_1) ?_
          obtain ⟨x56, q56, h⟩ := h
          refine wpR_val (v := (Value.int .i64 x56)) (w' := w13) rfl rfl rfl (x_load1 rfl rfl SH_3 q56) ?_
          refine wpR_val (v := (Value.bool (!decide (x56 = 0)))) (w' := w13) rfl rfl rfl (x_neq rfl rfl rfl) ?_
          refine wpR_val (v := (Value.bool (!decide (x56 = 0)))) (w' := w13) rfl rfl rfl (x_move (v := (Value.bool (!decide (x56 = 0)))) rfl rfl) ?_
          obtain ⟨J57, h, hk⟩ := h
          refine wpR_joinJ 4 (fun x ρ => ρ 85 = Value.bool x ∧ ρ 1 = (Value.pointer (some (Addr.mk b9 0 none))) ∧ True) (fun x w => J57 x ∧ w13 = w) ?_ ?_
          · clear hk
            rcases Bool.eq_false_or_eq_true (!decide (x56 = 0)) with hc58 | hc58
            · replace h := h.1 hc58
              refine wpR_val (v := (Value.pointer (some ((Addr.mk b9 0 none).add 1)))) (w' := w13) (wantG rfl rfl rfl hc58) rfl rfl (x_fieldAddr rfl e1 FA_24_1) ?_
              obtain ⟨x59, q59, h⟩ := h
              refine wpR_val (v := (Value.int .i64 x59)) (w' := w13) (wantG rfl rfl rfl hc58) rfl rfl (x_load1 rfl rfl SH_3 q59) ?_
              refine wpR_val (v := (Value.bool (!decide (x59 = 2)))) (w' := w13) (wantG rfl rfl rfl hc58) rfl rfl (x_neq rfl rfl rfl) ?_
              refine wpR_val (v := (Value.bool (!decide (x59 = 2)))) (w' := w13) rfl rfl rfl (x_pickT (v := (Value.bool (!decide (x59 = 2)))) rfl rfl hc58 rfl) ?_
              refine wpR_nil ?_
              exact ⟨!decide (x59 = 2), ⟨rfl, e1, trivial⟩, h, rfl⟩
            · replace h := h.2 hc58
              refine wpR_pass (wantN rfl rfl rfl hc58) rfl rfl ?_
              refine wpR_pass (wantN rfl rfl rfl hc58) rfl rfl ?_
              refine wpR_pass (wantN rfl rfl rfl hc58) rfl rfl ?_
              refine wpR_val (v := (Value.bool false)) (w' := w13) rfl rfl rfl (x_pickF (v := (Value.bool false)) rfl rfl hc58 rfl) ?_
              refine wpR_nil ?_
              exact ⟨false, ⟨rfl, e1, trivial⟩, h, rfl⟩
          clear h
          rintro c60 ρ wj ⟨e85, e1, -⟩ ⟨h, rfl⟩
          replace h := hk c60 h
          clear hk
          refine wpR_val (v := (Value.bool c60)) (w' := w13) rfl rfl rfl (x_assign (v := (Value.bool c60)) rfl e85) ?_
          refine wpR_nil ?_
          refine wpC_cond (b := c60) rfl (fun hc61 => ?_) (fun hc61 => ?_)
          · replace h := h.1 hc61
            refine wpC_skip ?_
            exact ⟨c60, ⟨rfl, e1, trivial⟩, h⟩
          · replace h := h.2 hc61
            refine wpC_cut (fun ρ => ρ 1 = (Value.pointer (some (Addr.mk b9 0 none))) ∧ True) ⟨e1, trivial⟩ ?_
            rintro ρ ⟨e1, -⟩
            refine wpC_region ?_
            refine wpR_val (v := (Value.pointer (some ((Addr.mk b9 0 none).add 1)))) (w' := w13) rfl rfl rfl (x_fieldAddr rfl e1 FA_24_1) ?_
            obtain ⟨x62, q62, h⟩ := h
            refine wpR_val (v := (Value.int .i64 x62)) (w' := w13) rfl rfl rfl (x_load1 rfl rfl SH_3 q62) ?_
            refine wpR_val (v := (Value.bool (decide (x62 = 0)))) (w' := w13) rfl rfl rfl (x_eql rfl rfl rfl) ?_
            refine wpR_val (v := (Value.bool (decide (x62 = 0)))) (w' := w13) rfl rfl rfl (x_move (v := (Value.bool (decide (x62 = 0)))) rfl rfl) ?_
            obtain ⟨J63, h, hk⟩ := h
            refine wpR_joinJ 4 (fun x ρ => ρ 93 = Value.bool x ∧ ρ 1 = (Value.pointer (some (Addr.mk b9 0 none))) ∧ True) (fun x w => J63 x ∧ w13 = w) ?_ ?_
            · clear hk
              rcases Bool.eq_false_or_eq_true (decide (x62 = 0)) with hc64 | hc64
              · replace h := h.1 hc64
                refine wpR_val (v := (Value.pointer (some ((Addr.mk b9 0 none).add 2)))) (w' := w13) (wantG rfl rfl rfl hc64) rfl rfl (x_fieldAddr rfl e1 FA_24_2) ?_
                obtain ⟨x65, q65, h⟩ := h
                refine wpR_val (v := (Value.int .i64 x65)) (w' := w13) (wantG rfl rfl rfl hc64) rfl rfl (x_load1 rfl rfl SH_3 q65) ?_
                refine wpR_val (v := (Value.bool (decide (0 < x65)))) (w' := w13) (wantG rfl rfl rfl hc64) rfl rfl (x_gtr rfl rfl rfl) ?_
                refine wpR_val (v := (Value.bool (decide (0 < x65)))) (w' := w13) rfl rfl rfl (x_pickT (v := (Value.bool (decide (0 < x65)))) rfl rfl hc64 rfl) ?_
                refine wpR_nil ?_
                exact ⟨decide (0 < x65), ⟨rfl, e1, trivial⟩, h, rfl⟩
              · replace h := h.2 hc64
                refine wpR_pass (wantN rfl rfl rfl hc64) rfl rfl ?_
                refine wpR_pass (wantN rfl rfl rfl hc64) rfl rfl ?_
                refine wpR_pass (wantN rfl rfl rfl hc64) rfl rfl ?_
                refine wpR_val (v := (Value.bool false)) (w' := w13) rfl rfl rfl (x_pickF (v := (Value.bool false)) rfl rfl hc64 rfl) ?_
                refine wpR_nil ?_
                exact ⟨false, ⟨rfl, e1, trivial⟩, h, rfl⟩
            clear h
            rintro c66 ρ wj ⟨e93, e1, -⟩ ⟨h, rfl⟩
            replace h := hk c66 h
            clear hk
            refine wpR_val (v := (Value.bool c66)) (w' := w13) rfl rfl rfl (x_assign (v := (Value.bool c66)) rfl e93) ?_
            refine wpR_nil ?_
            exact ⟨c66, ⟨rfl, e1, trivial⟩, h⟩
      clear h
      rintro l52 ρ w12 ⟨e73, e1, -⟩ h
      replace h := hk l52 w12 h
      clear hk
      refine wpC_cond (b := l52) e73 (fun hc67 => ?_) (fun hc67 => ?_)
      · replace h := h.1 hc67
        refine wpC_seq ?_
        refine wpC_region ?_
        refine wpR_val (v := (Value.bool false)) (w' := w12) rfl rfl rfl (x_assign (v := (Value.bool false)) rfl rfl) ?_
        refine wpR_nil ?_
        refine wpC_ret ?_
        exact ⟨.inl rfl, fun a ha => ⟨_, results_rep1 rfl ha rfl, false, rfl, h⟩⟩
      · replace h := h.2 hc67
        refine wpC_seq ?_
        refine wpC_region ?_
        refine wpR_val (v := (Value.pointer (some ((Addr.mk b9 0 none).add 10)))) (w' := w12) rfl rfl rfl (x_fieldAddr rfl e1 FA_24_10) ?_
        obtain ⟨x68, q68, h⟩ := h
        refine wpR_val (v := (Value.int .i64 x68)) (w' := w12) rfl rfl rfl (x_load1 rfl rfl SH_3 q68) ?_
        refine wpR_val (v := (Value.bool (decide (x68 = 0)))) (w' := w12) rfl rfl rfl (x_eql rfl rfl rfl) ?_
        refine wpR_val (v := (Value.bool (decide (x68 = 0)))) (w' := w12) rfl rfl rfl (x_assign (v := (Value.bool (decide (x68 = 0)))) rfl rfl) ?_
        refine wpR_nil ?_
        refine wpC_cond (b := decide (x68 = 0)) rfl (fun hc69 => ?_) (fun hc69 => ?_)
        · replace h := h.1 hc69
          refine wpC_seq ?_
          refine wpC_cut (fun ρ => ρ 1 = (Value.pointer (some (Addr.mk b9 0 none))) ∧ True) ⟨e1, trivial⟩ ?_
          rintro ρ ⟨e1, -⟩
          refine wpC_region ?_
          refine wpR_val (v := (Value.pointer (some ((Addr.mk b9 0 none).add 11)))) (w' := w12) rfl rfl rfl (x_fieldAddr rfl e1 FA_24_11) ?_
          obtain ⟨x70, q70, h⟩ := h
          refine wpR_val (v := (Value.int .i64 x70)) (w' := w12) rfl rfl rfl (x_load1 rfl rfl SH_3 q70) ?_
          refine wpR_val (v := (Value.bool (decide (x70 = 0)))) (w' := w12) rfl rfl rfl (x_eql rfl rfl rfl) ?_
          refine wpR_val (v := (Value.bool (decide (x70 = 0)))) (w' := w12) rfl rfl rfl (x_move (v := (Value.bool (decide (x70 = 0)))) rfl rfl) ?_
          obtain ⟨J71, h, hk⟩ := h
          refine wpR_joinJ 5 (fun x ρ => ρ 106 = Value.bool x ∧ True) (fun x w => J71 x ∧ w12 = w) ?_ ?_
          · clear hk
            rcases Bool.eq_false_or_eq_true (decide (x70 = 0)) with hc72 | hc72
            · replace h := h.1 hc72
              refine wpR_val (v := (Value.pointer (some ((Addr.mk b9 0 none).add 12)))) (w' := w12) (wantG rfl rfl rfl hc72) rfl rfl (x_fieldAddr rfl e1 FA_24_12) ?_
              obtain ⟨x73, q73, h⟩ := h
              refine wpR_val (v := (Sl.v x73)) (w' := w12) (wantG rfl rfl rfl hc72) rfl rfl (x_load1 rfl rfl SH_22 q73) ?_
              refine wpR_val (v := (Value.int .i64 (x73.len : Int))) (w' := w12) (wantG rfl rfl rfl hc72) rfl rfl (x_lenS (s := x73) rfl rfl isSliceT_22) ?_
              refine wpR_val (v := (Value.bool (decide ((x73.len : Int) = 0)))) (w' := w12) (wantG rfl rfl rfl hc72) rfl rfl (x_eql rfl rfl rfl) ?_
              refine wpR_val (v := (Value.bool (decide ((x73.len : Int) = 0)))) (w' := w12) rfl rfl rfl (x_pickT (v := (Value.bool (decide ((x73.len : Int) = 0)))) rfl rfl hc72 rfl) ?_
              refine wpR_nil ?_
              exact ⟨decide ((x73.len : Int) = 0), ⟨rfl, trivial⟩, h, rfl⟩
            · replace h := h.2 hc72
              refine wpR_pass (wantN rfl rfl rfl hc72) rfl rfl ?_
              refine wpR_pass (wantN rfl rfl rfl hc72) rfl rfl ?_
              refine wpR_pass (wantN rfl rfl rfl hc72) rfl rfl ?_
              refine wpR_pass (wantN rfl rfl rfl hc72) rfl rfl ?_
              refine wpR_val (v := (Value.bool false)) (w' := w12) rfl rfl rfl (x_pickF (v := (Value.bool false)) rfl rfl hc72 rfl) ?_
              refine wpR_nil ?_
              exact ⟨false, ⟨rfl, trivial⟩, h, rfl⟩
          clear h
          rintro c74 ρ wj ⟨e106, -⟩ ⟨h, rfl⟩
          replace h := hk c74 h
          clear hk
          refine wpR_val (v := (Value.bool c74)) (w' := w12) rfl rfl rfl (x_assign (v := (Value.bool c74)) rfl e106) ?_
          refine wpR_nil ?_
          refine wpC_ret ?_
          exact ⟨.inl rfl, fun a ha => ⟨_, results_rep1 rfl ha rfl, c74, rfl, h⟩⟩
        · replace h := h.2 hc69
          refine wpC_skip ?_
          refine wpC_seq ?_
          refine wpC_cut (fun ρ => ρ 1 = (Value.pointer (some (Addr.mk b9 0 none))) ∧ True) ⟨e1, trivial⟩ ?_
          rintro ρ ⟨e1, -⟩
          refine wpC_region ?_
          refine wpR_val (v := (Value.pointer (some ((Addr.mk b9 0 none).add 12)))) (w' := w12) rfl rfl rfl (x_fieldAddr rfl e1 FA_24_12) ?_
          obtain ⟨x75, q75, h⟩ := h
          refine wpR_val (v := (Sl.v x75)) (w' := w12) rfl rfl rfl (x_load1 rfl rfl SH_22 q75) ?_
          refine wpR_val (v := (Value.int .i64 (x75.len : Int))) (w' := w12) rfl rfl rfl (x_lenS (s := x75) rfl rfl isSliceT_22) ?_
          refine wpR_val (v := (Value.bool (decide (1 ≤ (x75.len : Int))))) (w' := w12) rfl rfl rfl (x_geq rfl rfl rfl) ?_
          refine wpR_val (v := (Value.bool (decide (1 ≤ (x75.len : Int))))) (w' := w12) rfl rfl rfl (x_move (v := (Value.bool (decide (1 ≤ (x75.len : Int))))) rfl rfl) ?_
          obtain ⟨J76, h, hk⟩ := h
          refine wpR_joinJ 5 (fun x ρ => ρ 116 = Value.bool x ∧ ρ 1 = (Value.pointer (some (Addr.mk b9 0 none))) ∧ True) (fun x w => J76 x ∧ w12 = w) ?_ ?_
          · clear hk
            rcases Bool.eq_false_or_eq_true (decide (1 ≤ (x75.len : Int))) with hc77 | hc77
            · replace h := h.1 hc77
              refine wpR_val (v := (Value.pointer (some ((Addr.mk b9 0 none).add 12)))) (w' := w12) (wantG rfl rfl rfl hc77) rfl rfl (x_fieldAddr rfl e1 FA_24_12) ?_
              obtain ⟨x78, q78, h⟩ := h
              refine wpR_val (v := (Sl.v x78)) (w' := w12) (wantG rfl rfl rfl hc77) rfl rfl (x_load1 rfl rfl SH_22 q78) ?_
              refine wpR_val (v := (Value.int .i64 (x78.len : Int))) (w' := w12) (wantG rfl rfl rfl hc77) rfl rfl (x_lenS (s := x78) rfl rfl isSliceT_22) ?_
              refine wpR_val (v := (Value.bool (decide ((x78.len : Int) ≤ 20)))) (w' := w12) (wantG rfl rfl rfl hc77) rfl rfl (x_leq rfl rfl rfl) ?_
              refine wpR_val (v := (Value.bool (decide ((x78.len : Int) ≤ 20)))) (w' := w12) rfl rfl rfl (x_pickT (v := (Value.bool (decide ((x78.len : Int) ≤ 20)))) rfl rfl hc77 rfl) ?_
              refine wpR_nil ?_
              exact ⟨decide ((x78.len : Int) ≤ 20), ⟨rfl, e1, trivial⟩, h, rfl⟩
            · replace h := h.2 hc77
              refine wpR_pass (wantN rfl rfl rfl hc77) rfl rfl ?_
              refine wpR_pass (wantN rfl rfl rfl hc77) rfl rfl ?_
              refine wpR_pass (wantN rfl rfl rfl hc77) rfl rfl ?_
              refine wpR_pass (wantN rfl rfl rfl hc77) rfl rfl ?_
              refine wpR_val (v := (Value.bool false)) (w' := w12) rfl rfl rfl (x_pickF (v := (Value.bool false)) rfl rfl hc77 rfl) ?_
              refine wpR_nil ?_
              exact ⟨false, ⟨rfl, e1, trivial⟩, h, rfl⟩
          clear h
          rintro c79 ρ wj ⟨e116, e1, -⟩ ⟨h, rfl⟩
          replace h := hk c79 h
          clear hk
          refine wpR_val (v := (Value.bool c79)) (w' := w12) rfl rfl rfl (x_move (v := (Value.bool c79)) rfl e116) ?_
          obtain ⟨J80, h, hk⟩ := h
          refine wpR_joinJ 5 (fun x ρ => ρ 122 = Value.bool x ∧ True) (J80) ?_ ?_
          · clear hk
            rcases Bool.eq_false_or_eq_true (c79) with hc81 | hc81
            · replace h := h.1 hc81
              refine wpR_val (v := (Value.pointer (some ((Addr.mk b9 0 none).add 12)))) (w' := w12) (wantG rfl rfl rfl hc81) rfl rfl (x_fieldAddr rfl e1 FA_24_12) ?_
              obtain ⟨x82, q82, h⟩ := h
              refine wpR_val (v := (Sl.v x82)) (w' := w12) (wantG rfl rfl rfl hc81) rfl rfl (x_load1 rfl rfl SH_22 q82) ?_
              refine wpR_enter (wantG rfl rfl rfl hc81) rfl rfl (x_call (vs := [(Sl.v x82), (Value.func (.func 58) #[] #[])]) rfl rfl (mapl_cons rfl (mapl_cons rfl mapl_nil)) Try.func57 NN_57 NB_57) (Calls.mono h ?_)
              rintro _ w14 ⟨r83, rfl, h⟩
              refine ⟨_, rfl, ?_⟩
              refine wpR_val (v := (Value.bool (!r83))) (w' := w14) (wantG rfl rfl rfl hc81) rfl rfl (x_not rfl rfl) ?_
              refine wpR_val (v := (Value.bool (!r83))) (w' := w14) rfl rfl rfl (x_pickT (v := (Value.bool (!r83))) rfl rfl hc81 rfl) ?_
              refine wpR_nil ?_
              exact ⟨!r83, ⟨rfl, trivial⟩, h⟩
            · replace h := h.2 hc81
              refine wpR_pass (wantN rfl rfl rfl hc81) rfl rfl ?_
              refine wpR_pass (wantN rfl rfl rfl hc81) rfl rfl ?_
              refine wpR_pass (wantN rfl rfl rfl hc81) rfl rfl ?_
              refine wpR_pass (wantN rfl rfl rfl hc81) rfl rfl ?_
              refine wpR_val (v := (Value.bool false)) (w' := w12) rfl rfl rfl (x_pickF (v := (Value.bool false)) rfl rfl hc81 rfl) ?_
              refine wpR_nil ?_
              exact ⟨false, ⟨rfl, trivial⟩, h⟩
          clear h
          rintro c84 ρ w15 ⟨e122, -⟩ h
          replace h := hk c84 w15 h
          clear hk
          refine wpR_val (v := (Value.bool c84)) (w' := w15) rfl rfl rfl (x_assign (v := (Value.bool c84)) rfl e122) ?_
          refine wpR_nil ?_
          refine wpC_ret ?_
          exact ⟨.inl rfl, fun a ha => ⟨_, results_rep1 rfl ha rfl, c84, rfl, h⟩⟩

/-- profile.within -/
def F40 (p0 : Int) (p1 : Int) (p2 : Int) (w0 : World) (K : Bool → World → Prop) : Prop :=
  K ((decide (p1 ≤ p0)) && (decide (p0 ≤ p2))) w0
set_option maxRecDepth 100000 in
theorem D40 (p0 : Int) (p1 : Int) (p2 : Int) (w0 : World) (K : Bool → World → Prop) (h : F40 p0 p1 p2 w0 K) : callC Try.prog 40 #[(Value.int .i64 p0), (Value.int .i64 p1), (Value.int .i64 p2)] (fun (r : Bool) => (Value.bool r)) w0 K := by
  unfold F40 at h
  refine calls_of_wpC Try.func40 rfl 15 rfl (by simp) ?_
  intro ρ hρ
  have e0 : ρ 0 = (Value.int .i64 p0) := hρ 0
  have e1 : ρ 1 = (Value.int .i64 p1) := hρ 1
  have e2 : ρ 2 = (Value.int .i64 p2) := hρ 2
  clear hρ
  refine wpC_seq ?_
  refine wpC_region ?_
  refine wpR_val (v := (Value.bool false)) (w' := w0) rfl rfl rfl (x_assign (v := (Value.bool false)) rfl rfl) ?_
  refine wpR_nil ?_
  refine wpC_seq ?_
  refine wpC_cut (fun ρ => ρ 0 = (Value.int .i64 p0) ∧ ρ 1 = (Value.int .i64 p1) ∧ ρ 2 = (Value.int .i64 p2) ∧ True) ⟨e0, e1, e2, trivial⟩ ?_
  rintro ρ ⟨e0, e1, e2, -⟩
  refine wpC_region ?_
  refine wpR_val (v := (Value.int .i64 p0)) (w' := w0) rfl rfl rfl (x_move (v := (Value.int .i64 p0)) rfl e0) ?_
  refine wpR_val (v := (Value.int .i64 p1)) (w' := w0) rfl rfl rfl (x_move (v := (Value.int .i64 p1)) rfl e1) ?_
  refine wpR_val (v := (Value.bool (decide (p1 ≤ p0)))) (w' := w0) rfl rfl rfl (x_geq rfl rfl rfl) ?_
  refine wpR_val (v := (Value.bool (decide (p1 ≤ p0)))) (w' := w0) rfl rfl rfl (x_move (v := (Value.bool (decide (p1 ≤ p0)))) rfl rfl) ?_
  refine wpR_joinJ 4 (fun (_ : Unit) ρ => ρ 14 = Value.bool ((decide (p1 ≤ p0)) && (decide (p0 ≤ p2))) ∧ True) (fun _ w => w0 = w) ?_ ?_
  · clear h
    rcases Bool.eq_false_or_eq_true (decide (p1 ≤ p0)) with hc10 | hc10
    · skip
      refine wpR_val (v := (Value.int .i64 p0)) (w' := w0) (wantG rfl rfl rfl hc10) rfl rfl (x_move (v := (Value.int .i64 p0)) rfl e0) ?_
      refine wpR_val (v := (Value.int .i64 p2)) (w' := w0) (wantG rfl rfl rfl hc10) rfl rfl (x_move (v := (Value.int .i64 p2)) rfl e2) ?_
      refine wpR_val (v := (Value.bool (decide (p0 ≤ p2)))) (w' := w0) (wantG rfl rfl rfl hc10) rfl rfl (x_leq rfl rfl rfl) ?_
      refine wpR_val (v := (Value.bool (decide (p0 ≤ p2)))) (w' := w0) rfl rfl rfl (x_pickT (v := (Value.bool (decide (p0 ≤ p2)))) rfl rfl hc10 rfl) ?_
      refine wpR_nil ?_
      exact ⟨(), ⟨(by rw [hc10]; rfl), trivial⟩, rfl⟩
    · skip
      refine wpR_pass (wantN rfl rfl rfl hc10) rfl rfl ?_
      refine wpR_pass (wantN rfl rfl rfl hc10) rfl rfl ?_
      refine wpR_pass (wantN rfl rfl rfl hc10) rfl rfl ?_
      refine wpR_val (v := (Value.bool false)) (w' := w0) rfl rfl rfl (x_pickF (v := (Value.bool false)) rfl rfl hc10 rfl) ?_
      refine wpR_nil ?_
      exact ⟨(), ⟨(by rw [hc10]; rfl), trivial⟩, rfl⟩
  rintro _ ρ wj ⟨e14, -⟩ rfl
  refine wpR_val (v := (Value.bool ((decide (p1 ≤ p0)) && (decide (p0 ≤ p2))))) (w' := w0) rfl rfl rfl (x_assign (v := (Value.bool ((decide (p1 ≤ p0)) && (decide (p0 ≤ p2))))) rfl e14) ?_
  refine wpR_nil ?_
  refine wpC_ret ?_
  exact ⟨.inl rfl, fun a ha => ⟨_, results_rep1 rfl ha rfl, (decide (p1 ≤ p0)) && (decide (p0 ≤ p2)), rfl, h⟩⟩

/-- profile.together -/
def F41 (p0_0 : ByteArray) (p0_1 : Int) (p0_2 : Int) (p0_3 : Int) (p0_4 : Bool) (p0_5 : Int) (p0_6 : Bool) (p0_7 : Bool) (p0_8 : Int) (p0_9 : Int) (p0_10 : Int) (p0_11 : Int) (p0_12 : Sl) (p0_13 : Int) (p0_14 : Int) (p0_15 : Int) (p0_16 : Int) (p0_17 : Bool) (p0_18 : Int) (p0_19 : Int) (p0_20 : Int) (p0_21 : Int) (w0 : World) (K : Bool → World → Prop) : Prop :=
  nw 24 (A23 p0_0 p0_1 p0_2 p0_3 p0_4 p0_5 p0_6 p0_7 p0_8 p0_9 p0_10 p0_11 p0_12 p0_13 p0_14 p0_15 p0_16 p0_17 p0_18 p0_19 p0_20 p0_21) w0 fun b9 w1 =>
  ld (Value.int .i64) ((Addr.mk b9 0 none).add 10) w1 fun x10 =>
  ld (Value.int .i64) ((Addr.mk b9 0 none).add 11) w1 fun x11 =>
  jp (fun J12 => cnd ((decide (x10 = 0)) == (decide (x11 = 0)))
    (
    ld (Value.int .i64) ((Addr.mk b9 0 none).add 10) w1 fun x14 =>
    ld Sl.v ((Addr.mk b9 0 none).add 12) w1 fun x15 =>
    J12 ((decide (x14 = 0)) == (decide ((x15.len : Int) = 0)))
    )
    (
    J12 false
    ))
  fun c16 =>
  K c16 w1
set_option maxRecDepth 100000 in
theorem D41 (p0_0 : ByteArray) (p0_1 : Int) (p0_2 : Int) (p0_3 : Int) (p0_4 : Bool) (p0_5 : Int) (p0_6 : Bool) (p0_7 : Bool) (p0_8 : Int) (p0_9 : Int) (p0_10 : Int) (p0_11 : Int) (p0_12 : Sl) (p0_13 : Int) (p0_14 : Int) (p0_15 : Int) (p0_16 : Int) (p0_17 : Bool) (p0_18 : Int) (p0_19 : Int) (p0_20 : Int) (p0_21 : Int) (w0 : World) (K : Bool → World → Prop) (h : F41 p0_0 p0_1 p0_2 p0_3 p0_4 p0_5 p0_6 p0_7 p0_8 p0_9 p0_10 p0_11 p0_12 p0_13 p0_14 p0_15 p0_16 p0_17 p0_18 p0_19 p0_20 p0_21 w0 K) : callC Try.prog 41 #[(V23 p0_0 p0_1 p0_2 p0_3 p0_4 p0_5 p0_6 p0_7 p0_8 p0_9 p0_10 p0_11 p0_12 p0_13 p0_14 p0_15 p0_16 p0_17 p0_18 p0_19 p0_20 p0_21)] (fun (r : Bool) => (Value.bool r)) w0 K := by
  unfold F41 at h
  refine calls_of_wpC Try.func41 rfl 20 rfl (by simp) ?_
  intro ρ hρ
  have e0 : ρ 0 = (V23 p0_0 p0_1 p0_2 p0_3 p0_4 p0_5 p0_6 p0_7 p0_8 p0_9 p0_10 p0_11 p0_12 p0_13 p0_14 p0_15 p0_16 p0_17 p0_18 p0_19 p0_20 p0_21) := hρ 0
  clear hρ
  refine wpC_seq ?_
  refine wpC_region ?_
  obtain ⟨b9, hb9⟩ : ∃ u, u = w0.heap.size := ⟨_, rfl⟩
  obtain ⟨w1, hw9⟩ : ∃ u, u = w0.alloc (.cells (A23 p0_0 p0_1 p0_2 p0_3 p0_4 p0_5 p0_6 p0_7 p0_8 p0_9 p0_10 p0_11 p0_12 p0_13 p0_14 p0_15 p0_16 p0_17 p0_18 p0_19 p0_20 p0_21) 24) := ⟨_, rfl⟩
  replace h := h b9 w1 hb9 hw9
  refine wpR_val (v := (Value.pointer (some (Addr.mk b9 0 none)))) (w' := w1) rfl rfl rfl ((x_box (v := (V23 p0_0 p0_1 p0_2 p0_3 p0_4 p0_5 p0_6 p0_7 p0_8 p0_9 p0_10 p0_11 p0_12 p0_13 p0_14 p0_15 p0_16 p0_17 p0_18 p0_19 p0_20 p0_21)) rfl e0).trans (by rw [hb9, hw9]; rfl)) ?_
  refine wpR_val (v := (Value.bool false)) (w' := w1) rfl rfl rfl (x_assign (v := (Value.bool false)) rfl rfl) ?_
  refine wpR_nil ?_
  refine wpC_seq ?_
  refine wpC_cut (fun ρ => ρ 1 = (Value.pointer (some (Addr.mk b9 0 none))) ∧ True) ⟨rfl, trivial⟩ ?_
  rintro ρ ⟨e1, -⟩
  refine wpC_region ?_
  refine wpR_val (v := (Value.pointer (some ((Addr.mk b9 0 none).add 10)))) (w' := w1) rfl rfl rfl (x_fieldAddr rfl e1 FA_24_10) ?_
  obtain ⟨x10, q10, h⟩ := h
  refine wpR_val (v := (Value.int .i64 x10)) (w' := w1) rfl rfl rfl (x_load1 rfl rfl SH_3 q10) ?_
  refine wpR_val (v := (Value.bool (decide (x10 = 0)))) (w' := w1) rfl rfl rfl (x_eql rfl rfl rfl) ?_
  refine wpR_val (v := (Value.pointer (some ((Addr.mk b9 0 none).add 11)))) (w' := w1) rfl rfl rfl (x_fieldAddr rfl e1 FA_24_11) ?_
  obtain ⟨x11, q11, h⟩ := h
  refine wpR_val (v := (Value.int .i64 x11)) (w' := w1) rfl rfl rfl (x_load1 rfl rfl SH_3 q11) ?_
  refine wpR_val (v := (Value.bool (decide (x11 = 0)))) (w' := w1) rfl rfl rfl (x_eql rfl rfl rfl) ?_
  refine wpR_val (v := (Value.bool ((decide (x10 = 0)) == (decide (x11 = 0))))) (w' := w1) rfl rfl rfl (x_eqlB rfl rfl rfl isBoolT_4) ?_
  refine wpR_val (v := (Value.bool ((decide (x10 = 0)) == (decide (x11 = 0))))) (w' := w1) rfl rfl rfl (x_move (v := (Value.bool ((decide (x10 = 0)) == (decide (x11 = 0))))) rfl rfl) ?_
  obtain ⟨J12, h, hk⟩ := h
  refine wpR_joinJ 9 (fun x ρ => ρ 19 = Value.bool x ∧ True) (fun x w => J12 x ∧ w1 = w) ?_ ?_
  · clear hk
    rcases Bool.eq_false_or_eq_true ((decide (x10 = 0)) == (decide (x11 = 0))) with hc13 | hc13
    · replace h := h.1 hc13
      refine wpR_val (v := (Value.pointer (some ((Addr.mk b9 0 none).add 10)))) (w' := w1) (wantG rfl rfl rfl hc13) rfl rfl (x_fieldAddr rfl e1 FA_24_10) ?_
      obtain ⟨x14, q14, h⟩ := h
      refine wpR_val (v := (Value.int .i64 x14)) (w' := w1) (wantG rfl rfl rfl hc13) rfl rfl (x_load1 rfl rfl SH_3 q14) ?_
      refine wpR_val (v := (Value.bool (decide (x14 = 0)))) (w' := w1) (wantG rfl rfl rfl hc13) rfl rfl (x_eql rfl rfl rfl) ?_
      refine wpR_val (v := (Value.pointer (some ((Addr.mk b9 0 none).add 12)))) (w' := w1) (wantG rfl rfl rfl hc13) rfl rfl (x_fieldAddr rfl e1 FA_24_12) ?_
      obtain ⟨x15, q15, h⟩ := h
      refine wpR_val (v := (Sl.v x15)) (w' := w1) (wantG rfl rfl rfl hc13) rfl rfl (x_load1 rfl rfl SH_22 q15) ?_
      refine wpR_val (v := (Value.int .i64 (x15.len : Int))) (w' := w1) (wantG rfl rfl rfl hc13) rfl rfl (x_lenS (s := x15) rfl rfl isSliceT_22) ?_
      refine wpR_val (v := (Value.bool (decide ((x15.len : Int) = 0)))) (w' := w1) (wantG rfl rfl rfl hc13) rfl rfl (x_eql rfl rfl rfl) ?_
      refine wpR_val (v := (Value.bool ((decide (x14 = 0)) == (decide ((x15.len : Int) = 0))))) (w' := w1) (wantG rfl rfl rfl hc13) rfl rfl (x_eqlB rfl rfl rfl isBoolT_4) ?_
      refine wpR_val (v := (Value.bool ((decide (x14 = 0)) == (decide ((x15.len : Int) = 0))))) (w' := w1) rfl rfl rfl (x_pickT (v := (Value.bool ((decide (x14 = 0)) == (decide ((x15.len : Int) = 0))))) rfl rfl hc13 rfl) ?_
      refine wpR_nil ?_
      exact ⟨(decide (x14 = 0)) == (decide ((x15.len : Int) = 0)), ⟨rfl, trivial⟩, h, rfl⟩
    · replace h := h.2 hc13
      refine wpR_pass (wantN rfl rfl rfl hc13) rfl rfl ?_
      refine wpR_pass (wantN rfl rfl rfl hc13) rfl rfl ?_
      refine wpR_pass (wantN rfl rfl rfl hc13) rfl rfl ?_
      refine wpR_pass (wantN rfl rfl rfl hc13) rfl rfl ?_
      refine wpR_pass (wantN rfl rfl rfl hc13) rfl rfl ?_
      refine wpR_pass (wantN rfl rfl rfl hc13) rfl rfl ?_
      refine wpR_pass (wantN rfl rfl rfl hc13) rfl rfl ?_
      refine wpR_pass (wantN rfl rfl rfl hc13) rfl rfl ?_
      refine wpR_val (v := (Value.bool false)) (w' := w1) rfl rfl rfl (x_pickF (v := (Value.bool false)) rfl rfl hc13 rfl) ?_
      refine wpR_nil ?_
      exact ⟨false, ⟨rfl, trivial⟩, h, rfl⟩
  clear h
  rintro c16 ρ wj ⟨e19, -⟩ ⟨h, rfl⟩
  replace h := hk c16 h
  clear hk
  refine wpR_val (v := (Value.bool c16)) (w' := w1) rfl rfl rfl (x_assign (v := (Value.bool c16)) rfl e19) ?_
  refine wpR_nil ?_
  refine wpC_ret ?_
  exact ⟨.inl rfl, fun a ha => ⟨_, results_rep1 rfl ha rfl, c16, rfl, h⟩⟩

/-- slices.Contains[[]string,string] -/
def F42 (p0 : Sl) (p1 : ByteArray) (w0 : World) (K : Bool → World → Prop) : Prop :=
  callC Try.prog 59 #[(Sl.v p0), (Value.string p1)] (fun (r : Int) => (Value.int .i64 r)) w0 fun r9 w1 =>
  K (decide (0 ≤ r9)) w1
set_option maxRecDepth 100000 in
theorem D42 (p0 : Sl) (p1 : ByteArray) (w0 : World) (K : Bool → World → Prop) (h : F42 p0 p1 w0 K) : callC Try.prog 42 #[(Sl.v p0), (Value.string p1)] (fun (r : Bool) => (Value.bool r)) w0 K := by
  unfold F42 at h
  refine calls_of_wpC Try.func42 rfl 9 rfl (by simp) ?_
  intro ρ hρ
  have e0 : ρ 0 = (Sl.v p0) := hρ 0
  have e1 : ρ 1 = (Value.string p1) := hρ 1
  clear hρ
  refine wpC_seq ?_
  refine wpC_region ?_
  refine wpR_val (v := (Value.bool false)) (w' := w0) rfl rfl rfl (x_assign (v := (Value.bool false)) rfl rfl) ?_
  refine wpR_nil ?_
  refine wpC_seq ?_
  refine wpC_cut (fun ρ => ρ 0 = (Sl.v p0) ∧ ρ 1 = (Value.string p1) ∧ True) ⟨e0, e1, trivial⟩ ?_
  rintro ρ ⟨e0, e1, -⟩
  refine wpC_region ?_
  refine wpR_val (v := (Sl.v p0)) (w' := w0) rfl rfl rfl (x_move (v := (Sl.v p0)) rfl e0) ?_
  refine wpR_val (v := (Value.string p1)) (w' := w0) rfl rfl rfl (x_move (v := (Value.string p1)) rfl e1) ?_
  refine wpR_enter rfl rfl rfl (x_call (vs := [(Sl.v p0), (Value.string p1)]) rfl rfl (mapl_cons rfl (mapl_cons rfl mapl_nil)) Try.func59 NN_59 NB_59) (Calls.mono h ?_)
  rintro _ w1 ⟨r9, rfl, h⟩
  refine ⟨_, rfl, ?_⟩
  refine wpR_val (v := (Value.bool (decide (0 ≤ r9)))) (w' := w1) rfl rfl rfl (x_geq rfl rfl rfl) ?_
  refine wpR_val (v := (Value.bool (decide (0 ≤ r9)))) (w' := w1) rfl rfl rfl (x_assign (v := (Value.bool (decide (0 ≤ r9)))) rfl rfl) ?_
  refine wpR_nil ?_
  refine wpC_ret ?_
  exact ⟨.inl rfl, fun a ha => ⟨_, results_rep1 rfl ha rfl, decide (0 ≤ r9), rfl, h⟩⟩

/-- cmp.isNaN[int] -/
def F45 (p0 : Int) (w0 : World) (K : Bool → World → Prop) : Prop :=
  K (!decide (p0 = p0)) w0
set_option maxRecDepth 100000 in
theorem D45 (p0 : Int) (w0 : World) (K : Bool → World → Prop) (h : F45 p0 w0 K) : callC Try.prog 45 #[(Value.int .i64 p0)] (fun (r : Bool) => (Value.bool r)) w0 K := by
  unfold F45 at h
  refine calls_of_wpC Try.func45 rfl 6 rfl (by simp) ?_
  intro ρ hρ
  have e0 : ρ 0 = (Value.int .i64 p0) := hρ 0
  clear hρ
  refine wpC_seq ?_
  refine wpC_region ?_
  refine wpR_val (v := (Value.bool false)) (w' := w0) rfl rfl rfl (x_assign (v := (Value.bool false)) rfl rfl) ?_
  refine wpR_nil ?_
  refine wpC_seq ?_
  refine wpC_cut (fun ρ => ρ 0 = (Value.int .i64 p0) ∧ True) ⟨e0, trivial⟩ ?_
  rintro ρ ⟨e0, -⟩
  refine wpC_region ?_
  refine wpR_val (v := (Value.int .i64 p0)) (w' := w0) rfl rfl rfl (x_move (v := (Value.int .i64 p0)) rfl e0) ?_
  refine wpR_val (v := (Value.int .i64 p0)) (w' := w0) rfl rfl rfl (x_move (v := (Value.int .i64 p0)) rfl e0) ?_
  refine wpR_val (v := (Value.bool (!decide (p0 = p0)))) (w' := w0) rfl rfl rfl (x_neq rfl rfl rfl) ?_
  refine wpR_val (v := (Value.bool (!decide (p0 = p0)))) (w' := w0) rfl rfl rfl (x_assign (v := (Value.bool (!decide (p0 = p0)))) rfl rfl) ?_
  refine wpR_nil ?_
  refine wpC_ret ?_
  exact ⟨.inl rfl, fun a ha => ⟨_, results_rep1 rfl ha rfl, !decide (p0 = p0), rfl, h⟩⟩

/-- slices.IndexFunc[[]api.Waiting,api.Waiting] -/
def F46 (p0 : Sl) (p1 : Value) (w0 : World) (K : Int → World → Prop) : Prop :=
  lp (fun (next9 : Int → World → Prop) l9 w1 =>
    cnd (decide (l9 < (p0.len : Int)))
      (
      ix p0 l9 4 fun p11 =>
      ld (Value.int .i64) (p11.add 0) w1 fun x12 =>
      ld (Value.int .i64) (p11.add 1) w1 fun x13 =>
      ld (Value.int .i64) (p11.add 2) w1 fun x14 =>
      ld (Value.int .i64) (p11.add 3) w1 fun x15 =>
      cv Try.prog p1 [(Value.agg #[(Value.int .i64 x12), (Value.int .i64 x13), (Value.int .i64 x14), (Value.int .i64 x15)])] (fun (r : Bool) => (Value.bool r)) w1 fun r16 w2 =>
      cnd (r16)
        (
        K l9 w2
        )
        (
        next9 (IntKind.i64.wrap (l9 + 1)) w2
        )
      )
      (
      K (-1) w1
      )
  ) 0 w0
set_option maxRecDepth 100000 in
theorem D46 (p0 : Sl) (p1 : Value) (w0 : World) (K : Int → World → Prop) (h : F46 p0 p1 w0 K) : callC Try.prog 46 #[(Sl.v p0), p1] (fun (r : Int) => (Value.int .i64 r)) w0 K := by
  unfold F46 at h
  refine calls_of_wpC Try.func46 rfl 19 rfl (by simp) ?_
  intro ρ hρ
  have e0 : ρ 0 = (Sl.v p0) := hρ 0
  have e1 : ρ 1 = p1 := hρ 1
  clear hρ
  refine wpC_seq ?_
  refine wpC_region ?_
  refine wpR_val (v := (Value.int .i64 0)) (w' := w0) rfl rfl rfl (x_assign (v := (Value.int .i64 0)) rfl rfl) ?_
  refine wpR_nil ?_
  refine wpC_seq ?_
  refine wpC_seq ?_
  refine wpC_cut (fun ρ => ρ 0 = (Sl.v p0) ∧ ρ 1 = p1 ∧ True) ⟨e0, e1, trivial⟩ ?_
  rintro ρ ⟨e0, e1, -⟩
  refine wpC_region ?_
  refine wpR_val (v := (Sl.v p0)) (w' := w0) rfl rfl rfl (x_move (v := (Sl.v p0)) rfl e0) ?_
  refine wpR_val (v := (Value.int .i64 (p0.len : Int))) (w' := w0) rfl rfl rfl (x_lenS (s := p0) rfl rfl isSliceT_25) ?_
  refine wpR_val (v := (Value.int .i64 0)) (w' := w0) rfl rfl rfl (x_move (v := (Value.int .i64 0)) rfl rfl) ?_
  refine wpR_nil ?_
  refine wpC_block ?_
  obtain ⟨I9, μ9, hI9, hr9⟩ := h
  refine wpC_loop (fun (x : Int) ρ => ρ 8 = (Value.int .i64 x) ∧ ρ 0 = (Sl.v p0) ∧ ρ 1 = p1 ∧ ρ 7 = (Value.int .i64 (p0.len : Int)) ∧ True) I9 μ9 0 ⟨rfl, e0, e1, rfl, trivial⟩ hI9 ?_
  rintro l9 ρ w1 ⟨e8, e0, e1, e7, -⟩ h
  replace h := hr9 l9 w1 h
  clear hr9 hI9
  refine wpC_seq ?_
  refine wpC_region ?_
  refine wpR_val (v := (Value.bool (decide (l9 < (p0.len : Int))))) (w' := w1) rfl rfl rfl (x_lss rfl e8 e7) ?_
  refine wpR_nil ?_
  refine wpC_seq ?_
  refine wpC_cond (b := decide (l9 < (p0.len : Int))) rfl (fun hc10 => ?_) (fun hc10 => ?_)
  · replace h := h.1 hc10
    refine wpC_skip ?_
    refine wpC_seq ?_
    refine wpC_block ?_
    refine wpC_seq ?_
    refine wpC_cut (fun ρ => ρ 0 = (Sl.v p0) ∧ ρ 1 = p1 ∧ ρ 7 = (Value.int .i64 (p0.len : Int)) ∧ ρ 8 = (Value.int .i64 l9) ∧ True) ⟨e0, e1, e7, e8, trivial⟩ ?_
    rintro ρ ⟨e0, e1, e7, e8, -⟩
    refine wpC_region ?_
    refine wpR_val (v := (Value.int .i64 l9)) (w' := w1) rfl rfl rfl (x_move (v := (Value.int .i64 l9)) rfl e8) ?_
    refine wpR_val (v := (Value.int .i64 l9)) (w' := w1) rfl rfl rfl (x_assign (v := (Value.int .i64 l9)) rfl rfl) ?_
    refine wpR_nil ?_
    refine wpC_seq ?_
    refine wpC_cut (fun ρ => ρ 0 = (Sl.v p0) ∧ ρ 1 = p1 ∧ ρ 5 = (Value.int .i64 l9) ∧ ρ 7 = (Value.int .i64 (p0.len : Int)) ∧ ρ 8 = (Value.int .i64 l9) ∧ True) ⟨e0, e1, rfl, e7, e8, trivial⟩ ?_
    rintro ρ ⟨e0, e1, e5, e7, e8, -⟩
    refine wpC_region ?_
    refine wpR_val (v := p1) (w' := w1) rfl rfl rfl (x_move (v := p1) rfl e1) ?_
    refine wpR_val (v := (Sl.v p0)) (w' := w1) rfl rfl rfl (x_move (v := (Sl.v p0)) rfl e0) ?_
    refine wpR_val (v := (Value.int .i64 l9)) (w' := w1) rfl rfl rfl (x_move (v := (Value.int .i64 l9)) rfl e5) ?_
    obtain ⟨q11, z11, r11, h⟩ := h
    generalize hp11 : z11.add ((l9 : Int).toNat * 4) = p11 at h
    refine wpR_val (v := (Value.pointer (some p11))) (w' := w1) rfl rfl rfl ((x_indexAddr (s := p0) rfl rfl rfl ES_25 q11 r11).trans (by rw [hp11])) ?_
    obtain ⟨x12, q12, x13, q13, x14, q14, x15, q15, h⟩ := h
    refine wpR_val (v := (Value.agg #[(Value.int .i64 x12), (Value.int .i64 x13), (Value.int .i64 x14), (Value.int .i64 x15)])) (w' := w1) rfl rfl rfl (x_loadN [(Value.int .i64 x12), (Value.int .i64 x13), (Value.int .i64 x14), (Value.int .i64 x15)] rfl rfl SH_34 (CellsAt.out (CellsAt.cons q12 (CellsAt.cons q13 (CellsAt.cons q14 (CellsAt.cons q15 CellsAt.nil)))))) ?_
    obtain ⟨f16, fi16, ca16, fn16, qv16, qf16, qn16, qb16, h⟩ := h
    refine wpR_enter rfl rfl rfl (x_callv (vs := [(Value.agg #[(Value.int .i64 x12), (Value.int .i64 x13), (Value.int .i64 x14), (Value.int .i64 x15)])]) rfl ((show _ = p1 from rfl).trans qv16) (mapl_cons rfl mapl_nil) qf16 qn16 qb16) (Calls.mono h ?_)
    rintro _ w2 ⟨r16, rfl, h⟩
    refine ⟨_, rfl, ?_⟩
    refine wpR_nil ?_
    refine wpC_cond (b := r16) rfl (fun hc17 => ?_) (fun hc17 => ?_)
    · replace h := h.1 hc17
      refine wpC_seq ?_
      refine wpC_cut (fun ρ => ρ 5 = (Value.int .i64 l9) ∧ True) ⟨e5, trivial⟩ ?_
      rintro ρ ⟨e5, -⟩
      refine wpC_region ?_
      refine wpR_val (v := (Value.int .i64 l9)) (w' := w2) rfl rfl rfl (x_move (v := (Value.int .i64 l9)) rfl e5) ?_
      refine wpR_val (v := (Value.int .i64 l9)) (w' := w2) rfl rfl rfl (x_assign (v := (Value.int .i64 l9)) rfl rfl) ?_
      refine wpR_nil ?_
      refine wpC_ret ?_
      exact ⟨.inl rfl, fun a ha => ⟨_, results_rep1 rfl ha rfl, l9, rfl, h⟩⟩
    · replace h := h.2 hc17
      refine wpC_skip ?_
      refine wpC_cut (fun ρ => ρ 0 = (Sl.v p0) ∧ ρ 1 = p1 ∧ ρ 7 = (Value.int .i64 (p0.len : Int)) ∧ ρ 8 = (Value.int .i64 l9) ∧ True) ⟨e0, e1, e7, e8, trivial⟩ ?_
      rintro ρ ⟨e0, e1, e7, e8, -⟩
      refine wpC_region ?_
      refine wpR_val (v := (Value.int .i64 (IntKind.i64.wrap (l9 + 1)))) (w' := w2) rfl rfl rfl (x_add rfl e8 rfl) ?_
      refine wpR_val (v := (Value.int .i64 (IntKind.i64.wrap (l9 + 1)))) (w' := w2) rfl rfl rfl (x_move (v := (Value.int .i64 (IntKind.i64.wrap (l9 + 1)))) rfl rfl) ?_
      refine wpR_nil ?_
      exact ⟨IntKind.i64.wrap (l9 + 1), ⟨rfl, e0, e1, e7, trivial⟩, h⟩
  · replace h := h.2 hc10
    refine wpC_exit ?_
    refine wpC_seq ?_
    refine wpC_cut (fun ρ => True) trivial ?_
    rintro ρ -
    refine wpC_region ?_
    refine wpR_val (v := (Value.int .i64 (-1))) (w' := w1) rfl rfl rfl (x_assign (v := (Value.int .i64 (-1))) rfl rfl) ?_
    refine wpR_nil ?_
    refine wpC_ret ?_
    exact ⟨.inl rfl, fun a ha => ⟨_, results_rep1 rfl ha rfl, (-1), rfl, h⟩⟩

/-- slices.ContainsFunc[[]api.Bridge,api.Bridge] -/
def F47 (p0 : Sl) (p1 : Value) (w0 : World) (K : Bool → World → Prop) : Prop :=
  callC Try.prog 70 #[(Sl.v p0), p1] (fun (r : Int) => (Value.int .i64 r)) w0 fun r9 w1 =>
  K (decide (0 ≤ r9)) w1
set_option maxRecDepth 100000 in
theorem D47 (p0 : Sl) (p1 : Value) (w0 : World) (K : Bool → World → Prop) (h : F47 p0 p1 w0 K) : callC Try.prog 47 #[(Sl.v p0), p1] (fun (r : Bool) => (Value.bool r)) w0 K := by
  unfold F47 at h
  refine calls_of_wpC Try.func47 rfl 9 rfl (by simp) ?_
  intro ρ hρ
  have e0 : ρ 0 = (Sl.v p0) := hρ 0
  have e1 : ρ 1 = p1 := hρ 1
  clear hρ
  refine wpC_seq ?_
  refine wpC_region ?_
  refine wpR_val (v := (Value.bool false)) (w' := w0) rfl rfl rfl (x_assign (v := (Value.bool false)) rfl rfl) ?_
  refine wpR_nil ?_
  refine wpC_seq ?_
  refine wpC_cut (fun ρ => ρ 0 = (Sl.v p0) ∧ ρ 1 = p1 ∧ True) ⟨e0, e1, trivial⟩ ?_
  rintro ρ ⟨e0, e1, -⟩
  refine wpC_region ?_
  refine wpR_val (v := (Sl.v p0)) (w' := w0) rfl rfl rfl (x_move (v := (Sl.v p0)) rfl e0) ?_
  refine wpR_val (v := p1) (w' := w0) rfl rfl rfl (x_move (v := p1) rfl e1) ?_
  refine wpR_enter rfl rfl rfl (x_call (vs := [(Sl.v p0), p1]) rfl rfl (mapl_cons rfl (mapl_cons rfl mapl_nil)) Try.func70 NN_70 NB_70) (Calls.mono h ?_)
  rintro _ w1 ⟨r9, rfl, h⟩
  refine ⟨_, rfl, ?_⟩
  refine wpR_val (v := (Value.bool (decide (0 ≤ r9)))) (w' := w1) rfl rfl rfl (x_geq rfl rfl rfl) ?_
  refine wpR_val (v := (Value.bool (decide (0 ≤ r9)))) (w' := w1) rfl rfl rfl (x_assign (v := (Value.bool (decide (0 ≤ r9)))) rfl rfl) ?_
  refine wpR_nil ?_
  refine wpC_ret ?_
  exact ⟨.inl rfl, fun a ha => ⟨_, results_rep1 rfl ha rfl, decide (0 ≤ r9), rfl, h⟩⟩

/-- ring.valid$1 -/
def F48 (p0_0 : Int) (p0_1 : Int) (p0_2 : Bool) (c1 : Addr) (w0 : World) (K : Bool → World → Prop) : Prop :=
  nw 54 #[(Value.int .i64 p0_0), (Value.int .i64 p0_1), (Value.bool p0_2)] w0 fun b9 w1 =>
  ld (Value.int .i64) ((Addr.mk b9 0 none).add 0) w1 fun x10 =>
  ld (Value.int .i64) ((Addr.mk b9 0 none).add 1) w1 fun x11 =>
  jp (fun J12 => cnd (decide ((min x10 x11) < 0))
    (
    J12 true
    )
    (
    ld (Value.int .i64) ((Addr.mk b9 0 none).add 0) w1 fun x14 =>
    ld (Value.int .i64) ((Addr.mk b9 0 none).add 1) w1 fun x15 =>
    ld (Value.int .i64) c1 w1 fun x16 =>
    J12 (decide (x16 ≤ (max x14 x15)))
    ))
  fun c17 =>
  K c17 w1
set_option maxRecDepth 100000 in
theorem D48 (p0_0 : Int) (p0_1 : Int) (p0_2 : Bool) (c1 : Addr) (w0 : World) (K : Bool → World → Prop) (h : F48 p0_0 p0_1 p0_2 c1 w0 K) : callC Try.prog 48 #[(Value.agg #[(Value.int .i64 p0_0), (Value.int .i64 p0_1), (Value.bool p0_2)]), (Value.pointer (some c1))] (fun (r : Bool) => (Value.bool r)) w0 K := by
  unfold F48 at h
  refine calls_of_wpC Try.func48 rfl 19 rfl (by simp) ?_
  intro ρ hρ
  have e0 : ρ 0 = (Value.agg #[(Value.int .i64 p0_0), (Value.int .i64 p0_1), (Value.bool p0_2)]) := hρ 0
  have e1 : ρ 1 = (Value.pointer (some c1)) := hρ 1
  clear hρ
  refine wpC_seq ?_
  refine wpC_region ?_
  obtain ⟨b9, hb9⟩ : ∃ u, u = w0.heap.size := ⟨_, rfl⟩
  obtain ⟨w1, hw9⟩ : ∃ u, u = w0.alloc (.cells #[(Value.int .i64 p0_0), (Value.int .i64 p0_1), (Value.bool p0_2)] 54) := ⟨_, rfl⟩
  replace h := h b9 w1 hb9 hw9
  refine wpR_val (v := (Value.pointer (some (Addr.mk b9 0 none)))) (w' := w1) rfl rfl rfl ((x_box (v := (Value.agg #[(Value.int .i64 p0_0), (Value.int .i64 p0_1), (Value.bool p0_2)])) rfl e0).trans (by rw [hb9, hw9]; rfl)) ?_
  refine wpR_val (v := (Value.bool false)) (w' := w1) rfl rfl rfl (x_assign (v := (Value.bool false)) rfl rfl) ?_
  refine wpR_nil ?_
  refine wpC_seq ?_
  refine wpC_cut (fun ρ => ρ 1 = (Value.pointer (some c1)) ∧ ρ 2 = (Value.pointer (some (Addr.mk b9 0 none))) ∧ True) ⟨e1, rfl, trivial⟩ ?_
  rintro ρ ⟨e1, e2, -⟩
  refine wpC_region ?_
  refine wpR_val (v := (Value.pointer (some ((Addr.mk b9 0 none).add 0)))) (w' := w1) rfl rfl rfl (x_fieldAddr rfl e2 FA_54_0) ?_
  obtain ⟨x10, q10, h⟩ := h
  refine wpR_val (v := (Value.int .i64 x10)) (w' := w1) rfl rfl rfl (x_load1 rfl rfl SH_3 q10) ?_
  refine wpR_val (v := (Value.pointer (some ((Addr.mk b9 0 none).add 1)))) (w' := w1) rfl rfl rfl (x_fieldAddr rfl e2 FA_54_1) ?_
  obtain ⟨x11, q11, h⟩ := h
  refine wpR_val (v := (Value.int .i64 x11)) (w' := w1) rfl rfl rfl (x_load1 rfl rfl SH_3 q11) ?_
  refine wpR_val (v := (Value.int .i64 (min x10 x11))) (w' := w1) rfl rfl rfl (x_min rfl rfl rfl) ?_
  refine wpR_val (v := (Value.bool (decide ((min x10 x11) < 0)))) (w' := w1) rfl rfl rfl (x_lss rfl rfl rfl) ?_
  refine wpR_val (v := (Value.bool (decide ((min x10 x11) < 0)))) (w' := w1) rfl rfl rfl (x_move (v := (Value.bool (decide ((min x10 x11) < 0)))) rfl rfl) ?_
  obtain ⟨J12, h, hk⟩ := h
  refine wpR_joinJ 8 (fun x ρ => ρ 18 = Value.bool x ∧ True) (fun x w => J12 x ∧ w1 = w) ?_ ?_
  · clear hk
    rcases Bool.eq_false_or_eq_true (decide ((min x10 x11) < 0)) with hc13 | hc13
    · replace h := h.1 hc13
      refine wpR_pass (wantN rfl rfl rfl hc13) rfl rfl ?_
      refine wpR_pass (wantN rfl rfl rfl hc13) rfl rfl ?_
      refine wpR_pass (wantN rfl rfl rfl hc13) rfl rfl ?_
      refine wpR_pass (wantN rfl rfl rfl hc13) rfl rfl ?_
      refine wpR_pass (wantN rfl rfl rfl hc13) rfl rfl ?_
      refine wpR_pass (wantN rfl rfl rfl hc13) rfl rfl ?_
      refine wpR_pass (wantN rfl rfl rfl hc13) rfl rfl ?_
      refine wpR_val (v := (Value.bool true)) (w' := w1) rfl rfl rfl (x_pickT (v := (Value.bool true)) rfl rfl hc13 rfl) ?_
      refine wpR_nil ?_
      exact ⟨true, ⟨rfl, trivial⟩, h, rfl⟩
    · replace h := h.2 hc13
      refine wpR_val (v := (Value.pointer (some ((Addr.mk b9 0 none).add 0)))) (w' := w1) (wantG rfl rfl rfl hc13) rfl rfl (x_fieldAddr rfl e2 FA_54_0) ?_
      obtain ⟨x14, q14, h⟩ := h
      refine wpR_val (v := (Value.int .i64 x14)) (w' := w1) (wantG rfl rfl rfl hc13) rfl rfl (x_load1 rfl rfl SH_3 q14) ?_
      refine wpR_val (v := (Value.pointer (some ((Addr.mk b9 0 none).add 1)))) (w' := w1) (wantG rfl rfl rfl hc13) rfl rfl (x_fieldAddr rfl e2 FA_54_1) ?_
      obtain ⟨x15, q15, h⟩ := h
      refine wpR_val (v := (Value.int .i64 x15)) (w' := w1) (wantG rfl rfl rfl hc13) rfl rfl (x_load1 rfl rfl SH_3 q15) ?_
      refine wpR_val (v := (Value.int .i64 (max x14 x15))) (w' := w1) (wantG rfl rfl rfl hc13) rfl rfl (x_max rfl rfl rfl) ?_
      obtain ⟨x16, q16, h⟩ := h
      refine wpR_val (v := (Value.int .i64 x16)) (w' := w1) (wantG rfl rfl rfl hc13) rfl rfl (x_load1 rfl e1 SH_3 q16) ?_
      refine wpR_val (v := (Value.bool (decide (x16 ≤ (max x14 x15))))) (w' := w1) (wantG rfl rfl rfl hc13) rfl rfl (x_geq rfl rfl rfl) ?_
      refine wpR_val (v := (Value.bool (decide (x16 ≤ (max x14 x15))))) (w' := w1) rfl rfl rfl (x_pickF (v := (Value.bool (decide (x16 ≤ (max x14 x15))))) rfl rfl hc13 rfl) ?_
      refine wpR_nil ?_
      exact ⟨decide (x16 ≤ (max x14 x15)), ⟨rfl, trivial⟩, h, rfl⟩
  clear h
  rintro c17 ρ wj ⟨e18, -⟩ ⟨h, rfl⟩
  replace h := hk c17 h
  clear hk
  refine wpR_val (v := (Value.bool c17)) (w' := w1) rfl rfl rfl (x_assign (v := (Value.bool c17)) rfl e18) ?_
  refine wpR_nil ?_
  refine wpC_ret ?_
  exact ⟨.inl rfl, fun a ha => ⟨_, results_rep1 rfl ha rfl, c17, rfl, h⟩⟩


end Go.Proofs.Ytgbhghoppjfofaa
