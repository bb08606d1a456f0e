import Derived.Test.YtkacfhhpmpmhkaaRows
import Derived.Test.YtkacfhhpmpmhkaaFs1
import Derived.Test.YtkacfhhpmpmhkaaDecRaw
namespace Go.Proofs.Ytkacfhhpmpmhkaa
open Go.Dec
set_option maxHeartbeats 400000
set_option maxRecDepth 100000

/-- linguaref39.Path -/
def F15 (p0 : Sl) (p1 : ByteArray) (p2 : Sl) (p3 : Int) (w0 : World) (K : (Sl × Bool) → World → Prop) : Prop :=
  cnd ((decide (200 < (p0.len : Int))) || (decide (p3 < 0)))
    (
    K (Sl.nil, false) w0
    )
    (
    callC Try.prog 23 #[(Sl.v p0), (Value.string p1), (Sl.v p2), (Value.int .i64 p3), (Value.int .i64 (p0.len : Int))] (fun (r : Int) => (Value.int .i64 r)) w0 fun r12 w1 =>
    cnd (decide (r12 < 0))
      (
      K (Sl.nil, false) w1
      )
      (
      lp (fun (next14 : (ByteArray × Int × Sl) → World → Prop) l14 w2 =>
        cnd (decide (0 < l14.2.1))
          (
          lp (fun (next16 : (ByteArray × Int × Sl × Int) → World → Prop) l16 w3 =>
            cnd (decide (l16.2.2.2 < (p0.len : Int)))
              (
              ix p0 l16.2.2.2 3 fun p18 =>
              ld Value.string (p18.add 0) w3 fun x19 =>
              ld Value.string (p18.add 1) w3 fun x20 =>
              ld (Value.int .i64) (p18.add 2) w3 fun x21 =>
              nw 36 #[(Value.string (ByteArray.mk #[])), (Value.string (ByteArray.mk #[])), (Value.int .i64 0)] w3 fun b22 w4 =>
              st (Addr.mk b22 0 none) [(Value.string x19), (Value.string x20), (Value.int .i64 x21)] w4 fun w5 =>
              ld Value.string ((Addr.mk b22 0 none).add 0) w5 fun x24 =>
              jp (fun J25 => cnd (beqS x24 l16.1)
                (
                ld (Value.int .i64) ((Addr.mk b22 0 none).add 2) w5 fun x27 =>
                J25 (decide (p3 ≤ x27))
                )
                (
                J25 false
                ))
              fun c28 =>
              jn (fun J29 => cnd (c28)
                (
                ld Value.string ((Addr.mk b22 0 none).add 1) w5 fun x31 =>
                callC Try.prog 23 #[(Sl.v p0), (Value.string x31), (Sl.v p2), (Value.int .i64 p3), (Value.int .i64 (p0.len : Int))] (fun (r : Int) => (Value.int .i64 r)) w5 fun r32 w6 =>
                J29 (decide (r32 = (IntKind.i64.wrap (l16.2.1 - 1)))) w6
                )
                (
                J29 false w5
                ))
              fun c33 w7 =>
              cnd (c33)
                (
                nw 3 #[(Value.int .i64 l16.2.2.2)] w7 fun b35 w8 =>
                rn Try.prog (Builtin.append_ #[24, 24] 24 #[Sl.v l16.2.2.1, Sl.v (⟨some ⟨b35, 0, none⟩, 1, 1⟩ : Sl)]) Sl.v w8 fun r36 w9 =>
                ld Value.string ((Addr.mk b22 0 none).add 1) w9 fun x37 =>
                next14 (x37, IntKind.i64.wrap (l16.2.1 - 1), r36) w9
                )
                (
                next16 (l16.1, l16.2.1, l16.2.2.1, IntKind.i64.wrap (l16.2.2.2 + 1)) w7
                )
              )
              (
              next14 (l16.1, l16.2.1, l16.2.2.1) w3
              )
          ) (l14.1, l14.2.1, l14.2.2, 0) w2
          )
          (
          K (l14.2.2, true) w2
          )
      ) (p1, r12, Sl.nil) w1
      )
    )
set_option maxRecDepth 100000 in
theorem D15 (p0 : Sl) (p1 : ByteArray) (p2 : Sl) (p3 : Int) (w0 : World) (K : (Sl × Bool) → World → Prop) (h : F15 p0 p1 p2 p3 w0 K) : callC Try.prog 15 #[(Sl.v p0), (Value.string p1), (Sl.v p2), (Value.int .i64 p3)] (fun (r : Sl × Bool) => (Value.tuple #[(Sl.v r.1), (Value.bool r.2)])) w0 K := by
  unfold F15 at h
  refine calls_of_wpC Try.func15 rfl 74 rfl (by simp) ?_
  intro ρ hρ
  have e0 : ρ 0 = (Sl.v p0) := hρ 0
  have e1 : ρ 1 = (Value.string p1) := hρ 1
  have e2 : ρ 2 = (Sl.v p2) := hρ 2
  have e3 : ρ 3 = (Value.int .i64 p3) := hρ 3
  clear hρ
  refine wpC_seq ?_
  refine wpC_region ?_
  refine wpR_val (v := (Sl.v Sl.nil)) (w' := w0) rfl rfl rfl (x_assign (v := (Sl.v Sl.nil)) rfl rfl) ?_
  refine wpR_val (v := (Value.bool false)) (w' := w0) rfl rfl rfl (x_assign (v := (Value.bool false)) rfl rfl) ?_
  refine wpR_nil ?_
  refine wpC_seq ?_
  refine wpC_seq ?_
  refine wpC_cut (fun ρ => ρ 0 = (Sl.v p0) ∧ ρ 1 = (Value.string p1) ∧ ρ 2 = (Sl.v p2) ∧ ρ 3 = (Value.int .i64 p3) ∧ True) ⟨e0, e1, e2, e3, trivial⟩ ?_
  rintro ρ ⟨e0, e1, e2, e3, -⟩
  refine wpC_region ?_
  refine wpR_val (v := (Sl.v p0)) (w' := w0) rfl rfl rfl (x_move (v := (Sl.v p0)) rfl e0) ?_
  refine wpR_val (v := (Value.int .i64 (p0.len : Int))) (w' := w0) rfl rfl rfl (x_lenS (s := p0) rfl rfl isSliceT_22) ?_
  refine wpR_val (v := (Value.bool (decide (200 < (p0.len : Int))))) (w' := w0) rfl rfl rfl (x_gtr rfl rfl rfl) ?_
  refine wpR_val (v := (Value.bool (decide (200 < (p0.len : Int))))) (w' := w0) rfl rfl rfl (x_move (v := (Value.bool (decide (200 < (p0.len : Int))))) rfl rfl) ?_
  refine wpR_joinJ 3 (fun (_ : Unit) ρ => ρ 20 = Value.bool ((decide (200 < (p0.len : Int))) || (decide (p3 < 0))) ∧ ρ 0 = (Sl.v p0) ∧ ρ 1 = (Value.string p1) ∧ ρ 2 = (Sl.v p2) ∧ ρ 3 = (Value.int .i64 p3) ∧ True) (fun _ w => w0 = w) ?_ ?_
  · clear h
    rcases Bool.eq_false_or_eq_true (decide (200 < (p0.len : Int))) with hc10 | hc10
    · skip
      refine wpR_pass (wantN rfl rfl rfl hc10) rfl rfl ?_
      refine wpR_pass (wantN rfl rfl rfl hc10) rfl rfl ?_
      refine wpR_val (v := (Value.bool true)) (w' := w0) rfl rfl rfl (x_pickT (v := (Value.bool true)) rfl rfl hc10 rfl) ?_
      refine wpR_nil ?_
      exact ⟨(), ⟨(by rw [hc10]; rfl), e0, e1, e2, e3, trivial⟩, rfl⟩
    · skip
      refine wpR_val (v := (Value.int .i64 p3)) (w' := w0) (wantG rfl rfl rfl hc10) rfl rfl (x_move (v := (Value.int .i64 p3)) rfl e3) ?_
      refine wpR_val (v := (Value.bool (decide (p3 < 0)))) (w' := w0) (wantG rfl rfl rfl hc10) rfl rfl (x_lss rfl rfl rfl) ?_
      refine wpR_val (v := (Value.bool (decide (p3 < 0)))) (w' := w0) rfl rfl rfl (x_pickF (v := (Value.bool (decide (p3 < 0)))) rfl rfl hc10 rfl) ?_
      refine wpR_nil ?_
      exact ⟨(), ⟨(by rw [hc10]; rfl), e0, e1, e2, e3, trivial⟩, rfl⟩
  rintro _ ρ wj ⟨e20, e0, e1, e2, e3, -⟩ rfl
  refine wpR_nil ?_
  refine wpC_cond (b := (decide (200 < (p0.len : Int))) || (decide (p3 < 0))) e20 (fun hc11 => ?_) (fun hc11 => ?_)
  · replace h := h.1 hc11
    refine wpC_seq ?_
    refine wpC_region ?_
    refine wpR_val (v := (Sl.v Sl.nil)) (w' := w0) rfl rfl rfl (x_assign (v := (Sl.v Sl.nil)) rfl rfl) ?_
    refine wpR_val (v := (Value.bool false)) (w' := w0) rfl rfl rfl (x_assign (v := (Value.bool false)) rfl rfl) ?_
    refine wpR_nil ?_
    refine wpC_ret ?_
    exact ⟨.inl rfl, fun a ha => ⟨_, results_rep2 rfl ha rfl rfl, (Sl.nil, false), rfl, h⟩⟩
  · replace h := h.2 hc11
    refine wpC_skip ?_
    refine wpC_seq ?_
    refine wpC_region ?_
    refine wpR_val (v := (Sl.v p0)) (w' := w0) rfl rfl rfl (x_move (v := (Sl.v p0)) rfl e0) ?_
    refine wpR_val (v := (Value.string p1)) (w' := w0) rfl rfl rfl (x_move (v := (Value.string p1)) rfl e1) ?_
    refine wpR_val (v := (Sl.v p2)) (w' := w0) rfl rfl rfl (x_move (v := (Sl.v p2)) rfl e2) ?_
    refine wpR_val (v := (Value.int .i64 p3)) (w' := w0) rfl rfl rfl (x_move (v := (Value.int .i64 p3)) rfl e3) ?_
    refine wpR_val (v := (Sl.v p0)) (w' := w0) rfl rfl rfl (x_move (v := (Sl.v p0)) rfl e0) ?_
    refine wpR_val (v := (Value.int .i64 (p0.len : Int))) (w' := w0) rfl rfl rfl (x_lenS (s := p0) rfl rfl isSliceT_22) ?_
    refine wpR_enter rfl rfl rfl (x_call (vs := [(Sl.v p0), (Value.string p1), (Sl.v p2), (Value.int .i64 p3), (Value.int .i64 (p0.len : Int))]) rfl rfl (mapl_cons rfl (mapl_cons rfl (mapl_cons rfl (mapl_cons rfl (mapl_cons rfl mapl_nil))))) Try.func23 NN_23 NB_23) (Calls.mono h ?_)
    rintro _ w1 ⟨r12, rfl, h⟩
    refine ⟨_, rfl, ?_⟩
    refine wpR_val (v := (Value.int .i64 r12)) (w' := w1) rfl rfl rfl (x_assign (v := (Value.int .i64 r12)) rfl rfl) ?_
    refine wpR_nil ?_
    refine wpC_seq ?_
    refine wpC_seq ?_
    refine wpC_cut (fun ρ => ρ 0 = (Sl.v p0) ∧ ρ 1 = (Value.string p1) ∧ ρ 2 = (Sl.v p2) ∧ ρ 3 = (Value.int .i64 p3) ∧ ρ 10 = (Value.int .i64 r12) ∧ True) ⟨e0, e1, e2, e3, rfl, trivial⟩ ?_
    rintro ρ ⟨e0, e1, e2, e3, e10, -⟩
    refine wpC_region ?_
    refine wpR_val (v := (Value.int .i64 r12)) (w' := w1) rfl rfl rfl (x_move (v := (Value.int .i64 r12)) rfl e10) ?_
    refine wpR_val (v := (Value.bool (decide (r12 < 0)))) (w' := w1) rfl rfl rfl (x_lss rfl rfl rfl) ?_
    refine wpR_nil ?_
    refine wpC_cond (b := decide (r12 < 0)) rfl (fun hc13 => ?_) (fun hc13 => ?_)
    · replace h := h.1 hc13
      refine wpC_seq ?_
      refine wpC_cut (fun ρ => True) trivial ?_
      rintro ρ -
      refine wpC_region ?_
      refine wpR_val (v := (Sl.v Sl.nil)) (w' := w1) rfl rfl rfl (x_assign (v := (Sl.v Sl.nil)) rfl rfl) ?_
      refine wpR_val (v := (Value.bool false)) (w' := w1) rfl rfl rfl (x_assign (v := (Value.bool false)) rfl rfl) ?_
      refine wpR_nil ?_
      refine wpC_ret ?_
      exact ⟨.inl rfl, fun a ha => ⟨_, results_rep2 rfl ha rfl rfl, (Sl.nil, false), rfl, h⟩⟩
    · replace h := h.2 hc13
      refine wpC_skip ?_
      refine wpC_seq ?_
      refine wpC_cut (fun ρ => ρ 0 = (Sl.v p0) ∧ ρ 1 = (Value.string p1) ∧ ρ 2 = (Sl.v p2) ∧ ρ 3 = (Value.int .i64 p3) ∧ ρ 10 = (Value.int .i64 r12) ∧ True) ⟨e0, e1, e2, e3, e10, trivial⟩ ?_
      rintro ρ ⟨e0, e1, e2, e3, e10, -⟩
      refine wpC_region ?_
      refine wpR_val (v := (Sl.v Sl.nil)) (w' := w1) rfl rfl rfl (x_assign (v := (Sl.v Sl.nil)) rfl rfl) ?_
      refine wpR_nil ?_
      refine wpC_seq ?_
      refine wpC_block ?_
      obtain ⟨I14, μ14, hI14, hr14⟩ := h
      refine wpC_loop (fun (x : ByteArray × Int × Sl) ρ => ρ 1 = (Value.string x.1) ∧ ρ 10 = (Value.int .i64 x.2.1) ∧ ρ 11 = (Sl.v x.2.2) ∧ ρ 0 = (Sl.v p0) ∧ ρ 2 = (Sl.v p2) ∧ ρ 3 = (Value.int .i64 p3) ∧ True) I14 μ14 (p1, r12, Sl.nil) ⟨e1, e10, rfl, e0, e2, e3, trivial⟩ hI14 ?_
      rintro l14 ρ w2 ⟨e1, e10, e11, e0, e2, e3, -⟩ h
      replace h := hr14 l14 w2 h
      clear hr14 hI14
      refine wpC_seq ?_
      refine wpC_seq ?_
      refine wpC_region ?_
      refine wpR_val (v := (Value.int .i64 l14.2.1)) (w' := w2) rfl rfl rfl (x_move (v := (Value.int .i64 l14.2.1)) rfl e10) ?_
      refine wpR_val (v := (Value.bool (decide (0 < l14.2.1)))) (w' := w2) rfl rfl rfl (x_gtr rfl rfl rfl) ?_
      refine wpR_nil ?_
      refine wpC_cond (b := decide (0 < l14.2.1)) rfl (fun hc15 => ?_) (fun hc15 => ?_)
      · replace h := h.1 hc15
        refine wpC_skip ?_
        refine wpC_block ?_
        refine wpC_seq ?_
        refine wpC_cut (fun ρ => ρ 0 = (Sl.v p0) ∧ ρ 1 = (Value.string l14.1) ∧ ρ 2 = (Sl.v p2) ∧ ρ 3 = (Value.int .i64 p3) ∧ ρ 10 = (Value.int .i64 l14.2.1) ∧ ρ 11 = (Sl.v l14.2.2) ∧ True) ⟨e0, e1, e2, e3, e10, e11, trivial⟩ ?_
        rintro ρ ⟨e0, e1, e2, e3, e10, e11, -⟩
        refine wpC_region ?_
        refine wpR_val (v := (Value.int .i64 0)) (w' := w2) rfl rfl rfl (x_assign (v := (Value.int .i64 0)) rfl rfl) ?_
        refine wpR_nil ?_
        refine wpC_block ?_
        obtain ⟨I16, μ16, hI16, hr16⟩ := h
        refine wpC_loop (fun (x : ByteArray × Int × Sl × Int) ρ => ρ 1 = (Value.string x.1) ∧ ρ 10 = (Value.int .i64 x.2.1) ∧ ρ 11 = (Sl.v x.2.2.1) ∧ ρ 12 = (Value.int .i64 x.2.2.2) ∧ ρ 0 = (Sl.v p0) ∧ ρ 2 = (Sl.v p2) ∧ ρ 3 = (Value.int .i64 p3) ∧ True) I16 μ16 (l14.1, l14.2.1, l14.2.2, 0) ⟨e1, e10, e11, rfl, e0, e2, e3, trivial⟩ hI16 ?_
        rintro l16 ρ w3 ⟨e1, e10, e11, e12, e0, e2, e3, -⟩ h
        replace h := hr16 l16 w3 h
        clear hr16 hI16
        refine wpC_seq ?_
        refine wpC_seq ?_
        refine wpC_region ?_
        refine wpR_val (v := (Value.int .i64 l16.2.2.2)) (w' := w3) rfl rfl rfl (x_move (v := (Value.int .i64 l16.2.2.2)) rfl e12) ?_
        refine wpR_val (v := (Sl.v p0)) (w' := w3) rfl rfl rfl (x_move (v := (Sl.v p0)) rfl e0) ?_
        refine wpR_val (v := (Value.int .i64 (p0.len : Int))) (w' := w3) rfl rfl rfl (x_lenS (s := p0) rfl rfl isSliceT_22) ?_
        refine wpR_val (v := (Value.bool (decide (l16.2.2.2 < (p0.len : Int))))) (w' := w3) rfl rfl rfl (x_lss rfl rfl rfl) ?_
        refine wpR_nil ?_
        refine wpC_cond (b := decide (l16.2.2.2 < (p0.len : Int))) rfl (fun hc17 => ?_) (fun hc17 => ?_)
        · replace h := h.1 hc17
          refine wpC_skip ?_
          refine wpC_seq ?_
          refine wpC_block ?_
          refine wpC_seq ?_
          refine wpC_cut (fun ρ => ρ 0 = (Sl.v p0) ∧ ρ 1 = (Value.string l16.1) ∧ ρ 2 = (Sl.v p2) ∧ ρ 3 = (Value.int .i64 p3) ∧ ρ 10 = (Value.int .i64 l16.2.1) ∧ ρ 11 = (Sl.v l16.2.2.1) ∧ ρ 12 = (Value.int .i64 l16.2.2.2) ∧ True) ⟨e0, e1, e2, e3, e10, e11, e12, trivial⟩ ?_
          rintro ρ ⟨e0, e1, e2, e3, e10, e11, e12, -⟩
          refine wpC_region ?_
          refine wpR_val (v := (Sl.v p0)) (w' := w3) rfl rfl rfl (x_move (v := (Sl.v p0)) rfl e0) ?_
          refine wpR_val (v := (Value.int .i64 l16.2.2.2)) (w' := w3) rfl rfl rfl (x_move (v := (Value.int .i64 l16.2.2.2)) rfl e12) ?_
          obtain ⟨q18, z18, r18, h⟩ := h
          generalize hp18 : z18.add ((l16.2.2.2 : Int).toNat * 3) = p18 at h
          refine wpR_val (v := (Value.pointer (some p18))) (w' := w3) rfl rfl rfl ((x_indexAddr (s := p0) rfl rfl rfl ES_22 q18 r18).trans (by rw [hp18])) ?_
          obtain ⟨x19, q19, x20, q20, x21, q21, h⟩ := h
          refine wpR_val (v := (Value.agg #[(Value.string x19), (Value.string x20), (Value.int .i64 x21)])) (w' := w3) rfl rfl rfl (x_loadN [(Value.string x19), (Value.string x20), (Value.int .i64 x21)] rfl rfl SH_36 (CellsAt.out (CellsAt.cons q19 (CellsAt.cons q20 (CellsAt.cons q21 CellsAt.nil))))) ?_
          obtain ⟨b22, hb22⟩ : ∃ u, u = w3.heap.size := ⟨_, rfl⟩
          obtain ⟨w4, hw22⟩ : ∃ u, u = w3.alloc (.cells #[(Value.string (ByteArray.mk #[])), (Value.string (ByteArray.mk #[])), (Value.int .i64 0)] 36) := ⟨_, rfl⟩
          replace h := h b22 w4 hb22 hw22
          refine wpR_val (v := (Value.pointer (some (Addr.mk b22 0 none)))) (w' := w4) rfl rfl rfl ((x_alloc rfl ZV_36).trans (by rw [hb22, hw22]; rfl)) ?_
          obtain ⟨q23, h⟩ := h
          obtain ⟨w5, hw23⟩ : ∃ u, u = setAll w4 (Addr.mk b22 0 none) [(Value.string x19), (Value.string x20), (Value.int .i64 x21)] 0 := ⟨_, rfl⟩
          replace h := h w5 hw23
          refine wpR_skp (w' := w5) rfl rfl ((x_store (v := (Value.agg #[(Value.string x19), (Value.string x20), (Value.int .i64 x21)])) rfl rfl rfl SZ_36 (ones (by rfl)) q23).trans (by rw [hw23]; rfl)) ?_
          refine wpR_nil ?_
          refine wpC_seq ?_
          refine wpC_cut (fun ρ => ρ 0 = (Sl.v p0) ∧ ρ 1 = (Value.string l16.1) ∧ ρ 2 = (Sl.v p2) ∧ ρ 3 = (Value.int .i64 p3) ∧ ρ 10 = (Value.int .i64 l16.2.1) ∧ ρ 11 = (Sl.v l16.2.2.1) ∧ ρ 12 = (Value.int .i64 l16.2.2.2) ∧ ρ 13 = (Value.pointer (some (Addr.mk b22 0 none))) ∧ True) ⟨e0, e1, e2, e3, e10, e11, e12, rfl, trivial⟩ ?_
          rintro ρ ⟨e0, e1, e2, e3, e10, e11, e12, e13, -⟩
          refine wpC_region ?_
          refine wpR_val (v := (Value.pointer (some ((Addr.mk b22 0 none).add 0)))) (w' := w5) rfl rfl rfl (x_fieldAddr rfl e13 FA_36_0) ?_
          obtain ⟨x24, q24, h⟩ := h
          refine wpR_val (v := (Value.string x24)) (w' := w5) rfl rfl rfl (x_load1 rfl rfl SH_9 q24) ?_
          refine wpR_val (v := (Value.string l16.1)) (w' := w5) rfl rfl rfl (x_move (v := (Value.string l16.1)) rfl e1) ?_
          refine wpR_val (v := (Value.bool (beqS x24 l16.1))) (w' := w5) rfl rfl rfl (x_eqlS rfl rfl rfl) ?_
          refine wpR_val (v := (Value.bool (beqS x24 l16.1))) (w' := w5) rfl rfl rfl (x_move (v := (Value.bool (beqS x24 l16.1))) rfl rfl) ?_
          obtain ⟨J25, h, hk⟩ := h
          refine wpR_joinJ 5 (fun x ρ => ρ 51 = Value.bool x ∧ ρ 0 = (Sl.v p0) ∧ ρ 1 = (Value.string l16.1) ∧ ρ 2 = (Sl.v p2) ∧ ρ 3 = (Value.int .i64 p3) ∧ ρ 10 = (Value.int .i64 l16.2.1) ∧ ρ 11 = (Sl.v l16.2.2.1) ∧ ρ 12 = (Value.int .i64 l16.2.2.2) ∧ ρ 13 = (Value.pointer (some (Addr.mk b22 0 none))) ∧ True) (fun x w => J25 x ∧ w5 = w) ?_ ?_
          · clear hk
            rcases Bool.eq_false_or_eq_true (beqS x24 l16.1) with hc26 | hc26
            · replace h := h.1 hc26
              refine wpR_val (v := (Value.int .i64 p3)) (w' := w5) (wantG rfl rfl rfl hc26) rfl rfl (x_move (v := (Value.int .i64 p3)) rfl e3) ?_
              refine wpR_val (v := (Value.pointer (some ((Addr.mk b22 0 none).add 2)))) (w' := w5) (wantG rfl rfl rfl hc26) rfl rfl (x_fieldAddr rfl e13 FA_36_2) ?_
              obtain ⟨x27, q27, h⟩ := h
              refine wpR_val (v := (Value.int .i64 x27)) (w' := w5) (wantG rfl rfl rfl hc26) rfl rfl (x_load1 rfl rfl SH_3 q27) ?_
              refine wpR_val (v := (Value.bool (decide (p3 ≤ x27)))) (w' := w5) (wantG rfl rfl rfl hc26) rfl rfl (x_leq rfl rfl rfl) ?_
              refine wpR_val (v := (Value.bool (decide (p3 ≤ x27)))) (w' := w5) rfl rfl rfl (x_pickT (v := (Value.bool (decide (p3 ≤ x27)))) rfl rfl hc26 rfl) ?_
              refine wpR_nil ?_
              exact ⟨decide (p3 ≤ x27), ⟨rfl, e0, e1, e2, e3, e10, e11, e12, e13, trivial⟩, h, rfl⟩
            · replace h := h.2 hc26
              refine wpR_pass (wantN rfl rfl rfl hc26) rfl rfl ?_
              refine wpR_pass (wantN rfl rfl rfl hc26) rfl rfl ?_
              refine wpR_pass (wantN rfl rfl rfl hc26) rfl rfl ?_
              refine wpR_pass (wantN rfl rfl rfl hc26) rfl rfl ?_
              refine wpR_val (v := (Value.bool false)) (w' := w5) rfl rfl rfl (x_pickF (v := (Value.bool false)) rfl rfl hc26 rfl) ?_
              refine wpR_nil ?_
              exact ⟨false, ⟨rfl, e0, e1, e2, e3, e10, e11, e12, e13, trivial⟩, h, rfl⟩
          clear h
          rintro c28 ρ wj ⟨e51, e0, e1, e2, e3, e10, e11, e12, e13, -⟩ ⟨h, rfl⟩
          replace h := hk c28 h
          clear hk
          refine wpR_val (v := (Value.bool c28)) (w' := w5) rfl rfl rfl (x_move (v := (Value.bool c28)) rfl e51) ?_
          obtain ⟨J29, h, hk⟩ := h
          refine wpR_joinJ 12 (fun x ρ => ρ 64 = Value.bool x ∧ ρ 0 = (Sl.v p0) ∧ ρ 1 = (Value.string l16.1) ∧ ρ 2 = (Sl.v p2) ∧ ρ 3 = (Value.int .i64 p3) ∧ ρ 10 = (Value.int .i64 l16.2.1) ∧ ρ 11 = (Sl.v l16.2.2.1) ∧ ρ 12 = (Value.int .i64 l16.2.2.2) ∧ ρ 13 = (Value.pointer (some (Addr.mk b22 0 none))) ∧ True) (J29) ?_ ?_
          · clear hk
            rcases Bool.eq_false_or_eq_true (c28) with hc30 | hc30
            · replace h := h.1 hc30
              refine wpR_val (v := (Sl.v p0)) (w' := w5) (wantG rfl rfl rfl hc30) rfl rfl (x_move (v := (Sl.v p0)) rfl e0) ?_
              refine wpR_val (v := (Value.pointer (some ((Addr.mk b22 0 none).add 1)))) (w' := w5) (wantG rfl rfl rfl hc30) rfl rfl (x_fieldAddr rfl e13 FA_36_1) ?_
              obtain ⟨x31, q31, h⟩ := h
              refine wpR_val (v := (Value.string x31)) (w' := w5) (wantG rfl rfl rfl hc30) rfl rfl (x_load1 rfl rfl SH_9 q31) ?_
              refine wpR_val (v := (Sl.v p2)) (w' := w5) (wantG rfl rfl rfl hc30) rfl rfl (x_move (v := (Sl.v p2)) rfl e2) ?_
              refine wpR_val (v := (Value.int .i64 p3)) (w' := w5) (wantG rfl rfl rfl hc30) rfl rfl (x_move (v := (Value.int .i64 p3)) rfl e3) ?_
              refine wpR_val (v := (Sl.v p0)) (w' := w5) (wantG rfl rfl rfl hc30) rfl rfl (x_move (v := (Sl.v p0)) rfl e0) ?_
              refine wpR_val (v := (Value.int .i64 (p0.len : Int))) (w' := w5) (wantG rfl rfl rfl hc30) rfl rfl (x_lenS (s := p0) rfl rfl isSliceT_22) ?_
              refine wpR_enter (wantG rfl rfl rfl hc30) rfl rfl (x_call (vs := [(Sl.v p0), (Value.string x31), (Sl.v p2), (Value.int .i64 p3), (Value.int .i64 (p0.len : Int))]) rfl rfl (mapl_cons rfl (mapl_cons rfl (mapl_cons rfl (mapl_cons rfl (mapl_cons rfl mapl_nil))))) Try.func23 NN_23 NB_23) (Calls.mono h ?_)
              rintro _ w6 ⟨r32, rfl, h⟩
              refine ⟨_, rfl, ?_⟩
              refine wpR_val (v := (Value.int .i64 l16.2.1)) (w' := w6) (wantG rfl rfl rfl hc30) rfl rfl (x_move (v := (Value.int .i64 l16.2.1)) rfl e10) ?_
              refine wpR_val (v := (Value.int .i64 (IntKind.i64.wrap (l16.2.1 - 1)))) (w' := w6) (wantG rfl rfl rfl hc30) rfl rfl (x_sub rfl rfl rfl) ?_
              refine wpR_val (v := (Value.bool (decide (r32 = (IntKind.i64.wrap (l16.2.1 - 1)))))) (w' := w6) (wantG rfl rfl rfl hc30) rfl rfl (x_eql rfl rfl rfl) ?_
              refine wpR_val (v := (Value.bool (decide (r32 = (IntKind.i64.wrap (l16.2.1 - 1)))))) (w' := w6) rfl rfl rfl (x_pickT (v := (Value.bool (decide (r32 = (IntKind.i64.wrap (l16.2.1 - 1)))))) rfl rfl hc30 rfl) ?_
              refine wpR_nil ?_
              exact ⟨decide (r32 = (IntKind.i64.wrap (l16.2.1 - 1))), ⟨rfl, e0, e1, e2, e3, e10, e11, e12, e13, trivial⟩, h⟩
            · replace h := h.2 hc30
              refine wpR_pass (wantN rfl rfl rfl hc30) rfl rfl ?_
              refine wpR_pass (wantN rfl rfl rfl hc30) rfl rfl ?_
              refine wpR_pass (wantN rfl rfl rfl hc30) rfl rfl ?_
              refine wpR_pass (wantN rfl rfl rfl hc30) rfl rfl ?_
              refine wpR_pass (wantN rfl rfl rfl hc30) rfl rfl ?_
              refine wpR_pass (wantN rfl rfl rfl hc30) rfl rfl ?_
              refine wpR_pass (wantN rfl rfl rfl hc30) rfl rfl ?_
              refine wpR_pass (wantN rfl rfl rfl hc30) rfl rfl ?_
              refine wpR_pass (wantN rfl rfl rfl hc30) rfl rfl ?_
              refine wpR_pass (wantN rfl rfl rfl hc30) rfl rfl ?_
              refine wpR_pass (wantN rfl rfl rfl hc30) rfl rfl ?_
              refine wpR_val (v := (Value.bool false)) (w' := w5) rfl rfl rfl (x_pickF (v := (Value.bool false)) rfl rfl hc30 rfl) ?_
              refine wpR_nil ?_
              exact ⟨false, ⟨rfl, e0, e1, e2, e3, e10, e11, e12, e13, trivial⟩, h⟩
          clear h
          rintro c33 ρ w7 ⟨e64, e0, e1, e2, e3, e10, e11, e12, e13, -⟩ h
          replace h := hk c33 w7 h
          clear hk
          refine wpR_nil ?_
          refine wpC_cond (b := c33) e64 (fun hc34 => ?_) (fun hc34 => ?_)
          · replace h := h.1 hc34
            refine wpC_seq ?_
            refine wpC_region ?_
            refine wpR_val (v := (Sl.v l16.2.2.1)) (w' := w7) rfl rfl rfl (x_move (v := (Sl.v l16.2.2.1)) rfl e11) ?_
            refine wpR_val (v := (Value.int .i64 l16.2.2.2)) (w' := w7) rfl rfl rfl (x_move (v := (Value.int .i64 l16.2.2.2)) rfl e12) ?_
            obtain ⟨b35, hb35⟩ : ∃ u, u = w7.heap.size := ⟨_, rfl⟩
            obtain ⟨w8, hw35⟩ : ∃ u, u = w7.alloc (.cells #[(Value.int .i64 l16.2.2.2)] 3) := ⟨_, rfl⟩
            replace h := h b35 w8 hb35 hw35
            refine wpR_val (v := (Sl.v (⟨some ⟨b35, 0, none⟩, 1, 1⟩ : Sl))) (w' := w8) rfl rfl rfl ((x_buildSlice (qs := [(0, (Value.int .i64 l16.2.2.2))]) rfl (by rfl) (BS_24_1_0 l16.2.2.2)).trans (by rw [← hb35, ← hw35])) ?_
            obtain ⟨r36, w9, q36, h⟩ := h
            refine wpR_val (v := (Sl.v r36)) (w' := w9) rfl rfl rfl (x_append (s := l16.2.2.1) (u := (⟨some ⟨b35, 0, none⟩, 1, 1⟩ : Sl)) rfl rfl rfl rfl q36) ?_
            refine wpR_val (v := (Sl.v r36)) (w' := w9) rfl rfl rfl (x_assign (v := (Sl.v r36)) rfl rfl) ?_
            refine wpR_nil ?_
            refine wpC_seq ?_
            refine wpC_cut (fun ρ => ρ 0 = (Sl.v p0) ∧ ρ 2 = (Sl.v p2) ∧ ρ 3 = (Value.int .i64 p3) ∧ ρ 10 = (Value.int .i64 l16.2.1) ∧ ρ 11 = (Sl.v r36) ∧ ρ 13 = (Value.pointer (some (Addr.mk b22 0 none))) ∧ True) ⟨e0, e2, e3, e10, rfl, e13, trivial⟩ ?_
            rintro ρ ⟨e0, e2, e3, e10, e11, e13, -⟩
            refine wpC_region ?_
            refine wpR_val (v := (Value.pointer (some ((Addr.mk b22 0 none).add 1)))) (w' := w9) rfl rfl rfl (x_fieldAddr rfl e13 FA_36_1) ?_
            obtain ⟨x37, q37, h⟩ := h
            refine wpR_val (v := (Value.string x37)) (w' := w9) rfl rfl rfl (x_load1 rfl rfl SH_9 q37) ?_
            refine wpR_val (v := (Value.string x37)) (w' := w9) rfl rfl rfl (x_assign (v := (Value.string x37)) rfl rfl) ?_
            refine wpR_nil ?_
            refine wpC_seq ?_
            refine wpC_cut (fun ρ => ρ 0 = (Sl.v p0) ∧ ρ 1 = (Value.string x37) ∧ ρ 2 = (Sl.v p2) ∧ ρ 3 = (Value.int .i64 p3) ∧ ρ 10 = (Value.int .i64 l16.2.1) ∧ ρ 11 = (Sl.v r36) ∧ True) ⟨e0, rfl, e2, e3, e10, e11, trivial⟩ ?_
            rintro ρ ⟨e0, e1, e2, e3, e10, e11, -⟩
            refine wpC_region ?_
            refine wpR_val (v := (Value.int .i64 l16.2.1)) (w' := w9) rfl rfl rfl (x_move (v := (Value.int .i64 l16.2.1)) rfl e10) ?_
            refine wpR_val (v := (Value.int .i64 (IntKind.i64.wrap (l16.2.1 - 1)))) (w' := w9) rfl rfl rfl (x_sub rfl rfl rfl) ?_
            refine wpR_val (v := (Value.int .i64 (IntKind.i64.wrap (l16.2.1 - 1)))) (w' := w9) rfl rfl rfl (x_assign (v := (Value.int .i64 (IntKind.i64.wrap (l16.2.1 - 1)))) rfl rfl) ?_
            refine wpR_nil ?_
            refine wpC_exit ?_
            exact ⟨(x37, IntKind.i64.wrap (l16.2.1 - 1), r36), ⟨e1, rfl, e11, e0, e2, e3, trivial⟩, h⟩
          · replace h := h.2 hc34
            refine wpC_skip ?_
            refine wpC_region ?_
            refine wpR_val (v := (Value.int .i64 l16.2.2.2)) (w' := w7) rfl rfl rfl (x_move (v := (Value.int .i64 l16.2.2.2)) rfl e12) ?_
            refine wpR_val (v := (Value.int .i64 (IntKind.i64.wrap (l16.2.2.2 + 1)))) (w' := w7) rfl rfl rfl (x_add rfl rfl rfl) ?_
            refine wpR_val (v := (Value.int .i64 (IntKind.i64.wrap (l16.2.2.2 + 1)))) (w' := w7) rfl rfl rfl (x_assign (v := (Value.int .i64 (IntKind.i64.wrap (l16.2.2.2 + 1)))) rfl rfl) ?_
            refine wpR_nil ?_
            exact ⟨(l16.1, l16.2.1, l16.2.2.1, IntKind.i64.wrap (l16.2.2.2 + 1)), ⟨e1, e10, e11, rfl, e0, e2, e3, trivial⟩, h⟩
        · replace h := h.2 hc17
          refine wpC_exit ?_
          exact ⟨(l16.1, l16.2.1, l16.2.2.1), ⟨e1, e10, e11, e0, e2, e3, trivial⟩, h⟩
      · replace h := h.2 hc15
        refine wpC_exit ?_
        refine wpC_seq ?_
        refine wpC_cut (fun ρ => ρ 11 = (Sl.v l14.2.2) ∧ True) ⟨e11, trivial⟩ ?_
        rintro ρ ⟨e11, -⟩
        refine wpC_region ?_
        refine wpR_val (v := (Sl.v l14.2.2)) (w' := w2) rfl rfl rfl (x_move (v := (Sl.v l14.2.2)) rfl e11) ?_
        refine wpR_val (v := (Sl.v l14.2.2)) (w' := w2) rfl rfl rfl (x_assign (v := (Sl.v l14.2.2)) rfl rfl) ?_
        refine wpR_val (v := (Value.bool true)) (w' := w2) rfl rfl rfl (x_assign (v := (Value.bool true)) rfl rfl) ?_
        refine wpR_nil ?_
        refine wpC_ret ?_
        exact ⟨.inl rfl, fun a ha => ⟨_, results_rep2 rfl ha rfl rfl, (l14.2.2, true), rfl, h⟩⟩

/-- convert.Fits -/
def F16 (p0_0 : ByteArray) (p0_1 : Int) (p0_2 : Int) (p0_3 : Int) (p0_4 : Bool) (p0_5 : Int) (p0_6 : Bool) (p0_7 : Bool) (p0_8 : Int) (p0_9 : Int) (p0_10 : Int) (p0_11 : Int) (p0_12 : Sl) (p0_13 : Int) (p0_14 : Int) (p0_15 : Int) (p0_16 : Int) (p0_17 : Bool) (p0_18 : Int) (p0_19 : Int) (p0_20 : Int) (p0_21 : Int) (p1 : ByteArray) (p2 : Int) (w0 : World) (K : Bool → World → Prop) : Prop :=
  nw 39 (A38 p0_0 p0_1 p0_2 p0_3 p0_4 p0_5 p0_6 p0_7 p0_8 p0_9 p0_10 p0_11 p0_12 p0_13 p0_14 p0_15 p0_16 p0_17 p0_18 p0_19 p0_20 p0_21) w0 fun b9 w1 =>
  ld (Value.int .i64) ((Addr.mk b9 0 none).add 10) w1 fun x10 =>
  jn (fun J11 => cnd (decide (0 < x10))
    (
    ld Sl.v ((Addr.mk b9 0 none).add 12) w1 fun x13 =>
    callC Try.prog 21 #[(Sl.v x13), (Value.string p1)] (fun (r : Bool) => (Value.bool r)) w1 fun r14 w2 =>
    J11 r14 w2
    )
    (
    J11 false w1
    ))
  fun c15 w3 =>
  jp (fun J18 => cnd (c15 && (decide (0 ≤ p2)))
    (
    ld (Value.int .i64) ((Addr.mk b9 0 none).add 11) w3 fun x20 =>
    J18 (decide (p2 ≤ x20))
    )
    (
    J18 false
    ))
  fun c21 =>
  K c21 w3
set_option maxRecDepth 100000 in
theorem D16 (p0_0 : ByteArray) (p0_1 : Int) (p0_2 : Int) (p0_3 : Int) (p0_4 : Bool) (p0_5 : Int) (p0_6 : Bool) (p0_7 : Bool) (p0_8 : Int) (p0_9 : Int) (p0_10 : Int) (p0_11 : Int) (p0_12 : Sl) (p0_13 : Int) (p0_14 : Int) (p0_15 : Int) (p0_16 : Int) (p0_17 : Bool) (p0_18 : Int) (p0_19 : Int) (p0_20 : Int) (p0_21 : Int) (p1 : ByteArray) (p2 : Int) (w0 : World) (K : Bool → World → Prop) (h : F16 p0_0 p0_1 p0_2 p0_3 p0_4 p0_5 p0_6 p0_7 p0_8 p0_9 p0_10 p0_11 p0_12 p0_13 p0_14 p0_15 p0_16 p0_17 p0_18 p0_19 p0_20 p0_21 p1 p2 w0 K) : callC Try.prog 16 #[(V38 p0_0 p0_1 p0_2 p0_3 p0_4 p0_5 p0_6 p0_7 p0_8 p0_9 p0_10 p0_11 p0_12 p0_13 p0_14 p0_15 p0_16 p0_17 p0_18 p0_19 p0_20 p0_21), (Value.string p1), (Value.int .i64 p2)] (fun (r : Bool) => (Value.bool r)) w0 K := by
  unfold F16 at h
  refine calls_of_wpC Try.func16 rfl 26 rfl (by simp) ?_
  intro ρ hρ
  have e0 : ρ 0 = (V38 p0_0 p0_1 p0_2 p0_3 p0_4 p0_5 p0_6 p0_7 p0_8 p0_9 p0_10 p0_11 p0_12 p0_13 p0_14 p0_15 p0_16 p0_17 p0_18 p0_19 p0_20 p0_21) := hρ 0
  have e1 : ρ 1 = (Value.string p1) := hρ 1
  have e2 : ρ 2 = (Value.int .i64 p2) := hρ 2
  clear hρ
  refine wpC_seq ?_
  refine wpC_region ?_
  obtain ⟨b9, hb9⟩ : ∃ u, u = w0.heap.size := ⟨_, rfl⟩
  obtain ⟨w1, hw9⟩ : ∃ u, u = w0.alloc (.cells (A38 p0_0 p0_1 p0_2 p0_3 p0_4 p0_5 p0_6 p0_7 p0_8 p0_9 p0_10 p0_11 p0_12 p0_13 p0_14 p0_15 p0_16 p0_17 p0_18 p0_19 p0_20 p0_21) 39) := ⟨_, rfl⟩
  replace h := h b9 w1 hb9 hw9
  refine wpR_val (v := (Value.pointer (some (Addr.mk b9 0 none)))) (w' := w1) rfl rfl rfl ((x_box (v := (V38 p0_0 p0_1 p0_2 p0_3 p0_4 p0_5 p0_6 p0_7 p0_8 p0_9 p0_10 p0_11 p0_12 p0_13 p0_14 p0_15 p0_16 p0_17 p0_18 p0_19 p0_20 p0_21)) rfl e0).trans (by rw [hb9, hw9]; rfl)) ?_
  refine wpR_val (v := (Value.bool false)) (w' := w1) rfl rfl rfl (x_assign (v := (Value.bool false)) rfl rfl) ?_
  refine wpR_nil ?_
  refine wpC_seq ?_
  refine wpC_cut (fun ρ => ρ 1 = (Value.string p1) ∧ ρ 2 = (Value.int .i64 p2) ∧ ρ 3 = (Value.pointer (some (Addr.mk b9 0 none))) ∧ True) ⟨e1, e2, rfl, trivial⟩ ?_
  rintro ρ ⟨e1, e2, e3, -⟩
  refine wpC_region ?_
  refine wpR_val (v := (Value.pointer (some ((Addr.mk b9 0 none).add 10)))) (w' := w1) rfl rfl rfl (x_fieldAddr rfl e3 FA_39_10) ?_
  obtain ⟨x10, q10, h⟩ := h
  refine wpR_val (v := (Value.int .i64 x10)) (w' := w1) rfl rfl rfl (x_load1 rfl rfl SH_3 q10) ?_
  refine wpR_val (v := (Value.bool (decide (0 < x10)))) (w' := w1) rfl rfl rfl (x_gtr rfl rfl rfl) ?_
  refine wpR_val (v := (Value.bool (decide (0 < x10)))) (w' := w1) rfl rfl rfl (x_move (v := (Value.bool (decide (0 < x10)))) rfl rfl) ?_
  obtain ⟨J11, h, hk⟩ := h
  refine wpR_joinJ 5 (fun x ρ => ρ 15 = Value.bool x ∧ ρ 2 = (Value.int .i64 p2) ∧ ρ 3 = (Value.pointer (some (Addr.mk b9 0 none))) ∧ True) (J11) ?_ ?_
  · clear hk
    rcases Bool.eq_false_or_eq_true (decide (0 < x10)) with hc12 | hc12
    · replace h := h.1 hc12
      refine wpR_val (v := (Value.pointer (some ((Addr.mk b9 0 none).add 12)))) (w' := w1) (wantG rfl rfl rfl hc12) rfl rfl (x_fieldAddr rfl e3 FA_39_12) ?_
      obtain ⟨x13, q13, h⟩ := h
      refine wpR_val (v := (Sl.v x13)) (w' := w1) (wantG rfl rfl rfl hc12) rfl rfl (x_load1 rfl rfl SH_23 q13) ?_
      refine wpR_val (v := (Value.string p1)) (w' := w1) (wantG rfl rfl rfl hc12) rfl rfl (x_move (v := (Value.string p1)) rfl e1) ?_
      refine wpR_enter (wantG rfl rfl rfl hc12) rfl rfl (x_call (vs := [(Sl.v x13), (Value.string p1)]) rfl rfl (mapl_cons rfl (mapl_cons rfl mapl_nil)) Try.func21 NN_21 NB_21) (Calls.mono h ?_)
      rintro _ w2 ⟨r14, rfl, h⟩
      refine ⟨_, rfl, ?_⟩
      refine wpR_val (v := (Value.bool r14)) (w' := w2) rfl rfl rfl (x_pickT (v := (Value.bool r14)) rfl rfl hc12 rfl) ?_
      refine wpR_nil ?_
      exact ⟨r14, ⟨rfl, e2, e3, trivial⟩, h⟩
    · replace h := h.2 hc12
      refine wpR_pass (wantN rfl rfl rfl hc12) rfl rfl ?_
      refine wpR_pass (wantN rfl rfl rfl hc12) rfl rfl ?_
      refine wpR_pass (wantN rfl rfl rfl hc12) rfl rfl ?_
      refine wpR_pass (wantN rfl rfl rfl hc12) rfl rfl ?_
      refine wpR_val (v := (Value.bool false)) (w' := w1) rfl rfl rfl (x_pickF (v := (Value.bool false)) rfl rfl hc12 rfl) ?_
      refine wpR_nil ?_
      exact ⟨false, ⟨rfl, e2, e3, trivial⟩, h⟩
  clear h
  rintro c15 ρ w3 ⟨e15, e2, e3, -⟩ h
  replace h := hk c15 w3 h
  clear hk
  refine wpR_val (v := (Value.bool c15)) (w' := w3) rfl rfl rfl (x_move (v := (Value.bool c15)) rfl e15) ?_
  refine wpR_joinJ 3 (fun (_ : Unit) ρ => ρ 19 = Value.bool (c15 && (decide (0 ≤ p2))) ∧ ρ 2 = (Value.int .i64 p2) ∧ ρ 3 = (Value.pointer (some (Addr.mk b9 0 none))) ∧ True) (fun _ w => w3 = w) ?_ ?_
  · clear h
    rcases Bool.eq_false_or_eq_true (c15) with hc17 | hc17
    · skip
      refine wpR_val (v := (Value.int .i64 p2)) (w' := w3) (wantG rfl rfl rfl hc17) rfl rfl (x_move (v := (Value.int .i64 p2)) rfl e2) ?_
      refine wpR_val (v := (Value.bool (decide (0 ≤ p2)))) (w' := w3) (wantG rfl rfl rfl hc17) rfl rfl (x_geq rfl rfl rfl) ?_
      refine wpR_val (v := (Value.bool (decide (0 ≤ p2)))) (w' := w3) rfl rfl rfl (x_pickT (v := (Value.bool (decide (0 ≤ p2)))) rfl rfl hc17 rfl) ?_
      refine wpR_nil ?_
      exact ⟨(), ⟨(by rw [hc17]; rfl), e2, e3, trivial⟩, rfl⟩
    · skip
      refine wpR_pass (wantN rfl rfl rfl hc17) rfl rfl ?_
      refine wpR_pass (wantN rfl rfl rfl hc17) rfl rfl ?_
      refine wpR_val (v := (Value.bool false)) (w' := w3) rfl rfl rfl (x_pickF (v := (Value.bool false)) rfl rfl hc17 rfl) ?_
      refine wpR_nil ?_
      exact ⟨(), ⟨(by rw [hc17]; rfl), e2, e3, trivial⟩, rfl⟩
  rintro _ ρ wj ⟨e19, e2, e3, -⟩ rfl
  refine wpR_val (v := (Value.bool (c15 && (decide (0 ≤ p2))))) (w' := w3) rfl rfl rfl (x_move (v := (Value.bool (c15 && (decide (0 ≤ p2))))) rfl e19) ?_
  obtain ⟨J18, h, hk⟩ := h
  refine wpR_joinJ 5 (fun x ρ => ρ 25 = Value.bool x ∧ True) (fun x w => J18 x ∧ w3 = w) ?_ ?_
  · clear hk
    rcases Bool.eq_false_or_eq_true (c15 && (decide (0 ≤ p2))) with hc19 | hc19
    · replace h := h.1 hc19
      refine wpR_val (v := (Value.int .i64 p2)) (w' := w3) (wantG rfl rfl rfl hc19) rfl rfl (x_move (v := (Value.int .i64 p2)) rfl e2) ?_
      refine wpR_val (v := (Value.pointer (some ((Addr.mk b9 0 none).add 11)))) (w' := w3) (wantG rfl rfl rfl hc19) rfl rfl (x_fieldAddr rfl e3 FA_39_11) ?_
      obtain ⟨x20, q20, h⟩ := h
      refine wpR_val (v := (Value.int .i64 x20)) (w' := w3) (wantG rfl rfl rfl hc19) rfl rfl (x_load1 rfl rfl SH_3 q20) ?_
      refine wpR_val (v := (Value.bool (decide (p2 ≤ x20)))) (w' := w3) (wantG rfl rfl rfl hc19) rfl rfl (x_leq rfl rfl rfl) ?_
      refine wpR_val (v := (Value.bool (decide (p2 ≤ x20)))) (w' := w3) rfl rfl rfl (x_pickT (v := (Value.bool (decide (p2 ≤ x20)))) rfl rfl hc19 rfl) ?_
      refine wpR_nil ?_
      exact ⟨decide (p2 ≤ x20), ⟨rfl, trivial⟩, h, rfl⟩
    · replace h := h.2 hc19
      refine wpR_pass (wantN rfl rfl rfl hc19) rfl rfl ?_
      refine wpR_pass (wantN rfl rfl rfl hc19) rfl rfl ?_
      refine wpR_pass (wantN rfl rfl rfl hc19) rfl rfl ?_
      refine wpR_pass (wantN rfl rfl rfl hc19) rfl rfl ?_
      refine wpR_val (v := (Value.bool false)) (w' := w3) rfl rfl rfl (x_pickF (v := (Value.bool false)) rfl rfl hc19 rfl) ?_
      refine wpR_nil ?_
      exact ⟨false, ⟨rfl, trivial⟩, h, rfl⟩
  clear h
  rintro c21 ρ wj ⟨e25, -⟩ ⟨h, rfl⟩
  replace h := hk c21 h
  clear hk
  refine wpR_val (v := (Value.bool c21)) (w' := w3) rfl rfl rfl (x_assign (v := (Value.bool c21)) rfl e25) ?_
  refine wpR_nil ?_
  refine wpC_ret ?_
  exact ⟨.inl rfl, fun a ha => ⟨_, results_rep1 rfl ha rfl, c21, rfl, h⟩⟩

/-- linguaref39.Fits -/
def F17 (p0_0 : ByteArray) (p0_1 : Int) (p0_2 : Int) (p0_3 : Int) (p0_4 : Bool) (p0_5 : Int) (p0_6 : Bool) (p0_7 : Bool) (p0_8 : Int) (p0_9 : Int) (p0_10 : Int) (p0_11 : Int) (p0_12 : Sl) (p0_13 : Int) (p0_14 : Int) (p0_15 : Int) (p0_16 : Int) (p0_17 : Bool) (p0_18 : Int) (p0_19 : Int) (p0_20 : Int) (p0_21 : Int) (p1 : ByteArray) (p2 : Int) (w0 : World) (K : Bool → World → Prop) : Prop :=
  nw 39 (A38 p0_0 p0_1 p0_2 p0_3 p0_4 p0_5 p0_6 p0_7 p0_8 p0_9 p0_10 p0_11 p0_12 p0_13 p0_14 p0_15 p0_16 p0_17 p0_18 p0_19 p0_20 p0_21) w0 fun b9 w1 =>
  ld (Value.int .i64) ((Addr.mk b9 0 none).add 10) w1 fun x10 =>
  jn (fun J11 => cnd (decide (1 ≤ x10))
    (
    ld Sl.v ((Addr.mk b9 0 none).add 12) w1 fun x13 =>
    callC Try.prog 12 #[(Sl.v x13), (Value.string p1)] (fun (r : Bool) => (Value.bool r)) w1 fun r14 w2 =>
    J11 r14 w2
    )
    (
    J11 false w1
    ))
  fun c15 w3 =>
  jp (fun J18 => cnd (c15 && (decide (0 ≤ p2)))
    (
    ld (Value.int .i64) ((Addr.mk b9 0 none).add 11) w3 fun x20 =>
    J18 (decide (p2 ≤ x20))
    )
    (
    J18 false
    ))
  fun c21 =>
  K c21 w3
set_option maxRecDepth 100000 in
theorem D17 (p0_0 : ByteArray) (p0_1 : Int) (p0_2 : Int) (p0_3 : Int) (p0_4 : Bool) (p0_5 : Int) (p0_6 : Bool) (p0_7 : Bool) (p0_8 : Int) (p0_9 : Int) (p0_10 : Int) (p0_11 : Int) (p0_12 : Sl) (p0_13 : Int) (p0_14 : Int) (p0_15 : Int) (p0_16 : Int) (p0_17 : Bool) (p0_18 : Int) (p0_19 : Int) (p0_20 : Int) (p0_21 : Int) (p1 : ByteArray) (p2 : Int) (w0 : World) (K : Bool → World → Prop) (h : F17 p0_0 p0_1 p0_2 p0_3 p0_4 p0_5 p0_6 p0_7 p0_8 p0_9 p0_10 p0_11 p0_12 p0_13 p0_14 p0_15 p0_16 p0_17 p0_18 p0_19 p0_20 p0_21 p1 p2 w0 K) : callC Try.prog 17 #[(V38 p0_0 p0_1 p0_2 p0_3 p0_4 p0_5 p0_6 p0_7 p0_8 p0_9 p0_10 p0_11 p0_12 p0_13 p0_14 p0_15 p0_16 p0_17 p0_18 p0_19 p0_20 p0_21), (Value.string p1), (Value.int .i64 p2)] (fun (r : Bool) => (Value.bool r)) w0 K := by
  unfold F17 at h
  refine calls_of_wpC Try.func17 rfl 26 rfl (by simp) ?_
  intro ρ hρ
  have e0 : ρ 0 = (V38 p0_0 p0_1 p0_2 p0_3 p0_4 p0_5 p0_6 p0_7 p0_8 p0_9 p0_10 p0_11 p0_12 p0_13 p0_14 p0_15 p0_16 p0_17 p0_18 p0_19 p0_20 p0_21) := hρ 0
  have e1 : ρ 1 = (Value.string p1) := hρ 1
  have e2 : ρ 2 = (Value.int .i64 p2) := hρ 2
  clear hρ
  refine wpC_seq ?_
  refine wpC_region ?_
  obtain ⟨b9, hb9⟩ : ∃ u, u = w0.heap.size := ⟨_, rfl⟩
  obtain ⟨w1, hw9⟩ : ∃ u, u = w0.alloc (.cells (A38 p0_0 p0_1 p0_2 p0_3 p0_4 p0_5 p0_6 p0_7 p0_8 p0_9 p0_10 p0_11 p0_12 p0_13 p0_14 p0_15 p0_16 p0_17 p0_18 p0_19 p0_20 p0_21) 39) := ⟨_, rfl⟩
  replace h := h b9 w1 hb9 hw9
  refine wpR_val (v := (Value.pointer (some (Addr.mk b9 0 none)))) (w' := w1) rfl rfl rfl ((x_box (v := (V38 p0_0 p0_1 p0_2 p0_3 p0_4 p0_5 p0_6 p0_7 p0_8 p0_9 p0_10 p0_11 p0_12 p0_13 p0_14 p0_15 p0_16 p0_17 p0_18 p0_19 p0_20 p0_21)) rfl e0).trans (by rw [hb9, hw9]; rfl)) ?_
  refine wpR_val (v := (Value.bool false)) (w' := w1) rfl rfl rfl (x_assign (v := (Value.bool false)) rfl rfl) ?_
  refine wpR_nil ?_
  refine wpC_seq ?_
  refine wpC_cut (fun ρ => ρ 1 = (Value.string p1) ∧ ρ 2 = (Value.int .i64 p2) ∧ ρ 3 = (Value.pointer (some (Addr.mk b9 0 none))) ∧ True) ⟨e1, e2, rfl, trivial⟩ ?_
  rintro ρ ⟨e1, e2, e3, -⟩
  refine wpC_region ?_
  refine wpR_val (v := (Value.pointer (some ((Addr.mk b9 0 none).add 10)))) (w' := w1) rfl rfl rfl (x_fieldAddr rfl e3 FA_39_10) ?_
  obtain ⟨x10, q10, h⟩ := h
  refine wpR_val (v := (Value.int .i64 x10)) (w' := w1) rfl rfl rfl (x_load1 rfl rfl SH_3 q10) ?_
  refine wpR_val (v := (Value.bool (decide (1 ≤ x10)))) (w' := w1) rfl rfl rfl (x_geq rfl rfl rfl) ?_
  refine wpR_val (v := (Value.bool (decide (1 ≤ x10)))) (w' := w1) rfl rfl rfl (x_move (v := (Value.bool (decide (1 ≤ x10)))) rfl rfl) ?_
  obtain ⟨J11, h, hk⟩ := h
  refine wpR_joinJ 5 (fun x ρ => ρ 15 = Value.bool x ∧ ρ 2 = (Value.int .i64 p2) ∧ ρ 3 = (Value.pointer (some (Addr.mk b9 0 none))) ∧ True) (J11) ?_ ?_
  · clear hk
    rcases Bool.eq_false_or_eq_true (decide (1 ≤ x10)) with hc12 | hc12
    · replace h := h.1 hc12
      refine wpR_val (v := (Value.pointer (some ((Addr.mk b9 0 none).add 12)))) (w' := w1) (wantG rfl rfl rfl hc12) rfl rfl (x_fieldAddr rfl e3 FA_39_12) ?_
      obtain ⟨x13, q13, h⟩ := h
      refine wpR_val (v := (Sl.v x13)) (w' := w1) (wantG rfl rfl rfl hc12) rfl rfl (x_load1 rfl rfl SH_23 q13) ?_
      refine wpR_val (v := (Value.string p1)) (w' := w1) (wantG rfl rfl rfl hc12) rfl rfl (x_move (v := (Value.string p1)) rfl e1) ?_
      refine wpR_enter (wantG rfl rfl rfl hc12) rfl rfl (x_call (vs := [(Sl.v x13), (Value.string p1)]) rfl rfl (mapl_cons rfl (mapl_cons rfl mapl_nil)) Try.func12 NN_12 NB_12) (Calls.mono h ?_)
      rintro _ w2 ⟨r14, rfl, h⟩
      refine ⟨_, rfl, ?_⟩
      refine wpR_val (v := (Value.bool r14)) (w' := w2) rfl rfl rfl (x_pickT (v := (Value.bool r14)) rfl rfl hc12 rfl) ?_
      refine wpR_nil ?_
      exact ⟨r14, ⟨rfl, e2, e3, trivial⟩, h⟩
    · replace h := h.2 hc12
      refine wpR_pass (wantN rfl rfl rfl hc12) rfl rfl ?_
      refine wpR_pass (wantN rfl rfl rfl hc12) rfl rfl ?_
      refine wpR_pass (wantN rfl rfl rfl hc12) rfl rfl ?_
      refine wpR_pass (wantN rfl rfl rfl hc12) rfl rfl ?_
      refine wpR_val (v := (Value.bool false)) (w' := w1) rfl rfl rfl (x_pickF (v := (Value.bool false)) rfl rfl hc12 rfl) ?_
      refine wpR_nil ?_
      exact ⟨false, ⟨rfl, e2, e3, trivial⟩, h⟩
  clear h
  rintro c15 ρ w3 ⟨e15, e2, e3, -⟩ h
  replace h := hk c15 w3 h
  clear hk
  refine wpR_val (v := (Value.bool c15)) (w' := w3) rfl rfl rfl (x_move (v := (Value.bool c15)) rfl e15) ?_
  refine wpR_joinJ 3 (fun (_ : Unit) ρ => ρ 19 = Value.bool (c15 && (decide (0 ≤ p2))) ∧ ρ 2 = (Value.int .i64 p2) ∧ ρ 3 = (Value.pointer (some (Addr.mk b9 0 none))) ∧ True) (fun _ w => w3 = w) ?_ ?_
  · clear h
    rcases Bool.eq_false_or_eq_true (c15) with hc17 | hc17
    · skip
      refine wpR_val (v := (Value.int .i64 p2)) (w' := w3) (wantG rfl rfl rfl hc17) rfl rfl (x_move (v := (Value.int .i64 p2)) rfl e2) ?_
      refine wpR_val (v := (Value.bool (decide (0 ≤ p2)))) (w' := w3) (wantG rfl rfl rfl hc17) rfl rfl (x_geq rfl rfl rfl) ?_
      refine wpR_val (v := (Value.bool (decide (0 ≤ p2)))) (w' := w3) rfl rfl rfl (x_pickT (v := (Value.bool (decide (0 ≤ p2)))) rfl rfl hc17 rfl) ?_
      refine wpR_nil ?_
      exact ⟨(), ⟨(by rw [hc17]; rfl), e2, e3, trivial⟩, rfl⟩
    · skip
      refine wpR_pass (wantN rfl rfl rfl hc17) rfl rfl ?_
      refine wpR_pass (wantN rfl rfl rfl hc17) rfl rfl ?_
      refine wpR_val (v := (Value.bool false)) (w' := w3) rfl rfl rfl (x_pickF (v := (Value.bool false)) rfl rfl hc17 rfl) ?_
      refine wpR_nil ?_
      exact ⟨(), ⟨(by rw [hc17]; rfl), e2, e3, trivial⟩, rfl⟩
  rintro _ ρ wj ⟨e19, e2, e3, -⟩ rfl
  refine wpR_val (v := (Value.bool (c15 && (decide (0 ≤ p2))))) (w' := w3) rfl rfl rfl (x_move (v := (Value.bool (c15 && (decide (0 ≤ p2))))) rfl e19) ?_
  obtain ⟨J18, h, hk⟩ := h
  refine wpR_joinJ 5 (fun x ρ => ρ 25 = Value.bool x ∧ True) (fun x w => J18 x ∧ w3 = w) ?_ ?_
  · clear hk
    rcases Bool.eq_false_or_eq_true (c15 && (decide (0 ≤ p2))) with hc19 | hc19
    · replace h := h.1 hc19
      refine wpR_val (v := (Value.int .i64 p2)) (w' := w3) (wantG rfl rfl rfl hc19) rfl rfl (x_move (v := (Value.int .i64 p2)) rfl e2) ?_
      refine wpR_val (v := (Value.pointer (some ((Addr.mk b9 0 none).add 11)))) (w' := w3) (wantG rfl rfl rfl hc19) rfl rfl (x_fieldAddr rfl e3 FA_39_11) ?_
      obtain ⟨x20, q20, h⟩ := h
      refine wpR_val (v := (Value.int .i64 x20)) (w' := w3) (wantG rfl rfl rfl hc19) rfl rfl (x_load1 rfl rfl SH_3 q20) ?_
      refine wpR_val (v := (Value.bool (decide (p2 ≤ x20)))) (w' := w3) (wantG rfl rfl rfl hc19) rfl rfl (x_leq rfl rfl rfl) ?_
      refine wpR_val (v := (Value.bool (decide (p2 ≤ x20)))) (w' := w3) rfl rfl rfl (x_pickT (v := (Value.bool (decide (p2 ≤ x20)))) rfl rfl hc19 rfl) ?_
      refine wpR_nil ?_
      exact ⟨decide (p2 ≤ x20), ⟨rfl, trivial⟩, h, rfl⟩
    · replace h := h.2 hc19
      refine wpR_pass (wantN rfl rfl rfl hc19) rfl rfl ?_
      refine wpR_pass (wantN rfl rfl rfl hc19) rfl rfl ?_
      refine wpR_pass (wantN rfl rfl rfl hc19) rfl rfl ?_
      refine wpR_pass (wantN rfl rfl rfl hc19) rfl rfl ?_
      refine wpR_val (v := (Value.bool false)) (w' := w3) rfl rfl rfl (x_pickF (v := (Value.bool false)) rfl rfl hc19 rfl) ?_
      refine wpR_nil ?_
      exact ⟨false, ⟨rfl, trivial⟩, h, rfl⟩
  clear h
  rintro c21 ρ wj ⟨e25, -⟩ ⟨h, rfl⟩
  replace h := hk c21 h
  clear hk
  refine wpR_val (v := (Value.bool c21)) (w' := w3) rfl rfl rfl (x_assign (v := (Value.bool c21)) rfl e25) ?_
  refine wpR_nil ?_
  refine wpC_ret ?_
  exact ⟨.inl rfl, fun a ha => ⟨_, results_rep1 rfl ha rfl, c21, rfl, h⟩⟩

/-- profile.Check -/
def F18 (p0_0 : ByteArray) (p0_1 : Int) (p0_2 : Int) (p0_3 : Int) (p0_4 : Bool) (p0_5 : Int) (p0_6 : Bool) (p0_7 : Bool) (p0_8 : Int) (p0_9 : Int) (p0_10 : Int) (p0_11 : Int) (p0_12 : Sl) (p0_13 : Int) (p0_14 : Int) (p0_15 : Int) (p0_16 : Int) (p0_17 : Bool) (p0_18 : Int) (p0_19 : Int) (p0_20 : Int) (p0_21 : Int) (w0 : World) (K : Int → World → Prop) : Prop :=
  nw 39 (A38 p0_0 p0_1 p0_2 p0_3 p0_4 p0_5 p0_6 p0_7 p0_8 p0_9 p0_10 p0_11 p0_12 p0_13 p0_14 p0_15 p0_16 p0_17 p0_18 p0_19 p0_20 p0_21) w0 fun b9 w1 =>
  L38 (Addr.mk b9 0 none) w1 fun x10 x11 x12 x13 x14 x15 x16 x17 x18 x19 x20 x21 x22 x23 x24 x25 x26 x27 x28 x29 x30 x31 =>
  callC Try.prog 24 #[(V38 x10 x11 x12 x13 x14 x15 x16 x17 x18 x19 x20 x21 x22 x23 x24 x25 x26 x27 x28 x29 x30 x31)] (fun (r : Bool) => (Value.bool r)) w1 fun r32 w2 =>
  cnd (!r32)
    (
    K 1 w2
    )
    (
    ld (Value.int .i64) ((Addr.mk b9 0 none).add 8) w2 fun x34 =>
    callC Try.prog 25 #[(Value.int .i64 x34), (Value.int .i64 40), (Value.int .i64 4000)] (fun (r : Bool) => (Value.bool r)) w2 fun r35 w3 =>
    jn (fun J36 => cnd (!r35)
      (
      J36 true w3
      )
      (
      ld (Value.int .i64) ((Addr.mk b9 0 none).add 9) w3 fun x38 =>
      callC Try.prog 25 #[(Value.int .i64 x38), (Value.int .i64 1), (Value.int .i64 20)] (fun (r : Bool) => (Value.bool r)) w3 fun r39 w4 =>
      J36 (!r39) w4
      ))
    fun c40 w5 =>
    jp (fun J41 => cnd (c40)
      (
      J41 true
      )
      (
      ld (Value.int .i64) ((Addr.mk b9 0 none).add 10) w5 fun x43 =>
      J41 (decide (4 < x43))
      ))
    fun c44 =>
    jp (fun J45 => cnd (c44)
      (
      J45 true
      )
      (
      ld (Value.int .i64) ((Addr.mk b9 0 none).add 11) w5 fun x47 =>
      J45 (decide (65536 < x47))
      ))
    fun c48 =>
    jp (fun J49 => cnd (c48)
      (
      J49 true
      )
      (
      ld (Value.int .i64) ((Addr.mk b9 0 none).add 18) w5 fun x51 =>
      J49 (decide (x51 < 1))
      ))
    fun c52 =>
    jp (fun J53 => cnd (c52)
      (
      J53 true
      )
      (
      ld (Value.int .i64) ((Addr.mk b9 0 none).add 19) w5 fun x55 =>
      jp (fun J56 => cnd (!decide (x55 = 0))
        (
        ld (Value.int .i64) ((Addr.mk b9 0 none).add 19) w5 fun x58 =>
        ld (Value.int .i64) ((Addr.mk b9 0 none).add 20) w5 fun x59 =>
        J56 (decide (x59 ≤ x58))
        )
        (
        J56 false
        ))
      fun c60 =>
      J53 c60
      ))
    fun c61 =>
    jn (fun J62 => cnd (c61)
      (
      J62 true w5
      )
      (
      L38 (Addr.mk b9 0 none) w5 fun x64 x65 x66 x67 x68 x69 x70 x71 x72 x73 x74 x75 x76 x77 x78 x79 x80 x81 x82 x83 x84 x85 =>
      callC Try.prog 26 #[(V38 x64 x65 x66 x67 x68 x69 x70 x71 x72 x73 x74 x75 x76 x77 x78 x79 x80 x81 x82 x83 x84 x85)] (fun (r : Bool) => (Value.bool r)) w5 fun r86 w6 =>
      J62 (!r86) w6
      ))
    fun c87 w7 =>
    cnd (c87)
      (
      K 3 w7
      )
      (
      ld Sl.v ((Addr.mk b9 0 none).add 12) w7 fun x89 =>
      lp (fun (next90 : Int → World → Prop) l90 w8 =>
        cnd (decide (l90 < (x89.len : Int)))
          (
          ix x89 l90 1 fun p92 =>
          ld Value.string p92 w8 fun x93 =>
          ld Sl.v ((Addr.mk b9 0 none).add 12) w8 fun x94 =>
          rn Try.prog (Instr.sliceAt 23 (Sl.v x94) none (some (Value.int .i64 l90)) none) (fun (r : Sl) => (Sl.v r)) w8 fun r95 w9 =>
          callC Try.prog 21 #[(Sl.v r95), (Value.string x93)] (fun (r : Bool) => (Value.bool r)) w9 fun r96 w10 =>
          cnd (r96)
            (
            K 5 w10
            )
            (
            next90 (IntKind.i64.wrap (l90 + 1)) w10
            )
          )
          (
          K 0 w8
          )
      ) 0 w7
      )
    )
set_option maxRecDepth 100000 in
theorem D18 (p0_0 : ByteArray) (p0_1 : Int) (p0_2 : Int) (p0_3 : Int) (p0_4 : Bool) (p0_5 : Int) (p0_6 : Bool) (p0_7 : Bool) (p0_8 : Int) (p0_9 : Int) (p0_10 : Int) (p0_11 : Int) (p0_12 : Sl) (p0_13 : Int) (p0_14 : Int) (p0_15 : Int) (p0_16 : Int) (p0_17 : Bool) (p0_18 : Int) (p0_19 : Int) (p0_20 : Int) (p0_21 : Int) (w0 : World) (K : Int → World → Prop) (h : F18 p0_0 p0_1 p0_2 p0_3 p0_4 p0_5 p0_6 p0_7 p0_8 p0_9 p0_10 p0_11 p0_12 p0_13 p0_14 p0_15 p0_16 p0_17 p0_18 p0_19 p0_20 p0_21 w0 K) : callC Try.prog 18 #[(V38 p0_0 p0_1 p0_2 p0_3 p0_4 p0_5 p0_6 p0_7 p0_8 p0_9 p0_10 p0_11 p0_12 p0_13 p0_14 p0_15 p0_16 p0_17 p0_18 p0_19 p0_20 p0_21)] (fun (r : Int) => (Value.int .i64 r)) w0 K := by
  unfold F18 at h
  refine calls_of_wpC Try.func18 rfl 65 rfl (by simp) ?_
  intro ρ hρ
  have e0 : ρ 0 = (V38 p0_0 p0_1 p0_2 p0_3 p0_4 p0_5 p0_6 p0_7 p0_8 p0_9 p0_10 p0_11 p0_12 p0_13 p0_14 p0_15 p0_16 p0_17 p0_18 p0_19 p0_20 p0_21) := hρ 0
  clear hρ
  refine wpC_seq ?_
  refine wpC_region ?_
  obtain ⟨b9, hb9⟩ : ∃ u, u = w0.heap.size := ⟨_, rfl⟩
  obtain ⟨w1, hw9⟩ : ∃ u, u = w0.alloc (.cells (A38 p0_0 p0_1 p0_2 p0_3 p0_4 p0_5 p0_6 p0_7 p0_8 p0_9 p0_10 p0_11 p0_12 p0_13 p0_14 p0_15 p0_16 p0_17 p0_18 p0_19 p0_20 p0_21) 39) := ⟨_, rfl⟩
  replace h := h b9 w1 hb9 hw9
  refine wpR_val (v := (Value.pointer (some (Addr.mk b9 0 none)))) (w' := w1) rfl rfl rfl ((x_box (v := (V38 p0_0 p0_1 p0_2 p0_3 p0_4 p0_5 p0_6 p0_7 p0_8 p0_9 p0_10 p0_11 p0_12 p0_13 p0_14 p0_15 p0_16 p0_17 p0_18 p0_19 p0_20 p0_21)) rfl e0).trans (by rw [hb9, hw9]; rfl)) ?_
  refine wpR_val (v := (Value.int .i64 0)) (w' := w1) rfl rfl rfl (x_assign (v := (Value.int .i64 0)) rfl rfl) ?_
  refine wpR_nil ?_
  refine wpC_seq ?_
  refine wpC_seq ?_
  refine wpC_cut (fun ρ => ρ 1 = (Value.pointer (some (Addr.mk b9 0 none))) ∧ True) ⟨rfl, trivial⟩ ?_
  rintro ρ ⟨e1, -⟩
  refine wpC_region ?_
  obtain ⟨x10, q10, x11, q11, x12, q12, x13, q13, x14, q14, x15, q15, x16, q16, x17, q17, x18, q18, x19, q19, x20, q20, x21, q21, x22, q22, x23, q23, x24, q24, x25, q25, x26, q26, x27, q27, x28, q28, x29, q29, x30, q30, x31, q31, h⟩ := h
  refine wpR_val (v := (V38 x10 x11 x12 x13 x14 x15 x16 x17 x18 x19 x20 x21 x22 x23 x24 x25 x26 x27 x28 x29 x30 x31)) (w' := w1) rfl rfl rfl (x_loadN (S38 x10 x11 x12 x13 x14 x15 x16 x17 x18 x19 x20 x21 x22 x23 x24 x25 x26 x27 x28 x29 x30 x31) rfl e1 SH_39 (K38 ⟨q10, q11, q12, q13, q14, q15, q16, q17, q18, q19, q20, q21, q22, q23, q24, q25, q26, q27, q28, q29, q30, q31⟩)) ?_
  refine wpR_enter rfl rfl rfl (x_call (vs := [(V38 x10 x11 x12 x13 x14 x15 x16 x17 x18 x19 x20 x21 x22 x23 x24 x25 x26 x27 x28 x29 x30 x31)]) rfl rfl (mapl_cons rfl mapl_nil) Try.func24 NN_24 NB_24) (Calls.mono h ?_)
  rintro _ w2 ⟨r32, rfl, h⟩
  refine ⟨_, rfl, ?_⟩
  refine wpR_val (v := (Value.bool (!r32))) (w' := w2) rfl rfl rfl (x_not rfl rfl) ?_
  refine wpR_nil ?_
  refine wpC_cond (b := !r32) rfl (fun hc33 => ?_) (fun hc33 => ?_)
  · replace h := h.1 hc33
    refine wpC_seq ?_
    refine wpC_cut (fun ρ => True) trivial ?_
    rintro ρ -
    refine wpC_region ?_
    refine wpR_val (v := (Value.int .i64 1)) (w' := w2) rfl rfl rfl (x_assign (v := (Value.int .i64 1)) rfl rfl) ?_
    refine wpR_nil ?_
    refine wpC_ret ?_
    exact ⟨.inl rfl, fun a ha => ⟨_, results_rep1 rfl ha rfl, 1, rfl, h⟩⟩
  · replace h := h.2 hc33
    refine wpC_skip ?_
    refine wpC_seq ?_
    refine wpC_seq ?_
    refine wpC_cut (fun ρ => ρ 1 = (Value.pointer (some (Addr.mk b9 0 none))) ∧ True) ⟨e1, trivial⟩ ?_
    rintro ρ ⟨e1, -⟩
    refine wpC_region ?_
    refine wpR_val (v := (Value.pointer (some ((Addr.mk b9 0 none).add 8)))) (w' := w2) rfl rfl rfl (x_fieldAddr rfl e1 FA_39_8) ?_
    obtain ⟨x34, q34, h⟩ := h
    refine wpR_val (v := (Value.int .i64 x34)) (w' := w2) rfl rfl rfl (x_load1 rfl rfl SH_3 q34) ?_
    refine wpR_enter rfl rfl rfl (x_call (vs := [(Value.int .i64 x34), (Value.int .i64 40), (Value.int .i64 4000)]) rfl rfl (mapl_cons rfl (mapl_cons rfl (mapl_cons rfl mapl_nil))) Try.func25 NN_25 NB_25) (Calls.mono h ?_)
    rintro _ w3 ⟨r35, rfl, h⟩
    refine ⟨_, rfl, ?_⟩
    refine wpR_val (v := (Value.bool (!r35))) (w' := w3) rfl rfl rfl (x_not rfl rfl) ?_
    refine wpR_val (v := (Value.bool (!r35))) (w' := w3) rfl rfl rfl (x_move (v := (Value.bool (!r35))) rfl rfl) ?_
    obtain ⟨J36, h, hk⟩ := h
    refine wpR_joinJ 5 (fun x ρ => ρ 17 = Value.bool x ∧ ρ 1 = (Value.pointer (some (Addr.mk b9 0 none))) ∧ True) (J36) ?_ ?_
    · clear hk
      rcases Bool.eq_false_or_eq_true (!r35) with hc37 | hc37
      · replace h := h.1 hc37
        refine wpR_pass (wantN rfl rfl rfl hc37) rfl rfl ?_
        refine wpR_pass (wantN rfl rfl rfl hc37) rfl rfl ?_
        refine wpR_pass (wantN rfl rfl rfl hc37) rfl rfl ?_
        refine wpR_pass (wantN rfl rfl rfl hc37) rfl rfl ?_
        refine wpR_val (v := (Value.bool true)) (w' := w3) rfl rfl rfl (x_pickT (v := (Value.bool true)) rfl rfl hc37 rfl) ?_
        refine wpR_nil ?_
        exact ⟨true, ⟨rfl, e1, trivial⟩, h⟩
      · replace h := h.2 hc37
        refine wpR_val (v := (Value.pointer (some ((Addr.mk b9 0 none).add 9)))) (w' := w3) (wantG rfl rfl rfl hc37) rfl rfl (x_fieldAddr rfl e1 FA_39_9) ?_
        obtain ⟨x38, q38, h⟩ := h
        refine wpR_val (v := (Value.int .i64 x38)) (w' := w3) (wantG rfl rfl rfl hc37) rfl rfl (x_load1 rfl rfl SH_3 q38) ?_
        refine wpR_enter (wantG rfl rfl rfl hc37) rfl rfl (x_call (vs := [(Value.int .i64 x38), (Value.int .i64 1), (Value.int .i64 20)]) rfl rfl (mapl_cons rfl (mapl_cons rfl (mapl_cons rfl mapl_nil))) Try.func25 NN_25 NB_25) (Calls.mono h ?_)
        rintro _ w4 ⟨r39, rfl, h⟩
        refine ⟨_, rfl, ?_⟩
        refine wpR_val (v := (Value.bool (!r39))) (w' := w4) (wantG rfl rfl rfl hc37) rfl rfl (x_not rfl rfl) ?_
        refine wpR_val (v := (Value.bool (!r39))) (w' := w4) rfl rfl rfl (x_pickF (v := (Value.bool (!r39))) rfl rfl hc37 rfl) ?_
        refine wpR_nil ?_
        exact ⟨!r39, ⟨rfl, e1, trivial⟩, h⟩
    clear h
    rintro c40 ρ w5 ⟨e17, e1, -⟩ h
    replace h := hk c40 w5 h
    clear hk
    refine wpR_val (v := (Value.bool c40)) (w' := w5) rfl rfl rfl (x_move (v := (Value.bool c40)) rfl e17) ?_
    obtain ⟨J41, h, hk⟩ := h
    refine wpR_joinJ 4 (fun x ρ => ρ 22 = Value.bool x ∧ ρ 1 = (Value.pointer (some (Addr.mk b9 0 none))) ∧ True) (fun x w => J41 x ∧ w5 = w) ?_ ?_
    · clear hk
      rcases Bool.eq_false_or_eq_true (c40) with hc42 | hc42
      · replace h := h.1 hc42
        refine wpR_pass (wantN rfl rfl rfl hc42) rfl rfl ?_
        refine wpR_pass (wantN rfl rfl rfl hc42) rfl rfl ?_
        refine wpR_pass (wantN rfl rfl rfl hc42) rfl rfl ?_
        refine wpR_val (v := (Value.bool true)) (w' := w5) rfl rfl rfl (x_pickT (v := (Value.bool true)) rfl rfl hc42 rfl) ?_
        refine wpR_nil ?_
        exact ⟨true, ⟨rfl, e1, trivial⟩, h, rfl⟩
      · replace h := h.2 hc42
        refine wpR_val (v := (Value.pointer (some ((Addr.mk b9 0 none).add 10)))) (w' := w5) (wantG rfl rfl rfl hc42) rfl rfl (x_fieldAddr rfl e1 FA_39_10) ?_
        obtain ⟨x43, q43, h⟩ := h
        refine wpR_val (v := (Value.int .i64 x43)) (w' := w5) (wantG rfl rfl rfl hc42) rfl rfl (x_load1 rfl rfl SH_3 q43) ?_
        refine wpR_val (v := (Value.bool (decide (4 < x43)))) (w' := w5) (wantG rfl rfl rfl hc42) rfl rfl (x_gtr rfl rfl rfl) ?_
        refine wpR_val (v := (Value.bool (decide (4 < x43)))) (w' := w5) rfl rfl rfl (x_pickF (v := (Value.bool (decide (4 < x43)))) rfl rfl hc42 rfl) ?_
        refine wpR_nil ?_
        exact ⟨decide (4 < x43), ⟨rfl, e1, trivial⟩, h, rfl⟩
    clear h
    rintro c44 ρ wj ⟨e22, e1, -⟩ ⟨h, rfl⟩
    replace h := hk c44 h
    clear hk
    refine wpR_val (v := (Value.bool c44)) (w' := w5) rfl rfl rfl (x_move (v := (Value.bool c44)) rfl e22) ?_
    obtain ⟨J45, h, hk⟩ := h
    refine wpR_joinJ 4 (fun x ρ => ρ 27 = Value.bool x ∧ ρ 1 = (Value.pointer (some (Addr.mk b9 0 none))) ∧ True) (fun x w => J45 x ∧ w5 = w) ?_ ?_
    · clear hk
      rcases Bool.eq_false_or_eq_true (c44) with hc46 | hc46
      · replace h := h.1 hc46
        refine wpR_pass (wantN rfl rfl rfl hc46) rfl rfl ?_
        refine wpR_pass (wantN rfl rfl rfl hc46) rfl rfl ?_
        refine wpR_pass (wantN rfl rfl rfl hc46) rfl rfl ?_
        refine wpR_val (v := (Value.bool true)) (w' := w5) rfl rfl rfl (x_pickT (v := (Value.bool true)) rfl rfl hc46 rfl) ?_
        refine wpR_nil ?_
        exact ⟨true, ⟨rfl, e1, trivial⟩, h, rfl⟩
      · replace h := h.2 hc46
        refine wpR_val (v := (Value.pointer (some ((Addr.mk b9 0 none).add 11)))) (w' := w5) (wantG rfl rfl rfl hc46) rfl rfl (x_fieldAddr rfl e1 FA_39_11) ?_
        obtain ⟨x47, q47, h⟩ := h
        refine wpR_val (v := (Value.int .i64 x47)) (w' := w5) (wantG rfl rfl rfl hc46) rfl rfl (x_load1 rfl rfl SH_3 q47) ?_
        refine wpR_val (v := (Value.bool (decide (65536 < x47)))) (w' := w5) (wantG rfl rfl rfl hc46) rfl rfl (x_gtr rfl rfl rfl) ?_
        refine wpR_val (v := (Value.bool (decide (65536 < x47)))) (w' := w5) rfl rfl rfl (x_pickF (v := (Value.bool (decide (65536 < x47)))) rfl rfl hc46 rfl) ?_
        refine wpR_nil ?_
        exact ⟨decide (65536 < x47), ⟨rfl, e1, trivial⟩, h, rfl⟩
    clear h
    rintro c48 ρ wj ⟨e27, e1, -⟩ ⟨h, rfl⟩
    replace h := hk c48 h
    clear hk
    refine wpR_val (v := (Value.bool c48)) (w' := w5) rfl rfl rfl (x_move (v := (Value.bool c48)) rfl e27) ?_
    obtain ⟨J49, h, hk⟩ := h
    refine wpR_joinJ 4 (fun x ρ => ρ 32 = Value.bool x ∧ ρ 1 = (Value.pointer (some (Addr.mk b9 0 none))) ∧ True) (fun x w => J49 x ∧ w5 = w) ?_ ?_
    · clear hk
      rcases Bool.eq_false_or_eq_true (c48) with hc50 | hc50
      · replace h := h.1 hc50
        refine wpR_pass (wantN rfl rfl rfl hc50) rfl rfl ?_
        refine wpR_pass (wantN rfl rfl rfl hc50) rfl rfl ?_
        refine wpR_pass (wantN rfl rfl rfl hc50) rfl rfl ?_
        refine wpR_val (v := (Value.bool true)) (w' := w5) rfl rfl rfl (x_pickT (v := (Value.bool true)) rfl rfl hc50 rfl) ?_
        refine wpR_nil ?_
        exact ⟨true, ⟨rfl, e1, trivial⟩, h, rfl⟩
      · replace h := h.2 hc50
        refine wpR_val (v := (Value.pointer (some ((Addr.mk b9 0 none).add 18)))) (w' := w5) (wantG rfl rfl rfl hc50) rfl rfl (x_fieldAddr rfl e1 FA_39_18) ?_
        obtain ⟨x51, q51, h⟩ := h
        refine wpR_val (v := (Value.int .i64 x51)) (w' := w5) (wantG rfl rfl rfl hc50) rfl rfl (x_load1 rfl rfl SH_3 q51) ?_
        refine wpR_val (v := (Value.bool (decide (x51 < 1)))) (w' := w5) (wantG rfl rfl rfl hc50) rfl rfl (x_lss rfl rfl rfl) ?_
        refine wpR_val (v := (Value.bool (decide (x51 < 1)))) (w' := w5) rfl rfl rfl (x_pickF (v := (Value.bool (decide (x51 < 1)))) rfl rfl hc50 rfl) ?_
        refine wpR_nil ?_
        exact ⟨decide (x51 < 1), ⟨rfl, e1, trivial⟩, h, rfl⟩
    clear h
    rintro c52 ρ wj ⟨e32, e1, -⟩ ⟨h, rfl⟩
    replace h := hk c52 h
    clear hk
    refine wpR_val (v := (Value.bool c52)) (w' := w5) rfl rfl rfl (x_move (v := (Value.bool c52)) rfl e32) ?_
    obtain ⟨J53, h, hk⟩ := h
    refine wpR_joinJ 11 (fun x ρ => ρ 44 = Value.bool x ∧ ρ 1 = (Value.pointer (some (Addr.mk b9 0 none))) ∧ True) (fun x w => J53 x ∧ w5 = w) ?_ ?_
    · clear hk
      rcases Bool.eq_false_or_eq_true (c52) with hc54 | hc54
      · replace h := h.1 hc54
        refine wpR_pass (wantN rfl rfl rfl hc54) rfl rfl ?_
        refine wpR_pass (wantN rfl rfl rfl hc54) rfl rfl ?_
        refine wpR_pass (wantN rfl rfl rfl hc54) rfl rfl ?_
        refine wpR_pass (wantN rfl rfl rfl hc54) rfl rfl ?_
        refine wpR_pass (wantU rfl rfl rfl) rfl rfl ?_
        refine wpR_pass (wantU rfl rfl rfl) rfl rfl ?_
        refine wpR_pass (wantU rfl rfl rfl) rfl rfl ?_
        refine wpR_pass (wantU rfl rfl rfl) rfl rfl ?_
        refine wpR_pass (wantU rfl rfl rfl) rfl rfl ?_
        refine wpR_pass (wantN rfl rfl rfl hc54) rfl rfl ?_
        refine wpR_val (v := (Value.bool true)) (w' := w5) rfl rfl rfl (x_pickT (v := (Value.bool true)) rfl rfl hc54 rfl) ?_
        refine wpR_nil ?_
        exact ⟨true, ⟨rfl, e1, trivial⟩, h, rfl⟩
      · replace h := h.2 hc54
        refine wpR_val (v := (Value.pointer (some ((Addr.mk b9 0 none).add 19)))) (w' := w5) (wantG rfl rfl rfl hc54) rfl rfl (x_fieldAddr rfl e1 FA_39_19) ?_
        obtain ⟨x55, q55, h⟩ := h
        refine wpR_val (v := (Value.int .i64 x55)) (w' := w5) (wantG rfl rfl rfl hc54) rfl rfl (x_load1 rfl rfl SH_3 q55) ?_
        refine wpR_val (v := (Value.bool (!decide (x55 = 0)))) (w' := w5) (wantG rfl rfl rfl hc54) rfl rfl (x_neq rfl rfl rfl) ?_
        refine wpR_val (v := (Value.bool (!decide (x55 = 0)))) (w' := w5) (wantG rfl rfl rfl hc54) rfl rfl (x_move (v := (Value.bool (!decide (x55 = 0)))) rfl rfl) ?_
        obtain ⟨J56, h, hk⟩ := h
        refine wpR_joinJ 6 (fun x ρ => ρ 43 = Value.bool x ∧ ρ 1 = (Value.pointer (some (Addr.mk b9 0 none))) ∧ ρ 33 = (Value.bool c52) ∧ True) (fun x w => J56 x ∧ w5 = w) ?_ ?_
        · clear hk
          rcases Bool.eq_false_or_eq_true (!decide (x55 = 0)) with hc57 | hc57
          · replace h := h.1 hc57
            refine wpR_val (v := (Value.pointer (some ((Addr.mk b9 0 none).add 19)))) (w' := w5) (wantG rfl rfl rfl hc57) rfl rfl (x_fieldAddr rfl e1 FA_39_19) ?_
            obtain ⟨x58, q58, h⟩ := h
            refine wpR_val (v := (Value.int .i64 x58)) (w' := w5) (wantG rfl rfl rfl hc57) rfl rfl (x_load1 rfl rfl SH_3 q58) ?_
            refine wpR_val (v := (Value.pointer (some ((Addr.mk b9 0 none).add 20)))) (w' := w5) (wantG rfl rfl rfl hc57) rfl rfl (x_fieldAddr rfl e1 FA_39_20) ?_
            obtain ⟨x59, q59, h⟩ := h
            refine wpR_val (v := (Value.int .i64 x59)) (w' := w5) (wantG rfl rfl rfl hc57) rfl rfl (x_load1 rfl rfl SH_3 q59) ?_
            refine wpR_val (v := (Value.bool (decide (x59 ≤ x58)))) (w' := w5) (wantG rfl rfl rfl hc57) rfl rfl (x_geq rfl rfl rfl) ?_
            refine wpR_val (v := (Value.bool (decide (x59 ≤ x58)))) (w' := w5) (wantG rfl rfl rfl hc54) rfl rfl (x_pickT (v := (Value.bool (decide (x59 ≤ x58)))) rfl rfl hc57 rfl) ?_
            refine wpR_nil ?_
            exact ⟨decide (x59 ≤ x58), ⟨rfl, e1, rfl, trivial⟩, h, rfl⟩
          · replace h := h.2 hc57
            refine wpR_pass (wantN rfl rfl rfl hc57) rfl rfl ?_
            refine wpR_pass (wantN rfl rfl rfl hc57) rfl rfl ?_
            refine wpR_pass (wantN rfl rfl rfl hc57) rfl rfl ?_
            refine wpR_pass (wantN rfl rfl rfl hc57) rfl rfl ?_
            refine wpR_pass (wantN rfl rfl rfl hc57) rfl rfl ?_
            refine wpR_val (v := (Value.bool false)) (w' := w5) (wantG rfl rfl rfl hc54) rfl rfl (x_pickF (v := (Value.bool false)) rfl rfl hc57 rfl) ?_
            refine wpR_nil ?_
            exact ⟨false, ⟨rfl, e1, rfl, trivial⟩, h, rfl⟩
        clear h
        rintro c60 ρ wj ⟨e43, e1, e33, -⟩ ⟨h, rfl⟩
        replace h := hk c60 h
        clear hk
        refine wpR_val (v := (Value.bool c60)) (w' := w5) rfl rfl rfl (x_pickF (v := (Value.bool c60)) rfl e33 hc54 e43) ?_
        refine wpR_nil ?_
        exact ⟨c60, ⟨rfl, e1, trivial⟩, h, rfl⟩
    clear h
    rintro c61 ρ wj ⟨e44, e1, -⟩ ⟨h, rfl⟩
    replace h := hk c61 h
    clear hk
    refine wpR_val (v := (Value.bool c61)) (w' := w5) rfl rfl rfl (x_move (v := (Value.bool c61)) rfl e44) ?_
    obtain ⟨J62, h, hk⟩ := h
    refine wpR_joinJ 4 (fun x ρ => ρ 49 = Value.bool x ∧ ρ 1 = (Value.pointer (some (Addr.mk b9 0 none))) ∧ True) (J62) ?_ ?_
    · clear hk
      rcases Bool.eq_false_or_eq_true (c61) with hc63 | hc63
      · replace h := h.1 hc63
        refine wpR_pass (wantN rfl rfl rfl hc63) rfl rfl ?_
        refine wpR_pass (wantN rfl rfl rfl hc63) rfl rfl ?_
        refine wpR_pass (wantN rfl rfl rfl hc63) rfl rfl ?_
        refine wpR_val (v := (Value.bool true)) (w' := w5) rfl rfl rfl (x_pickT (v := (Value.bool true)) rfl rfl hc63 rfl) ?_
        refine wpR_nil ?_
        exact ⟨true, ⟨rfl, e1, trivial⟩, h⟩
      · replace h := h.2 hc63
        obtain ⟨x64, q64, x65, q65, x66, q66, x67, q67, x68, q68, x69, q69, x70, q70, x71, q71, x72, q72, x73, q73, x74, q74, x75, q75, x76, q76, x77, q77, x78, q78, x79, q79, x80, q80, x81, q81, x82, q82, x83, q83, x84, q84, x85, q85, h⟩ := h
        refine wpR_val (v := (V38 x64 x65 x66 x67 x68 x69 x70 x71 x72 x73 x74 x75 x76 x77 x78 x79 x80 x81 x82 x83 x84 x85)) (w' := w5) (wantG rfl rfl rfl hc63) rfl rfl (x_loadN (S38 x64 x65 x66 x67 x68 x69 x70 x71 x72 x73 x74 x75 x76 x77 x78 x79 x80 x81 x82 x83 x84 x85) rfl e1 SH_39 (K38 ⟨q64, q65, q66, q67, q68, q69, q70, q71, q72, q73, q74, q75, q76, q77, q78, q79, q80, q81, q82, q83, q84, q85⟩)) ?_
        refine wpR_enter (wantG rfl rfl rfl hc63) rfl rfl (x_call (vs := [(V38 x64 x65 x66 x67 x68 x69 x70 x71 x72 x73 x74 x75 x76 x77 x78 x79 x80 x81 x82 x83 x84 x85)]) rfl rfl (mapl_cons rfl mapl_nil) Try.func26 NN_26 NB_26) (Calls.mono h ?_)
        rintro _ w6 ⟨r86, rfl, h⟩
        refine ⟨_, rfl, ?_⟩
        refine wpR_val (v := (Value.bool (!r86))) (w' := w6) (wantG rfl rfl rfl hc63) rfl rfl (x_not rfl rfl) ?_
        refine wpR_val (v := (Value.bool (!r86))) (w' := w6) rfl rfl rfl (x_pickF (v := (Value.bool (!r86))) rfl rfl hc63 rfl) ?_
        refine wpR_nil ?_
        exact ⟨!r86, ⟨rfl, e1, trivial⟩, h⟩
    clear h
    rintro c87 ρ w7 ⟨e49, e1, -⟩ h
    replace h := hk c87 w7 h
    clear hk
    refine wpR_nil ?_
    refine wpC_cond (b := c87) e49 (fun hc88 => ?_) (fun hc88 => ?_)
    · replace h := h.1 hc88
      refine wpC_seq ?_
      refine wpC_region ?_
      refine wpR_val (v := (Value.int .i64 3)) (w' := w7) rfl rfl rfl (x_assign (v := (Value.int .i64 3)) rfl rfl) ?_
      refine wpR_nil ?_
      refine wpC_ret ?_
      exact ⟨.inl rfl, fun a ha => ⟨_, results_rep1 rfl ha rfl, 3, rfl, h⟩⟩
    · replace h := h.2 hc88
      refine wpC_skip ?_
      refine wpC_seq ?_
      refine wpC_seq ?_
      refine wpC_region ?_
      refine wpR_val (v := (Value.pointer (some ((Addr.mk b9 0 none).add 12)))) (w' := w7) rfl rfl rfl (x_fieldAddr rfl e1 FA_39_12) ?_
      obtain ⟨x89, q89, h⟩ := h
      refine wpR_val (v := (Sl.v x89)) (w' := w7) rfl rfl rfl (x_load1 rfl rfl SH_23 q89) ?_
      refine wpR_val (v := (Value.int .i64 (x89.len : Int))) (w' := w7) rfl rfl rfl (x_lenS (s := x89) rfl rfl isSliceT_23) ?_
      refine wpR_val (v := (Value.int .i64 0)) (w' := w7) rfl rfl rfl (x_move (v := (Value.int .i64 0)) rfl rfl) ?_
      refine wpR_nil ?_
      refine wpC_block ?_
      obtain ⟨I90, μ90, hI90, hr90⟩ := h
      refine wpC_loop (fun (x : Int) ρ => ρ 53 = (Value.int .i64 x) ∧ ρ 1 = (Value.pointer (some (Addr.mk b9 0 none))) ∧ ρ 51 = (Sl.v x89) ∧ ρ 52 = (Value.int .i64 (x89.len : Int)) ∧ True) I90 μ90 0 ⟨rfl, e1, rfl, rfl, trivial⟩ hI90 ?_
      rintro l90 ρ w8 ⟨e53, e1, e51, e52, -⟩ h
      replace h := hr90 l90 w8 h
      clear hr90 hI90
      refine wpC_seq ?_
      refine wpC_region ?_
      refine wpR_val (v := (Value.bool (decide (l90 < (x89.len : Int))))) (w' := w8) rfl rfl rfl (x_lss rfl e53 e52) ?_
      refine wpR_nil ?_
      refine wpC_seq ?_
      refine wpC_cond (b := decide (l90 < (x89.len : Int))) rfl (fun hc91 => ?_) (fun hc91 => ?_)
      · replace h := h.1 hc91
        refine wpC_skip ?_
        refine wpC_seq ?_
        refine wpC_block ?_
        refine wpC_seq ?_
        refine wpC_cut (fun ρ => ρ 1 = (Value.pointer (some (Addr.mk b9 0 none))) ∧ ρ 51 = (Sl.v x89) ∧ ρ 52 = (Value.int .i64 (x89.len : Int)) ∧ ρ 53 = (Value.int .i64 l90) ∧ True) ⟨e1, e51, e52, e53, trivial⟩ ?_
        rintro ρ ⟨e1, e51, e52, e53, -⟩
        refine wpC_region ?_
        refine wpR_val (v := (Value.int .i64 l90)) (w' := w8) rfl rfl rfl (x_move (v := (Value.int .i64 l90)) rfl e53) ?_
        obtain ⟨q92, z92, r92, h⟩ := h
        generalize hp92 : z92.add ((l90 : Int).toNat * 1) = p92 at h
        refine wpR_val (v := (Value.pointer (some p92))) (w' := w8) rfl rfl rfl ((x_indexAddr (s := x89) rfl e51 e53 ES_23 q92 r92).trans (by rw [hp92])) ?_
        obtain ⟨x93, q93, h⟩ := h
        refine wpR_val (v := (Value.string x93)) (w' := w8) rfl rfl rfl (x_load1 rfl rfl SH_9 q93) ?_
        refine wpR_val (v := (Value.int .i64 l90)) (w' := w8) rfl rfl rfl (x_assign (v := (Value.int .i64 l90)) rfl rfl) ?_
        refine wpR_val (v := (Value.string x93)) (w' := w8) rfl rfl rfl (x_assign (v := (Value.string x93)) rfl rfl) ?_
        refine wpR_nil ?_
        refine wpC_seq ?_
        refine wpC_cut (fun ρ => ρ 1 = (Value.pointer (some (Addr.mk b9 0 none))) ∧ ρ 3 = (Value.int .i64 l90) ∧ ρ 4 = (Value.string x93) ∧ ρ 51 = (Sl.v x89) ∧ ρ 52 = (Value.int .i64 (x89.len : Int)) ∧ ρ 53 = (Value.int .i64 l90) ∧ True) ⟨e1, rfl, rfl, e51, e52, e53, trivial⟩ ?_
        rintro ρ ⟨e1, e3, e4, e51, e52, e53, -⟩
        refine wpC_region ?_
        refine wpR_val (v := (Value.pointer (some ((Addr.mk b9 0 none).add 12)))) (w' := w8) rfl rfl rfl (x_fieldAddr rfl e1 FA_39_12) ?_
        obtain ⟨x94, q94, h⟩ := h
        refine wpR_val (v := (Sl.v x94)) (w' := w8) rfl rfl rfl (x_load1 rfl rfl SH_23 q94) ?_
        refine wpR_val (v := (Value.int .i64 l90)) (w' := w8) rfl rfl rfl (x_move (v := (Value.int .i64 l90)) rfl e3) ?_
        obtain ⟨r95, w9, q95, h⟩ := h
        refine wpR_val (v := (Sl.v r95)) (w' := w9) rfl rfl rfl (x_sliceAt rfl rfl rfl (congrArg some rfl) rfl q95) ?_
        refine wpR_val (v := (Value.string x93)) (w' := w9) rfl rfl rfl (x_move (v := (Value.string x93)) rfl e4) ?_
        refine wpR_enter rfl rfl rfl (x_call (vs := [(Sl.v r95), (Value.string x93)]) rfl rfl (mapl_cons rfl (mapl_cons rfl mapl_nil)) Try.func21 NN_21 NB_21) (Calls.mono h ?_)
        rintro _ w10 ⟨r96, rfl, h⟩
        refine ⟨_, rfl, ?_⟩
        refine wpR_nil ?_
        refine wpC_cond (b := r96) rfl (fun hc97 => ?_) (fun hc97 => ?_)
        · replace h := h.1 hc97
          refine wpC_seq ?_
          refine wpC_cut (fun ρ => True) trivial ?_
          rintro ρ -
          refine wpC_region ?_
          refine wpR_val (v := (Value.int .i64 5)) (w' := w10) rfl rfl rfl (x_assign (v := (Value.int .i64 5)) rfl rfl) ?_
          refine wpR_nil ?_
          refine wpC_ret ?_
          exact ⟨.inl rfl, fun a ha => ⟨_, results_rep1 rfl ha rfl, 5, rfl, h⟩⟩
        · replace h := h.2 hc97
          refine wpC_skip ?_
          refine wpC_cut (fun ρ => ρ 1 = (Value.pointer (some (Addr.mk b9 0 none))) ∧ ρ 51 = (Sl.v x89) ∧ ρ 52 = (Value.int .i64 (x89.len : Int)) ∧ ρ 53 = (Value.int .i64 l90) ∧ True) ⟨e1, e51, e52, e53, trivial⟩ ?_
          rintro ρ ⟨e1, e51, e52, e53, -⟩
          refine wpC_region ?_
          refine wpR_val (v := (Value.int .i64 (IntKind.i64.wrap (l90 + 1)))) (w' := w10) rfl rfl rfl (x_add rfl e53 rfl) ?_
          refine wpR_val (v := (Value.int .i64 (IntKind.i64.wrap (l90 + 1)))) (w' := w10) rfl rfl rfl (x_move (v := (Value.int .i64 (IntKind.i64.wrap (l90 + 1)))) rfl rfl) ?_
          refine wpR_nil ?_
          exact ⟨IntKind.i64.wrap (l90 + 1), ⟨rfl, e1, e51, e52, trivial⟩, h⟩
      · replace h := h.2 hc91
        refine wpC_exit ?_
        refine wpC_seq ?_
        refine wpC_cut (fun ρ => True) trivial ?_
        rintro ρ -
        refine wpC_region ?_
        refine wpR_val (v := (Value.int .i64 0)) (w' := w8) rfl rfl rfl (x_assign (v := (Value.int .i64 0)) rfl rfl) ?_
        refine wpR_nil ?_
        refine wpC_ret ?_
        exact ⟨.inl rfl, fun a ha => ⟨_, results_rep1 rfl ha rfl, 0, rfl, h⟩⟩

/-- profile.AtMost -/
def F19 (p0_0 : ByteArray) (p0_1 : Int) (p0_2 : Int) (p0_3 : Int) (p0_4 : Bool) (p0_5 : Int) (p0_6 : Bool) (p0_7 : Bool) (p0_8 : Int) (p0_9 : Int) (p0_10 : Int) (p0_11 : Int) (p0_12 : Sl) (p0_13 : Int) (p0_14 : Int) (p0_15 : Int) (p0_16 : Int) (p0_17 : Bool) (p0_18 : Int) (p0_19 : Int) (p0_20 : Int) (p0_21 : Int) (p1_0 : ByteArray) (p1_1 : Int) (p1_2 : Int) (p1_3 : Int) (p1_4 : Bool) (p1_5 : Int) (p1_6 : Bool) (p1_7 : Bool) (p1_8 : Int) (p1_9 : Int) (p1_10 : Int) (p1_11 : Int) (p1_12 : Sl) (p1_13 : Int) (p1_14 : Int) (p1_15 : Int) (p1_16 : Int) (p1_17 : Bool) (p1_18 : Int) (p1_19 : Int) (p1_20 : Int) (p1_21 : Int) (w0 : World) (K : Bool → World → Prop) : Prop :=
  nw 39 (A38 p0_0 p0_1 p0_2 p0_3 p0_4 p0_5 p0_6 p0_7 p0_8 p0_9 p0_10 p0_11 p0_12 p0_13 p0_14 p0_15 p0_16 p0_17 p0_18 p0_19 p0_20 p0_21) w0 fun b9 w1 =>
  nw 39 (A38 p1_0 p1_1 p1_2 p1_3 p1_4 p1_5 p1_6 p1_7 p1_8 p1_9 p1_10 p1_11 p1_12 p1_13 p1_14 p1_15 p1_16 p1_17 p1_18 p1_19 p1_20 p1_21) w1 fun b10 w2 =>
  ld (Value.int .i64) ((Addr.mk b9 0 none).add 1) w2 fun x11 =>
  ld (Value.int .i64) ((Addr.mk b10 0 none).add 1) w2 fun x12 =>
  jp (fun J13 => cnd (decide (x11 ≤ x12))
    (
    ld (Value.int .i64) ((Addr.mk b9 0 none).add 3) w2 fun x15 =>
    ld (Value.int .i64) ((Addr.mk b10 0 none).add 3) w2 fun x16 =>
    J13 (decide (x15 ≤ x16))
    )
    (
    J13 false
    ))
  fun c17 =>
  jp (fun J18 => cnd (c17)
    (
    ld (Value.int .i64) ((Addr.mk b9 0 none).add 5) w2 fun x20 =>
    ld (Value.int .i64) ((Addr.mk b10 0 none).add 5) w2 fun x21 =>
    J18 (decide (x20 ≤ x21))
    )
    (
    J18 false
    ))
  fun c22 =>
  jp (fun J23 => cnd (c22)
    (
    ld (Value.int .i64) ((Addr.mk b9 0 none).add 8) w2 fun x25 =>
    ld (Value.int .i64) ((Addr.mk b10 0 none).add 8) w2 fun x26 =>
    J23 (decide (x25 ≤ x26))
    )
    (
    J23 false
    ))
  fun c27 =>
  jp (fun J28 => cnd (c27)
    (
    ld (Value.int .i64) ((Addr.mk b9 0 none).add 9) w2 fun x30 =>
    ld (Value.int .i64) ((Addr.mk b10 0 none).add 9) w2 fun x31 =>
    J28 (decide (x30 ≤ x31))
    )
    (
    J28 false
    ))
  fun c32 =>
  jp (fun J33 => cnd (c32)
    (
    ld (Value.int .i64) ((Addr.mk b9 0 none).add 10) w2 fun x35 =>
    ld (Value.int .i64) ((Addr.mk b10 0 none).add 10) w2 fun x36 =>
    J33 (decide (x35 ≤ x36))
    )
    (
    J33 false
    ))
  fun c37 =>
  jp (fun J38 => cnd (c37)
    (
    ld (Value.int .i64) ((Addr.mk b9 0 none).add 11) w2 fun x40 =>
    ld (Value.int .i64) ((Addr.mk b10 0 none).add 11) w2 fun x41 =>
    J38 (decide (x40 ≤ x41))
    )
    (
    J38 false
    ))
  fun c42 =>
  jp (fun J43 => cnd (c42)
    (
    ld (Value.int .i64) ((Addr.mk b9 0 none).add 16) w2 fun x45 =>
    ld (Value.int .i64) ((Addr.mk b10 0 none).add 16) w2 fun x46 =>
    J43 (decide (x45 ≤ x46))
    )
    (
    J43 false
    ))
  fun c47 =>
  ld Value.bool ((Addr.mk b9 0 none).add 4) w2 fun x48 =>
  jp (fun J49 => cnd (!x48)
    (
    J49 true
    )
    (
    ld Value.bool ((Addr.mk b10 0 none).add 4) w2 fun x51 =>
    J49 x51
    ))
  fun c52 =>
  jp (fun J53 => cnd (c52)
    (
    ld Value.bool ((Addr.mk b9 0 none).add 6) w2 fun x55 =>
    jp (fun J56 => cnd (!x55)
      (
      J56 true
      )
      (
      ld Value.bool ((Addr.mk b10 0 none).add 6) w2 fun x58 =>
      J56 x58
      ))
    fun c59 =>
    J53 c59
    )
    (
    J53 false
    ))
  fun c60 =>
  jp (fun J61 => cnd (c60)
    (
    ld Value.bool ((Addr.mk b9 0 none).add 7) w2 fun x63 =>
    jp (fun J64 => cnd (!x63)
      (
      J64 true
      )
      (
      ld Value.bool ((Addr.mk b10 0 none).add 7) w2 fun x66 =>
      J64 x66
      ))
    fun c67 =>
    J61 c67
    )
    (
    J61 false
    ))
  fun c68 =>
  ld (Value.int .i64) ((Addr.mk b9 0 none).add 1) w2 fun x69 =>
  jp (fun J70 => cnd (decide (x69 = 0))
    (
    J70 true
    )
    (
    ld (Value.int .i64) ((Addr.mk b10 0 none).add 2) w2 fun x72 =>
    J70 (decide (x72 = 0))
    ))
  fun c73 =>
  jp (fun J74 => cnd (c73)
    (
    J74 true
    )
    (
    ld (Value.int .i64) ((Addr.mk b9 0 none).add 2) w2 fun x76 =>
    jp (fun J77 => cnd (!decide (x76 = 0))
      (
      ld (Value.int .i64) ((Addr.mk b9 0 none).add 2) w2 fun x79 =>
      ld (Value.int .i64) ((Addr.mk b10 0 none).add 2) w2 fun x80 =>
      J77 (decide (x79 ≤ x80))
      )
      (
      J77 false
      ))
    fun c81 =>
    J74 c81
    ))
  fun c82 =>
  jn (fun J87 => cnd ((c47 && c68) && c82)
    (
    ld Sl.v ((Addr.mk b9 0 none).add 12) w2 fun x89 =>
    callC Try.prog 28 #[(Sl.v x89), (Value.func (.func 27) #[] (List.toArray [(Value.pointer (some (Addr.mk b10 0 none)))]))] (fun (r : Bool) => (Value.bool r)) w2 fun r90 w3 =>
    J87 (!r90) w3
    )
    (
    J87 false w2
    ))
  fun c91 w4 =>
  K c91 w4
set_option maxRecDepth 100000 in
theorem D19 (p0_0 : ByteArray) (p0_1 : Int) (p0_2 : Int) (p0_3 : Int) (p0_4 : Bool) (p0_5 : Int) (p0_6 : Bool) (p0_7 : Bool) (p0_8 : Int) (p0_9 : Int) (p0_10 : Int) (p0_11 : Int) (p0_12 : Sl) (p0_13 : Int) (p0_14 : Int) (p0_15 : Int) (p0_16 : Int) (p0_17 : Bool) (p0_18 : Int) (p0_19 : Int) (p0_20 : Int) (p0_21 : Int) (p1_0 : ByteArray) (p1_1 : Int) (p1_2 : Int) (p1_3 : Int) (p1_4 : Bool) (p1_5 : Int) (p1_6 : Bool) (p1_7 : Bool) (p1_8 : Int) (p1_9 : Int) (p1_10 : Int) (p1_11 : Int) (p1_12 : Sl) (p1_13 : Int) (p1_14 : Int) (p1_15 : Int) (p1_16 : Int) (p1_17 : Bool) (p1_18 : Int) (p1_19 : Int) (p1_20 : Int) (p1_21 : Int) (w0 : World) (K : Bool → World → Prop) (h : F19 p0_0 p0_1 p0_2 p0_3 p0_4 p0_5 p0_6 p0_7 p0_8 p0_9 p0_10 p0_11 p0_12 p0_13 p0_14 p0_15 p0_16 p0_17 p0_18 p0_19 p0_20 p0_21 p1_0 p1_1 p1_2 p1_3 p1_4 p1_5 p1_6 p1_7 p1_8 p1_9 p1_10 p1_11 p1_12 p1_13 p1_14 p1_15 p1_16 p1_17 p1_18 p1_19 p1_20 p1_21 w0 K) : callC Try.prog 19 #[(V38 p0_0 p0_1 p0_2 p0_3 p0_4 p0_5 p0_6 p0_7 p0_8 p0_9 p0_10 p0_11 p0_12 p0_13 p0_14 p0_15 p0_16 p0_17 p0_18 p0_19 p0_20 p0_21), (V38 p1_0 p1_1 p1_2 p1_3 p1_4 p1_5 p1_6 p1_7 p1_8 p1_9 p1_10 p1_11 p1_12 p1_13 p1_14 p1_15 p1_16 p1_17 p1_18 p1_19 p1_20 p1_21)] (fun (r : Bool) => (Value.bool r)) w0 K := by
  unfold F19 at h
  refine calls_of_wpC Try.func19 rfl 123 rfl (by simp) ?_
  intro ρ hρ
  have e0 : ρ 0 = (V38 p0_0 p0_1 p0_2 p0_3 p0_4 p0_5 p0_6 p0_7 p0_8 p0_9 p0_10 p0_11 p0_12 p0_13 p0_14 p0_15 p0_16 p0_17 p0_18 p0_19 p0_20 p0_21) := hρ 0
  have e1 : ρ 1 = (V38 p1_0 p1_1 p1_2 p1_3 p1_4 p1_5 p1_6 p1_7 p1_8 p1_9 p1_10 p1_11 p1_12 p1_13 p1_14 p1_15 p1_16 p1_17 p1_18 p1_19 p1_20 p1_21) := hρ 1
  clear hρ
  refine wpC_seq ?_
  refine wpC_region ?_
  obtain ⟨b9, hb9⟩ : ∃ u, u = w0.heap.size := ⟨_, rfl⟩
  obtain ⟨w1, hw9⟩ : ∃ u, u = w0.alloc (.cells (A38 p0_0 p0_1 p0_2 p0_3 p0_4 p0_5 p0_6 p0_7 p0_8 p0_9 p0_10 p0_11 p0_12 p0_13 p0_14 p0_15 p0_16 p0_17 p0_18 p0_19 p0_20 p0_21) 39) := ⟨_, rfl⟩
  replace h := h b9 w1 hb9 hw9
  refine wpR_val (v := (Value.pointer (some (Addr.mk b9 0 none)))) (w' := w1) rfl rfl rfl ((x_box (v := (V38 p0_0 p0_1 p0_2 p0_3 p0_4 p0_5 p0_6 p0_7 p0_8 p0_9 p0_10 p0_11 p0_12 p0_13 p0_14 p0_15 p0_16 p0_17 p0_18 p0_19 p0_20 p0_21)) rfl e0).trans (by rw [hb9, hw9]; rfl)) ?_
  obtain ⟨b10, hb10⟩ : ∃ u, u = w1.heap.size := ⟨_, rfl⟩
  obtain ⟨w2, hw10⟩ : ∃ u, u = w1.alloc (.cells (A38 p1_0 p1_1 p1_2 p1_3 p1_4 p1_5 p1_6 p1_7 p1_8 p1_9 p1_10 p1_11 p1_12 p1_13 p1_14 p1_15 p1_16 p1_17 p1_18 p1_19 p1_20 p1_21) 39) := ⟨_, rfl⟩
  replace h := h b10 w2 hb10 hw10
  refine wpR_val (v := (Value.pointer (some (Addr.mk b10 0 none)))) (w' := w2) rfl rfl rfl ((x_box (v := (V38 p1_0 p1_1 p1_2 p1_3 p1_4 p1_5 p1_6 p1_7 p1_8 p1_9 p1_10 p1_11 p1_12 p1_13 p1_14 p1_15 p1_16 p1_17 p1_18 p1_19 p1_20 p1_21)) rfl e1).trans (by rw [hb10, hw10]; rfl)) ?_
  refine wpR_val (v := (Value.bool false)) (w' := w2) rfl rfl rfl (x_assign (v := (Value.bool false)) rfl rfl) ?_
  refine wpR_nil ?_
  refine wpC_seq ?_
  refine wpC_cut (fun ρ => ρ 2 = (Value.pointer (some (Addr.mk b9 0 none))) ∧ ρ 3 = (Value.pointer (some (Addr.mk b10 0 none))) ∧ True) ⟨rfl, rfl, trivial⟩ ?_
  rintro ρ ⟨e2, e3, -⟩
  refine wpC_region ?_
  refine wpR_val (v := (Value.pointer (some ((Addr.mk b9 0 none).add 1)))) (w' := w2) rfl rfl rfl (x_fieldAddr rfl e2 FA_39_1) ?_
  obtain ⟨x11, q11, h⟩ := h
  refine wpR_val (v := (Value.int .i64 x11)) (w' := w2) rfl rfl rfl (x_load1 rfl rfl SH_3 q11) ?_
  refine wpR_val (v := (Value.pointer (some ((Addr.mk b10 0 none).add 1)))) (w' := w2) rfl rfl rfl (x_fieldAddr rfl e3 FA_39_1) ?_
  obtain ⟨x12, q12, h⟩ := h
  refine wpR_val (v := (Value.int .i64 x12)) (w' := w2) rfl rfl rfl (x_load1 rfl rfl SH_3 q12) ?_
  refine wpR_val (v := (Value.bool (decide (x11 ≤ x12)))) (w' := w2) rfl rfl rfl (x_leq rfl rfl rfl) ?_
  refine wpR_val (v := (Value.bool (decide (x11 ≤ x12)))) (w' := w2) rfl rfl rfl (x_move (v := (Value.bool (decide (x11 ≤ x12)))) rfl rfl) ?_
  obtain ⟨J13, h, hk⟩ := h
  refine wpR_joinJ 6 (fun x ρ => ρ 20 = Value.bool x ∧ ρ 2 = (Value.pointer (some (Addr.mk b9 0 none))) ∧ ρ 3 = (Value.pointer (some (Addr.mk b10 0 none))) ∧ True) (fun x w => J13 x ∧ w2 = w) ?_ ?_
  · clear hk
    rcases Bool.eq_false_or_eq_true (decide (x11 ≤ x12)) with hc14 | hc14
    · replace h := h.1 hc14
      refine wpR_val (v := (Value.pointer (some ((Addr.mk b9 0 none).add 3)))) (w' := w2) (wantG rfl rfl rfl hc14) rfl rfl (x_fieldAddr rfl e2 FA_39_3) ?_
      obtain ⟨x15, q15, h⟩ := h
      refine wpR_val (v := (Value.int .i64 x15)) (w' := w2) (wantG rfl rfl rfl hc14) rfl rfl (x_load1 rfl rfl SH_3 q15) ?_
      refine wpR_val (v := (Value.pointer (some ((Addr.mk b10 0 none).add 3)))) (w' := w2) (wantG rfl rfl rfl hc14) rfl rfl (x_fieldAddr rfl e3 FA_39_3) ?_
      obtain ⟨x16, q16, h⟩ := h
      refine wpR_val (v := (Value.int .i64 x16)) (w' := w2) (wantG rfl rfl rfl hc14) rfl rfl (x_load1 rfl rfl SH_3 q16) ?_
      refine wpR_val (v := (Value.bool (decide (x15 ≤ x16)))) (w' := w2) (wantG rfl rfl rfl hc14) rfl rfl (x_leq rfl rfl rfl) ?_
      refine wpR_val (v := (Value.bool (decide (x15 ≤ x16)))) (w' := w2) rfl rfl rfl (x_pickT (v := (Value.bool (decide (x15 ≤ x16)))) rfl rfl hc14 rfl) ?_
      refine wpR_nil ?_
      exact ⟨decide (x15 ≤ x16), ⟨rfl, e2, e3, trivial⟩, h, rfl⟩
    · replace h := h.2 hc14
      refine wpR_pass (wantN rfl rfl rfl hc14) rfl rfl ?_
      refine wpR_pass (wantN rfl rfl rfl hc14) rfl rfl ?_
      refine wpR_pass (wantN rfl rfl rfl hc14) rfl rfl ?_
      refine wpR_pass (wantN rfl rfl rfl hc14) rfl rfl ?_
      refine wpR_pass (wantN rfl rfl rfl hc14) rfl rfl ?_
      refine wpR_val (v := (Value.bool false)) (w' := w2) rfl rfl rfl (x_pickF (v := (Value.bool false)) rfl rfl hc14 rfl) ?_
      refine wpR_nil ?_
      exact ⟨false, ⟨rfl, e2, e3, trivial⟩, h, rfl⟩
  clear h
  rintro c17 ρ wj ⟨e20, e2, e3, -⟩ ⟨h, rfl⟩
  replace h := hk c17 h
  clear hk
  refine wpR_val (v := (Value.bool c17)) (w' := w2) rfl rfl rfl (x_move (v := (Value.bool c17)) rfl e20) ?_
  obtain ⟨J18, h, hk⟩ := h
  refine wpR_joinJ 6 (fun x ρ => ρ 27 = Value.bool x ∧ ρ 2 = (Value.pointer (some (Addr.mk b9 0 none))) ∧ ρ 3 = (Value.pointer (some (Addr.mk b10 0 none))) ∧ True) (fun x w => J18 x ∧ w2 = w) ?_ ?_
  · clear hk
    rcases Bool.eq_false_or_eq_true (c17) with hc19 | hc19
    · replace h := h.1 hc19
      refine wpR_val (v := (Value.pointer (some ((Addr.mk b9 0 none).add 5)))) (w' := w2) (wantG rfl rfl rfl hc19) rfl rfl (x_fieldAddr rfl e2 FA_39_5) ?_
      obtain ⟨x20, q20, h⟩ := h
      refine wpR_val (v := (Value.int .i64 x20)) (w' := w2) (wantG rfl rfl rfl hc19) rfl rfl (x_load1 rfl rfl SH_3 q20) ?_
      refine wpR_val (v := (Value.pointer (some ((Addr.mk b10 0 none).add 5)))) (w' := w2) (wantG rfl rfl rfl hc19) rfl rfl (x_fieldAddr rfl e3 FA_39_5) ?_
      obtain ⟨x21, q21, h⟩ := h
      refine wpR_val (v := (Value.int .i64 x21)) (w' := w2) (wantG rfl rfl rfl hc19) rfl rfl (x_load1 rfl rfl SH_3 q21) ?_
      refine wpR_val (v := (Value.bool (decide (x20 ≤ x21)))) (w' := w2) (wantG rfl rfl rfl hc19) rfl rfl (x_leq rfl rfl rfl) ?_
      refine wpR_val (v := (Value.bool (decide (x20 ≤ x21)))) (w' := w2) rfl rfl rfl (x_pickT (v := (Value.bool (decide (x20 ≤ x21)))) rfl rfl hc19 rfl) ?_
      refine wpR_nil ?_
      exact ⟨decide (x20 ≤ x21), ⟨rfl, e2, e3, trivial⟩, h, rfl⟩
    · replace h := h.2 hc19
      refine wpR_pass (wantN rfl rfl rfl hc19) rfl rfl ?_
      refine wpR_pass (wantN rfl rfl rfl hc19) rfl rfl ?_
      refine wpR_pass (wantN rfl rfl rfl hc19) rfl rfl ?_
      refine wpR_pass (wantN rfl rfl rfl hc19) rfl rfl ?_
      refine wpR_pass (wantN rfl rfl rfl hc19) rfl rfl ?_
      refine wpR_val (v := (Value.bool false)) (w' := w2) rfl rfl rfl (x_pickF (v := (Value.bool false)) rfl rfl hc19 rfl) ?_
      refine wpR_nil ?_
      exact ⟨false, ⟨rfl, e2, e3, trivial⟩, h, rfl⟩
  clear h
  rintro c22 ρ wj ⟨e27, e2, e3, -⟩ ⟨h, rfl⟩
  replace h := hk c22 h
  clear hk
  refine wpR_val (v := (Value.bool c22)) (w' := w2) rfl rfl rfl (x_move (v := (Value.bool c22)) rfl e27) ?_
  obtain ⟨J23, h, hk⟩ := h
  refine wpR_joinJ 6 (fun x ρ => ρ 34 = Value.bool x ∧ ρ 2 = (Value.pointer (some (Addr.mk b9 0 none))) ∧ ρ 3 = (Value.pointer (some (Addr.mk b10 0 none))) ∧ True) (fun x w => J23 x ∧ w2 = w) ?_ ?_
  · clear hk
    rcases Bool.eq_false_or_eq_true (c22) with hc24 | hc24
    · replace h := h.1 hc24
      refine wpR_val (v := (Value.pointer (some ((Addr.mk b9 0 none).add 8)))) (w' := w2) (wantG rfl rfl rfl hc24) rfl rfl (x_fieldAddr rfl e2 FA_39_8) ?_
      obtain ⟨x25, q25, h⟩ := h
      refine wpR_val (v := (Value.int .i64 x25)) (w' := w2) (wantG rfl rfl rfl hc24) rfl rfl (x_load1 rfl rfl SH_3 q25) ?_
      refine wpR_val (v := (Value.pointer (some ((Addr.mk b10 0 none).add 8)))) (w' := w2) (wantG rfl rfl rfl hc24) rfl rfl (x_fieldAddr rfl e3 FA_39_8) ?_
      obtain ⟨x26, q26, h⟩ := h
      refine wpR_val (v := (Value.int .i64 x26)) (w' := w2) (wantG rfl rfl rfl hc24) rfl rfl (x_load1 rfl rfl SH_3 q26) ?_
      refine wpR_val (v := (Value.bool (decide (x25 ≤ x26)))) (w' := w2) (wantG rfl rfl rfl hc24) rfl rfl (x_leq rfl rfl rfl) ?_
      refine wpR_val (v := (Value.bool (decide (x25 ≤ x26)))) (w' := w2) rfl rfl rfl (x_pickT (v := (Value.bool (decide (x25 ≤ x26)))) rfl rfl hc24 rfl) ?_
      refine wpR_nil ?_
      exact ⟨decide (x25 ≤ x26), ⟨rfl, e2, e3, trivial⟩, h, rfl⟩
    · replace h := h.2 hc24
      refine wpR_pass (wantN rfl rfl rfl hc24) rfl rfl ?_
      refine wpR_pass (wantN rfl rfl rfl hc24) rfl rfl ?_
      refine wpR_pass (wantN rfl rfl rfl hc24) rfl rfl ?_
      refine wpR_pass (wantN rfl rfl rfl hc24) rfl rfl ?_
      refine wpR_pass (wantN rfl rfl rfl hc24) rfl rfl ?_
      refine wpR_val (v := (Value.bool false)) (w' := w2) rfl rfl rfl (x_pickF (v := (Value.bool false)) rfl rfl hc24 rfl) ?_
      refine wpR_nil ?_
      exact ⟨false, ⟨rfl, e2, e3, trivial⟩, h, rfl⟩
  clear h
  rintro c27 ρ wj ⟨e34, e2, e3, -⟩ ⟨h, rfl⟩
  replace h := hk c27 h
  clear hk
  refine wpR_val (v := (Value.bool c27)) (w' := w2) rfl rfl rfl (x_move (v := (Value.bool c27)) rfl e34) ?_
  obtain ⟨J28, h, hk⟩ := h
  refine wpR_joinJ 6 (fun x ρ => ρ 41 = Value.bool x ∧ ρ 2 = (Value.pointer (some (Addr.mk b9 0 none))) ∧ ρ 3 = (Value.pointer (some (Addr.mk b10 0 none))) ∧ True) (fun x w => J28 x ∧ w2 = w) ?_ ?_
  · clear hk
    rcases Bool.eq_false_or_eq_true (c27) with hc29 | hc29
    · replace h := h.1 hc29
      refine wpR_val (v := (Value.pointer (some ((Addr.mk b9 0 none).add 9)))) (w' := w2) (wantG rfl rfl rfl hc29) rfl rfl (x_fieldAddr rfl e2 FA_39_9) ?_
      obtain ⟨x30, q30, h⟩ := h
      refine wpR_val (v := (Value.int .i64 x30)) (w' := w2) (wantG rfl rfl rfl hc29) rfl rfl (x_load1 rfl rfl SH_3 q30) ?_
      refine wpR_val (v := (Value.pointer (some ((Addr.mk b10 0 none).add 9)))) (w' := w2) (wantG rfl rfl rfl hc29) rfl rfl (x_fieldAddr rfl e3 FA_39_9) ?_
      obtain ⟨x31, q31, h⟩ := h
      refine wpR_val (v := (Value.int .i64 x31)) (w' := w2) (wantG rfl rfl rfl hc29) rfl rfl (x_load1 rfl rfl SH_3 q31) ?_
      refine wpR_val (v := (Value.bool (decide (x30 ≤ x31)))) (w' := w2) (wantG rfl rfl rfl hc29) rfl rfl (x_leq rfl rfl rfl) ?_
      refine wpR_val (v := (Value.bool (decide (x30 ≤ x31)))) (w' := w2) rfl rfl rfl (x_pickT (v := (Value.bool (decide (x30 ≤ x31)))) rfl rfl hc29 rfl) ?_
      refine wpR_nil ?_
      exact ⟨decide (x30 ≤ x31), ⟨rfl, e2, e3, trivial⟩, h, rfl⟩
    · replace h := h.2 hc29
      refine wpR_pass (wantN rfl rfl rfl hc29) rfl rfl ?_
      refine wpR_pass (wantN rfl rfl rfl hc29) rfl rfl ?_
      refine wpR_pass (wantN rfl rfl rfl hc29) rfl rfl ?_
      refine wpR_pass (wantN rfl rfl rfl hc29) rfl rfl ?_
      refine wpR_pass (wantN rfl rfl rfl hc29) rfl rfl ?_
      refine wpR_val (v := (Value.bool false)) (w' := w2) rfl rfl rfl (x_pickF (v := (Value.bool false)) rfl rfl hc29 rfl) ?_
      refine wpR_nil ?_
      exact ⟨false, ⟨rfl, e2, e3, trivial⟩, h, rfl⟩
  clear h
  rintro c32 ρ wj ⟨e41, e2, e3, -⟩ ⟨h, rfl⟩
  replace h := hk c32 h
  clear hk
  refine wpR_val (v := (Value.bool c32)) (w' := w2) rfl rfl rfl (x_move (v := (Value.bool c32)) rfl e41) ?_
  obtain ⟨J33, h, hk⟩ := h
  refine wpR_joinJ 6 (fun x ρ => ρ 48 = Value.bool x ∧ ρ 2 = (Value.pointer (some (Addr.mk b9 0 none))) ∧ ρ 3 = (Value.pointer (some (Addr.mk b10 0 none))) ∧ True) (fun x w => J33 x ∧ w2 = w) ?_ ?_
  · clear hk
    rcases Bool.eq_false_or_eq_true (c32) with hc34 | hc34
    · replace h := h.1 hc34
      refine wpR_val (v := (Value.pointer (some ((Addr.mk b9 0 none).add 10)))) (w' := w2) (wantG rfl rfl rfl hc34) rfl rfl (x_fieldAddr rfl e2 FA_39_10) ?_
      obtain ⟨x35, q35, h⟩ := h
      refine wpR_val (v := (Value.int .i64 x35)) (w' := w2) (wantG rfl rfl rfl hc34) rfl rfl (x_load1 rfl rfl SH_3 q35) ?_
      refine wpR_val (v := (Value.pointer (some ((Addr.mk b10 0 none).add 10)))) (w' := w2) (wantG rfl rfl rfl hc34) rfl rfl (x_fieldAddr rfl e3 FA_39_10) ?_
      obtain ⟨x36, q36, h⟩ := h
      refine wpR_val (v := (Value.int .i64 x36)) (w' := w2) (wantG rfl rfl rfl hc34) rfl rfl (x_load1 rfl rfl SH_3 q36) ?_
      refine wpR_val (v := (Value.bool (decide (x35 ≤ x36)))) (w' := w2) (wantG rfl rfl rfl hc34) rfl rfl (x_leq rfl rfl rfl) ?_
      refine wpR_val (v := (Value.bool (decide (x35 ≤ x36)))) (w' := w2) rfl rfl rfl (x_pickT (v := (Value.bool (decide (x35 ≤ x36)))) rfl rfl hc34 rfl) ?_
      refine wpR_nil ?_
      exact ⟨decide (x35 ≤ x36), ⟨rfl, e2, e3, trivial⟩, h, rfl⟩
    · replace h := h.2 hc34
      refine wpR_pass (wantN rfl rfl rfl hc34) rfl rfl ?_
      refine wpR_pass (wantN rfl rfl rfl hc34) rfl rfl ?_
      refine wpR_pass (wantN rfl rfl rfl hc34) rfl rfl ?_
      refine wpR_pass (wantN rfl rfl rfl hc34) rfl rfl ?_
      refine wpR_pass (wantN rfl rfl rfl hc34) rfl rfl ?_
      refine wpR_val (v := (Value.bool false)) (w' := w2) rfl rfl rfl (x_pickF (v := (Value.bool false)) rfl rfl hc34 rfl) ?_
      refine wpR_nil ?_
      exact ⟨false, ⟨rfl, e2, e3, trivial⟩, h, rfl⟩
  clear h
  rintro c37 ρ wj ⟨e48, e2, e3, -⟩ ⟨h, rfl⟩
  replace h := hk c37 h
  clear hk
  refine wpR_val (v := (Value.bool c37)) (w' := w2) rfl rfl rfl (x_move (v := (Value.bool c37)) rfl e48) ?_
  obtain ⟨J38, h, hk⟩ := h
  refine wpR_joinJ 6 (fun x ρ => ρ 55 = Value.bool x ∧ ρ 2 = (Value.pointer (some (Addr.mk b9 0 none))) ∧ ρ 3 = (Value.pointer (some (Addr.mk b10 0 none))) ∧ True) (fun x w => J38 x ∧ w2 = w) ?_ ?_
  · clear hk
    rcases Bool.eq_false_or_eq_true (c37) with hc39 | hc39
    · replace h := h.1 hc39
      refine wpR_val (v := (Value.pointer (some ((Addr.mk b9 0 none).add 11)))) (w' := w2) (wantG rfl rfl rfl hc39) rfl rfl (x_fieldAddr rfl e2 FA_39_11) ?_
      obtain ⟨x40, q40, h⟩ := h
      refine wpR_val (v := (Value.int .i64 x40)) (w' := w2) (wantG rfl rfl rfl hc39) rfl rfl (x_load1 rfl rfl SH_3 q40) ?_
      refine wpR_val (v := (Value.pointer (some ((Addr.mk b10 0 none).add 11)))) (w' := w2) (wantG rfl rfl rfl hc39) rfl rfl (x_fieldAddr rfl e3 FA_39_11) ?_
      obtain ⟨x41, q41, h⟩ := h
      refine wpR_val (v := (Value.int .i64 x41)) (w' := w2) (wantG rfl rfl rfl hc39) rfl rfl (x_load1 rfl rfl SH_3 q41) ?_
      refine wpR_val (v := (Value.bool (decide (x40 ≤ x41)))) (w' := w2) (wantG rfl rfl rfl hc39) rfl rfl (x_leq rfl rfl rfl) ?_
      refine wpR_val (v := (Value.bool (decide (x40 ≤ x41)))) (w' := w2) rfl rfl rfl (x_pickT (v := (Value.bool (decide (x40 ≤ x41)))) rfl rfl hc39 rfl) ?_
      refine wpR_nil ?_
      exact ⟨decide (x40 ≤ x41), ⟨rfl, e2, e3, trivial⟩, h, rfl⟩
    · replace h := h.2 hc39
      refine wpR_pass (wantN rfl rfl rfl hc39) rfl rfl ?_
      refine wpR_pass (wantN rfl rfl rfl hc39) rfl rfl ?_
      refine wpR_pass (wantN rfl rfl rfl hc39) rfl rfl ?_
      refine wpR_pass (wantN rfl rfl rfl hc39) rfl rfl ?_
      refine wpR_pass (wantN rfl rfl rfl hc39) rfl rfl ?_
      refine wpR_val (v := (Value.bool false)) (w' := w2) rfl rfl rfl (x_pickF (v := (Value.bool false)) rfl rfl hc39 rfl) ?_
      refine wpR_nil ?_
      exact ⟨false, ⟨rfl, e2, e3, trivial⟩, h, rfl⟩
  clear h
  rintro c42 ρ wj ⟨e55, e2, e3, -⟩ ⟨h, rfl⟩
  replace h := hk c42 h
  clear hk
  refine wpR_val (v := (Value.bool c42)) (w' := w2) rfl rfl rfl (x_move (v := (Value.bool c42)) rfl e55) ?_
  obtain ⟨J43, h, hk⟩ := h
  refine wpR_joinJ 6 (fun x ρ => ρ 62 = Value.bool x ∧ ρ 2 = (Value.pointer (some (Addr.mk b9 0 none))) ∧ ρ 3 = (Value.pointer (some (Addr.mk b10 0 none))) ∧ True) (fun x w => J43 x ∧ w2 = w) ?_ ?_
  · clear hk
    rcases Bool.eq_false_or_eq_true (c42) with hc44 | hc44
    · replace h := h.1 hc44
      refine wpR_val (v := (Value.pointer (some ((Addr.mk b9 0 none).add 16)))) (w' := w2) (wantG rfl rfl rfl hc44) rfl rfl (x_fieldAddr rfl e2 FA_39_16) ?_
      obtain ⟨x45, q45, h⟩ := h
      refine wpR_val (v := (Value.int .i64 x45)) (w' := w2) (wantG rfl rfl rfl hc44) rfl rfl (x_load1 rfl rfl SH_3 q45) ?_
      refine wpR_val (v := (Value.pointer (some ((Addr.mk b10 0 none).add 16)))) (w' := w2) (wantG rfl rfl rfl hc44) rfl rfl (x_fieldAddr rfl e3 FA_39_16) ?_
      obtain ⟨x46, q46, h⟩ := h
      refine wpR_val (v := (Value.int .i64 x46)) (w' := w2) (wantG rfl rfl rfl hc44) rfl rfl (x_load1 rfl rfl SH_3 q46) ?_
      refine wpR_val (v := (Value.bool (decide (x45 ≤ x46)))) (w' := w2) (wantG rfl rfl rfl hc44) rfl rfl (x_leq rfl rfl rfl) ?_
      refine wpR_val (v := (Value.bool (decide (x45 ≤ x46)))) (w' := w2) rfl rfl rfl (x_pickT (v := (Value.bool (decide (x45 ≤ x46)))) rfl rfl hc44 rfl) ?_
      refine wpR_nil ?_
      exact ⟨decide (x45 ≤ x46), ⟨rfl, e2, e3, trivial⟩, h, rfl⟩
    · replace h := h.2 hc44
      refine wpR_pass (wantN rfl rfl rfl hc44) rfl rfl ?_
      refine wpR_pass (wantN rfl rfl rfl hc44) rfl rfl ?_
      refine wpR_pass (wantN rfl rfl rfl hc44) rfl rfl ?_
      refine wpR_pass (wantN rfl rfl rfl hc44) rfl rfl ?_
      refine wpR_pass (wantN rfl rfl rfl hc44) rfl rfl ?_
      refine wpR_val (v := (Value.bool false)) (w' := w2) rfl rfl rfl (x_pickF (v := (Value.bool false)) rfl rfl hc44 rfl) ?_
      refine wpR_nil ?_
      exact ⟨false, ⟨rfl, e2, e3, trivial⟩, h, rfl⟩
  clear h
  rintro c47 ρ wj ⟨e62, e2, e3, -⟩ ⟨h, rfl⟩
  replace h := hk c47 h
  clear hk
  refine wpR_val (v := (Value.bool c47)) (w' := w2) rfl rfl rfl (x_assign (v := (Value.bool c47)) rfl e62) ?_
  refine wpR_nil ?_
  refine wpC_seq ?_
  refine wpC_cut (fun ρ => ρ 2 = (Value.pointer (some (Addr.mk b9 0 none))) ∧ ρ 3 = (Value.pointer (some (Addr.mk b10 0 none))) ∧ ρ 5 = (Value.bool c47) ∧ True) ⟨e2, e3, rfl, trivial⟩ ?_
  rintro ρ ⟨e2, e3, e5, -⟩
  refine wpC_region ?_
  refine wpR_val (v := (Value.pointer (some ((Addr.mk b9 0 none).add 4)))) (w' := w2) rfl rfl rfl (x_fieldAddr rfl e2 FA_39_4) ?_
  obtain ⟨x48, q48, h⟩ := h
  refine wpR_val (v := (Value.bool x48)) (w' := w2) rfl rfl rfl (x_load1 rfl rfl SH_4 q48) ?_
  refine wpR_val (v := (Value.bool (!x48))) (w' := w2) rfl rfl rfl (x_not rfl rfl) ?_
  refine wpR_val (v := (Value.bool (!x48))) (w' := w2) rfl rfl rfl (x_move (v := (Value.bool (!x48))) rfl rfl) ?_
  obtain ⟨J49, h, hk⟩ := h
  refine wpR_joinJ 3 (fun x ρ => ρ 69 = Value.bool x ∧ ρ 2 = (Value.pointer (some (Addr.mk b9 0 none))) ∧ ρ 3 = (Value.pointer (some (Addr.mk b10 0 none))) ∧ ρ 5 = (Value.bool c47) ∧ True) (fun x w => J49 x ∧ w2 = w) ?_ ?_
  · clear hk
    rcases Bool.eq_false_or_eq_true (!x48) with hc50 | hc50
    · replace h := h.1 hc50
      refine wpR_pass (wantN rfl rfl rfl hc50) rfl rfl ?_
      refine wpR_pass (wantN rfl rfl rfl hc50) rfl rfl ?_
      refine wpR_val (v := (Value.bool true)) (w' := w2) rfl rfl rfl (x_pickT (v := (Value.bool true)) rfl rfl hc50 rfl) ?_
      refine wpR_nil ?_
      exact ⟨true, ⟨rfl, e2, e3, e5, trivial⟩, h, rfl⟩
    · replace h := h.2 hc50
      refine wpR_val (v := (Value.pointer (some ((Addr.mk b10 0 none).add 4)))) (w' := w2) (wantG rfl rfl rfl hc50) rfl rfl (x_fieldAddr rfl e3 FA_39_4) ?_
      obtain ⟨x51, q51, h⟩ := h
      refine wpR_val (v := (Value.bool x51)) (w' := w2) (wantG rfl rfl rfl hc50) rfl rfl (x_load1 rfl rfl SH_4 q51) ?_
      refine wpR_val (v := (Value.bool x51)) (w' := w2) rfl rfl rfl (x_pickF (v := (Value.bool x51)) rfl rfl hc50 rfl) ?_
      refine wpR_nil ?_
      exact ⟨x51, ⟨rfl, e2, e3, e5, trivial⟩, h, rfl⟩
  clear h
  rintro c52 ρ wj ⟨e69, e2, e3, e5, -⟩ ⟨h, rfl⟩
  replace h := hk c52 h
  clear hk
  refine wpR_val (v := (Value.bool c52)) (w' := w2) rfl rfl rfl (x_move (v := (Value.bool c52)) rfl e69) ?_
  obtain ⟨J53, h, hk⟩ := h
  refine wpR_joinJ 8 (fun x ρ => ρ 78 = Value.bool x ∧ ρ 2 = (Value.pointer (some (Addr.mk b9 0 none))) ∧ ρ 3 = (Value.pointer (some (Addr.mk b10 0 none))) ∧ ρ 5 = (Value.bool c47) ∧ True) (fun x w => J53 x ∧ w2 = w) ?_ ?_
  · clear hk
    rcases Bool.eq_false_or_eq_true (c52) with hc54 | hc54
    · replace h := h.1 hc54
      refine wpR_val (v := (Value.pointer (some ((Addr.mk b9 0 none).add 6)))) (w' := w2) (wantG rfl rfl rfl hc54) rfl rfl (x_fieldAddr rfl e2 FA_39_6) ?_
      obtain ⟨x55, q55, h⟩ := h
      refine wpR_val (v := (Value.bool x55)) (w' := w2) (wantG rfl rfl rfl hc54) rfl rfl (x_load1 rfl rfl SH_4 q55) ?_
      refine wpR_val (v := (Value.bool (!x55))) (w' := w2) (wantG rfl rfl rfl hc54) rfl rfl (x_not rfl rfl) ?_
      refine wpR_val (v := (Value.bool (!x55))) (w' := w2) (wantG rfl rfl rfl hc54) rfl rfl (x_move (v := (Value.bool (!x55))) rfl rfl) ?_
      obtain ⟨J56, h, hk⟩ := h
      refine wpR_joinJ 3 (fun x ρ => ρ 77 = Value.bool x ∧ ρ 2 = (Value.pointer (some (Addr.mk b9 0 none))) ∧ ρ 3 = (Value.pointer (some (Addr.mk b10 0 none))) ∧ ρ 5 = (Value.bool c47) ∧ ρ 70 = (Value.bool c52) ∧ True) (fun x w => J56 x ∧ w2 = w) ?_ ?_
      · clear hk
        rcases Bool.eq_false_or_eq_true (!x55) with hc57 | hc57
        · replace h := h.1 hc57
          refine wpR_pass (wantN rfl rfl rfl hc57) rfl rfl ?_
          refine wpR_pass (wantN rfl rfl rfl hc57) rfl rfl ?_
          refine wpR_val (v := (Value.bool true)) (w' := w2) (wantG rfl rfl rfl hc54) rfl rfl (x_pickT (v := (Value.bool true)) rfl rfl hc57 rfl) ?_
          refine wpR_nil ?_
          exact ⟨true, ⟨rfl, e2, e3, e5, rfl, trivial⟩, h, rfl⟩
        · replace h := h.2 hc57
          refine wpR_val (v := (Value.pointer (some ((Addr.mk b10 0 none).add 6)))) (w' := w2) (wantG rfl rfl rfl hc57) rfl rfl (x_fieldAddr rfl e3 FA_39_6) ?_
          obtain ⟨x58, q58, h⟩ := h
          refine wpR_val (v := (Value.bool x58)) (w' := w2) (wantG rfl rfl rfl hc57) rfl rfl (x_load1 rfl rfl SH_4 q58) ?_
          refine wpR_val (v := (Value.bool x58)) (w' := w2) (wantG rfl rfl rfl hc54) rfl rfl (x_pickF (v := (Value.bool x58)) rfl rfl hc57 rfl) ?_
          refine wpR_nil ?_
          exact ⟨x58, ⟨rfl, e2, e3, e5, rfl, trivial⟩, h, rfl⟩
      clear h
      rintro c59 ρ wj ⟨e77, e2, e3, e5, e70, -⟩ ⟨h, rfl⟩
      replace h := hk c59 h
      clear hk
      refine wpR_val (v := (Value.bool c59)) (w' := w2) rfl rfl rfl (x_pickT (v := (Value.bool c59)) rfl e70 hc54 e77) ?_
      refine wpR_nil ?_
      exact ⟨c59, ⟨rfl, e2, e3, e5, trivial⟩, h, rfl⟩
    · replace h := h.2 hc54
      refine wpR_pass (wantN rfl rfl rfl hc54) rfl rfl ?_
      refine wpR_pass (wantN rfl rfl rfl hc54) rfl rfl ?_
      refine wpR_pass (wantN rfl rfl rfl hc54) rfl rfl ?_
      refine wpR_pass (wantN rfl rfl rfl hc54) rfl rfl ?_
      refine wpR_pass (wantU rfl rfl rfl) rfl rfl ?_
      refine wpR_pass (wantU rfl rfl rfl) rfl rfl ?_
      refine wpR_pass (wantN rfl rfl rfl hc54) rfl rfl ?_
      refine wpR_val (v := (Value.bool false)) (w' := w2) rfl rfl rfl (x_pickF (v := (Value.bool false)) rfl rfl hc54 rfl) ?_
      refine wpR_nil ?_
      exact ⟨false, ⟨rfl, e2, e3, e5, trivial⟩, h, rfl⟩
  clear h
  rintro c60 ρ wj ⟨e78, e2, e3, e5, -⟩ ⟨h, rfl⟩
  replace h := hk c60 h
  clear hk
  refine wpR_val (v := (Value.bool c60)) (w' := w2) rfl rfl rfl (x_move (v := (Value.bool c60)) rfl e78) ?_
  obtain ⟨J61, h, hk⟩ := h
  refine wpR_joinJ 8 (fun x ρ => ρ 87 = Value.bool x ∧ ρ 2 = (Value.pointer (some (Addr.mk b9 0 none))) ∧ ρ 3 = (Value.pointer (some (Addr.mk b10 0 none))) ∧ ρ 5 = (Value.bool c47) ∧ True) (fun x w => J61 x ∧ w2 = w) ?_ ?_
  · clear hk
    rcases Bool.eq_false_or_eq_true (c60) with hc62 | hc62
    · replace h := h.1 hc62
      refine wpR_val (v := (Value.pointer (some ((Addr.mk b9 0 none).add 7)))) (w' := w2) (wantG rfl rfl rfl hc62) rfl rfl (x_fieldAddr rfl e2 FA_39_7) ?_
      obtain ⟨x63, q63, h⟩ := h
      refine wpR_val (v := (Value.bool x63)) (w' := w2) (wantG rfl rfl rfl hc62) rfl rfl (x_load1 rfl rfl SH_4 q63) ?_
      refine wpR_val (v := (Value.bool (!x63))) (w' := w2) (wantG rfl rfl rfl hc62) rfl rfl (x_not rfl rfl) ?_
      refine wpR_val (v := (Value.bool (!x63))) (w' := w2) (wantG rfl rfl rfl hc62) rfl rfl (x_move (v := (Value.bool (!x63))) rfl rfl) ?_
      obtain ⟨J64, h, hk⟩ := h
      refine wpR_joinJ 3 (fun x ρ => ρ 86 = Value.bool x ∧ ρ 2 = (Value.pointer (some (Addr.mk b9 0 none))) ∧ ρ 3 = (Value.pointer (some (Addr.mk b10 0 none))) ∧ ρ 5 = (Value.bool c47) ∧ ρ 79 = (Value.bool c60) ∧ True) (fun x w => J64 x ∧ w2 = w) ?_ ?_
      · clear hk
        rcases Bool.eq_false_or_eq_true (!x63) with hc65 | hc65
        · replace h := h.1 hc65
          refine wpR_pass (wantN rfl rfl rfl hc65) rfl rfl ?_
          refine wpR_pass (wantN rfl rfl rfl hc65) rfl rfl ?_
          refine wpR_val (v := (Value.bool true)) (w' := w2) (wantG rfl rfl rfl hc62) rfl rfl (x_pickT (v := (Value.bool true)) rfl rfl hc65 rfl) ?_
          refine wpR_nil ?_
          exact ⟨true, ⟨rfl, e2, e3, e5, rfl, trivial⟩, h, rfl⟩
        · replace h := h.2 hc65
          refine wpR_val (v := (Value.pointer (some ((Addr.mk b10 0 none).add 7)))) (w' := w2) (wantG rfl rfl rfl hc65) rfl rfl (x_fieldAddr rfl e3 FA_39_7) ?_
          obtain ⟨x66, q66, h⟩ := h
          refine wpR_val (v := (Value.bool x66)) (w' := w2) (wantG rfl rfl rfl hc65) rfl rfl (x_load1 rfl rfl SH_4 q66) ?_
          refine wpR_val (v := (Value.bool x66)) (w' := w2) (wantG rfl rfl rfl hc62) rfl rfl (x_pickF (v := (Value.bool x66)) rfl rfl hc65 rfl) ?_
          refine wpR_nil ?_
          exact ⟨x66, ⟨rfl, e2, e3, e5, rfl, trivial⟩, h, rfl⟩
      clear h
      rintro c67 ρ wj ⟨e86, e2, e3, e5, e79, -⟩ ⟨h, rfl⟩
      replace h := hk c67 h
      clear hk
      refine wpR_val (v := (Value.bool c67)) (w' := w2) rfl rfl rfl (x_pickT (v := (Value.bool c67)) rfl e79 hc62 e86) ?_
      refine wpR_nil ?_
      exact ⟨c67, ⟨rfl, e2, e3, e5, trivial⟩, h, rfl⟩
    · replace h := h.2 hc62
      refine wpR_pass (wantN rfl rfl rfl hc62) rfl rfl ?_
      refine wpR_pass (wantN rfl rfl rfl hc62) rfl rfl ?_
      refine wpR_pass (wantN rfl rfl rfl hc62) rfl rfl ?_
      refine wpR_pass (wantN rfl rfl rfl hc62) rfl rfl ?_
      refine wpR_pass (wantU rfl rfl rfl) rfl rfl ?_
      refine wpR_pass (wantU rfl rfl rfl) rfl rfl ?_
      refine wpR_pass (wantN rfl rfl rfl hc62) rfl rfl ?_
      refine wpR_val (v := (Value.bool false)) (w' := w2) rfl rfl rfl (x_pickF (v := (Value.bool false)) rfl rfl hc62 rfl) ?_
      refine wpR_nil ?_
      exact ⟨false, ⟨rfl, e2, e3, e5, trivial⟩, h, rfl⟩
  clear h
  rintro c68 ρ wj ⟨e87, e2, e3, e5, -⟩ ⟨h, rfl⟩
  replace h := hk c68 h
  clear hk
  refine wpR_val (v := (Value.bool c68)) (w' := w2) rfl rfl rfl (x_assign (v := (Value.bool c68)) rfl e87) ?_
  refine wpR_nil ?_
  refine wpC_seq ?_
  refine wpC_cut (fun ρ => ρ 2 = (Value.pointer (some (Addr.mk b9 0 none))) ∧ ρ 3 = (Value.pointer (some (Addr.mk b10 0 none))) ∧ ρ 5 = (Value.bool c47) ∧ ρ 6 = (Value.bool c68) ∧ True) ⟨e2, e3, e5, rfl, trivial⟩ ?_
  rintro ρ ⟨e2, e3, e5, e6, -⟩
  refine wpC_region ?_
  refine wpR_val (v := (Value.pointer (some ((Addr.mk b9 0 none).add 1)))) (w' := w2) rfl rfl rfl (x_fieldAddr rfl e2 FA_39_1) ?_
  obtain ⟨x69, q69, h⟩ := h
  refine wpR_val (v := (Value.int .i64 x69)) (w' := w2) rfl rfl rfl (x_load1 rfl rfl SH_3 q69) ?_
  refine wpR_val (v := (Value.bool (decide (x69 = 0)))) (w' := w2) rfl rfl rfl (x_eql rfl rfl rfl) ?_
  refine wpR_val (v := (Value.bool (decide (x69 = 0)))) (w' := w2) rfl rfl rfl (x_move (v := (Value.bool (decide (x69 = 0)))) rfl rfl) ?_
  obtain ⟨J70, h, hk⟩ := h
  refine wpR_joinJ 4 (fun x ρ => ρ 95 = Value.bool x ∧ ρ 2 = (Value.pointer (some (Addr.mk b9 0 none))) ∧ ρ 3 = (Value.pointer (some (Addr.mk b10 0 none))) ∧ ρ 5 = (Value.bool c47) ∧ ρ 6 = (Value.bool c68) ∧ True) (fun x w => J70 x ∧ w2 = w) ?_ ?_
  · clear hk
    rcases Bool.eq_false_or_eq_true (decide (x69 = 0)) with hc71 | hc71
    · replace h := h.1 hc71
      refine wpR_pass (wantN rfl rfl rfl hc71) rfl rfl ?_
      refine wpR_pass (wantN rfl rfl rfl hc71) rfl rfl ?_
      refine wpR_pass (wantN rfl rfl rfl hc71) rfl rfl ?_
      refine wpR_val (v := (Value.bool true)) (w' := w2) rfl rfl rfl (x_pickT (v := (Value.bool true)) rfl rfl hc71 rfl) ?_
      refine wpR_nil ?_
      exact ⟨true, ⟨rfl, e2, e3, e5, e6, trivial⟩, h, rfl⟩
    · replace h := h.2 hc71
      refine wpR_val (v := (Value.pointer (some ((Addr.mk b10 0 none).add 2)))) (w' := w2) (wantG rfl rfl rfl hc71) rfl rfl (x_fieldAddr rfl e3 FA_39_2) ?_
      obtain ⟨x72, q72, h⟩ := h
      refine wpR_val (v := (Value.int .i64 x72)) (w' := w2) (wantG rfl rfl rfl hc71) rfl rfl (x_load1 rfl rfl SH_3 q72) ?_
      refine wpR_val (v := (Value.bool (decide (x72 = 0)))) (w' := w2) (wantG rfl rfl rfl hc71) rfl rfl (x_eql rfl rfl rfl) ?_
      refine wpR_val (v := (Value.bool (decide (x72 = 0)))) (w' := w2) rfl rfl rfl (x_pickF (v := (Value.bool (decide (x72 = 0)))) rfl rfl hc71 rfl) ?_
      refine wpR_nil ?_
      exact ⟨decide (x72 = 0), ⟨rfl, e2, e3, e5, e6, trivial⟩, h, rfl⟩
  clear h
  rintro c73 ρ wj ⟨e95, e2, e3, e5, e6, -⟩ ⟨h, rfl⟩
  replace h := hk c73 h
  clear hk
  refine wpR_val (v := (Value.bool c73)) (w' := w2) rfl rfl rfl (x_move (v := (Value.bool c73)) rfl e95) ?_
  obtain ⟨J74, h, hk⟩ := h
  refine wpR_joinJ 11 (fun x ρ => ρ 107 = Value.bool x ∧ ρ 2 = (Value.pointer (some (Addr.mk b9 0 none))) ∧ ρ 3 = (Value.pointer (some (Addr.mk b10 0 none))) ∧ ρ 5 = (Value.bool c47) ∧ ρ 6 = (Value.bool c68) ∧ True) (fun x w => J74 x ∧ w2 = w) ?_ ?_
  · clear hk
    rcases Bool.eq_false_or_eq_true (c73) with hc75 | hc75
    · replace h := h.1 hc75
      refine wpR_pass (wantN rfl rfl rfl hc75) rfl rfl ?_
      refine wpR_pass (wantN rfl rfl rfl hc75) rfl rfl ?_
      refine wpR_pass (wantN rfl rfl rfl hc75) rfl rfl ?_
      refine wpR_pass (wantN rfl rfl rfl hc75) rfl rfl ?_
      refine wpR_pass (wantU rfl rfl rfl) rfl rfl ?_
      refine wpR_pass (wantU rfl rfl rfl) rfl rfl ?_
      refine wpR_pass (wantU rfl rfl rfl) rfl rfl ?_
      refine wpR_pass (wantU rfl rfl rfl) rfl rfl ?_
      refine wpR_pass (wantU rfl rfl rfl) rfl rfl ?_
      refine wpR_pass (wantN rfl rfl rfl hc75) rfl rfl ?_
      refine wpR_val (v := (Value.bool true)) (w' := w2) rfl rfl rfl (x_pickT (v := (Value.bool true)) rfl rfl hc75 rfl) ?_
      refine wpR_nil ?_
      exact ⟨true, ⟨rfl, e2, e3, e5, e6, trivial⟩, h, rfl⟩
    · replace h := h.2 hc75
      refine wpR_val (v := (Value.pointer (some ((Addr.mk b9 0 none).add 2)))) (w' := w2) (wantG rfl rfl rfl hc75) rfl rfl (x_fieldAddr rfl e2 FA_39_2) ?_
      obtain ⟨x76, q76, h⟩ := h
      refine wpR_val (v := (Value.int .i64 x76)) (w' := w2) (wantG rfl rfl rfl hc75) rfl rfl (x_load1 rfl rfl SH_3 q76) ?_
      refine wpR_val (v := (Value.bool (!decide (x76 = 0)))) (w' := w2) (wantG rfl rfl rfl hc75) rfl rfl (x_neq rfl rfl rfl) ?_
      refine wpR_val (v := (Value.bool (!decide (x76 = 0)))) (w' := w2) (wantG rfl rfl rfl hc75) rfl rfl (x_move (v := (Value.bool (!decide (x76 = 0)))) rfl rfl) ?_
      obtain ⟨J77, h, hk⟩ := h
      refine wpR_joinJ 6 (fun x ρ => ρ 106 = Value.bool x ∧ ρ 2 = (Value.pointer (some (Addr.mk b9 0 none))) ∧ ρ 3 = (Value.pointer (some (Addr.mk b10 0 none))) ∧ ρ 5 = (Value.bool c47) ∧ ρ 6 = (Value.bool c68) ∧ ρ 96 = (Value.bool c73) ∧ True) (fun x w => J77 x ∧ w2 = w) ?_ ?_
      · clear hk
        rcases Bool.eq_false_or_eq_true (!decide (x76 = 0)) with hc78 | hc78
        · replace h := h.1 hc78
          refine wpR_val (v := (Value.pointer (some ((Addr.mk b9 0 none).add 2)))) (w' := w2) (wantG rfl rfl rfl hc78) rfl rfl (x_fieldAddr rfl e2 FA_39_2) ?_
          obtain ⟨x79, q79, h⟩ := h
          refine wpR_val (v := (Value.int .i64 x79)) (w' := w2) (wantG rfl rfl rfl hc78) rfl rfl (x_load1 rfl rfl SH_3 q79) ?_
          refine wpR_val (v := (Value.pointer (some ((Addr.mk b10 0 none).add 2)))) (w' := w2) (wantG rfl rfl rfl hc78) rfl rfl (x_fieldAddr rfl e3 FA_39_2) ?_
          obtain ⟨x80, q80, h⟩ := h
          refine wpR_val (v := (Value.int .i64 x80)) (w' := w2) (wantG rfl rfl rfl hc78) rfl rfl (x_load1 rfl rfl SH_3 q80) ?_
          refine wpR_val (v := (Value.bool (decide (x79 ≤ x80)))) (w' := w2) (wantG rfl rfl rfl hc78) rfl rfl (x_leq rfl rfl rfl) ?_
          refine wpR_val (v := (Value.bool (decide (x79 ≤ x80)))) (w' := w2) (wantG rfl rfl rfl hc75) rfl rfl (x_pickT (v := (Value.bool (decide (x79 ≤ x80)))) rfl rfl hc78 rfl) ?_
          refine wpR_nil ?_
          exact ⟨decide (x79 ≤ x80), ⟨rfl, e2, e3, e5, e6, rfl, trivial⟩, h, rfl⟩
        · replace h := h.2 hc78
          refine wpR_pass (wantN rfl rfl rfl hc78) rfl rfl ?_
          refine wpR_pass (wantN rfl rfl rfl hc78) rfl rfl ?_
          refine wpR_pass (wantN rfl rfl rfl hc78) rfl rfl ?_
          refine wpR_pass (wantN rfl rfl rfl hc78) rfl rfl ?_
          refine wpR_pass (wantN rfl rfl rfl hc78) rfl rfl ?_
          refine wpR_val (v := (Value.bool false)) (w' := w2) (wantG rfl rfl rfl hc75) rfl rfl (x_pickF (v := (Value.bool false)) rfl rfl hc78 rfl) ?_
          refine wpR_nil ?_
          exact ⟨false, ⟨rfl, e2, e3, e5, e6, rfl, trivial⟩, h, rfl⟩
      clear h
      rintro c81 ρ wj ⟨e106, e2, e3, e5, e6, e96, -⟩ ⟨h, rfl⟩
      replace h := hk c81 h
      clear hk
      refine wpR_val (v := (Value.bool c81)) (w' := w2) rfl rfl rfl (x_pickF (v := (Value.bool c81)) rfl e96 hc75 e106) ?_
      refine wpR_nil ?_
      exact ⟨c81, ⟨rfl, e2, e3, e5, e6, trivial⟩, h, rfl⟩
  clear h
  rintro c82 ρ wj ⟨e107, e2, e3, e5, e6, -⟩ ⟨h, rfl⟩
  replace h := hk c82 h
  clear hk
  refine wpR_val (v := (Value.bool c82)) (w' := w2) rfl rfl rfl (x_assign (v := (Value.bool c82)) rfl e107) ?_
  refine wpR_nil ?_
  refine wpC_seq ?_
  refine wpC_cut (fun ρ => ρ 2 = (Value.pointer (some (Addr.mk b9 0 none))) ∧ ρ 3 = (Value.pointer (some (Addr.mk b10 0 none))) ∧ ρ 5 = (Value.bool c47) ∧ ρ 6 = (Value.bool c68) ∧ ρ 7 = (Value.bool c82) ∧ True) ⟨e2, e3, e5, e6, rfl, trivial⟩ ?_
  rintro ρ ⟨e2, e3, e5, e6, e7, -⟩
  refine wpC_region ?_
  refine wpR_val (v := (Value.func (.func 27) #[] (List.toArray [(Value.pointer (some (Addr.mk b10 0 none)))]))) (w' := w2) rfl rfl rfl (x_makeFunc (vs := [(Value.pointer (some (Addr.mk b10 0 none)))]) rfl (mapl_cons e3 mapl_nil)) ?_
  refine wpR_val (v := (Value.func (.func 27) #[] (List.toArray [(Value.pointer (some (Addr.mk b10 0 none)))]))) (w' := w2) rfl rfl rfl (x_assign (v := (Value.func (.func 27) #[] (List.toArray [(Value.pointer (some (Addr.mk b10 0 none)))]))) rfl rfl) ?_
  refine wpR_nil ?_
  refine wpC_seq ?_
  refine wpC_cut (fun ρ => ρ 2 = (Value.pointer (some (Addr.mk b9 0 none))) ∧ ρ 5 = (Value.bool c47) ∧ ρ 6 = (Value.bool c68) ∧ ρ 7 = (Value.bool c82) ∧ ρ 8 = (Value.func (.func 27) #[] (List.toArray [(Value.pointer (some (Addr.mk b10 0 none)))])) ∧ True) ⟨e2, e5, e6, e7, rfl, trivial⟩ ?_
  rintro ρ ⟨e2, e5, e6, e7, e8, -⟩
  refine wpC_region ?_
  refine wpR_val (v := (Value.bool c47)) (w' := w2) rfl rfl rfl (x_move (v := (Value.bool c47)) rfl e5) ?_
  refine wpR_val (v := (Value.bool c47)) (w' := w2) rfl rfl rfl (x_move (v := (Value.bool c47)) rfl rfl) ?_
  refine wpR_joinJ 2 (fun (_ : Unit) ρ => ρ 112 = Value.bool (c47 && c68) ∧ ρ 2 = (Value.pointer (some (Addr.mk b9 0 none))) ∧ ρ 7 = (Value.bool c82) ∧ ρ 8 = (Value.func (.func 27) #[] (List.toArray [(Value.pointer (some (Addr.mk b10 0 none)))])) ∧ True) (fun _ w => w2 = w) ?_ ?_
  · clear h
    rcases Bool.eq_false_or_eq_true (c47) with hc84 | hc84
    · skip
      refine wpR_val (v := (Value.bool c68)) (w' := w2) (wantG rfl rfl rfl hc84) rfl rfl (x_move (v := (Value.bool c68)) rfl e6) ?_
      refine wpR_val (v := (Value.bool c68)) (w' := w2) rfl rfl rfl (x_pickT (v := (Value.bool c68)) rfl rfl hc84 rfl) ?_
      refine wpR_nil ?_
      exact ⟨(), ⟨(by rw [hc84]; rfl), e2, e7, e8, trivial⟩, rfl⟩
    · skip
      refine wpR_pass (wantN rfl rfl rfl hc84) rfl rfl ?_
      refine wpR_val (v := (Value.bool false)) (w' := w2) rfl rfl rfl (x_pickF (v := (Value.bool false)) rfl rfl hc84 rfl) ?_
      refine wpR_nil ?_
      exact ⟨(), ⟨(by rw [hc84]; rfl), e2, e7, e8, trivial⟩, rfl⟩
  rintro _ ρ wj ⟨e112, e2, e7, e8, -⟩ rfl
  refine wpR_val (v := (Value.bool (c47 && c68))) (w' := w2) rfl rfl rfl (x_move (v := (Value.bool (c47 && c68))) rfl e112) ?_
  refine wpR_joinJ 2 (fun (_ : Unit) ρ => ρ 115 = Value.bool ((c47 && c68) && c82) ∧ ρ 2 = (Value.pointer (some (Addr.mk b9 0 none))) ∧ ρ 8 = (Value.func (.func 27) #[] (List.toArray [(Value.pointer (some (Addr.mk b10 0 none)))])) ∧ True) (fun _ w => w2 = w) ?_ ?_
  · clear h
    rcases Bool.eq_false_or_eq_true (c47 && c68) with hc86 | hc86
    · skip
      refine wpR_val (v := (Value.bool c82)) (w' := w2) (wantG rfl rfl rfl hc86) rfl rfl (x_move (v := (Value.bool c82)) rfl e7) ?_
      refine wpR_val (v := (Value.bool c82)) (w' := w2) rfl rfl rfl (x_pickT (v := (Value.bool c82)) rfl rfl hc86 rfl) ?_
      refine wpR_nil ?_
      exact ⟨(), ⟨(by rw [hc86]; rfl), e2, e8, trivial⟩, rfl⟩
    · skip
      refine wpR_pass (wantN rfl rfl rfl hc86) rfl rfl ?_
      refine wpR_val (v := (Value.bool false)) (w' := w2) rfl rfl rfl (x_pickF (v := (Value.bool false)) rfl rfl hc86 rfl) ?_
      refine wpR_nil ?_
      exact ⟨(), ⟨(by rw [hc86]; rfl), e2, e8, trivial⟩, rfl⟩
  rintro _ ρ wj ⟨e115, e2, e8, -⟩ rfl
  refine wpR_val (v := (Value.bool ((c47 && c68) && c82))) (w' := w2) rfl rfl rfl (x_move (v := (Value.bool ((c47 && c68) && c82))) rfl e115) ?_
  obtain ⟨J87, h, hk⟩ := h
  refine wpR_joinJ 6 (fun x ρ => ρ 122 = Value.bool x ∧ True) (J87) ?_ ?_
  · clear hk
    rcases Bool.eq_false_or_eq_true ((c47 && c68) && c82) with hc88 | hc88
    · replace h := h.1 hc88
      refine wpR_val (v := (Value.pointer (some ((Addr.mk b9 0 none).add 12)))) (w' := w2) (wantG rfl rfl rfl hc88) rfl rfl (x_fieldAddr rfl e2 FA_39_12) ?_
      obtain ⟨x89, q89, h⟩ := h
      refine wpR_val (v := (Sl.v x89)) (w' := w2) (wantG rfl rfl rfl hc88) rfl rfl (x_load1 rfl rfl SH_23 q89) ?_
      refine wpR_val (v := (Value.func (.func 27) #[] (List.toArray [(Value.pointer (some (Addr.mk b10 0 none)))]))) (w' := w2) (wantG rfl rfl rfl hc88) rfl rfl (x_move (v := (Value.func (.func 27) #[] (List.toArray [(Value.pointer (some (Addr.mk b10 0 none)))]))) rfl e8) ?_
      refine wpR_enter (wantG rfl rfl rfl hc88) rfl rfl (x_call (vs := [(Sl.v x89), (Value.func (.func 27) #[] (List.toArray [(Value.pointer (some (Addr.mk b10 0 none)))]))]) rfl rfl (mapl_cons rfl (mapl_cons rfl mapl_nil)) Try.func28 NN_28 NB_28) (Calls.mono h ?_)
      rintro _ w3 ⟨r90, rfl, h⟩
      refine ⟨_, rfl, ?_⟩
      refine wpR_val (v := (Value.bool (!r90))) (w' := w3) (wantG rfl rfl rfl hc88) rfl rfl (x_not rfl rfl) ?_
      refine wpR_val (v := (Value.bool (!r90))) (w' := w3) rfl rfl rfl (x_pickT (v := (Value.bool (!r90))) rfl rfl hc88 rfl) ?_
      refine wpR_nil ?_
      exact ⟨!r90, ⟨rfl, trivial⟩, h⟩
    · replace h := h.2 hc88
      refine wpR_pass (wantN rfl rfl rfl hc88) rfl rfl ?_
      refine wpR_pass (wantN rfl rfl rfl hc88) rfl rfl ?_
      refine wpR_pass (wantN rfl rfl rfl hc88) rfl rfl ?_
      refine wpR_pass (wantN rfl rfl rfl hc88) rfl rfl ?_
      refine wpR_pass (wantN rfl rfl rfl hc88) rfl rfl ?_
      refine wpR_val (v := (Value.bool false)) (w' := w2) rfl rfl rfl (x_pickF (v := (Value.bool false)) rfl rfl hc88 rfl) ?_
      refine wpR_nil ?_
      exact ⟨false, ⟨rfl, trivial⟩, h⟩
  clear h
  rintro c91 ρ w4 ⟨e122, -⟩ h
  replace h := hk c91 w4 h
  clear hk
  refine wpR_val (v := (Value.bool c91)) (w' := w4) rfl rfl rfl (x_assign (v := (Value.bool c91)) rfl e122) ?_
  refine wpR_nil ?_
  refine wpC_ret ?_
  exact ⟨.inl rfl, fun a ha => ⟨_, results_rep1 rfl ha rfl, c91, rfl, h⟩⟩

/-- lingualaw39.changes -/
def F20  (w0 : World) (K : Sl → World → Prop) : Prop :=
  nw 36 #[(Value.string (ByteArray.mk #[98, 109, 112])), (Value.string (ByteArray.mk #[112, 110, 103])), (Value.int .i64 1000), (Value.string (ByteArray.mk #[112, 110, 103])), (Value.string (ByteArray.mk #[106, 112, 103])), (Value.int .i64 100), (Value.string (ByteArray.mk #[98, 109, 112])), (Value.string (ByteArray.mk #[103, 105, 102])), (Value.int .i64 5000), (Value.string (ByteArray.mk #[103, 105, 102])), (Value.string (ByteArray.mk #[106, 112, 103])), (Value.int .i64 5000)] w0 fun b9 w1 =>
  K (⟨some ⟨b9, 0, none⟩, 4, 4⟩ : Sl) w1
set_option maxRecDepth 100000 in
theorem D20  (w0 : World) (K : Sl → World → Prop) (h : F20  w0 K) : callC Try.prog 20 #[] (fun (r : Sl) => (Sl.v r)) w0 K := by
  unfold F20 at h
  refine calls_of_wpC Try.func20 rfl 6 rfl (by simp) ?_
  intro ρ hρ
  clear hρ
  refine wpC_seq ?_
  refine wpC_region ?_
  refine wpR_val (v := (Sl.v Sl.nil)) (w' := w0) rfl rfl rfl (x_assign (v := (Sl.v Sl.nil)) rfl rfl) ?_
  refine wpR_nil ?_
  refine wpC_seq ?_
  refine wpC_cut (fun ρ => True) trivial ?_
  rintro ρ -
  refine wpC_region ?_
  refine wpR_val (v := (Value.agg #[(Value.string (ByteArray.mk #[98, 109, 112])), (Value.string (ByteArray.mk #[112, 110, 103])), (Value.int .i64 1000)])) (w' := w0) rfl rfl rfl (x_build (qs := [(0, (Value.string (ByteArray.mk #[98, 109, 112]))), (1, (Value.string (ByteArray.mk #[112, 110, 103]))), (2, (Value.int .i64 1000))]) rfl (by rfl) (BD_36_0_1_2 (ByteArray.mk #[98, 109, 112]) (ByteArray.mk #[112, 110, 103]) 1000 _)) ?_
  refine wpR_val (v := (Value.agg #[(Value.string (ByteArray.mk #[112, 110, 103])), (Value.string (ByteArray.mk #[106, 112, 103])), (Value.int .i64 100)])) (w' := w0) rfl rfl rfl (x_build (qs := [(0, (Value.string (ByteArray.mk #[112, 110, 103]))), (1, (Value.string (ByteArray.mk #[106, 112, 103]))), (2, (Value.int .i64 100))]) rfl (by rfl) (BD_36_0_1_2 (ByteArray.mk #[112, 110, 103]) (ByteArray.mk #[106, 112, 103]) 100 _)) ?_
  refine wpR_val (v := (Value.agg #[(Value.string (ByteArray.mk #[98, 109, 112])), (Value.string (ByteArray.mk #[103, 105, 102])), (Value.int .i64 5000)])) (w' := w0) rfl rfl rfl (x_build (qs := [(0, (Value.string (ByteArray.mk #[98, 109, 112]))), (1, (Value.string (ByteArray.mk #[103, 105, 102]))), (2, (Value.int .i64 5000))]) rfl (by rfl) (BD_36_0_1_2 (ByteArray.mk #[98, 109, 112]) (ByteArray.mk #[103, 105, 102]) 5000 _)) ?_
  refine wpR_val (v := (Value.agg #[(Value.string (ByteArray.mk #[103, 105, 102])), (Value.string (ByteArray.mk #[106, 112, 103])), (Value.int .i64 5000)])) (w' := w0) rfl rfl rfl (x_build (qs := [(0, (Value.string (ByteArray.mk #[103, 105, 102]))), (1, (Value.string (ByteArray.mk #[106, 112, 103]))), (2, (Value.int .i64 5000))]) rfl (by rfl) (BD_36_0_1_2 (ByteArray.mk #[103, 105, 102]) (ByteArray.mk #[106, 112, 103]) 5000 _)) ?_
  obtain ⟨b9, hb9⟩ : ∃ u, u = w0.heap.size := ⟨_, rfl⟩
  obtain ⟨w1, hw9⟩ : ∃ u, u = w0.alloc (.cells #[(Value.string (ByteArray.mk #[98, 109, 112])), (Value.string (ByteArray.mk #[112, 110, 103])), (Value.int .i64 1000), (Value.string (ByteArray.mk #[112, 110, 103])), (Value.string (ByteArray.mk #[106, 112, 103])), (Value.int .i64 100), (Value.string (ByteArray.mk #[98, 109, 112])), (Value.string (ByteArray.mk #[103, 105, 102])), (Value.int .i64 5000), (Value.string (ByteArray.mk #[103, 105, 102])), (Value.string (ByteArray.mk #[106, 112, 103])), (Value.int .i64 5000)] 36) := ⟨_, rfl⟩
  replace h := h b9 w1 hb9 hw9
  refine wpR_val (v := (Sl.v (⟨some ⟨b9, 0, none⟩, 4, 4⟩ : Sl))) (w' := w1) rfl rfl rfl ((x_buildSlice (qs := [(0, (Value.agg #[(Value.string (ByteArray.mk #[98, 109, 112])), (Value.string (ByteArray.mk #[112, 110, 103])), (Value.int .i64 1000)])), (1, (Value.agg #[(Value.string (ByteArray.mk #[112, 110, 103])), (Value.string (ByteArray.mk #[106, 112, 103])), (Value.int .i64 100)])), (2, (Value.agg #[(Value.string (ByteArray.mk #[98, 109, 112])), (Value.string (ByteArray.mk #[103, 105, 102])), (Value.int .i64 5000)])), (3, (Value.agg #[(Value.string (ByteArray.mk #[103, 105, 102])), (Value.string (ByteArray.mk #[106, 112, 103])), (Value.int .i64 5000)]))]) rfl (by rfl) (BS_22_4_0_1_2_3 (ByteArray.mk #[98, 109, 112]) (ByteArray.mk #[112, 110, 103]) 1000 (ByteArray.mk #[112, 110, 103]) (ByteArray.mk #[106, 112, 103]) 100 (ByteArray.mk #[98, 109, 112]) (ByteArray.mk #[103, 105, 102]) 5000 (ByteArray.mk #[103, 105, 102]) (ByteArray.mk #[106, 112, 103]) 5000)).trans (by rw [← hb9, ← hw9])) ?_
  refine wpR_val (v := (Sl.v (⟨some ⟨b9, 0, none⟩, 4, 4⟩ : Sl))) (w' := w1) rfl rfl rfl (x_assign (v := (Sl.v (⟨some ⟨b9, 0, none⟩, 4, 4⟩ : Sl))) rfl rfl) ?_
  refine wpR_nil ?_
  refine wpC_ret ?_
  exact ⟨.inl rfl, fun a ha => ⟨_, results_rep1 rfl ha rfl, (⟨some ⟨b9, 0, none⟩, 4, 4⟩ : Sl), rfl, h⟩⟩

/-- slices.Contains[[]string,string] -/
def F21 (p0 : Sl) (p1 : ByteArray) (w0 : World) (K : Bool → World → Prop) : Prop :=
  callC Try.prog 29 #[(Sl.v p0), (Value.string p1)] (fun (r : Int) => (Value.int .i64 r)) w0 fun r9 w1 =>
  K (decide (0 ≤ r9)) w1
set_option maxRecDepth 100000 in
theorem D21 (p0 : Sl) (p1 : ByteArray) (w0 : World) (K : Bool → World → Prop) (h : F21 p0 p1 w0 K) : callC Try.prog 21 #[(Sl.v p0), (Value.string p1)] (fun (r : Bool) => (Value.bool r)) w0 K := by
  unfold F21 at h
  refine calls_of_wpC Try.func21 rfl 9 rfl (by simp) ?_
  intro ρ hρ
  have e0 : ρ 0 = (Sl.v p0) := hρ 0
  have e1 : ρ 1 = (Value.string p1) := hρ 1
  clear hρ
  refine wpC_seq ?_
  refine wpC_region ?_
  refine wpR_val (v := (Value.bool false)) (w' := w0) rfl rfl rfl (x_assign (v := (Value.bool false)) rfl rfl) ?_
  refine wpR_nil ?_
  refine wpC_seq ?_
  refine wpC_cut (fun ρ => ρ 0 = (Sl.v p0) ∧ ρ 1 = (Value.string p1) ∧ True) ⟨e0, e1, trivial⟩ ?_
  rintro ρ ⟨e0, e1, -⟩
  refine wpC_region ?_
  refine wpR_val (v := (Sl.v p0)) (w' := w0) rfl rfl rfl (x_move (v := (Sl.v p0)) rfl e0) ?_
  refine wpR_val (v := (Value.string p1)) (w' := w0) rfl rfl rfl (x_move (v := (Value.string p1)) rfl e1) ?_
  refine wpR_enter rfl rfl rfl (x_call (vs := [(Sl.v p0), (Value.string p1)]) rfl rfl (mapl_cons rfl (mapl_cons rfl mapl_nil)) Try.func29 NN_29 NB_29) (Calls.mono h ?_)
  rintro _ w1 ⟨r9, rfl, h⟩
  refine ⟨_, rfl, ?_⟩
  refine wpR_val (v := (Value.bool (decide (0 ≤ r9)))) (w' := w1) rfl rfl rfl (x_geq rfl rfl rfl) ?_
  refine wpR_val (v := (Value.bool (decide (0 ≤ r9)))) (w' := w1) rfl rfl rfl (x_assign (v := (Value.bool (decide (0 ≤ r9)))) rfl rfl) ?_
  refine wpR_nil ?_
  refine wpC_ret ?_
  exact ⟨.inl rfl, fun a ha => ⟨_, results_rep1 rfl ha rfl, decide (0 ≤ r9), rfl, h⟩⟩

/-- slices.Clone[[]int,int] -/
def F22 (p0 : Sl) (w0 : World) (K : Sl → World → Prop) : Prop :=
  cnd (p0.a.isNone)
    (
    K Sl.nil w0
    )
    (
    nw 3 #[] w0 fun b10 w1 =>
    rn Try.prog (Builtin.append_ #[24, 24] 24 #[Sl.v (⟨some ⟨b10, 0, none⟩, 0, 0⟩ : Sl), Sl.v p0]) Sl.v w1 fun r11 w2 =>
    K r11 w2
    )
set_option maxRecDepth 100000 in
theorem D22 (p0 : Sl) (w0 : World) (K : Sl → World → Prop) (h : F22 p0 w0 K) : callC Try.prog 22 #[(Sl.v p0)] (fun (r : Sl) => (Sl.v r)) w0 K := by
  unfold F22 at h
  refine calls_of_wpC Try.func22 rfl 8 rfl (by simp) ?_
  intro ρ hρ
  have e0 : ρ 0 = (Sl.v p0) := hρ 0
  clear hρ
  refine wpC_seq ?_
  refine wpC_region ?_
  refine wpR_val (v := (Sl.v Sl.nil)) (w' := w0) rfl rfl rfl (x_assign (v := (Sl.v Sl.nil)) rfl rfl) ?_
  refine wpR_nil ?_
  refine wpC_seq ?_
  refine wpC_seq ?_
  refine wpC_cut (fun ρ => ρ 0 = (Sl.v p0) ∧ True) ⟨e0, trivial⟩ ?_
  rintro ρ ⟨e0, -⟩
  refine wpC_region ?_
  refine wpR_val (v := (Sl.v p0)) (w' := w0) rfl rfl rfl (x_move (v := (Sl.v p0)) rfl e0) ?_
  refine wpR_val (v := (Value.bool p0.a.isNone)) (w' := w0) rfl rfl rfl (x_eqlNilS (s := p0) rfl rfl rfl isSliceT_24) ?_
  refine wpR_nil ?_
  refine wpC_cond (b := p0.a.isNone) rfl (fun hc9 => ?_) (fun hc9 => ?_)
  · replace h := h.1 hc9
    refine wpC_seq ?_
    refine wpC_cut (fun ρ => True) trivial ?_
    rintro ρ -
    refine wpC_region ?_
    refine wpR_val (v := (Sl.v Sl.nil)) (w' := w0) rfl rfl rfl (x_assign (v := (Sl.v Sl.nil)) rfl rfl) ?_
    refine wpR_nil ?_
    refine wpC_ret ?_
    exact ⟨.inl rfl, fun a ha => ⟨_, results_rep1 rfl ha rfl, Sl.nil, rfl, h⟩⟩
  · replace h := h.2 hc9
    refine wpC_skip ?_
    refine wpC_seq ?_
    refine wpC_cut (fun ρ => ρ 0 = (Sl.v p0) ∧ True) ⟨e0, trivial⟩ ?_
    rintro ρ ⟨e0, -⟩
    refine wpC_region ?_
    obtain ⟨b10, hb10⟩ : ∃ u, u = w0.heap.size := ⟨_, rfl⟩
    obtain ⟨w1, hw10⟩ : ∃ u, u = w0.alloc (.cells #[] 3) := ⟨_, rfl⟩
    replace h := h b10 w1 hb10 hw10
    refine wpR_val (v := (Sl.v (⟨some ⟨b10, 0, none⟩, 0, 0⟩ : Sl))) (w' := w1) rfl rfl rfl ((x_buildSlice (qs := []) rfl (by rfl) (BS_24_0_ )).trans (by rw [← hb10, ← hw10])) ?_
    refine wpR_val (v := (Sl.v p0)) (w' := w1) rfl rfl rfl (x_move (v := (Sl.v p0)) rfl e0) ?_
    obtain ⟨r11, w2, q11, h⟩ := h
    refine wpR_val (v := (Sl.v r11)) (w' := w2) rfl rfl rfl (x_append (s := (⟨some ⟨b10, 0, none⟩, 0, 0⟩ : Sl)) (u := p0) rfl rfl rfl rfl q11) ?_
    refine wpR_val (v := (Sl.v r11)) (w' := w2) rfl rfl rfl (x_assign (v := (Sl.v r11)) rfl rfl) ?_
    refine wpR_nil ?_
    refine wpC_ret ?_
    exact ⟨.inl rfl, fun a ha => ⟨_, results_rep1 rfl ha rfl, r11, rfl, h⟩⟩

/-- linguaref39.near -/
def F23 (p0 : Sl) (p1 : ByteArray) (p2 : Sl) (p3 : Int) (p4 : Int) (w0 : World) (K : Int → World → Prop) : Prop :=
  callC Try.prog 12 #[(Sl.v p2), (Value.string p1)] (fun (r : Bool) => (Value.bool r)) w0 fun r9 w1 =>
  cnd (r9)
    (
    K 0 w1
    )
    (
    nw 9 #[(Value.string p1)] w1 fun b11 w2 =>
    nw 9 #[(Value.string p1)] w2 fun b12 w3 =>
    lp (fun (next13 : (Int × Sl × Sl × Int) → World → Prop) l13 w4 =>
      cnd ((decide (l13.2.2.2 ≤ p4)) && (decide (l13.1 < 0)))
        (
        lp (fun (next17 : (Int × Sl × Sl × Int) → World → Prop) l17 w5 =>
          cnd (decide (l17.2.2.2 < (p0.len : Int)))
            (
            jn (fun (J19 : (Int × Sl × Sl) → World → Prop) =>
              ix p0 l17.2.2.2 3 fun p21 =>
              ld Value.string (p21.add 0) w5 fun x22 =>
              ld Value.string (p21.add 1) w5 fun x23 =>
              ld (Value.int .i64) (p21.add 2) w5 fun x24 =>
              nw 36 #[(Value.string (ByteArray.mk #[])), (Value.string (ByteArray.mk #[])), (Value.int .i64 0)] w5 fun b25 w7 =>
              st (Addr.mk b25 0 none) [(Value.string x22), (Value.string x23), (Value.int .i64 x24)] w7 fun w8 =>
              ld (Value.int .i64) ((Addr.mk b25 0 none).add 2) w8 fun x27 =>
              jn (fun J28 => cnd (decide (x27 < p3))
                (
                J28 true w8
                )
                (
                ld Value.string ((Addr.mk b25 0 none).add 0) w8 fun x30 =>
                callC Try.prog 12 #[(Sl.v l13.2.2.1), (Value.string x30)] (fun (r : Bool) => (Value.bool r)) w8 fun r31 w9 =>
                J28 (!r31) w9
                ))
              fun c32 w10 =>
              jn (fun J33 => cnd (c32)
                (
                J33 true w10
                )
                (
                ld Value.string ((Addr.mk b25 0 none).add 1) w10 fun x35 =>
                callC Try.prog 12 #[(Sl.v l17.2.1), (Value.string x35)] (fun (r : Bool) => (Value.bool r)) w10 fun r36 w11 =>
                J33 r36 w11
                ))
              fun c37 w12 =>
              cnd (c37)
                (
                J19 (l17.1, l17.2.1, l17.2.2.1) w12
                )
                (
                ld Value.string ((Addr.mk b25 0 none).add 1) w12 fun x39 =>
                nw 9 #[(Value.string x39)] w12 fun b40 w13 =>
                rn Try.prog (Builtin.append_ #[23, 23] 23 #[Sl.v l17.2.1, Sl.v (⟨some ⟨b40, 0, none⟩, 1, 1⟩ : Sl)]) Sl.v w13 fun r41 w14 =>
                ld Value.string ((Addr.mk b25 0 none).add 1) w14 fun x42 =>
                nw 9 #[(Value.string x42)] w14 fun b43 w15 =>
                rn Try.prog (Builtin.append_ #[23, 23] 23 #[Sl.v l17.2.2.1, Sl.v (⟨some ⟨b43, 0, none⟩, 1, 1⟩ : Sl)]) Sl.v w15 fun r44 w16 =>
                ld Value.string ((Addr.mk b25 0 none).add 1) w16 fun x45 =>
                callC Try.prog 12 #[(Sl.v p2), (Value.string x45)] (fun (r : Bool) => (Value.bool r)) w16 fun r46 w17 =>
                cnd (r46)
                  (
                  J19 (l13.2.2.2, r41, r44) w17
                  )
                  (
                  J19 (l17.1, r41, r44) w17
                  )
                )
            )
            fun l20 w6 =>
            next17 (l20.1, l20.2.1, l20.2.2, IntKind.i64.wrap (l17.2.2.2 + 1)) w6
            )
            (
            next13 (l17.1, l17.2.1, l17.2.2.1, IntKind.i64.wrap (l13.2.2.2 + 1)) w5
            )
        ) (l13.1, l13.2.1, Sl.nil, 0) w4
        )
        (
        K l13.1 w4
        )
    ) ((-1), (⟨some ⟨b11, 0, none⟩, 1, 1⟩ : Sl), (⟨some ⟨b12, 0, none⟩, 1, 1⟩ : Sl), 1) w3
    )
set_option maxRecDepth 100000 in
theorem D23 (p0 : Sl) (p1 : ByteArray) (p2 : Sl) (p3 : Int) (p4 : Int) (w0 : World) (K : Int → World → Prop) (h : F23 p0 p1 p2 p3 p4 w0 K) : callC Try.prog 23 #[(Sl.v p0), (Value.string p1), (Sl.v p2), (Value.int .i64 p3), (Value.int .i64 p4)] (fun (r : Int) => (Value.int .i64 r)) w0 K := by
  unfold F23 at h
  refine calls_of_wpC Try.func23 rfl 78 rfl (by simp) ?_
  intro ρ hρ
  have e0 : ρ 0 = (Sl.v p0) := hρ 0
  have e1 : ρ 1 = (Value.string p1) := hρ 1
  have e2 : ρ 2 = (Sl.v p2) := hρ 2
  have e3 : ρ 3 = (Value.int .i64 p3) := hρ 3
  have e4 : ρ 4 = (Value.int .i64 p4) := hρ 4
  clear hρ
  refine wpC_seq ?_
  refine wpC_region ?_
  refine wpR_val (v := (Value.int .i64 0)) (w' := w0) rfl rfl rfl (x_assign (v := (Value.int .i64 0)) rfl rfl) ?_
  refine wpR_nil ?_
  refine wpC_seq ?_
  refine wpC_seq ?_
  refine wpC_cut (fun ρ => ρ 0 = (Sl.v p0) ∧ ρ 1 = (Value.string p1) ∧ ρ 2 = (Sl.v p2) ∧ ρ 3 = (Value.int .i64 p3) ∧ ρ 4 = (Value.int .i64 p4) ∧ True) ⟨e0, e1, e2, e3, e4, trivial⟩ ?_
  rintro ρ ⟨e0, e1, e2, e3, e4, -⟩
  refine wpC_region ?_
  refine wpR_val (v := (Sl.v p2)) (w' := w0) rfl rfl rfl (x_move (v := (Sl.v p2)) rfl e2) ?_
  refine wpR_val (v := (Value.string p1)) (w' := w0) rfl rfl rfl (x_move (v := (Value.string p1)) rfl e1) ?_
  refine wpR_enter rfl rfl rfl (x_call (vs := [(Sl.v p2), (Value.string p1)]) rfl rfl (mapl_cons rfl (mapl_cons rfl mapl_nil)) Try.func12 NN_12 NB_12) (Calls.mono h ?_)
  rintro _ w1 ⟨r9, rfl, h⟩
  refine ⟨_, rfl, ?_⟩
  refine wpR_nil ?_
  refine wpC_cond (b := r9) rfl (fun hc10 => ?_) (fun hc10 => ?_)
  · replace h := h.1 hc10
    refine wpC_seq ?_
    refine wpC_cut (fun ρ => True) trivial ?_
    rintro ρ -
    refine wpC_region ?_
    refine wpR_val (v := (Value.int .i64 0)) (w' := w1) rfl rfl rfl (x_assign (v := (Value.int .i64 0)) rfl rfl) ?_
    refine wpR_nil ?_
    refine wpC_ret ?_
    exact ⟨.inl rfl, fun a ha => ⟨_, results_rep1 rfl ha rfl, 0, rfl, h⟩⟩
  · replace h := h.2 hc10
    refine wpC_skip ?_
    refine wpC_seq ?_
    refine wpC_cut (fun ρ => ρ 0 = (Sl.v p0) ∧ ρ 1 = (Value.string p1) ∧ ρ 2 = (Sl.v p2) ∧ ρ 3 = (Value.int .i64 p3) ∧ ρ 4 = (Value.int .i64 p4) ∧ True) ⟨e0, e1, e2, e3, e4, trivial⟩ ?_
    rintro ρ ⟨e0, e1, e2, e3, e4, -⟩
    refine wpC_region ?_
    refine wpR_val (v := (Value.int .i64 (-1))) (w' := w1) rfl rfl rfl (x_assign (v := (Value.int .i64 (-1))) rfl rfl) ?_
    refine wpR_nil ?_
    refine wpC_seq ?_
    refine wpC_cut (fun ρ => ρ 0 = (Sl.v p0) ∧ ρ 1 = (Value.string p1) ∧ ρ 2 = (Sl.v p2) ∧ ρ 3 = (Value.int .i64 p3) ∧ ρ 4 = (Value.int .i64 p4) ∧ ρ 11 = (Value.int .i64 (-1)) ∧ True) ⟨e0, e1, e2, e3, e4, rfl, trivial⟩ ?_
    rintro ρ ⟨e0, e1, e2, e3, e4, e11, -⟩
    refine wpC_region ?_
    refine wpR_val (v := (Value.string p1)) (w' := w1) rfl rfl rfl (x_move (v := (Value.string p1)) rfl e1) ?_
    obtain ⟨b11, hb11⟩ : ∃ u, u = w1.heap.size := ⟨_, rfl⟩
    obtain ⟨w2, hw11⟩ : ∃ u, u = w1.alloc (.cells #[(Value.string p1)] 9) := ⟨_, rfl⟩
    replace h := h b11 w2 hb11 hw11
    refine wpR_val (v := (Sl.v (⟨some ⟨b11, 0, none⟩, 1, 1⟩ : Sl))) (w' := w2) rfl rfl rfl ((x_buildSlice (qs := [(0, (Value.string p1))]) rfl (by rfl) (BS_23_1_0 p1)).trans (by rw [← hb11, ← hw11])) ?_
    refine wpR_val (v := (Sl.v (⟨some ⟨b11, 0, none⟩, 1, 1⟩ : Sl))) (w' := w2) rfl rfl rfl (x_assign (v := (Sl.v (⟨some ⟨b11, 0, none⟩, 1, 1⟩ : Sl))) rfl rfl) ?_
    refine wpR_nil ?_
    refine wpC_seq ?_
    refine wpC_cut (fun ρ => ρ 0 = (Sl.v p0) ∧ ρ 1 = (Value.string p1) ∧ ρ 2 = (Sl.v p2) ∧ ρ 3 = (Value.int .i64 p3) ∧ ρ 4 = (Value.int .i64 p4) ∧ ρ 11 = (Value.int .i64 (-1)) ∧ ρ 12 = (Sl.v (⟨some ⟨b11, 0, none⟩, 1, 1⟩ : Sl)) ∧ True) ⟨e0, e1, e2, e3, e4, e11, rfl, trivial⟩ ?_
    rintro ρ ⟨e0, e1, e2, e3, e4, e11, e12, -⟩
    refine wpC_region ?_
    refine wpR_val (v := (Value.string p1)) (w' := w2) rfl rfl rfl (x_move (v := (Value.string p1)) rfl e1) ?_
    obtain ⟨b12, hb12⟩ : ∃ u, u = w2.heap.size := ⟨_, rfl⟩
    obtain ⟨w3, hw12⟩ : ∃ u, u = w2.alloc (.cells #[(Value.string p1)] 9) := ⟨_, rfl⟩
    replace h := h b12 w3 hb12 hw12
    refine wpR_val (v := (Sl.v (⟨some ⟨b12, 0, none⟩, 1, 1⟩ : Sl))) (w' := w3) rfl rfl rfl ((x_buildSlice (qs := [(0, (Value.string p1))]) rfl (by rfl) (BS_23_1_0 p1)).trans (by rw [← hb12, ← hw12])) ?_
    refine wpR_val (v := (Sl.v (⟨some ⟨b12, 0, none⟩, 1, 1⟩ : Sl))) (w' := w3) rfl rfl rfl (x_assign (v := (Sl.v (⟨some ⟨b12, 0, none⟩, 1, 1⟩ : Sl))) rfl rfl) ?_
    refine wpR_nil ?_
    refine wpC_seq ?_
    refine wpC_seq ?_
    refine wpC_cut (fun ρ => ρ 0 = (Sl.v p0) ∧ ρ 2 = (Sl.v p2) ∧ ρ 3 = (Value.int .i64 p3) ∧ ρ 4 = (Value.int .i64 p4) ∧ ρ 11 = (Value.int .i64 (-1)) ∧ ρ 12 = (Sl.v (⟨some ⟨b11, 0, none⟩, 1, 1⟩ : Sl)) ∧ ρ 13 = (Sl.v (⟨some ⟨b12, 0, none⟩, 1, 1⟩ : Sl)) ∧ True) ⟨e0, e2, e3, e4, e11, e12, rfl, trivial⟩ ?_
    rintro ρ ⟨e0, e2, e3, e4, e11, e12, e13, -⟩
    refine wpC_region ?_
    refine wpR_val (v := (Value.int .i64 1)) (w' := w3) rfl rfl rfl (x_assign (v := (Value.int .i64 1)) rfl rfl) ?_
    refine wpR_nil ?_
    refine wpC_block ?_
    obtain ⟨I13, μ13, hI13, hr13⟩ := h
    refine wpC_loop (fun (x : Int × Sl × Sl × Int) ρ => ρ 11 = (Value.int .i64 x.1) ∧ ρ 12 = (Sl.v x.2.1) ∧ ρ 13 = (Sl.v x.2.2.1) ∧ ρ 14 = (Value.int .i64 x.2.2.2) ∧ ρ 0 = (Sl.v p0) ∧ ρ 2 = (Sl.v p2) ∧ ρ 3 = (Value.int .i64 p3) ∧ ρ 4 = (Value.int .i64 p4) ∧ True) I13 μ13 ((-1), (⟨some ⟨b11, 0, none⟩, 1, 1⟩ : Sl), (⟨some ⟨b12, 0, none⟩, 1, 1⟩ : Sl), 1) ⟨e11, e12, e13, rfl, e0, e2, e3, e4, trivial⟩ hI13 ?_
    rintro l13 ρ w4 ⟨e11, e12, e13, e14, e0, e2, e3, e4, -⟩ h
    replace h := hr13 l13 w4 h
    clear hr13 hI13
    refine wpC_seq ?_
    refine wpC_seq ?_
    refine wpC_region ?_
    refine wpR_val (v := (Value.int .i64 l13.2.2.2)) (w' := w4) rfl rfl rfl (x_move (v := (Value.int .i64 l13.2.2.2)) rfl e14) ?_
    refine wpR_val (v := (Value.int .i64 p4)) (w' := w4) rfl rfl rfl (x_move (v := (Value.int .i64 p4)) rfl e4) ?_
    refine wpR_val (v := (Value.bool (decide (l13.2.2.2 ≤ p4)))) (w' := w4) rfl rfl rfl (x_leq rfl rfl rfl) ?_
    refine wpR_val (v := (Value.bool (decide (l13.2.2.2 ≤ p4)))) (w' := w4) rfl rfl rfl (x_move (v := (Value.bool (decide (l13.2.2.2 ≤ p4)))) rfl rfl) ?_
    refine wpR_joinJ 3 (fun (_ : Unit) ρ => ρ 31 = Value.bool ((decide (l13.2.2.2 ≤ p4)) && (decide (l13.1 < 0))) ∧ ρ 0 = (Sl.v p0) ∧ ρ 2 = (Sl.v p2) ∧ ρ 3 = (Value.int .i64 p3) ∧ ρ 4 = (Value.int .i64 p4) ∧ ρ 11 = (Value.int .i64 l13.1) ∧ ρ 12 = (Sl.v l13.2.1) ∧ ρ 13 = (Sl.v l13.2.2.1) ∧ ρ 14 = (Value.int .i64 l13.2.2.2) ∧ True) (fun _ w => w4 = w) ?_ ?_
    · clear h
      rcases Bool.eq_false_or_eq_true (decide (l13.2.2.2 ≤ p4)) with hc15 | hc15
      · skip
        refine wpR_val (v := (Value.int .i64 l13.1)) (w' := w4) (wantG rfl rfl rfl hc15) rfl rfl (x_move (v := (Value.int .i64 l13.1)) rfl e11) ?_
        refine wpR_val (v := (Value.bool (decide (l13.1 < 0)))) (w' := w4) (wantG rfl rfl rfl hc15) rfl rfl (x_lss rfl rfl rfl) ?_
        refine wpR_val (v := (Value.bool (decide (l13.1 < 0)))) (w' := w4) rfl rfl rfl (x_pickT (v := (Value.bool (decide (l13.1 < 0)))) rfl rfl hc15 rfl) ?_
        refine wpR_nil ?_
        exact ⟨(), ⟨(by rw [hc15]; rfl), e0, e2, e3, e4, e11, e12, e13, e14, trivial⟩, rfl⟩
      · skip
        refine wpR_pass (wantN rfl rfl rfl hc15) rfl rfl ?_
        refine wpR_pass (wantN rfl rfl rfl hc15) rfl rfl ?_
        refine wpR_val (v := (Value.bool false)) (w' := w4) rfl rfl rfl (x_pickF (v := (Value.bool false)) rfl rfl hc15 rfl) ?_
        refine wpR_nil ?_
        exact ⟨(), ⟨(by rw [hc15]; rfl), e0, e2, e3, e4, e11, e12, e13, e14, trivial⟩, rfl⟩
    rintro _ ρ wj ⟨e31, e0, e2, e3, e4, e11, e12, e13, e14, -⟩ rfl
    refine wpR_nil ?_
    refine wpC_cond (b := (decide (l13.2.2.2 ≤ p4)) && (decide (l13.1 < 0))) e31 (fun hc16 => ?_) (fun hc16 => ?_)
    · replace h := h.1 hc16
      refine wpC_skip ?_
      refine wpC_seq ?_
      refine wpC_block ?_
      refine wpC_seq ?_
      refine wpC_region ?_
      refine wpR_val (v := (Sl.v Sl.nil)) (w' := w4) rfl rfl rfl (x_assign (v := (Sl.v Sl.nil)) rfl rfl) ?_
      refine wpR_nil ?_
      refine wpC_seq ?_
      refine wpC_seq ?_
      refine wpC_cut (fun ρ => ρ 0 = (Sl.v p0) ∧ ρ 2 = (Sl.v p2) ∧ ρ 3 = (Value.int .i64 p3) ∧ ρ 4 = (Value.int .i64 p4) ∧ ρ 11 = (Value.int .i64 l13.1) ∧ ρ 12 = (Sl.v l13.2.1) ∧ ρ 13 = (Sl.v l13.2.2.1) ∧ ρ 14 = (Value.int .i64 l13.2.2.2) ∧ ρ 15 = (Sl.v Sl.nil) ∧ True) ⟨e0, e2, e3, e4, e11, e12, e13, e14, rfl, trivial⟩ ?_
      rintro ρ ⟨e0, e2, e3, e4, e11, e12, e13, e14, e15, -⟩
      refine wpC_region ?_
      refine wpR_val (v := (Value.int .i64 0)) (w' := w4) rfl rfl rfl (x_assign (v := (Value.int .i64 0)) rfl rfl) ?_
      refine wpR_nil ?_
      refine wpC_block ?_
      obtain ⟨I17, μ17, hI17, hr17⟩ := h
      refine wpC_loop (fun (x : Int × Sl × Sl × Int) ρ => ρ 11 = (Value.int .i64 x.1) ∧ ρ 12 = (Sl.v x.2.1) ∧ ρ 15 = (Sl.v x.2.2.1) ∧ ρ 16 = (Value.int .i64 x.2.2.2) ∧ ρ 0 = (Sl.v p0) ∧ ρ 2 = (Sl.v p2) ∧ ρ 3 = (Value.int .i64 p3) ∧ ρ 4 = (Value.int .i64 p4) ∧ ρ 13 = (Sl.v l13.2.2.1) ∧ ρ 14 = (Value.int .i64 l13.2.2.2) ∧ True) I17 μ17 (l13.1, l13.2.1, Sl.nil, 0) ⟨e11, e12, e15, rfl, e0, e2, e3, e4, e13, e14, trivial⟩ hI17 ?_
      rintro l17 ρ w5 ⟨e11, e12, e15, e16, e0, e2, e3, e4, e13, e14, -⟩ h
      replace h := hr17 l17 w5 h
      clear hr17 hI17
      refine wpC_seq ?_
      refine wpC_seq ?_
      refine wpC_region ?_
      refine wpR_val (v := (Value.int .i64 l17.2.2.2)) (w' := w5) rfl rfl rfl (x_move (v := (Value.int .i64 l17.2.2.2)) rfl e16) ?_
      refine wpR_val (v := (Sl.v p0)) (w' := w5) rfl rfl rfl (x_move (v := (Sl.v p0)) rfl e0) ?_
      refine wpR_val (v := (Value.int .i64 (p0.len : Int))) (w' := w5) rfl rfl rfl (x_lenS (s := p0) rfl rfl isSliceT_22) ?_
      refine wpR_val (v := (Value.bool (decide (l17.2.2.2 < (p0.len : Int))))) (w' := w5) rfl rfl rfl (x_lss rfl rfl rfl) ?_
      refine wpR_nil ?_
      refine wpC_cond (b := decide (l17.2.2.2 < (p0.len : Int))) rfl (fun hc18 => ?_) (fun hc18 => ?_)
      · replace h := h.1 hc18
        refine wpC_skip ?_
        obtain ⟨J19, h, hk⟩ := h
        refine wpC_seqJ (fun (x : Int × Sl × Sl) ρ => ρ 11 = (Value.int .i64 x.1) ∧ ρ 12 = (Sl.v x.2.1) ∧ ρ 15 = (Sl.v x.2.2) ∧ ρ 0 = (Sl.v p0) ∧ ρ 2 = (Sl.v p2) ∧ ρ 3 = (Value.int .i64 p3) ∧ ρ 4 = (Value.int .i64 p4) ∧ ρ 13 = (Sl.v l13.2.2.1) ∧ ρ 14 = (Value.int .i64 l13.2.2.2) ∧ ρ 16 = (Value.int .i64 l17.2.2.2) ∧ True) J19 ?_ ?_
        · clear hk
          refine wpC_block ?_
          refine wpC_seq ?_
          refine wpC_cut (fun ρ => ρ 0 = (Sl.v p0) ∧ ρ 2 = (Sl.v p2) ∧ ρ 3 = (Value.int .i64 p3) ∧ ρ 4 = (Value.int .i64 p4) ∧ ρ 11 = (Value.int .i64 l17.1) ∧ ρ 12 = (Sl.v l17.2.1) ∧ ρ 13 = (Sl.v l13.2.2.1) ∧ ρ 14 = (Value.int .i64 l13.2.2.2) ∧ ρ 15 = (Sl.v l17.2.2.1) ∧ ρ 16 = (Value.int .i64 l17.2.2.2) ∧ True) ⟨e0, e2, e3, e4, e11, e12, e13, e14, e15, e16, trivial⟩ ?_
          rintro ρ ⟨e0, e2, e3, e4, e11, e12, e13, e14, e15, e16, -⟩
          refine wpC_region ?_
          refine wpR_val (v := (Sl.v p0)) (w' := w5) rfl rfl rfl (x_move (v := (Sl.v p0)) rfl e0) ?_
          refine wpR_val (v := (Value.int .i64 l17.2.2.2)) (w' := w5) rfl rfl rfl (x_move (v := (Value.int .i64 l17.2.2.2)) rfl e16) ?_
          obtain ⟨q21, z21, r21, h⟩ := h
          generalize hp21 : z21.add ((l17.2.2.2 : Int).toNat * 3) = p21 at h
          refine wpR_val (v := (Value.pointer (some p21))) (w' := w5) rfl rfl rfl ((x_indexAddr (s := p0) rfl rfl rfl ES_22 q21 r21).trans (by rw [hp21])) ?_
          obtain ⟨x22, q22, x23, q23, x24, q24, h⟩ := h
          refine wpR_val (v := (Value.agg #[(Value.string x22), (Value.string x23), (Value.int .i64 x24)])) (w' := w5) rfl rfl rfl (x_loadN [(Value.string x22), (Value.string x23), (Value.int .i64 x24)] rfl rfl SH_36 (CellsAt.out (CellsAt.cons q22 (CellsAt.cons q23 (CellsAt.cons q24 CellsAt.nil))))) ?_
          obtain ⟨b25, hb25⟩ : ∃ u, u = w5.heap.size := ⟨_, rfl⟩
          obtain ⟨w7, hw25⟩ : ∃ u, u = w5.alloc (.cells #[(Value.string (ByteArray.mk #[])), (Value.string (ByteArray.mk #[])), (Value.int .i64 0)] 36) := ⟨_, rfl⟩
          replace h := h b25 w7 hb25 hw25
          refine wpR_val (v := (Value.pointer (some (Addr.mk b25 0 none)))) (w' := w7) rfl rfl rfl ((x_alloc rfl ZV_36).trans (by rw [hb25, hw25]; rfl)) ?_
          obtain ⟨q26, h⟩ := h
          obtain ⟨w8, hw26⟩ : ∃ u, u = setAll w7 (Addr.mk b25 0 none) [(Value.string x22), (Value.string x23), (Value.int .i64 x24)] 0 := ⟨_, rfl⟩
          replace h := h w8 hw26
          refine wpR_skp (w' := w8) rfl rfl ((x_store (v := (Value.agg #[(Value.string x22), (Value.string x23), (Value.int .i64 x24)])) rfl rfl rfl SZ_36 (ones (by rfl)) q26).trans (by rw [hw26]; rfl)) ?_
          refine wpR_nil ?_
          refine wpC_seq ?_
          refine wpC_seq ?_
          refine wpC_cut (fun ρ => ρ 0 = (Sl.v p0) ∧ ρ 2 = (Sl.v p2) ∧ ρ 3 = (Value.int .i64 p3) ∧ ρ 4 = (Value.int .i64 p4) ∧ ρ 11 = (Value.int .i64 l17.1) ∧ ρ 12 = (Sl.v l17.2.1) ∧ ρ 13 = (Sl.v l13.2.2.1) ∧ ρ 14 = (Value.int .i64 l13.2.2.2) ∧ ρ 15 = (Sl.v l17.2.2.1) ∧ ρ 16 = (Value.int .i64 l17.2.2.2) ∧ ρ 17 = (Value.pointer (some (Addr.mk b25 0 none))) ∧ True) ⟨e0, e2, e3, e4, e11, e12, e13, e14, e15, e16, rfl, trivial⟩ ?_
          rintro ρ ⟨e0, e2, e3, e4, e11, e12, e13, e14, e15, e16, e17, -⟩
          refine wpC_region ?_
          refine wpR_val (v := (Value.int .i64 p3)) (w' := w8) rfl rfl rfl (x_move (v := (Value.int .i64 p3)) rfl e3) ?_
          refine wpR_val (v := (Value.pointer (some ((Addr.mk b25 0 none).add 2)))) (w' := w8) rfl rfl rfl (x_fieldAddr rfl e17 FA_36_2) ?_
          obtain ⟨x27, q27, h⟩ := h
          refine wpR_val (v := (Value.int .i64 x27)) (w' := w8) rfl rfl rfl (x_load1 rfl rfl SH_3 q27) ?_
          refine wpR_val (v := (Value.bool (decide (x27 < p3)))) (w' := w8) rfl rfl rfl (x_gtr rfl rfl rfl) ?_
          refine wpR_val (v := (Value.bool (decide (x27 < p3)))) (w' := w8) rfl rfl rfl (x_move (v := (Value.bool (decide (x27 < p3)))) rfl rfl) ?_
          obtain ⟨J28, h, hk⟩ := h
          refine wpR_joinJ 6 (fun x ρ => ρ 54 = Value.bool x ∧ ρ 0 = (Sl.v p0) ∧ ρ 2 = (Sl.v p2) ∧ ρ 3 = (Value.int .i64 p3) ∧ ρ 4 = (Value.int .i64 p4) ∧ ρ 11 = (Value.int .i64 l17.1) ∧ ρ 12 = (Sl.v l17.2.1) ∧ ρ 13 = (Sl.v l13.2.2.1) ∧ ρ 14 = (Value.int .i64 l13.2.2.2) ∧ ρ 15 = (Sl.v l17.2.2.1) ∧ ρ 16 = (Value.int .i64 l17.2.2.2) ∧ ρ 17 = (Value.pointer (some (Addr.mk b25 0 none))) ∧ True) (J28) ?_ ?_
          · clear hk
            rcases Bool.eq_false_or_eq_true (decide (x27 < p3)) with hc29 | hc29
            · replace h := h.1 hc29
              refine wpR_pass (wantN rfl rfl rfl hc29) rfl rfl ?_
              refine wpR_pass (wantN rfl rfl rfl hc29) rfl rfl ?_
              refine wpR_pass (wantN rfl rfl rfl hc29) rfl rfl ?_
              refine wpR_pass (wantN rfl rfl rfl hc29) rfl rfl ?_
              refine wpR_pass (wantN rfl rfl rfl hc29) rfl rfl ?_
              refine wpR_val (v := (Value.bool true)) (w' := w8) rfl rfl rfl (x_pickT (v := (Value.bool true)) rfl rfl hc29 rfl) ?_
              refine wpR_nil ?_
              exact ⟨true, ⟨rfl, e0, e2, e3, e4, e11, e12, e13, e14, e15, e16, e17, trivial⟩, h⟩
            · replace h := h.2 hc29
              refine wpR_val (v := (Sl.v l13.2.2.1)) (w' := w8) (wantG rfl rfl rfl hc29) rfl rfl (x_move (v := (Sl.v l13.2.2.1)) rfl e13) ?_
              refine wpR_val (v := (Value.pointer (some ((Addr.mk b25 0 none).add 0)))) (w' := w8) (wantG rfl rfl rfl hc29) rfl rfl (x_fieldAddr rfl e17 FA_36_0) ?_
              obtain ⟨x30, q30, h⟩ := h
              refine wpR_val (v := (Value.string x30)) (w' := w8) (wantG rfl rfl rfl hc29) rfl rfl (x_load1 rfl rfl SH_9 q30) ?_
              refine wpR_enter (wantG rfl rfl rfl hc29) rfl rfl (x_call (vs := [(Sl.v l13.2.2.1), (Value.string x30)]) rfl rfl (mapl_cons rfl (mapl_cons rfl mapl_nil)) Try.func12 NN_12 NB_12) (Calls.mono h ?_)
              rintro _ w9 ⟨r31, rfl, h⟩
              refine ⟨_, rfl, ?_⟩
              refine wpR_val (v := (Value.bool (!r31))) (w' := w9) (wantG rfl rfl rfl hc29) rfl rfl (x_not rfl rfl) ?_
              refine wpR_val (v := (Value.bool (!r31))) (w' := w9) rfl rfl rfl (x_pickF (v := (Value.bool (!r31))) rfl rfl hc29 rfl) ?_
              refine wpR_nil ?_
              exact ⟨!r31, ⟨rfl, e0, e2, e3, e4, e11, e12, e13, e14, e15, e16, e17, trivial⟩, h⟩
          clear h
          rintro c32 ρ w10 ⟨e54, e0, e2, e3, e4, e11, e12, e13, e14, e15, e16, e17, -⟩ h
          replace h := hk c32 w10 h
          clear hk
          refine wpR_val (v := (Value.bool c32)) (w' := w10) rfl rfl rfl (x_move (v := (Value.bool c32)) rfl e54) ?_
          obtain ⟨J33, h, hk⟩ := h
          refine wpR_joinJ 5 (fun x ρ => ρ 60 = Value.bool x ∧ ρ 0 = (Sl.v p0) ∧ ρ 2 = (Sl.v p2) ∧ ρ 3 = (Value.int .i64 p3) ∧ ρ 4 = (Value.int .i64 p4) ∧ ρ 11 = (Value.int .i64 l17.1) ∧ ρ 12 = (Sl.v l17.2.1) ∧ ρ 13 = (Sl.v l13.2.2.1) ∧ ρ 14 = (Value.int .i64 l13.2.2.2) ∧ ρ 15 = (Sl.v l17.2.2.1) ∧ ρ 16 = (Value.int .i64 l17.2.2.2) ∧ ρ 17 = (Value.pointer (some (Addr.mk b25 0 none))) ∧ True) (J33) ?_ ?_
          · clear hk
            rcases Bool.eq_false_or_eq_true (c32) with hc34 | hc34
            · replace h := h.1 hc34
              refine wpR_pass (wantN rfl rfl rfl hc34) rfl rfl ?_
              refine wpR_pass (wantN rfl rfl rfl hc34) rfl rfl ?_
              refine wpR_pass (wantN rfl rfl rfl hc34) rfl rfl ?_
              refine wpR_pass (wantN rfl rfl rfl hc34) rfl rfl ?_
              refine wpR_val (v := (Value.bool true)) (w' := w10) rfl rfl rfl (x_pickT (v := (Value.bool true)) rfl rfl hc34 rfl) ?_
              refine wpR_nil ?_
              exact ⟨true, ⟨rfl, e0, e2, e3, e4, e11, e12, e13, e14, e15, e16, e17, trivial⟩, h⟩
            · replace h := h.2 hc34
              refine wpR_val (v := (Sl.v l17.2.1)) (w' := w10) (wantG rfl rfl rfl hc34) rfl rfl (x_move (v := (Sl.v l17.2.1)) rfl e12) ?_
              refine wpR_val (v := (Value.pointer (some ((Addr.mk b25 0 none).add 1)))) (w' := w10) (wantG rfl rfl rfl hc34) rfl rfl (x_fieldAddr rfl e17 FA_36_1) ?_
              obtain ⟨x35, q35, h⟩ := h
              refine wpR_val (v := (Value.string x35)) (w' := w10) (wantG rfl rfl rfl hc34) rfl rfl (x_load1 rfl rfl SH_9 q35) ?_
              refine wpR_enter (wantG rfl rfl rfl hc34) rfl rfl (x_call (vs := [(Sl.v l17.2.1), (Value.string x35)]) rfl rfl (mapl_cons rfl (mapl_cons rfl mapl_nil)) Try.func12 NN_12 NB_12) (Calls.mono h ?_)
              rintro _ w11 ⟨r36, rfl, h⟩
              refine ⟨_, rfl, ?_⟩
              refine wpR_val (v := (Value.bool r36)) (w' := w11) rfl rfl rfl (x_pickF (v := (Value.bool r36)) rfl rfl hc34 rfl) ?_
              refine wpR_nil ?_
              exact ⟨r36, ⟨rfl, e0, e2, e3, e4, e11, e12, e13, e14, e15, e16, e17, trivial⟩, h⟩
          clear h
          rintro c37 ρ w12 ⟨e60, e0, e2, e3, e4, e11, e12, e13, e14, e15, e16, e17, -⟩ h
          replace h := hk c37 w12 h
          clear hk
          refine wpR_nil ?_
          refine wpC_cond (b := c37) e60 (fun hc38 => ?_) (fun hc38 => ?_)
          · replace h := h.1 hc38
            refine wpC_exit ?_
            exact ⟨(l17.1, l17.2.1, l17.2.2.1), ⟨e11, e12, e15, e0, e2, e3, e4, e13, e14, e16, trivial⟩, h⟩
          · replace h := h.2 hc38
            refine wpC_skip ?_
            refine wpC_seq ?_
            refine wpC_region ?_
            refine wpR_val (v := (Sl.v l17.2.1)) (w' := w12) rfl rfl rfl (x_move (v := (Sl.v l17.2.1)) rfl e12) ?_
            refine wpR_val (v := (Value.pointer (some ((Addr.mk b25 0 none).add 1)))) (w' := w12) rfl rfl rfl (x_fieldAddr rfl e17 FA_36_1) ?_
            obtain ⟨x39, q39, h⟩ := h
            refine wpR_val (v := (Value.string x39)) (w' := w12) rfl rfl rfl (x_load1 rfl rfl SH_9 q39) ?_
            obtain ⟨b40, hb40⟩ : ∃ u, u = w12.heap.size := ⟨_, rfl⟩
            obtain ⟨w13, hw40⟩ : ∃ u, u = w12.alloc (.cells #[(Value.string x39)] 9) := ⟨_, rfl⟩
            replace h := h b40 w13 hb40 hw40
            refine wpR_val (v := (Sl.v (⟨some ⟨b40, 0, none⟩, 1, 1⟩ : Sl))) (w' := w13) rfl rfl rfl ((x_buildSlice (qs := [(0, (Value.string x39))]) rfl (by rfl) (BS_23_1_0 x39)).trans (by rw [← hb40, ← hw40])) ?_
            obtain ⟨r41, w14, q41, h⟩ := h
            refine wpR_val (v := (Sl.v r41)) (w' := w14) rfl rfl rfl (x_append (s := l17.2.1) (u := (⟨some ⟨b40, 0, none⟩, 1, 1⟩ : Sl)) rfl rfl rfl rfl q41) ?_
            refine wpR_val (v := (Sl.v r41)) (w' := w14) rfl rfl rfl (x_assign (v := (Sl.v r41)) rfl rfl) ?_
            refine wpR_nil ?_
            refine wpC_seq ?_
            refine wpC_cut (fun ρ => ρ 0 = (Sl.v p0) ∧ ρ 2 = (Sl.v p2) ∧ ρ 3 = (Value.int .i64 p3) ∧ ρ 4 = (Value.int .i64 p4) ∧ ρ 11 = (Value.int .i64 l17.1) ∧ ρ 12 = (Sl.v r41) ∧ ρ 13 = (Sl.v l13.2.2.1) ∧ ρ 14 = (Value.int .i64 l13.2.2.2) ∧ ρ 15 = (Sl.v l17.2.2.1) ∧ ρ 16 = (Value.int .i64 l17.2.2.2) ∧ ρ 17 = (Value.pointer (some (Addr.mk b25 0 none))) ∧ True) ⟨e0, e2, e3, e4, e11, rfl, e13, e14, e15, e16, e17, trivial⟩ ?_
            rintro ρ ⟨e0, e2, e3, e4, e11, e12, e13, e14, e15, e16, e17, -⟩
            refine wpC_region ?_
            refine wpR_val (v := (Sl.v l17.2.2.1)) (w' := w14) rfl rfl rfl (x_move (v := (Sl.v l17.2.2.1)) rfl e15) ?_
            refine wpR_val (v := (Value.pointer (some ((Addr.mk b25 0 none).add 1)))) (w' := w14) rfl rfl rfl (x_fieldAddr rfl e17 FA_36_1) ?_
            obtain ⟨x42, q42, h⟩ := h
            refine wpR_val (v := (Value.string x42)) (w' := w14) rfl rfl rfl (x_load1 rfl rfl SH_9 q42) ?_
            obtain ⟨b43, hb43⟩ : ∃ u, u = w14.heap.size := ⟨_, rfl⟩
            obtain ⟨w15, hw43⟩ : ∃ u, u = w14.alloc (.cells #[(Value.string x42)] 9) := ⟨_, rfl⟩
            replace h := h b43 w15 hb43 hw43
            refine wpR_val (v := (Sl.v (⟨some ⟨b43, 0, none⟩, 1, 1⟩ : Sl))) (w' := w15) rfl rfl rfl ((x_buildSlice (qs := [(0, (Value.string x42))]) rfl (by rfl) (BS_23_1_0 x42)).trans (by rw [← hb43, ← hw43])) ?_
            obtain ⟨r44, w16, q44, h⟩ := h
            refine wpR_val (v := (Sl.v r44)) (w' := w16) rfl rfl rfl (x_append (s := l17.2.2.1) (u := (⟨some ⟨b43, 0, none⟩, 1, 1⟩ : Sl)) rfl rfl rfl rfl q44) ?_
            refine wpR_val (v := (Sl.v r44)) (w' := w16) rfl rfl rfl (x_assign (v := (Sl.v r44)) rfl rfl) ?_
            refine wpR_nil ?_
            refine wpC_seq ?_
            refine wpC_cut (fun ρ => ρ 0 = (Sl.v p0) ∧ ρ 2 = (Sl.v p2) ∧ ρ 3 = (Value.int .i64 p3) ∧ ρ 4 = (Value.int .i64 p4) ∧ ρ 11 = (Value.int .i64 l17.1) ∧ ρ 12 = (Sl.v r41) ∧ ρ 13 = (Sl.v l13.2.2.1) ∧ ρ 14 = (Value.int .i64 l13.2.2.2) ∧ ρ 15 = (Sl.v r44) ∧ ρ 16 = (Value.int .i64 l17.2.2.2) ∧ ρ 17 = (Value.pointer (some (Addr.mk b25 0 none))) ∧ True) ⟨e0, e2, e3, e4, e11, e12, e13, e14, rfl, e16, e17, trivial⟩ ?_
            rintro ρ ⟨e0, e2, e3, e4, e11, e12, e13, e14, e15, e16, e17, -⟩
            refine wpC_region ?_
            refine wpR_val (v := (Sl.v p2)) (w' := w16) rfl rfl rfl (x_move (v := (Sl.v p2)) rfl e2) ?_
            refine wpR_val (v := (Value.pointer (some ((Addr.mk b25 0 none).add 1)))) (w' := w16) rfl rfl rfl (x_fieldAddr rfl e17 FA_36_1) ?_
            obtain ⟨x45, q45, h⟩ := h
            refine wpR_val (v := (Value.string x45)) (w' := w16) rfl rfl rfl (x_load1 rfl rfl SH_9 q45) ?_
            refine wpR_enter rfl rfl rfl (x_call (vs := [(Sl.v p2), (Value.string x45)]) rfl rfl (mapl_cons rfl (mapl_cons rfl mapl_nil)) Try.func12 NN_12 NB_12) (Calls.mono h ?_)
            rintro _ w17 ⟨r46, rfl, h⟩
            refine ⟨_, rfl, ?_⟩
            refine wpR_nil ?_
            refine wpC_cond (b := r46) rfl (fun hc47 => ?_) (fun hc47 => ?_)
            · replace h := h.1 hc47
              refine wpC_cut (fun ρ => ρ 0 = (Sl.v p0) ∧ ρ 2 = (Sl.v p2) ∧ ρ 3 = (Value.int .i64 p3) ∧ ρ 4 = (Value.int .i64 p4) ∧ ρ 12 = (Sl.v r41) ∧ ρ 13 = (Sl.v l13.2.2.1) ∧ ρ 14 = (Value.int .i64 l13.2.2.2) ∧ ρ 15 = (Sl.v r44) ∧ ρ 16 = (Value.int .i64 l17.2.2.2) ∧ True) ⟨e0, e2, e3, e4, e12, e13, e14, e15, e16, trivial⟩ ?_
              rintro ρ ⟨e0, e2, e3, e4, e12, e13, e14, e15, e16, -⟩
              refine wpC_region ?_
              refine wpR_val (v := (Value.int .i64 l13.2.2.2)) (w' := w17) rfl rfl rfl (x_move (v := (Value.int .i64 l13.2.2.2)) rfl e14) ?_
              refine wpR_val (v := (Value.int .i64 l13.2.2.2)) (w' := w17) rfl rfl rfl (x_assign (v := (Value.int .i64 l13.2.2.2)) rfl rfl) ?_
              refine wpR_nil ?_
              exact ⟨(l13.2.2.2, r41, r44), ⟨rfl, e12, e15, e0, e2, e3, e4, e13, e14, e16, trivial⟩, h⟩
            · replace h := h.2 hc47
              refine wpC_skip ?_
              exact ⟨(l17.1, r41, r44), ⟨e11, e12, e15, e0, e2, e3, e4, e13, e14, e16, trivial⟩, h⟩
        clear h
        rintro l20 ρ w6 ⟨e11, e12, e15, e0, e2, e3, e4, e13, e14, e16, -⟩ h
        replace h := hk l20 w6 h
        clear hk
        refine wpC_region ?_
        refine wpR_val (v := (Value.int .i64 l17.2.2.2)) (w' := w6) rfl rfl rfl (x_move (v := (Value.int .i64 l17.2.2.2)) rfl e16) ?_
        refine wpR_val (v := (Value.int .i64 (IntKind.i64.wrap (l17.2.2.2 + 1)))) (w' := w6) rfl rfl rfl (x_add rfl rfl rfl) ?_
        refine wpR_val (v := (Value.int .i64 (IntKind.i64.wrap (l17.2.2.2 + 1)))) (w' := w6) rfl rfl rfl (x_assign (v := (Value.int .i64 (IntKind.i64.wrap (l17.2.2.2 + 1)))) rfl rfl) ?_
        refine wpR_nil ?_
        exact ⟨(l20.1, l20.2.1, l20.2.2, IntKind.i64.wrap (l17.2.2.2 + 1)), ⟨e11, e12, e15, rfl, e0, e2, e3, e4, e13, e14, trivial⟩, h⟩
      · replace h := h.2 hc18
        refine wpC_exit ?_
        refine wpC_cut (fun ρ => ρ 0 = (Sl.v p0) ∧ ρ 2 = (Sl.v p2) ∧ ρ 3 = (Value.int .i64 p3) ∧ ρ 4 = (Value.int .i64 p4) ∧ ρ 11 = (Value.int .i64 l17.1) ∧ ρ 12 = (Sl.v l17.2.1) ∧ ρ 14 = (Value.int .i64 l13.2.2.2) ∧ ρ 15 = (Sl.v l17.2.2.1) ∧ True) ⟨e0, e2, e3, e4, e11, e12, e14, e15, trivial⟩ ?_
        rintro ρ ⟨e0, e2, e3, e4, e11, e12, e14, e15, -⟩
        refine wpC_region ?_
        refine wpR_val (v := (Sl.v l17.2.2.1)) (w' := w5) rfl rfl rfl (x_move (v := (Sl.v l17.2.2.1)) rfl e15) ?_
        refine wpR_val (v := (Sl.v l17.2.2.1)) (w' := w5) rfl rfl rfl (x_assign (v := (Sl.v l17.2.2.1)) rfl rfl) ?_
        refine wpR_nil ?_
        refine wpC_cut (fun ρ => ρ 0 = (Sl.v p0) ∧ ρ 2 = (Sl.v p2) ∧ ρ 3 = (Value.int .i64 p3) ∧ ρ 4 = (Value.int .i64 p4) ∧ ρ 11 = (Value.int .i64 l17.1) ∧ ρ 12 = (Sl.v l17.2.1) ∧ ρ 13 = (Sl.v l17.2.2.1) ∧ ρ 14 = (Value.int .i64 l13.2.2.2) ∧ True) ⟨e0, e2, e3, e4, e11, e12, rfl, e14, trivial⟩ ?_
        rintro ρ ⟨e0, e2, e3, e4, e11, e12, e13, e14, -⟩
        refine wpC_region ?_
        refine wpR_val (v := (Value.int .i64 l13.2.2.2)) (w' := w5) rfl rfl rfl (x_move (v := (Value.int .i64 l13.2.2.2)) rfl e14) ?_
        refine wpR_val (v := (Value.int .i64 (IntKind.i64.wrap (l13.2.2.2 + 1)))) (w' := w5) rfl rfl rfl (x_add rfl rfl rfl) ?_
        refine wpR_val (v := (Value.int .i64 (IntKind.i64.wrap (l13.2.2.2 + 1)))) (w' := w5) rfl rfl rfl (x_assign (v := (Value.int .i64 (IntKind.i64.wrap (l13.2.2.2 + 1)))) rfl rfl) ?_
        refine wpR_nil ?_
        exact ⟨(l17.1, l17.2.1, l17.2.2.1, IntKind.i64.wrap (l13.2.2.2 + 1)), ⟨e11, e12, e13, rfl, e0, e2, e3, e4, trivial⟩, h⟩
    · replace h := h.2 hc16
      refine wpC_exit ?_
      refine wpC_seq ?_
      refine wpC_region ?_
      refine wpR_val (v := (Value.int .i64 l13.1)) (w' := w4) rfl rfl rfl (x_move (v := (Value.int .i64 l13.1)) rfl e11) ?_
      refine wpR_val (v := (Value.int .i64 l13.1)) (w' := w4) rfl rfl rfl (x_assign (v := (Value.int .i64 l13.1)) rfl rfl) ?_
      refine wpR_nil ?_
      refine wpC_ret ?_
      exact ⟨.inl rfl, fun a ha => ⟨_, results_rep1 rfl ha rfl, l13.1, rfl, h⟩⟩


end Go.Proofs.Ytkacfhhpmpmhkaa
