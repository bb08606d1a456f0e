import Derived.Test.YthnebjgmhdilbaaRows
import Derived.Test.YthnebjgmhdilbaaFs1
import Derived.Test.YthnebjgmhdilbaaDecRaw
namespace Go.Proofs.Ythnebjgmhdilbaa
open Go.Dec
set_option maxHeartbeats 400000

/-- linguaref36.Pairs -/
def F10 (p0 : Sl) (p1 : Sl) (p2 : Int) (w0 : World) (K : Sl → World → Prop) : Prop :=
  lp (fun (next1 : (Sl × Int) → World → Prop) l1 w1 =>
    cnd (decide (l1.2 < (p1.len : Int)))
      (
      lp (fun (next3 : (Int × Int) → World → Prop) l3 w2 =>
        cnd (decide (l3.2 < (p0.len : Int)))
          (
          jn (fun (J5 : Int → World → Prop) =>
            jn (fun (J8 : Bool → World → Prop) => tk w2 fun w4 =>
              ix p0 l3.2 5 fun p9 =>
              ld (Value.int .i64) (p9.add 0) w4 fun x10 =>
              ld (Value.int .i64) (p9.add 1) w4 fun x11 =>
              ld (Value.int .i64) (p9.add 2) w4 fun x12 =>
              ld (Value.int .i64) (p9.add 3) w4 fun x13 =>
              ld (Value.int .i64) (p9.add 4) w4 fun x14 =>
              ix p1 l1.2 5 fun p15 =>
              ld (Value.int .i64) (p15.add 0) w4 fun x16 =>
              ld (Value.int .i64) (p15.add 1) w4 fun x17 =>
              ld (Value.int .i64) (p15.add 2) w4 fun x18 =>
              ld (Value.int .i64) (p15.add 3) w4 fun x19 =>
              ld (Value.int .i64) (p15.add 4) w4 fun x20 =>
              callC Try.prog 21 #[(Value.agg #[(Value.int .i64 x10), (Value.int .i64 x11), (Value.int .i64 x12), (Value.int .i64 x13), (Value.int .i64 x14)]), (Value.agg #[(Value.int .i64 x16), (Value.int .i64 x17), (Value.int .i64 x18), (Value.int .i64 x19), (Value.int .i64 x20)]), (Value.int .i64 p2)] (fun (r : Bool) => (Value.bool r)) w4 fun r21 w5 =>
              J8 r21 w5
            )
            fun l22 w6 =>
            lp (fun (next23 : (Bool × Int) → World → Prop) l23 w7 =>
              cnd (decide (l23.2 < l1.2))
                (
                jn (fun (J26 : Bool → World → Prop) => tk w7 fun w8 =>
                  cnd (l23.1)
                    (
                    ix l1.1 l23.2 1 fun p28 =>
                    ld (Value.int .i64) p28 w8 fun x29 =>
                    cnd (!decide (x29 = l3.2))
                      (
                      J26 true w8
                      )
                      (
                      ix p1 l23.2 5 fun p31 =>
                      ld (Value.int .i64) (p31.add 0) w8 fun x32 =>
                      ix p1 l1.2 5 fun p33 =>
                      ld (Value.int .i64) (p33.add 0) w8 fun x34 =>
                      callC Try.prog 22 #[(Value.int .i64 x32)] (fun (r : Int) => (Value.int .i64 r)) w8 fun r35 w9 =>
                      (w9.cell? (p33.add 0) = some (Value.int .i64 x34)) ∧
                      (w9.cell? p28 = some (Value.int .i64 x29)) ∧
                      callC Try.prog 22 #[(Value.int .i64 x34)] (fun (r : Int) => (Value.int .i64 r)) w9 fun r36 w10 =>
                      (w10.cell? p28 = some (Value.int .i64 x29)) ∧
                      J26 (!decide (r35 = r36)) w10
                      )
                    )
                    (
                    J26 false w8
                    )
                )
                fun l37 w11 =>
                next23 (l37, IntKind.i64.wrap (l23.2 + 1)) w11
                )
                (
                cnd (l23.1)
                  (
                  J5 l3.2 w7
                  )
                  (
                  J5 l3.1 w7
                  )
                )
            ) (l22, 0) w6
          )
          fun l6 w3 =>
          next3 (l6, IntKind.i64.wrap (l3.2 + 1)) w3
          )
          (
          nw 3 #[(Value.int .i64 l3.1)] w2 fun b39 w12 =>
          rn Try.prog (Builtin.append_ #[25, 25] 25 #[Sl.v l1.1, Sl.v (⟨some ⟨b39, 0, none⟩, 1, 1⟩ : Sl)]) Sl.v w12 fun r40 w13 =>
          next1 (r40, IntKind.i64.wrap (l1.2 + 1)) w13
          )
      ) ((-1), 0) w1
      )
      (
      K l1.1 w1
      )
  ) (Sl.nil, 0) w0
set_option maxRecDepth 100000 in
theorem D10 (p0 : Sl) (p1 : Sl) (p2 : Int) (w0 : World) (K : Sl → World → Prop) (h : F10 p0 p1 p2 w0 K) : callC Try.prog 10 #[(Sl.v p0), (Sl.v p1), (Value.int .i64 p2)] (fun (r : Sl) => (Sl.v r)) w0 K := by
  unfold F10 at h
  refine calls_of_wpC Try.func10 rfl 71 rfl (by simp) ?_
  intro ρ hρ
  have e0 : ρ 0 = (Sl.v p0) := hρ 0
  have e1 : ρ 1 = (Sl.v p1) := hρ 1
  have e2 : ρ 2 = (Value.int .i64 p2) := hρ 2
  clear hρ
  refine wpC_seq ?_
  refine wpC_region ?_
  refine wpR_val (v := (Sl.v Sl.nil)) (w' := w0) rfl rfl rfl (x_assign (v := (Sl.v Sl.nil)) rfl rfl) ?_
  refine wpR_nil ?_
  refine wpC_seq ?_
  refine wpC_cut (fun ρ => ρ 0 = (Sl.v p0) ∧ ρ 1 = (Sl.v p1) ∧ ρ 2 = (Value.int .i64 p2) ∧ True) ⟨e0, e1, e2, trivial⟩ ?_
  rintro ρ ⟨e0, e1, e2, -⟩
  refine wpC_region ?_
  refine wpR_val (v := (Sl.v Sl.nil)) (w' := w0) rfl rfl rfl (x_assign (v := (Sl.v Sl.nil)) rfl rfl) ?_
  refine wpR_nil ?_
  refine wpC_seq ?_
  refine wpC_seq ?_
  refine wpC_cut (fun ρ => ρ 0 = (Sl.v p0) ∧ ρ 1 = (Sl.v p1) ∧ ρ 2 = (Value.int .i64 p2) ∧ ρ 7 = (Sl.v Sl.nil) ∧ True) ⟨e0, e1, e2, rfl, trivial⟩ ?_
  rintro ρ ⟨e0, e1, e2, e7, -⟩
  refine wpC_region ?_
  refine wpR_val (v := (Value.int .i64 0)) (w' := w0) rfl rfl rfl (x_assign (v := (Value.int .i64 0)) rfl rfl) ?_
  refine wpR_nil ?_
  refine wpC_block ?_
  obtain ⟨I1, μ1, hI1, hr1⟩ := h
  refine wpC_loop (fun (x : Sl × Int) ρ => ρ 7 = (Sl.v x.1) ∧ ρ 8 = (Value.int .i64 x.2) ∧ ρ 0 = (Sl.v p0) ∧ ρ 1 = (Sl.v p1) ∧ ρ 2 = (Value.int .i64 p2) ∧ True) I1 μ1 (Sl.nil, 0) ⟨e7, rfl, e0, e1, e2, trivial⟩ hI1 ?_
  rintro l1 ρ w1 ⟨e7, e8, e0, e1, e2, -⟩ h
  replace h := hr1 l1 w1 h
  clear hr1 hI1
  refine wpC_seq ?_
  refine wpC_seq ?_
  refine wpC_region ?_
  refine wpR_val (v := (Value.int .i64 l1.2)) (w' := w1) rfl rfl rfl (x_move (v := (Value.int .i64 l1.2)) rfl e8) ?_
  refine wpR_val (v := (Sl.v p1)) (w' := w1) rfl rfl rfl (x_move (v := (Sl.v p1)) rfl e1) ?_
  refine wpR_val (v := (Value.int .i64 (p1.len : Int))) (w' := w1) rfl rfl rfl (x_lenS (s := p1) rfl rfl isSliceT_22) ?_
  refine wpR_val (v := (Value.bool (decide (l1.2 < (p1.len : Int))))) (w' := w1) rfl rfl rfl (x_lss rfl rfl rfl) ?_
  refine wpR_nil ?_
  refine wpC_cond (b := decide (l1.2 < (p1.len : Int))) rfl (fun hc2 => ?_) (fun hc2 => ?_)
  · replace h := h.1 hc2
    refine wpC_skip ?_
    refine wpC_seq ?_
    refine wpC_block ?_
    refine wpC_seq ?_
    refine wpC_cut (fun ρ => ρ 0 = (Sl.v p0) ∧ ρ 1 = (Sl.v p1) ∧ ρ 2 = (Value.int .i64 p2) ∧ ρ 7 = (Sl.v l1.1) ∧ ρ 8 = (Value.int .i64 l1.2) ∧ True) ⟨e0, e1, e2, e7, e8, trivial⟩ ?_
    rintro ρ ⟨e0, e1, e2, e7, e8, -⟩
    refine wpC_region ?_
    refine wpR_val (v := (Value.int .i64 (-1))) (w' := w1) rfl rfl rfl (x_assign (v := (Value.int .i64 (-1))) rfl rfl) ?_
    refine wpR_nil ?_
    refine wpC_seq ?_
    refine wpC_seq ?_
    refine wpC_cut (fun ρ => ρ 0 = (Sl.v p0) ∧ ρ 1 = (Sl.v p1) ∧ ρ 2 = (Value.int .i64 p2) ∧ ρ 7 = (Sl.v l1.1) ∧ ρ 8 = (Value.int .i64 l1.2) ∧ ρ 9 = (Value.int .i64 (-1)) ∧ True) ⟨e0, e1, e2, e7, e8, rfl, trivial⟩ ?_
    rintro ρ ⟨e0, e1, e2, e7, e8, e9, -⟩
    refine wpC_region ?_
    refine wpR_val (v := (Value.int .i64 0)) (w' := w1) rfl rfl rfl (x_assign (v := (Value.int .i64 0)) rfl rfl) ?_
    refine wpR_nil ?_
    refine wpC_block ?_
    obtain ⟨I3, μ3, hI3, hr3⟩ := h
    refine wpC_loop (fun (x : Int × Int) ρ => ρ 9 = (Value.int .i64 x.1) ∧ ρ 10 = (Value.int .i64 x.2) ∧ ρ 0 = (Sl.v p0) ∧ ρ 1 = (Sl.v p1) ∧ ρ 2 = (Value.int .i64 p2) ∧ ρ 7 = (Sl.v l1.1) ∧ ρ 8 = (Value.int .i64 l1.2) ∧ True) I3 μ3 ((-1), 0) ⟨e9, rfl, e0, e1, e2, e7, e8, trivial⟩ hI3 ?_
    rintro l3 ρ w2 ⟨e9, e10, e0, e1, e2, e7, e8, -⟩ h
    replace h := hr3 l3 w2 h
    clear hr3 hI3
    refine wpC_seq ?_
    refine wpC_seq ?_
    refine wpC_region ?_
    refine wpR_val (v := (Value.int .i64 l3.2)) (w' := w2) rfl rfl rfl (x_move (v := (Value.int .i64 l3.2)) rfl e10) ?_
    refine wpR_val (v := (Sl.v p0)) (w' := w2) rfl rfl rfl (x_move (v := (Sl.v p0)) rfl e0) ?_
    refine wpR_val (v := (Value.int .i64 (p0.len : Int))) (w' := w2) rfl rfl rfl (x_lenS (s := p0) rfl rfl isSliceT_22) ?_
    refine wpR_val (v := (Value.bool (decide (l3.2 < (p0.len : Int))))) (w' := w2) rfl rfl rfl (x_lss rfl rfl rfl) ?_
    refine wpR_nil ?_
    refine wpC_cond (b := decide (l3.2 < (p0.len : Int))) rfl (fun hc4 => ?_) (fun hc4 => ?_)
    · replace h := h.1 hc4
      refine wpC_skip ?_
      obtain ⟨J5, h, hk⟩ := h
      refine wpC_seqJ (fun (x : Int) ρ => ρ 9 = (Value.int .i64 x) ∧ ρ 0 = (Sl.v p0) ∧ ρ 1 = (Sl.v p1) ∧ ρ 2 = (Value.int .i64 p2) ∧ ρ 7 = (Sl.v l1.1) ∧ ρ 8 = (Value.int .i64 l1.2) ∧ ρ 10 = (Value.int .i64 l3.2) ∧ True) J5 ?_ ?_
      · clear hk
        refine wpC_block ?_
        refine wpC_seq ?_
        refine wpC_cut (fun ρ => ρ 0 = (Sl.v p0) ∧ ρ 1 = (Sl.v p1) ∧ ρ 2 = (Value.int .i64 p2) ∧ ρ 7 = (Sl.v l1.1) ∧ ρ 8 = (Value.int .i64 l1.2) ∧ ρ 9 = (Value.int .i64 l3.1) ∧ ρ 10 = (Value.int .i64 l3.2) ∧ True) ⟨e0, e1, e2, e7, e8, e9, e10, trivial⟩ ?_
        rintro ρ ⟨e0, e1, e2, e7, e8, e9, e10, -⟩
        obtain ⟨J8, h, hk⟩ := h
        refine wpC_drawJ (by kernel_rfl) (fun (x : Bool) ρ => ρ 11 = (Value.bool x) ∧ ρ 0 = (Sl.v p0) ∧ ρ 1 = (Sl.v p1) ∧ ρ 2 = (Value.int .i64 p2) ∧ ρ 7 = (Sl.v l1.1) ∧ ρ 8 = (Value.int .i64 l1.2) ∧ ρ 9 = (Value.int .i64 l3.1) ∧ ρ 10 = (Value.int .i64 l3.2) ∧ True) J8 ?_ ?_
        · clear hk
          unfold tk at h
          generalize w2.drew = w4 at h ⊢
          refine wpD_take (v := (Sl.v p0)) 0 (fun _ => True) rfl (by kernel_rfl) (by kernel_rfl) (by kernel_rfl) rfl rfl rfl trivial (fun w _ => (x_move (v := (Sl.v p0)) rfl e0)) ?_
          refine wpD_take (v := (Value.int .i64 l3.2)) 1 (fun _ => True) rfl (by kernel_rfl) (by kernel_rfl) (by kernel_rfl) rfl rfl rfl trivial (fun w _ => (x_move (v := (Value.int .i64 l3.2)) rfl e10)) ?_
          obtain ⟨q9, z9, r9, h⟩ := h
          generalize hp9 : z9.add ((l3.2 : Int).toNat * 5) = p9 at h
          refine wpD_take (v := (Value.pointer (some p9))) 2 (fun _ => True) rfl (by kernel_rfl) (by kernel_rfl) (by kernel_rfl) rfl rfl rfl trivial (fun w _ => ((x_indexAddr (s := p0) rfl rfl rfl ES_22 q9 r9).trans (by rw [hp9]))) ?_
          obtain ⟨x10, q10, h⟩ := h
          obtain ⟨x11, q11, h⟩ := h
          obtain ⟨x12, q12, h⟩ := h
          obtain ⟨x13, q13, h⟩ := h
          obtain ⟨x14, q14, h⟩ := h
          refine wpD_take (v := (Value.agg #[(Value.int .i64 x10), (Value.int .i64 x11), (Value.int .i64 x12), (Value.int .i64 x13), (Value.int .i64 x14)])) 3 (fun w => w.cell? (p9.add 0) = some (Value.int .i64 x10) ∧ w.cell? (p9.add 1) = some (Value.int .i64 x11) ∧ w.cell? (p9.add 2) = some (Value.int .i64 x12) ∧ w.cell? (p9.add 3) = some (Value.int .i64 x13) ∧ w.cell? (p9.add 4) = some (Value.int .i64 x14)) rfl (by kernel_rfl) (by kernel_rfl) (by kernel_rfl) rfl rfl rfl ⟨q10, q11, q12, q13, q14⟩ (fun w ⟨q10, q11, q12, q13, q14⟩ => (x_loadN [(Value.int .i64 x10), (Value.int .i64 x11), (Value.int .i64 x12), (Value.int .i64 x13), (Value.int .i64 x14)] rfl rfl SH_30 (CellsAt.out (CellsAt.cons q10 (CellsAt.cons q11 (CellsAt.cons q12 (CellsAt.cons q13 (CellsAt.cons q14 CellsAt.nil)))))))) ?_
          refine wpD_take (v := (Sl.v p1)) 4 (fun _ => True) rfl (by kernel_rfl) (by kernel_rfl) (by kernel_rfl) rfl rfl rfl trivial (fun w _ => (x_move (v := (Sl.v p1)) rfl e1)) ?_
          refine wpD_take (v := (Value.int .i64 l1.2)) 5 (fun _ => True) rfl (by kernel_rfl) (by kernel_rfl) (by kernel_rfl) rfl rfl rfl trivial (fun w _ => (x_move (v := (Value.int .i64 l1.2)) rfl e8)) ?_
          obtain ⟨q15, z15, r15, h⟩ := h
          generalize hp15 : z15.add ((l1.2 : Int).toNat * 5) = p15 at h
          refine wpD_take (v := (Value.pointer (some p15))) 6 (fun _ => True) rfl (by kernel_rfl) (by kernel_rfl) (by kernel_rfl) rfl rfl rfl trivial (fun w _ => ((x_indexAddr (s := p1) rfl rfl rfl ES_22 q15 r15).trans (by rw [hp15]))) ?_
          obtain ⟨x16, q16, h⟩ := h
          obtain ⟨x17, q17, h⟩ := h
          obtain ⟨x18, q18, h⟩ := h
          obtain ⟨x19, q19, h⟩ := h
          obtain ⟨x20, q20, h⟩ := h
          refine wpD_take (v := (Value.agg #[(Value.int .i64 x16), (Value.int .i64 x17), (Value.int .i64 x18), (Value.int .i64 x19), (Value.int .i64 x20)])) 7 (fun w => w.cell? (p15.add 0) = some (Value.int .i64 x16) ∧ w.cell? (p15.add 1) = some (Value.int .i64 x17) ∧ w.cell? (p15.add 2) = some (Value.int .i64 x18) ∧ w.cell? (p15.add 3) = some (Value.int .i64 x19) ∧ w.cell? (p15.add 4) = some (Value.int .i64 x20)) rfl (by kernel_rfl) (by kernel_rfl) (by kernel_rfl) rfl rfl rfl ⟨q16, q17, q18, q19, q20⟩ (fun w ⟨q16, q17, q18, q19, q20⟩ => (x_loadN [(Value.int .i64 x16), (Value.int .i64 x17), (Value.int .i64 x18), (Value.int .i64 x19), (Value.int .i64 x20)] rfl rfl SH_30 (CellsAt.out (CellsAt.cons q16 (CellsAt.cons q17 (CellsAt.cons q18 (CellsAt.cons q19 (CellsAt.cons q20 CellsAt.nil)))))))) ?_
          refine wpD_take (v := (Value.int .i64 p2)) 8 (fun _ => True) rfl (by kernel_rfl) (by kernel_rfl) (by kernel_rfl) rfl rfl rfl trivial (fun w _ => (x_move (v := (Value.int .i64 p2)) rfl e2)) ?_
          refine wpD_all (rs := [9]) (by kernel_rfl) (by simp) (allD_cons ?_ allD_nil)
          refine stepD_enterL (L' := [(6, fun _ => True), (5, fun _ => True), (4, fun _ => True), (2, fun _ => True), (1, fun _ => True), (0, fun _ => True)]) rfl rfl rfl rfl (x_call (vs := [(Value.agg #[(Value.int .i64 x10), (Value.int .i64 x11), (Value.int .i64 x12), (Value.int .i64 x13), (Value.int .i64 x14)]), (Value.agg #[(Value.int .i64 x16), (Value.int .i64 x17), (Value.int .i64 x18), (Value.int .i64 x19), (Value.int .i64 x20)]), (Value.int .i64 p2)]) rfl rfl (mapl_cons rfl (mapl_cons rfl (mapl_cons rfl mapl_nil))) Try.func21 NN_21 NB_21) (by kernel_rfl) (Calls.mono h ?_)
          rintro _ w5 ⟨r21, rfl, h⟩
          refine ⟨_, rfl, (held_cons trivial (held_cons trivial (held_cons trivial (held_cons trivial (held_cons trivial (held_cons trivial held_nil)))))), ?_⟩
          refine wpD_take (v := (Value.bool r21)) 10 (fun _ => True) rfl (by kernel_rfl) (by kernel_rfl) (by kernel_rfl) rfl rfl rfl trivial (fun w _ => (x_assign (v := (Value.bool r21)) rfl rfl)) ?_
          exact wpD_done (by kernel_rfl) ⟨r21, ⟨rfl, e0, e1, e2, e7, e8, e9, e10, trivial⟩, h⟩
        clear h
        rintro l22 ρ w6 ⟨e11, e0, e1, e2, e7, e8, e9, e10, -⟩ h
        replace h := hk l22 w6 h
        clear hk
        refine wpC_seq ?_
        refine wpC_seq ?_
        refine wpC_region ?_
        refine wpR_val (v := (Value.int .i64 0)) (w' := w6) rfl rfl rfl (x_assign (v := (Value.int .i64 0)) rfl rfl) ?_
        refine wpR_nil ?_
        refine wpC_block ?_
        obtain ⟨I23, μ23, hI23, hr23⟩ := h
        refine wpC_loop (fun (x : Bool × Int) ρ => ρ 11 = (Value.bool x.1) ∧ ρ 12 = (Value.int .i64 x.2) ∧ ρ 0 = (Sl.v p0) ∧ ρ 1 = (Sl.v p1) ∧ ρ 2 = (Value.int .i64 p2) ∧ ρ 7 = (Sl.v l1.1) ∧ ρ 8 = (Value.int .i64 l1.2) ∧ ρ 9 = (Value.int .i64 l3.1) ∧ ρ 10 = (Value.int .i64 l3.2) ∧ True) I23 μ23 (l22, 0) ⟨e11, rfl, e0, e1, e2, e7, e8, e9, e10, trivial⟩ hI23 ?_
        rintro l23 ρ w7 ⟨e11, e12, e0, e1, e2, e7, e8, e9, e10, -⟩ h
        replace h := hr23 l23 w7 h
        clear hr23 hI23
        refine wpC_seq ?_
        refine wpC_seq ?_
        refine wpC_region ?_
        refine wpR_val (v := (Value.int .i64 l23.2)) (w' := w7) rfl rfl rfl (x_move (v := (Value.int .i64 l23.2)) rfl e12) ?_
        refine wpR_val (v := (Value.int .i64 l1.2)) (w' := w7) rfl rfl rfl (x_move (v := (Value.int .i64 l1.2)) rfl e8) ?_
        refine wpR_val (v := (Value.bool (decide (l23.2 < l1.2)))) (w' := w7) rfl rfl rfl (x_lss rfl rfl rfl) ?_
        refine wpR_nil ?_
        refine wpC_cond (b := decide (l23.2 < l1.2)) rfl (fun hc24 => ?_) (fun hc24 => ?_)
        · replace h := h.1 hc24
          refine wpC_skip ?_
          refine wpC_seq ?_
          refine wpC_block ?_
          refine wpC_cut (fun ρ => ρ 0 = (Sl.v p0) ∧ ρ 1 = (Sl.v p1) ∧ ρ 2 = (Value.int .i64 p2) ∧ ρ 7 = (Sl.v l1.1) ∧ ρ 8 = (Value.int .i64 l1.2) ∧ ρ 9 = (Value.int .i64 l3.1) ∧ ρ 10 = (Value.int .i64 l3.2) ∧ ρ 11 = (Value.bool l23.1) ∧ ρ 12 = (Value.int .i64 l23.2) ∧ True) ⟨e0, e1, e2, e7, e8, e9, e10, e11, e12, trivial⟩ ?_
          rintro ρ ⟨e0, e1, e2, e7, e8, e9, e10, e11, e12, -⟩
          obtain ⟨J26, h, hk⟩ := h
          refine wpC_drawJ (by kernel_rfl) (fun (x : Bool) ρ => ρ 11 = (Value.bool x) ∧ ρ 0 = (Sl.v p0) ∧ ρ 1 = (Sl.v p1) ∧ ρ 2 = (Value.int .i64 p2) ∧ ρ 7 = (Sl.v l1.1) ∧ ρ 8 = (Value.int .i64 l1.2) ∧ ρ 9 = (Value.int .i64 l3.1) ∧ ρ 10 = (Value.int .i64 l3.2) ∧ ρ 12 = (Value.int .i64 l23.2) ∧ True) J26 ?_ ?_
          · clear hk
            unfold tk at h
            generalize w7.drew = w8 at h ⊢
            refine wpD_take (v := (Value.bool l23.1)) 0 (fun _ => True) rfl (by kernel_rfl) (by kernel_rfl) (by kernel_rfl) rfl rfl rfl trivial (fun w _ => (x_move (v := (Value.bool l23.1)) rfl e11)) ?_
            refine wpD_take (v := (Value.bool l23.1)) 1 (fun _ => True) rfl (by kernel_rfl) (by kernel_rfl) (by kernel_rfl) rfl rfl rfl trivial (fun w _ => (x_move (v := (Value.bool l23.1)) rfl rfl)) ?_
            rcases Bool.eq_false_or_eq_true (l23.1) with hc27 | hc27
            · replace h := h.1 hc27
              refine wpD_take (v := (Sl.v l1.1)) 2 (fun _ => True) rfl (by kernel_rfl) (by kernel_rfl) (by kernel_rfl) (wantG rfl rfl rfl hc27) rfl rfl trivial (fun w _ => (x_move (v := (Sl.v l1.1)) rfl e7)) ?_
              refine wpD_take (v := (Value.int .i64 l23.2)) 3 (fun _ => True) rfl (by kernel_rfl) (by kernel_rfl) (by kernel_rfl) (wantG rfl rfl rfl hc27) rfl rfl trivial (fun w _ => (x_move (v := (Value.int .i64 l23.2)) rfl e12)) ?_
              obtain ⟨q28, z28, r28, h⟩ := h
              generalize hp28 : z28.add ((l23.2 : Int).toNat * 1) = p28 at h
              refine wpD_take (v := (Value.pointer (some p28))) 4 (fun _ => True) rfl (by kernel_rfl) (by kernel_rfl) (by kernel_rfl) (wantG rfl rfl rfl hc27) rfl rfl trivial (fun w _ => ((x_indexAddr (s := l1.1) rfl rfl rfl ES_25 q28 r28).trans (by rw [hp28]))) ?_
              obtain ⟨x29, q29, h⟩ := h
              refine wpD_take (v := (Value.int .i64 x29)) 5 (fun w => w.cell? p28 = some (Value.int .i64 x29)) rfl (by kernel_rfl) (by kernel_rfl) (by kernel_rfl) (wantG rfl rfl rfl hc27) rfl rfl q29 (fun w q29 => (x_load1 rfl rfl SH_3 q29)) ?_
              refine wpD_take (v := (Value.int .i64 l3.2)) 6 (fun _ => True) rfl (by kernel_rfl) (by kernel_rfl) (by kernel_rfl) (wantG rfl rfl rfl hc27) rfl rfl trivial (fun w _ => (x_move (v := (Value.int .i64 l3.2)) rfl e10)) ?_
              refine wpD_take (v := (Value.bool (!decide (x29 = l3.2)))) 7 (fun _ => True) rfl (by kernel_rfl) (by kernel_rfl) (by kernel_rfl) (wantG rfl rfl rfl hc27) rfl rfl trivial (fun w _ => (x_neq rfl rfl rfl)) ?_
              refine wpD_take (v := (Value.bool (!decide (x29 = l3.2)))) 8 (fun _ => True) rfl (by kernel_rfl) (by kernel_rfl) (by kernel_rfl) (wantG rfl rfl rfl hc27) rfl rfl trivial (fun w _ => (x_move (v := (Value.bool (!decide (x29 = l3.2)))) rfl rfl)) ?_
              rcases Bool.eq_false_or_eq_true (!decide (x29 = l3.2)) with hc30 | hc30
              · replace h := h.1 hc30
                refine wpD_pass 9 rfl (by kernel_rfl) (by kernel_rfl) (by kernel_rfl) (wantN rfl rfl rfl hc30) rfl rfl ?_
                refine wpD_pass 10 rfl (by kernel_rfl) (by kernel_rfl) (by kernel_rfl) (wantN rfl rfl rfl hc30) rfl rfl ?_
                refine wpD_pass 11 rfl (by kernel_rfl) (by kernel_rfl) (by kernel_rfl) (wantN rfl rfl rfl hc30) rfl rfl ?_
                refine wpD_pass 12 rfl (by kernel_rfl) (by kernel_rfl) (by kernel_rfl) (wantN rfl rfl rfl hc30) rfl rfl ?_
                refine wpD_pass 13 rfl (by kernel_rfl) (by kernel_rfl) (by kernel_rfl) (wantN rfl rfl rfl hc30) rfl rfl ?_
                refine wpD_pass 14 rfl (by kernel_rfl) (by kernel_rfl) (by kernel_rfl) (wantN rfl rfl rfl hc30) rfl rfl ?_
                refine wpD_pass 15 rfl (by kernel_rfl) (by kernel_rfl) (by kernel_rfl) (wantN rfl rfl rfl hc30) rfl rfl ?_
                refine wpD_pass 16 rfl (by kernel_rfl) (by kernel_rfl) (by kernel_rfl) (wantN rfl rfl rfl hc30) rfl rfl ?_
                refine wpD_pass 17 rfl (by kernel_rfl) (by kernel_rfl) (by kernel_rfl) (wantN rfl rfl rfl hc30) rfl rfl ?_
                refine wpD_pass 18 rfl (by kernel_rfl) (by kernel_rfl) (by kernel_rfl) (wantN rfl rfl rfl hc30) rfl rfl ?_
                refine wpD_pass 19 rfl (by kernel_rfl) (by kernel_rfl) (by kernel_rfl) (wantN rfl rfl rfl hc30) rfl rfl ?_
                refine wpD_pass 20 rfl (by kernel_rfl) (by kernel_rfl) (by kernel_rfl) (wantN rfl rfl rfl hc30) rfl rfl ?_
                refine wpD_pass 21 rfl (by kernel_rfl) (by kernel_rfl) (by kernel_rfl) (wantN rfl rfl rfl hc30) rfl rfl ?_
                refine wpD_take (v := (Value.bool true)) 22 (fun _ => True) rfl (by kernel_rfl) (by kernel_rfl) (by kernel_rfl) (wantG rfl rfl rfl hc27) rfl rfl trivial (fun w _ => (x_pickT (v := (Value.bool true)) rfl rfl hc30 rfl)) ?_
                refine wpD_take (v := (Value.bool true)) 23 (fun _ => True) rfl (by kernel_rfl) (by kernel_rfl) (by kernel_rfl) rfl rfl rfl trivial (fun w _ => (x_pickT (v := (Value.bool true)) rfl rfl hc27 rfl)) ?_
                refine wpD_take (v := (Value.bool true)) 24 (fun _ => True) rfl (by kernel_rfl) (by kernel_rfl) (by kernel_rfl) rfl rfl rfl trivial (fun w _ => (x_assign (v := (Value.bool true)) rfl rfl)) ?_
                exact wpD_done (by kernel_rfl) ⟨true, ⟨rfl, e0, e1, e2, e7, e8, e9, e10, e12, trivial⟩, h⟩
              · replace h := h.2 hc30
                refine wpD_take (v := (Sl.v p1)) 9 (fun _ => True) rfl (by kernel_rfl) (by kernel_rfl) (by kernel_rfl) (wantG rfl rfl rfl hc30) rfl rfl trivial (fun w _ => (x_move (v := (Sl.v p1)) rfl e1)) ?_
                refine wpD_take (v := (Value.int .i64 l23.2)) 10 (fun _ => True) rfl (by kernel_rfl) (by kernel_rfl) (by kernel_rfl) (wantG rfl rfl rfl hc30) rfl rfl trivial (fun w _ => (x_move (v := (Value.int .i64 l23.2)) rfl e12)) ?_
                obtain ⟨q31, z31, r31, h⟩ := h
                generalize hp31 : z31.add ((l23.2 : Int).toNat * 5) = p31 at h
                refine wpD_take (v := (Value.pointer (some p31))) 11 (fun _ => True) rfl (by kernel_rfl) (by kernel_rfl) (by kernel_rfl) (wantG rfl rfl rfl hc30) rfl rfl trivial (fun w _ => ((x_indexAddr (s := p1) rfl rfl rfl ES_22 q31 r31).trans (by rw [hp31]))) ?_
                refine wpD_take (v := (Value.pointer (some (p31.add 0)))) 12 (fun _ => True) rfl (by kernel_rfl) (by kernel_rfl) (by kernel_rfl) (wantG rfl rfl rfl hc30) rfl rfl trivial (fun w _ => (x_fieldAddr rfl rfl FA_30_0)) ?_
                obtain ⟨x32, q32, h⟩ := h
                refine wpD_take (v := (Value.int .i64 x32)) 13 (fun w => w.cell? (p31.add 0) = some (Value.int .i64 x32)) rfl (by kernel_rfl) (by kernel_rfl) (by kernel_rfl) (wantG rfl rfl rfl hc30) rfl rfl q32 (fun w q32 => (x_load1 rfl rfl SH_3 q32)) ?_
                refine wpD_take (v := (Sl.v p1)) 15 (fun _ => True) rfl (by kernel_rfl) (by kernel_rfl) (by kernel_rfl) (wantG rfl rfl rfl hc30) rfl rfl trivial (fun w _ => (x_move (v := (Sl.v p1)) rfl e1)) ?_
                refine wpD_take (v := (Value.int .i64 l1.2)) 16 (fun _ => True) rfl (by kernel_rfl) (by kernel_rfl) (by kernel_rfl) (wantG rfl rfl rfl hc30) rfl rfl trivial (fun w _ => (x_move (v := (Value.int .i64 l1.2)) rfl e8)) ?_
                obtain ⟨q33, z33, r33, h⟩ := h
                generalize hp33 : z33.add ((l1.2 : Int).toNat * 5) = p33 at h
                refine wpD_take (v := (Value.pointer (some p33))) 17 (fun _ => True) rfl (by kernel_rfl) (by kernel_rfl) (by kernel_rfl) (wantG rfl rfl rfl hc30) rfl rfl trivial (fun w _ => ((x_indexAddr (s := p1) rfl rfl rfl ES_22 q33 r33).trans (by rw [hp33]))) ?_
                refine wpD_take (v := (Value.pointer (some (p33.add 0)))) 18 (fun _ => True) rfl (by kernel_rfl) (by kernel_rfl) (by kernel_rfl) (wantG rfl rfl rfl hc30) rfl rfl trivial (fun w _ => (x_fieldAddr rfl rfl FA_30_0)) ?_
                obtain ⟨x34, q34, h⟩ := h
                refine wpD_take (v := (Value.int .i64 x34)) 19 (fun w => w.cell? (p33.add 0) = some (Value.int .i64 x34)) rfl (by kernel_rfl) (by kernel_rfl) (by kernel_rfl) (wantG rfl rfl rfl hc30) rfl rfl q34 (fun w q34 => (x_load1 rfl rfl SH_3 q34)) ?_
                refine wpD_all (rs := [14]) (by kernel_rfl) (by simp) (allD_cons ?_ allD_nil)
                refine stepD_enterL (L' := [(19, fun w => w.cell? (p33.add 0) = some (Value.int .i64 x34)), (18, fun _ => True), (17, fun _ => True), (16, fun _ => True), (15, fun _ => True), (12, fun _ => True), (11, fun _ => True), (10, fun _ => True), (9, fun _ => True), (7, fun _ => True), (6, fun _ => True), (5, fun w => w.cell? p28 = some (Value.int .i64 x29)), (4, fun _ => True), (3, fun _ => True), (2, fun _ => True), (1, fun _ => True), (0, fun _ => True)]) rfl (wantG rfl rfl rfl hc30) rfl rfl (x_call (vs := [(Value.int .i64 x32)]) rfl rfl (mapl_cons rfl mapl_nil) Try.func22 NN_22 NB_22) (by kernel_rfl) (Calls.mono h ?_)
                rintro _ w9 ⟨r35, rfl, h⟩
                obtain ⟨o19, h⟩ := h
                obtain ⟨o5, h⟩ := h
                refine ⟨_, rfl, (held_cons o19 (held_cons trivial (held_cons trivial (held_cons trivial (held_cons trivial (held_cons trivial (held_cons trivial (held_cons trivial (held_cons trivial (held_cons trivial (held_cons trivial (held_cons o5 (held_cons trivial (held_cons trivial (held_cons trivial (held_cons trivial (held_cons trivial held_nil))))))))))))))))), ?_⟩
                refine wpD_all (rs := [20]) (by kernel_rfl) (by simp) (allD_cons ?_ allD_nil)
                refine stepD_enterL (L' := [(18, fun _ => True), (17, fun _ => True), (16, fun _ => True), (15, fun _ => True), (12, fun _ => True), (11, fun _ => True), (10, fun _ => True), (9, fun _ => True), (7, fun _ => True), (6, fun _ => True), (5, fun w => w.cell? p28 = some (Value.int .i64 x29)), (4, fun _ => True), (3, fun _ => True), (2, fun _ => True), (1, fun _ => True), (0, fun _ => True)]) rfl (wantG rfl rfl rfl hc30) rfl rfl (x_call (vs := [(Value.int .i64 x34)]) rfl rfl (mapl_cons rfl mapl_nil) Try.func22 NN_22 NB_22) (by kernel_rfl) (Calls.mono h ?_)
                rintro _ w10 ⟨r36, rfl, h⟩
                obtain ⟨o5, h⟩ := h
                refine ⟨_, rfl, (held_cons trivial (held_cons trivial (held_cons trivial (held_cons trivial (held_cons trivial (held_cons trivial (held_cons trivial (held_cons trivial (held_cons trivial (held_cons trivial (held_cons o5 (held_cons trivial (held_cons trivial (held_cons trivial (held_cons trivial (held_cons trivial held_nil)))))))))))))))), ?_⟩
                refine wpD_take (v := (Value.bool (!decide (r35 = r36)))) 21 (fun _ => True) rfl (by kernel_rfl) (by kernel_rfl) (by kernel_rfl) (wantG rfl rfl rfl hc30) rfl rfl trivial (fun w _ => (x_neq rfl rfl rfl)) ?_
                refine wpD_take (v := (Value.bool (!decide (r35 = r36)))) 22 (fun _ => True) rfl (by kernel_rfl) (by kernel_rfl) (by kernel_rfl) (wantG rfl rfl rfl hc27) rfl rfl trivial (fun w _ => (x_pickF (v := (Value.bool (!decide (r35 = r36)))) rfl rfl hc30 rfl)) ?_
                refine wpD_take (v := (Value.bool (!decide (r35 = r36)))) 23 (fun _ => True) rfl (by kernel_rfl) (by kernel_rfl) (by kernel_rfl) rfl rfl rfl trivial (fun w _ => (x_pickT (v := (Value.bool (!decide (r35 = r36)))) rfl rfl hc27 rfl)) ?_
                refine wpD_take (v := (Value.bool (!decide (r35 = r36)))) 24 (fun _ => True) rfl (by kernel_rfl) (by kernel_rfl) (by kernel_rfl) rfl rfl rfl trivial (fun w _ => (x_assign (v := (Value.bool (!decide (r35 = r36)))) rfl rfl)) ?_
                exact wpD_done (by kernel_rfl) ⟨!decide (r35 = r36), ⟨rfl, e0, e1, e2, e7, e8, e9, e10, e12, trivial⟩, h⟩
            · replace h := h.2 hc27
              refine wpD_pass 2 rfl (by kernel_rfl) (by kernel_rfl) (by kernel_rfl) (wantN rfl rfl rfl hc27) rfl rfl ?_
              refine wpD_pass 3 rfl (by kernel_rfl) (by kernel_rfl) (by kernel_rfl) (wantN rfl rfl rfl hc27) rfl rfl ?_
              refine wpD_pass 4 rfl (by kernel_rfl) (by kernel_rfl) (by kernel_rfl) (wantN rfl rfl rfl hc27) rfl rfl ?_
              refine wpD_pass 5 rfl (by kernel_rfl) (by kernel_rfl) (by kernel_rfl) (wantN rfl rfl rfl hc27) rfl rfl ?_
              refine wpD_pass 6 rfl (by kernel_rfl) (by kernel_rfl) (by kernel_rfl) (wantN rfl rfl rfl hc27) rfl rfl ?_
              refine wpD_pass 7 rfl (by kernel_rfl) (by kernel_rfl) (by kernel_rfl) (wantN rfl rfl rfl hc27) rfl rfl ?_
              refine wpD_pass 8 rfl (by kernel_rfl) (by kernel_rfl) (by kernel_rfl) (wantN rfl rfl rfl hc27) rfl rfl ?_
              refine wpD_pass 9 rfl (by kernel_rfl) (by kernel_rfl) (by kernel_rfl) (wantU rfl rfl rfl) rfl rfl ?_
              refine wpD_pass 10 rfl (by kernel_rfl) (by kernel_rfl) (by kernel_rfl) (wantU rfl rfl rfl) rfl rfl ?_
              refine wpD_pass 11 rfl (by kernel_rfl) (by kernel_rfl) (by kernel_rfl) (wantU rfl rfl rfl) rfl rfl ?_
              refine wpD_pass 12 rfl (by kernel_rfl) (by kernel_rfl) (by kernel_rfl) (wantU rfl rfl rfl) rfl rfl ?_
              refine wpD_pass 13 rfl (by kernel_rfl) (by kernel_rfl) (by kernel_rfl) (wantU rfl rfl rfl) rfl rfl ?_
              refine wpD_pass 14 rfl (by kernel_rfl) (by kernel_rfl) (by kernel_rfl) (wantU rfl rfl rfl) rfl rfl ?_
              refine wpD_pass 15 rfl (by kernel_rfl) (by kernel_rfl) (by kernel_rfl) (wantU rfl rfl rfl) rfl rfl ?_
              refine wpD_pass 16 rfl (by kernel_rfl) (by kernel_rfl) (by kernel_rfl) (wantU rfl rfl rfl) rfl rfl ?_
              refine wpD_pass 17 rfl (by kernel_rfl) (by kernel_rfl) (by kernel_rfl) (wantU rfl rfl rfl) rfl rfl ?_
              refine wpD_pass 18 rfl (by kernel_rfl) (by kernel_rfl) (by kernel_rfl) (wantU rfl rfl rfl) rfl rfl ?_
              refine wpD_pass 19 rfl (by kernel_rfl) (by kernel_rfl) (by kernel_rfl) (wantU rfl rfl rfl) rfl rfl ?_
              refine wpD_pass 20 rfl (by kernel_rfl) (by kernel_rfl) (by kernel_rfl) (wantU rfl rfl rfl) rfl rfl ?_
              refine wpD_pass 21 rfl (by kernel_rfl) (by kernel_rfl) (by kernel_rfl) (wantU rfl rfl rfl) rfl rfl ?_
              refine wpD_pass 22 rfl (by kernel_rfl) (by kernel_rfl) (by kernel_rfl) (wantN rfl rfl rfl hc27) rfl rfl ?_
              refine wpD_take (v := (Value.bool false)) 23 (fun _ => True) rfl (by kernel_rfl) (by kernel_rfl) (by kernel_rfl) rfl rfl rfl trivial (fun w _ => (x_pickF (v := (Value.bool false)) rfl rfl hc27 rfl)) ?_
              refine wpD_take (v := (Value.bool false)) 24 (fun _ => True) rfl (by kernel_rfl) (by kernel_rfl) (by kernel_rfl) rfl rfl rfl trivial (fun w _ => (x_assign (v := (Value.bool false)) rfl rfl)) ?_
              exact wpD_done (by kernel_rfl) ⟨false, ⟨rfl, e0, e1, e2, e7, e8, e9, e10, e12, trivial⟩, h⟩
          clear h
          rintro l37 ρ w11 ⟨e11, e0, e1, e2, e7, e8, e9, e10, e12, -⟩ h
          replace h := hk l37 w11 h
          clear hk
          refine wpC_region ?_
          refine wpR_val (v := (Value.int .i64 l23.2)) (w' := w11) rfl rfl rfl (x_move (v := (Value.int .i64 l23.2)) rfl e12) ?_
          refine wpR_val (v := (Value.int .i64 (IntKind.i64.wrap (l23.2 + 1)))) (w' := w11) rfl rfl rfl (x_add rfl rfl rfl) ?_
          refine wpR_val (v := (Value.int .i64 (IntKind.i64.wrap (l23.2 + 1)))) (w' := w11) rfl rfl rfl (x_assign (v := (Value.int .i64 (IntKind.i64.wrap (l23.2 + 1)))) rfl rfl) ?_
          refine wpR_nil ?_
          exact ⟨(l37, IntKind.i64.wrap (l23.2 + 1)), ⟨e11, rfl, e0, e1, e2, e7, e8, e9, e10, trivial⟩, h⟩
        · replace h := h.2 hc24
          refine wpC_exit ?_
          refine wpC_seq ?_
          refine wpC_cut (fun ρ => ρ 0 = (Sl.v p0) ∧ ρ 1 = (Sl.v p1) ∧ ρ 2 = (Value.int .i64 p2) ∧ ρ 7 = (Sl.v l1.1) ∧ ρ 8 = (Value.int .i64 l1.2) ∧ ρ 9 = (Value.int .i64 l3.1) ∧ ρ 10 = (Value.int .i64 l3.2) ∧ ρ 11 = (Value.bool l23.1) ∧ True) ⟨e0, e1, e2, e7, e8, e9, e10, e11, trivial⟩ ?_
          rintro ρ ⟨e0, e1, e2, e7, e8, e9, e10, e11, -⟩
          refine wpC_region ?_
          refine wpR_val (v := (Value.bool l23.1)) (w' := w7) rfl rfl rfl (x_move (v := (Value.bool l23.1)) rfl e11) ?_
          refine wpR_nil ?_
          refine wpC_cond (b := l23.1) rfl (fun hc38 => ?_) (fun hc38 => ?_)
          · replace h := h.1 hc38
            refine wpC_cut (fun ρ => ρ 0 = (Sl.v p0) ∧ ρ 1 = (Sl.v p1) ∧ ρ 2 = (Value.int .i64 p2) ∧ ρ 7 = (Sl.v l1.1) ∧ ρ 8 = (Value.int .i64 l1.2) ∧ ρ 10 = (Value.int .i64 l3.2) ∧ True) ⟨e0, e1, e2, e7, e8, e10, trivial⟩ ?_
            rintro ρ ⟨e0, e1, e2, e7, e8, e10, -⟩
            refine wpC_region ?_
            refine wpR_val (v := (Value.int .i64 l3.2)) (w' := w7) rfl rfl rfl (x_move (v := (Value.int .i64 l3.2)) rfl e10) ?_
            refine wpR_val (v := (Value.int .i64 l3.2)) (w' := w7) rfl rfl rfl (x_assign (v := (Value.int .i64 l3.2)) rfl rfl) ?_
            refine wpR_nil ?_
            exact ⟨l3.2, ⟨rfl, e0, e1, e2, e7, e8, e10, trivial⟩, h⟩
          · replace h := h.2 hc38
            refine wpC_skip ?_
            exact ⟨l3.1, ⟨e9, e0, e1, e2, e7, e8, e10, trivial⟩, h⟩
      clear h
      rintro l6 ρ w3 ⟨e9, e0, e1, e2, e7, e8, e10, -⟩ h
      replace h := hk l6 w3 h
      clear hk
      refine wpC_region ?_
      refine wpR_val (v := (Value.int .i64 l3.2)) (w' := w3) rfl rfl rfl (x_move (v := (Value.int .i64 l3.2)) rfl e10) ?_
      refine wpR_val (v := (Value.int .i64 (IntKind.i64.wrap (l3.2 + 1)))) (w' := w3) rfl rfl rfl (x_add rfl rfl rfl) ?_
      refine wpR_val (v := (Value.int .i64 (IntKind.i64.wrap (l3.2 + 1)))) (w' := w3) rfl rfl rfl (x_assign (v := (Value.int .i64 (IntKind.i64.wrap (l3.2 + 1)))) rfl rfl) ?_
      refine wpR_nil ?_
      exact ⟨(l6, IntKind.i64.wrap (l3.2 + 1)), ⟨e9, rfl, e0, e1, e2, e7, e8, trivial⟩, h⟩
    · replace h := h.2 hc4
      refine wpC_exit ?_
      refine wpC_cut (fun ρ => ρ 0 = (Sl.v p0) ∧ ρ 1 = (Sl.v p1) ∧ ρ 2 = (Value.int .i64 p2) ∧ ρ 7 = (Sl.v l1.1) ∧ ρ 8 = (Value.int .i64 l1.2) ∧ ρ 9 = (Value.int .i64 l3.1) ∧ True) ⟨e0, e1, e2, e7, e8, e9, trivial⟩ ?_
      rintro ρ ⟨e0, e1, e2, e7, e8, e9, -⟩
      refine wpC_region ?_
      refine wpR_val (v := (Sl.v l1.1)) (w' := w2) rfl rfl rfl (x_move (v := (Sl.v l1.1)) rfl e7) ?_
      refine wpR_val (v := (Value.int .i64 l3.1)) (w' := w2) rfl rfl rfl (x_move (v := (Value.int .i64 l3.1)) rfl e9) ?_
      obtain ⟨b39, hb39⟩ : ∃ u, u = w2.heap.size := ⟨_, rfl⟩
      obtain ⟨w12, hw39⟩ : ∃ u, u = w2.alloc (.cells #[(Value.int .i64 l3.1)] 3) := ⟨_, rfl⟩
      replace h := h b39 w12 hb39 hw39
      refine wpR_val (v := (Sl.v (⟨some ⟨b39, 0, none⟩, 1, 1⟩ : Sl))) (w' := w12) rfl rfl rfl ((x_buildSlice (qs := [(0, (Value.int .i64 l3.1))]) rfl (by rfl) (BS_25_1_0 l3.1)).trans (by rw [← hb39, ← hw39])) ?_
      obtain ⟨r40, w13, q40, h⟩ := h
      refine wpR_val (v := (Sl.v r40)) (w' := w13) rfl rfl rfl (x_append (s := l1.1) (u := (⟨some ⟨b39, 0, none⟩, 1, 1⟩ : Sl)) rfl rfl rfl rfl q40) ?_
      refine wpR_val (v := (Sl.v r40)) (w' := w13) rfl rfl rfl (x_assign (v := (Sl.v r40)) rfl rfl) ?_
      refine wpR_nil ?_
      refine wpC_cut (fun ρ => ρ 0 = (Sl.v p0) ∧ ρ 1 = (Sl.v p1) ∧ ρ 2 = (Value.int .i64 p2) ∧ ρ 7 = (Sl.v r40) ∧ ρ 8 = (Value.int .i64 l1.2) ∧ True) ⟨e0, e1, e2, rfl, e8, trivial⟩ ?_
      rintro ρ ⟨e0, e1, e2, e7, e8, -⟩
      refine wpC_region ?_
      refine wpR_val (v := (Value.int .i64 l1.2)) (w' := w13) rfl rfl rfl (x_move (v := (Value.int .i64 l1.2)) rfl e8) ?_
      refine wpR_val (v := (Value.int .i64 (IntKind.i64.wrap (l1.2 + 1)))) (w' := w13) rfl rfl rfl (x_add rfl rfl rfl) ?_
      refine wpR_val (v := (Value.int .i64 (IntKind.i64.wrap (l1.2 + 1)))) (w' := w13) rfl rfl rfl (x_assign (v := (Value.int .i64 (IntKind.i64.wrap (l1.2 + 1)))) rfl rfl) ?_
      refine wpR_nil ?_
      exact ⟨(r40, IntKind.i64.wrap (l1.2 + 1)), ⟨e7, rfl, e0, e1, e2, trivial⟩, h⟩
  · replace h := h.2 hc2
    refine wpC_exit ?_
    refine wpC_seq ?_
    refine wpC_cut (fun ρ => ρ 7 = (Sl.v l1.1) ∧ True) ⟨e7, trivial⟩ ?_
    rintro ρ ⟨e7, -⟩
    refine wpC_region ?_
    refine wpR_val (v := (Sl.v l1.1)) (w' := w1) rfl rfl rfl (x_move (v := (Sl.v l1.1)) rfl e7) ?_
    refine wpR_val (v := (Sl.v l1.1)) (w' := w1) rfl rfl rfl (x_assign (v := (Sl.v l1.1)) rfl rfl) ?_
    refine wpR_nil ?_
    refine wpC_ret ?_
    exact ⟨.inl rfl, fun a ha => ⟨_, results_rep1 rfl ha rfl, l1.1, rfl, h⟩⟩

/-- echo.Match -/
def F11 (p0 : Sl) (p1_0 : Int) (p1_1 : Int) (p1_2 : Int) (p1_3 : Int) (p1_4 : Int) (p2 : Int) (w0 : World) (K : (Int × Bool) → World → Prop) : Prop :=
  nw 30 #[(Value.int .i64 p1_0), (Value.int .i64 p1_1), (Value.int .i64 p1_2), (Value.int .i64 p1_3), (Value.int .i64 p1_4)] w0 fun b1 w1 =>
  ld (Value.int .i64) ((Addr.mk b1 0 none).add 0) w1 fun x2 =>
  ld (Value.int .i64) ((Addr.mk b1 0 none).add 1) w1 fun x3 =>
  ld (Value.int .i64) ((Addr.mk b1 0 none).add 2) w1 fun x4 =>
  ld (Value.int .i64) ((Addr.mk b1 0 none).add 3) w1 fun x5 =>
  ld (Value.int .i64) ((Addr.mk b1 0 none).add 4) w1 fun x6 =>
  callC Try.prog 18 #[(Sl.v p0), (Value.agg #[(Value.int .i64 x2), (Value.int .i64 x3), (Value.int .i64 x4), (Value.int .i64 x5), (Value.int .i64 x6)]), (Value.int .i64 p2), (Value.func (.func 23) #[] #[])] (fun (r : Int) => (Value.int .i64 r)) w1 fun r7 w2 =>
  K (max r7 0, decide (0 ≤ r7)) w2
set_option maxRecDepth 100000 in
theorem D11 (p0 : Sl) (p1_0 : Int) (p1_1 : Int) (p1_2 : Int) (p1_3 : Int) (p1_4 : Int) (p2 : Int) (w0 : World) (K : (Int × Bool) → World → Prop) (h : F11 p0 p1_0 p1_1 p1_2 p1_3 p1_4 p2 w0 K) : callC Try.prog 11 #[(Sl.v p0), (Value.agg #[(Value.int .i64 p1_0), (Value.int .i64 p1_1), (Value.int .i64 p1_2), (Value.int .i64 p1_3), (Value.int .i64 p1_4)]), (Value.int .i64 p2)] (fun (r : Int × Bool) => (Value.tuple #[(Value.int .i64 r.1), (Value.bool r.2)])) w0 K := by
  unfold F11 at h
  refine calls_of_wpC Try.func11 rfl 17 rfl (by simp) ?_
  intro ρ hρ
  have e0 : ρ 0 = (Sl.v p0) := hρ 0
  have e1 : ρ 1 = (Value.agg #[(Value.int .i64 p1_0), (Value.int .i64 p1_1), (Value.int .i64 p1_2), (Value.int .i64 p1_3), (Value.int .i64 p1_4)]) := hρ 1
  have e2 : ρ 2 = (Value.int .i64 p2) := hρ 2
  clear hρ
  refine wpC_seq ?_
  refine wpC_region ?_
  obtain ⟨b1, hb1⟩ : ∃ u, u = w0.heap.size := ⟨_, rfl⟩
  obtain ⟨w1, hw1⟩ : ∃ u, u = w0.alloc (.cells #[(Value.int .i64 p1_0), (Value.int .i64 p1_1), (Value.int .i64 p1_2), (Value.int .i64 p1_3), (Value.int .i64 p1_4)] 30) := ⟨_, rfl⟩
  replace h := h b1 w1 hb1 hw1
  refine wpR_val (v := (Value.pointer (some (Addr.mk b1 0 none)))) (w' := w1) rfl rfl rfl ((x_box (v := (Value.agg #[(Value.int .i64 p1_0), (Value.int .i64 p1_1), (Value.int .i64 p1_2), (Value.int .i64 p1_3), (Value.int .i64 p1_4)])) rfl e1).trans (by rw [hb1, hw1]; rfl)) ?_
  refine wpR_val (v := (Value.int .i64 0)) (w' := w1) rfl rfl rfl (x_assign (v := (Value.int .i64 0)) rfl rfl) ?_
  refine wpR_val (v := (Value.bool false)) (w' := w1) rfl rfl rfl (x_assign (v := (Value.bool false)) rfl rfl) ?_
  refine wpR_nil ?_
  refine wpC_seq ?_
  refine wpC_cut (fun ρ => ρ 0 = (Sl.v p0) ∧ ρ 2 = (Value.int .i64 p2) ∧ ρ 4 = (Value.pointer (some (Addr.mk b1 0 none))) ∧ True) ⟨e0, e2, rfl, trivial⟩ ?_
  rintro ρ ⟨e0, e2, e4, -⟩
  refine wpC_region ?_
  refine wpR_val (v := (Sl.v p0)) (w' := w1) rfl rfl rfl (x_move (v := (Sl.v p0)) rfl e0) ?_
  obtain ⟨x2, q2, h⟩ := h
  obtain ⟨x3, q3, h⟩ := h
  obtain ⟨x4, q4, h⟩ := h
  obtain ⟨x5, q5, h⟩ := h
  obtain ⟨x6, q6, h⟩ := h
  refine wpR_val (v := (Value.agg #[(Value.int .i64 x2), (Value.int .i64 x3), (Value.int .i64 x4), (Value.int .i64 x5), (Value.int .i64 x6)])) (w' := w1) rfl rfl rfl (x_loadN [(Value.int .i64 x2), (Value.int .i64 x3), (Value.int .i64 x4), (Value.int .i64 x5), (Value.int .i64 x6)] rfl e4 SH_30 (CellsAt.out (CellsAt.cons q2 (CellsAt.cons q3 (CellsAt.cons q4 (CellsAt.cons q5 (CellsAt.cons q6 CellsAt.nil))))))) ?_
  refine wpR_val (v := (Value.int .i64 p2)) (w' := w1) rfl rfl rfl (x_move (v := (Value.int .i64 p2)) rfl e2) ?_
  refine wpR_enter rfl rfl rfl (x_call (vs := [(Sl.v p0), (Value.agg #[(Value.int .i64 x2), (Value.int .i64 x3), (Value.int .i64 x4), (Value.int .i64 x5), (Value.int .i64 x6)]), (Value.int .i64 p2), (Value.func (.func 23) #[] #[])]) rfl rfl (mapl_cons rfl (mapl_cons rfl (mapl_cons rfl (mapl_cons rfl mapl_nil)))) Try.func18 NN_18 NB_18) (Calls.mono h ?_)
  rintro _ w2 ⟨r7, rfl, h⟩
  refine ⟨_, rfl, ?_⟩
  refine wpR_val (v := (Value.int .i64 r7)) (w' := w2) rfl rfl rfl (x_assign (v := (Value.int .i64 r7)) rfl rfl) ?_
  refine wpR_nil ?_
  refine wpC_seq ?_
  refine wpC_cut (fun ρ => ρ 8 = (Value.int .i64 r7) ∧ True) ⟨rfl, trivial⟩ ?_
  rintro ρ ⟨e8, -⟩
  refine wpC_region ?_
  refine wpR_val (v := (Value.int .i64 r7)) (w' := w2) rfl rfl rfl (x_move (v := (Value.int .i64 r7)) rfl e8) ?_
  refine wpR_val (v := (Value.int .i64 (max r7 0))) (w' := w2) rfl rfl rfl (x_max rfl rfl rfl) ?_
  refine wpR_val (v := (Value.int .i64 r7)) (w' := w2) rfl rfl rfl (x_move (v := (Value.int .i64 r7)) rfl e8) ?_
  refine wpR_val (v := (Value.bool (decide (0 ≤ r7)))) (w' := w2) rfl rfl rfl (x_geq rfl rfl rfl) ?_
  refine wpR_val (v := (Value.int .i64 (max r7 0))) (w' := w2) rfl rfl rfl (x_assign (v := (Value.int .i64 (max r7 0))) rfl rfl) ?_
  refine wpR_val (v := (Value.bool (decide (0 ≤ r7)))) (w' := w2) rfl rfl rfl (x_assign (v := (Value.bool (decide (0 ≤ r7)))) rfl rfl) ?_
  refine wpR_nil ?_
  refine wpC_ret ?_
  exact ⟨.inl rfl, fun a ha => ⟨_, results_rep2 rfl ha rfl rfl, (max r7 0, decide (0 ≤ r7)), rfl, h⟩⟩

/-- linguaref36.Match -/
def F12 (p0 : Sl) (p1_0 : Int) (p1_1 : Int) (p1_2 : Int) (p1_3 : Int) (p1_4 : Int) (p2 : Int) (w0 : World) (K : (Int × Bool) → World → Prop) : Prop :=
  nw 30 #[(Value.int .i64 p1_0), (Value.int .i64 p1_1), (Value.int .i64 p1_2), (Value.int .i64 p1_3), (Value.int .i64 p1_4)] w0 fun b1 w1 =>
  lp (fun (next2 : (Int × Bool × Int) → World → Prop) l2 w2 =>
    cnd (decide (l2.2.2 < (p0.len : Int)))
      (
      jn (fun (J4 : (Int × Bool) → World → Prop) =>
        jn (fun (J7 : Bool → World → Prop) => tk w2 fun w4 =>
          ix p0 l2.2.2 5 fun p8 =>
          ld (Value.int .i64) (p8.add 0) w4 fun x9 =>
          ld (Value.int .i64) (p8.add 1) w4 fun x10 =>
          ld (Value.int .i64) (p8.add 2) w4 fun x11 =>
          ld (Value.int .i64) (p8.add 3) w4 fun x12 =>
          ld (Value.int .i64) (p8.add 4) w4 fun x13 =>
          ld (Value.int .i64) ((Addr.mk b1 0 none).add 0) w4 fun x14 =>
          ld (Value.int .i64) ((Addr.mk b1 0 none).add 1) w4 fun x15 =>
          ld (Value.int .i64) ((Addr.mk b1 0 none).add 2) w4 fun x16 =>
          ld (Value.int .i64) ((Addr.mk b1 0 none).add 3) w4 fun x17 =>
          ld (Value.int .i64) ((Addr.mk b1 0 none).add 4) w4 fun x18 =>
          callC Try.prog 21 #[(Value.agg #[(Value.int .i64 x9), (Value.int .i64 x10), (Value.int .i64 x11), (Value.int .i64 x12), (Value.int .i64 x13)]), (Value.agg #[(Value.int .i64 x14), (Value.int .i64 x15), (Value.int .i64 x16), (Value.int .i64 x17), (Value.int .i64 x18)]), (Value.int .i64 p2)] (fun (r : Bool) => (Value.bool r)) w4 fun r19 w5 =>
          J7 r19 w5
        )
        fun l20 w6 =>
        cnd (l20)
          (
          J4 (l2.2.2, true) w6
          )
          (
          J4 (l2.1, l2.2.1) w6
          )
      )
      fun l5 w3 =>
      next2 (l5.1, l5.2, IntKind.i64.wrap (l2.2.2 + 1)) w3
      )
      (
      K (l2.1, l2.2.1) w2
      )
  ) (0, false, 0) w1
set_option maxRecDepth 100000 in
theorem D12 (p0 : Sl) (p1_0 : Int) (p1_1 : Int) (p1_2 : Int) (p1_3 : Int) (p1_4 : Int) (p2 : Int) (w0 : World) (K : (Int × Bool) → World → Prop) (h : F12 p0 p1_0 p1_1 p1_2 p1_3 p1_4 p2 w0 K) : callC Try.prog 12 #[(Sl.v p0), (Value.agg #[(Value.int .i64 p1_0), (Value.int .i64 p1_1), (Value.int .i64 p1_2), (Value.int .i64 p1_3), (Value.int .i64 p1_4)]), (Value.int .i64 p2)] (fun (r : Int × Bool) => (Value.tuple #[(Value.int .i64 r.1), (Value.bool r.2)])) w0 K := by
  unfold F12 at h
  refine calls_of_wpC Try.func12 rfl 27 rfl (by simp) ?_
  intro ρ hρ
  have e0 : ρ 0 = (Sl.v p0) := hρ 0
  have e1 : ρ 1 = (Value.agg #[(Value.int .i64 p1_0), (Value.int .i64 p1_1), (Value.int .i64 p1_2), (Value.int .i64 p1_3), (Value.int .i64 p1_4)]) := hρ 1
  have e2 : ρ 2 = (Value.int .i64 p2) := hρ 2
  clear hρ
  refine wpC_seq ?_
  refine wpC_region ?_
  obtain ⟨b1, hb1⟩ : ∃ u, u = w0.heap.size := ⟨_, rfl⟩
  obtain ⟨w1, hw1⟩ : ∃ u, u = w0.alloc (.cells #[(Value.int .i64 p1_0), (Value.int .i64 p1_1), (Value.int .i64 p1_2), (Value.int .i64 p1_3), (Value.int .i64 p1_4)] 30) := ⟨_, rfl⟩
  replace h := h b1 w1 hb1 hw1
  refine wpR_val (v := (Value.pointer (some (Addr.mk b1 0 none)))) (w' := w1) rfl rfl rfl ((x_box (v := (Value.agg #[(Value.int .i64 p1_0), (Value.int .i64 p1_1), (Value.int .i64 p1_2), (Value.int .i64 p1_3), (Value.int .i64 p1_4)])) rfl e1).trans (by rw [hb1, hw1]; rfl)) ?_
  refine wpR_val (v := (Value.int .i64 0)) (w' := w1) rfl rfl rfl (x_assign (v := (Value.int .i64 0)) rfl rfl) ?_
  refine wpR_val (v := (Value.bool false)) (w' := w1) rfl rfl rfl (x_assign (v := (Value.bool false)) rfl rfl) ?_
  refine wpR_nil ?_
  refine wpC_seq ?_
  refine wpC_cut (fun ρ => ρ 0 = (Sl.v p0) ∧ ρ 2 = (Value.int .i64 p2) ∧ ρ 4 = (Value.pointer (some (Addr.mk b1 0 none))) ∧ True) ⟨e0, e2, rfl, trivial⟩ ?_
  rintro ρ ⟨e0, e2, e4, -⟩
  refine wpC_region ?_
  refine wpR_val (v := (Value.int .i64 0)) (w' := w1) rfl rfl rfl (x_assign (v := (Value.int .i64 0)) rfl rfl) ?_
  refine wpR_nil ?_
  refine wpC_seq ?_
  refine wpC_cut (fun ρ => ρ 0 = (Sl.v p0) ∧ ρ 2 = (Value.int .i64 p2) ∧ ρ 4 = (Value.pointer (some (Addr.mk b1 0 none))) ∧ ρ 8 = (Value.int .i64 0) ∧ True) ⟨e0, e2, e4, rfl, trivial⟩ ?_
  rintro ρ ⟨e0, e2, e4, e8, -⟩
  refine wpC_region ?_
  refine wpR_val (v := (Value.bool false)) (w' := w1) rfl rfl rfl (x_assign (v := (Value.bool false)) rfl rfl) ?_
  refine wpR_nil ?_
  refine wpC_seq ?_
  refine wpC_seq ?_
  refine wpC_cut (fun ρ => ρ 0 = (Sl.v p0) ∧ ρ 2 = (Value.int .i64 p2) ∧ ρ 4 = (Value.pointer (some (Addr.mk b1 0 none))) ∧ ρ 8 = (Value.int .i64 0) ∧ ρ 9 = (Value.bool false) ∧ True) ⟨e0, e2, e4, e8, rfl, trivial⟩ ?_
  rintro ρ ⟨e0, e2, e4, e8, e9, -⟩
  refine wpC_region ?_
  refine wpR_val (v := (Value.int .i64 0)) (w' := w1) rfl rfl rfl (x_assign (v := (Value.int .i64 0)) rfl rfl) ?_
  refine wpR_nil ?_
  refine wpC_block ?_
  obtain ⟨I2, μ2, hI2, hr2⟩ := h
  refine wpC_loop (fun (x : Int × Bool × Int) ρ => ρ 8 = (Value.int .i64 x.1) ∧ ρ 9 = (Value.bool x.2.1) ∧ ρ 10 = (Value.int .i64 x.2.2) ∧ ρ 0 = (Sl.v p0) ∧ ρ 2 = (Value.int .i64 p2) ∧ ρ 4 = (Value.pointer (some (Addr.mk b1 0 none))) ∧ True) I2 μ2 (0, false, 0) ⟨e8, e9, rfl, e0, e2, e4, trivial⟩ hI2 ?_
  rintro l2 ρ w2 ⟨e8, e9, e10, e0, e2, e4, -⟩ h
  replace h := hr2 l2 w2 h
  clear hr2 hI2
  refine wpC_seq ?_
  refine wpC_seq ?_
  refine wpC_region ?_
  refine wpR_val (v := (Value.int .i64 l2.2.2)) (w' := w2) rfl rfl rfl (x_move (v := (Value.int .i64 l2.2.2)) rfl e10) ?_
  refine wpR_val (v := (Sl.v p0)) (w' := w2) rfl rfl rfl (x_move (v := (Sl.v p0)) rfl e0) ?_
  refine wpR_val (v := (Value.int .i64 (p0.len : Int))) (w' := w2) rfl rfl rfl (x_lenS (s := p0) rfl rfl isSliceT_22) ?_
  refine wpR_val (v := (Value.bool (decide (l2.2.2 < (p0.len : Int))))) (w' := w2) rfl rfl rfl (x_lss rfl rfl rfl) ?_
  refine wpR_nil ?_
  refine wpC_cond (b := decide (l2.2.2 < (p0.len : Int))) rfl (fun hc3 => ?_) (fun hc3 => ?_)
  · replace h := h.1 hc3
    refine wpC_skip ?_
    obtain ⟨J4, h, hk⟩ := h
    refine wpC_seqJ (fun (x : Int × Bool) ρ => ρ 8 = (Value.int .i64 x.1) ∧ ρ 9 = (Value.bool x.2) ∧ ρ 0 = (Sl.v p0) ∧ ρ 2 = (Value.int .i64 p2) ∧ ρ 4 = (Value.pointer (some (Addr.mk b1 0 none))) ∧ ρ 10 = (Value.int .i64 l2.2.2) ∧ True) J4 ?_ ?_
    · clear hk
      refine wpC_block ?_
      refine wpC_seq ?_
      refine wpC_cut (fun ρ => ρ 0 = (Sl.v p0) ∧ ρ 2 = (Value.int .i64 p2) ∧ ρ 4 = (Value.pointer (some (Addr.mk b1 0 none))) ∧ ρ 8 = (Value.int .i64 l2.1) ∧ ρ 9 = (Value.bool l2.2.1) ∧ ρ 10 = (Value.int .i64 l2.2.2) ∧ True) ⟨e0, e2, e4, e8, e9, e10, trivial⟩ ?_
      rintro ρ ⟨e0, e2, e4, e8, e9, e10, -⟩
      obtain ⟨J7, h, hk⟩ := h
      refine wpC_drawJ (by kernel_rfl) (fun (x : Bool) ρ => ρ 23 = (Value.bool x) ∧ ρ 0 = (Sl.v p0) ∧ ρ 2 = (Value.int .i64 p2) ∧ ρ 4 = (Value.pointer (some (Addr.mk b1 0 none))) ∧ ρ 8 = (Value.int .i64 l2.1) ∧ ρ 9 = (Value.bool l2.2.1) ∧ ρ 10 = (Value.int .i64 l2.2.2) ∧ True) J7 ?_ ?_
      · clear hk
        unfold tk at h
        generalize w2.drew = w4 at h ⊢
        refine wpD_take (v := (Sl.v p0)) 0 (fun _ => True) rfl (by kernel_rfl) (by kernel_rfl) (by kernel_rfl) rfl rfl rfl trivial (fun w _ => (x_move (v := (Sl.v p0)) rfl e0)) ?_
        refine wpD_take (v := (Value.int .i64 l2.2.2)) 1 (fun _ => True) rfl (by kernel_rfl) (by kernel_rfl) (by kernel_rfl) rfl rfl rfl trivial (fun w _ => (x_move (v := (Value.int .i64 l2.2.2)) rfl e10)) ?_
        obtain ⟨q8, z8, r8, h⟩ := h
        generalize hp8 : z8.add ((l2.2.2 : Int).toNat * 5) = p8 at h
        refine wpD_take (v := (Value.pointer (some p8))) 2 (fun _ => True) rfl (by kernel_rfl) (by kernel_rfl) (by kernel_rfl) rfl rfl rfl trivial (fun w _ => ((x_indexAddr (s := p0) rfl rfl rfl ES_22 q8 r8).trans (by rw [hp8]))) ?_
        obtain ⟨x9, q9, h⟩ := h
        obtain ⟨x10, q10, h⟩ := h
        obtain ⟨x11, q11, h⟩ := h
        obtain ⟨x12, q12, h⟩ := h
        obtain ⟨x13, q13, h⟩ := h
        refine wpD_take (v := (Value.agg #[(Value.int .i64 x9), (Value.int .i64 x10), (Value.int .i64 x11), (Value.int .i64 x12), (Value.int .i64 x13)])) 3 (fun w => w.cell? (p8.add 0) = some (Value.int .i64 x9) ∧ w.cell? (p8.add 1) = some (Value.int .i64 x10) ∧ w.cell? (p8.add 2) = some (Value.int .i64 x11) ∧ w.cell? (p8.add 3) = some (Value.int .i64 x12) ∧ w.cell? (p8.add 4) = some (Value.int .i64 x13)) rfl (by kernel_rfl) (by kernel_rfl) (by kernel_rfl) rfl rfl rfl ⟨q9, q10, q11, q12, q13⟩ (fun w ⟨q9, q10, q11, q12, q13⟩ => (x_loadN [(Value.int .i64 x9), (Value.int .i64 x10), (Value.int .i64 x11), (Value.int .i64 x12), (Value.int .i64 x13)] rfl rfl SH_30 (CellsAt.out (CellsAt.cons q9 (CellsAt.cons q10 (CellsAt.cons q11 (CellsAt.cons q12 (CellsAt.cons q13 CellsAt.nil)))))))) ?_
        obtain ⟨x14, q14, h⟩ := h
        obtain ⟨x15, q15, h⟩ := h
        obtain ⟨x16, q16, h⟩ := h
        obtain ⟨x17, q17, h⟩ := h
        obtain ⟨x18, q18, h⟩ := h
        refine wpD_take (v := (Value.agg #[(Value.int .i64 x14), (Value.int .i64 x15), (Value.int .i64 x16), (Value.int .i64 x17), (Value.int .i64 x18)])) 4 (fun w => w.cell? ((Addr.mk b1 0 none).add 0) = some (Value.int .i64 x14) ∧ w.cell? ((Addr.mk b1 0 none).add 1) = some (Value.int .i64 x15) ∧ w.cell? ((Addr.mk b1 0 none).add 2) = some (Value.int .i64 x16) ∧ w.cell? ((Addr.mk b1 0 none).add 3) = some (Value.int .i64 x17) ∧ w.cell? ((Addr.mk b1 0 none).add 4) = some (Value.int .i64 x18)) rfl (by kernel_rfl) (by kernel_rfl) (by kernel_rfl) rfl rfl rfl ⟨q14, q15, q16, q17, q18⟩ (fun w ⟨q14, q15, q16, q17, q18⟩ => (x_loadN [(Value.int .i64 x14), (Value.int .i64 x15), (Value.int .i64 x16), (Value.int .i64 x17), (Value.int .i64 x18)] rfl e4 SH_30 (CellsAt.out (CellsAt.cons q14 (CellsAt.cons q15 (CellsAt.cons q16 (CellsAt.cons q17 (CellsAt.cons q18 CellsAt.nil)))))))) ?_
        refine wpD_take (v := (Value.int .i64 p2)) 5 (fun _ => True) rfl (by kernel_rfl) (by kernel_rfl) (by kernel_rfl) rfl rfl rfl trivial (fun w _ => (x_move (v := (Value.int .i64 p2)) rfl e2)) ?_
        refine wpD_all (rs := [6]) (by kernel_rfl) (by simp) (allD_cons ?_ allD_nil)
        refine stepD_enterL (L' := [(2, fun _ => True), (1, fun _ => True), (0, fun _ => True)]) rfl rfl rfl rfl (x_call (vs := [(Value.agg #[(Value.int .i64 x9), (Value.int .i64 x10), (Value.int .i64 x11), (Value.int .i64 x12), (Value.int .i64 x13)]), (Value.agg #[(Value.int .i64 x14), (Value.int .i64 x15), (Value.int .i64 x16), (Value.int .i64 x17), (Value.int .i64 x18)]), (Value.int .i64 p2)]) rfl rfl (mapl_cons rfl (mapl_cons rfl (mapl_cons rfl mapl_nil))) Try.func21 NN_21 NB_21) (by kernel_rfl) (Calls.mono h ?_)
        rintro _ w5 ⟨r19, rfl, h⟩
        refine ⟨_, rfl, (held_cons trivial (held_cons trivial (held_cons trivial held_nil))), ?_⟩
        exact wpD_done (by kernel_rfl) ⟨r19, ⟨rfl, e0, e2, e4, e8, e9, e10, trivial⟩, h⟩
      clear h
      rintro l20 ρ w6 ⟨e23, e0, e2, e4, e8, e9, e10, -⟩ h
      replace h := hk l20 w6 h
      clear hk
      refine wpC_cond (b := l20) e23 (fun hc21 => ?_) (fun hc21 => ?_)
      · replace h := h.1 hc21
        refine wpC_seq ?_
        refine wpC_region ?_
        refine wpR_val (v := (Value.int .i64 l2.2.2)) (w' := w6) rfl rfl rfl (x_move (v := (Value.int .i64 l2.2.2)) rfl e10) ?_
        refine wpR_val (v := (Value.int .i64 l2.2.2)) (w' := w6) rfl rfl rfl (x_assign (v := (Value.int .i64 l2.2.2)) rfl rfl) ?_
        refine wpR_nil ?_
        refine wpC_cut (fun ρ => ρ 0 = (Sl.v p0) ∧ ρ 2 = (Value.int .i64 p2) ∧ ρ 4 = (Value.pointer (some (Addr.mk b1 0 none))) ∧ ρ 8 = (Value.int .i64 l2.2.2) ∧ ρ 10 = (Value.int .i64 l2.2.2) ∧ True) ⟨e0, e2, e4, rfl, e10, trivial⟩ ?_
        rintro ρ ⟨e0, e2, e4, e8, e10, -⟩
        refine wpC_region ?_
        refine wpR_val (v := (Value.bool true)) (w' := w6) rfl rfl rfl (x_assign (v := (Value.bool true)) rfl rfl) ?_
        refine wpR_nil ?_
        exact ⟨(l2.2.2, true), ⟨e8, rfl, e0, e2, e4, e10, trivial⟩, h⟩
      · replace h := h.2 hc21
        refine wpC_skip ?_
        exact ⟨(l2.1, l2.2.1), ⟨e8, e9, e0, e2, e4, e10, trivial⟩, h⟩
    clear h
    rintro l5 ρ w3 ⟨e8, e9, e0, e2, e4, e10, -⟩ h
    replace h := hk l5 w3 h
    clear hk
    refine wpC_region ?_
    refine wpR_val (v := (Value.int .i64 l2.2.2)) (w' := w3) rfl rfl rfl (x_move (v := (Value.int .i64 l2.2.2)) rfl e10) ?_
    refine wpR_val (v := (Value.int .i64 (IntKind.i64.wrap (l2.2.2 + 1)))) (w' := w3) rfl rfl rfl (x_add rfl rfl rfl) ?_
    refine wpR_val (v := (Value.int .i64 (IntKind.i64.wrap (l2.2.2 + 1)))) (w' := w3) rfl rfl rfl (x_assign (v := (Value.int .i64 (IntKind.i64.wrap (l2.2.2 + 1)))) rfl rfl) ?_
    refine wpR_nil ?_
    exact ⟨(l5.1, l5.2, IntKind.i64.wrap (l2.2.2 + 1)), ⟨e8, e9, rfl, e0, e2, e4, trivial⟩, h⟩
  · replace h := h.2 hc3
    refine wpC_exit ?_
    refine wpC_seq ?_
    refine wpC_cut (fun ρ => ρ 8 = (Value.int .i64 l2.1) ∧ ρ 9 = (Value.bool l2.2.1) ∧ True) ⟨e8, e9, trivial⟩ ?_
    rintro ρ ⟨e8, e9, -⟩
    refine wpC_region ?_
    refine wpR_val (v := (Value.int .i64 l2.1)) (w' := w2) rfl rfl rfl (x_move (v := (Value.int .i64 l2.1)) rfl e8) ?_
    refine wpR_val (v := (Value.bool l2.2.1)) (w' := w2) rfl rfl rfl (x_move (v := (Value.bool l2.2.1)) rfl e9) ?_
    refine wpR_val (v := (Value.int .i64 l2.1)) (w' := w2) rfl rfl rfl (x_assign (v := (Value.int .i64 l2.1)) rfl rfl) ?_
    refine wpR_val (v := (Value.bool l2.2.1)) (w' := w2) rfl rfl rfl (x_assign (v := (Value.bool l2.2.1)) rfl rfl) ?_
    refine wpR_nil ?_
    refine wpC_ret ?_
    exact ⟨.inl rfl, fun a ha => ⟨_, results_rep2 rfl ha rfl rfl, (l2.1, l2.2.1), rfl, h⟩⟩

/-- echo.Score -/
def F13 (p0_0 : Int) (p0_1 : Int) (p0_2 : Int) (p0_3 : Int) (p0_4 : Int) (p1_0 : Int) (p1_1 : Int) (p1_2 : Int) (p1_3 : Int) (p1_4 : Int) (w0 : World) (K : Int → World → Prop) : Prop :=
  nw 30 #[(Value.int .i64 p0_0), (Value.int .i64 p0_1), (Value.int .i64 p0_2), (Value.int .i64 p0_3), (Value.int .i64 p0_4)] w0 fun b1 w1 =>
  nw 30 #[(Value.int .i64 p1_0), (Value.int .i64 p1_1), (Value.int .i64 p1_2), (Value.int .i64 p1_3), (Value.int .i64 p1_4)] w1 fun b2 w2 =>
  ld (Value.int .i64) ((Addr.mk b1 0 none).add 1) w2 fun x3 =>
  ld (Value.int .i64) ((Addr.mk b2 0 none).add 1) w2 fun x4 =>
  ld (Value.int .i64) ((Addr.mk b1 0 none).add 3) w2 fun x5 =>
  ld (Value.int .i64) ((Addr.mk b2 0 none).add 3) w2 fun x6 =>
  ld (Value.int .i64) ((Addr.mk b1 0 none).add 4) w2 fun x7 =>
  ld (Value.int .i64) ((Addr.mk b2 0 none).add 4) w2 fun x8 =>
  nw 4 #[(Value.bool (decide (x3 = x4))), (Value.bool (decide (x5 = x6))), (Value.bool (decide (x7 = x8)))] w2 fun b9 w3 =>
  lp (fun (next10 : (Int × Int) → World → Prop) l10 w4 =>
    cnd (decide (l10.2 < ((⟨some ⟨b9, 0, none⟩, 3, 3⟩ : Sl).len : Int)))
      (
      jn (fun (J12 : Int → World → Prop) =>
        ix (⟨some ⟨b9, 0, none⟩, 3, 3⟩ : Sl) l10.2 1 fun p14 =>
        ld Value.bool p14 w4 fun x15 =>
        cnd (x15)
          (
          J12 (IntKind.i64.wrap (l10.1 + 1)) w4
          )
          (
          J12 l10.1 w4
          )
      )
      fun l13 w5 =>
      next10 (l13, IntKind.i64.wrap (l10.2 + 1)) w5
      )
      (
      K l10.1 w4
      )
  ) (0, 0) w3
set_option maxRecDepth 100000 in
theorem D13 (p0_0 : Int) (p0_1 : Int) (p0_2 : Int) (p0_3 : Int) (p0_4 : Int) (p1_0 : Int) (p1_1 : Int) (p1_2 : Int) (p1_3 : Int) (p1_4 : Int) (w0 : World) (K : Int → World → Prop) (h : F13 p0_0 p0_1 p0_2 p0_3 p0_4 p1_0 p1_1 p1_2 p1_3 p1_4 w0 K) : callC Try.prog 13 #[(Value.agg #[(Value.int .i64 p0_0), (Value.int .i64 p0_1), (Value.int .i64 p0_2), (Value.int .i64 p0_3), (Value.int .i64 p0_4)]), (Value.agg #[(Value.int .i64 p1_0), (Value.int .i64 p1_1), (Value.int .i64 p1_2), (Value.int .i64 p1_3), (Value.int .i64 p1_4)])] (fun (r : Int) => (Value.int .i64 r)) w0 K := by
  unfold F13 at h
  refine calls_of_wpC Try.func13 rfl 34 rfl (by simp) ?_
  intro ρ hρ
  have e0 : ρ 0 = (Value.agg #[(Value.int .i64 p0_0), (Value.int .i64 p0_1), (Value.int .i64 p0_2), (Value.int .i64 p0_3), (Value.int .i64 p0_4)]) := hρ 0
  have e1 : ρ 1 = (Value.agg #[(Value.int .i64 p1_0), (Value.int .i64 p1_1), (Value.int .i64 p1_2), (Value.int .i64 p1_3), (Value.int .i64 p1_4)]) := hρ 1
  clear hρ
  refine wpC_seq ?_
  refine wpC_region ?_
  obtain ⟨b1, hb1⟩ : ∃ u, u = w0.heap.size := ⟨_, rfl⟩
  obtain ⟨w1, hw1⟩ : ∃ u, u = w0.alloc (.cells #[(Value.int .i64 p0_0), (Value.int .i64 p0_1), (Value.int .i64 p0_2), (Value.int .i64 p0_3), (Value.int .i64 p0_4)] 30) := ⟨_, rfl⟩
  replace h := h b1 w1 hb1 hw1
  refine wpR_val (v := (Value.pointer (some (Addr.mk b1 0 none)))) (w' := w1) rfl rfl rfl ((x_box (v := (Value.agg #[(Value.int .i64 p0_0), (Value.int .i64 p0_1), (Value.int .i64 p0_2), (Value.int .i64 p0_3), (Value.int .i64 p0_4)])) rfl e0).trans (by rw [hb1, hw1]; rfl)) ?_
  obtain ⟨b2, hb2⟩ : ∃ u, u = w1.heap.size := ⟨_, rfl⟩
  obtain ⟨w2, hw2⟩ : ∃ u, u = w1.alloc (.cells #[(Value.int .i64 p1_0), (Value.int .i64 p1_1), (Value.int .i64 p1_2), (Value.int .i64 p1_3), (Value.int .i64 p1_4)] 30) := ⟨_, rfl⟩
  replace h := h b2 w2 hb2 hw2
  refine wpR_val (v := (Value.pointer (some (Addr.mk b2 0 none)))) (w' := w2) rfl rfl rfl ((x_box (v := (Value.agg #[(Value.int .i64 p1_0), (Value.int .i64 p1_1), (Value.int .i64 p1_2), (Value.int .i64 p1_3), (Value.int .i64 p1_4)])) rfl e1).trans (by rw [hb2, hw2]; rfl)) ?_
  refine wpR_val (v := (Value.int .i64 0)) (w' := w2) rfl rfl rfl (x_assign (v := (Value.int .i64 0)) rfl rfl) ?_
  refine wpR_nil ?_
  refine wpC_seq ?_
  refine wpC_cut (fun ρ => ρ 2 = (Value.pointer (some (Addr.mk b1 0 none))) ∧ ρ 3 = (Value.pointer (some (Addr.mk b2 0 none))) ∧ True) ⟨rfl, rfl, trivial⟩ ?_
  rintro ρ ⟨e2, e3, -⟩
  refine wpC_region ?_
  refine wpR_val (v := (Value.int .i64 0)) (w' := w2) rfl rfl rfl (x_assign (v := (Value.int .i64 0)) rfl rfl) ?_
  refine wpR_nil ?_
  refine wpC_seq ?_
  refine wpC_seq ?_
  refine wpC_cut (fun ρ => ρ 2 = (Value.pointer (some (Addr.mk b1 0 none))) ∧ ρ 3 = (Value.pointer (some (Addr.mk b2 0 none))) ∧ ρ 5 = (Value.int .i64 0) ∧ True) ⟨e2, e3, rfl, trivial⟩ ?_
  rintro ρ ⟨e2, e3, e5, -⟩
  refine wpC_region ?_
  refine wpR_val (v := (Value.pointer (some ((Addr.mk b1 0 none).add 1)))) (w' := w2) rfl rfl rfl (x_fieldAddr rfl e2 FA_30_1) ?_
  obtain ⟨x3, q3, h⟩ := h
  refine wpR_val (v := (Value.int .i64 x3)) (w' := w2) rfl rfl rfl (x_load1 rfl rfl SH_3 q3) ?_
  refine wpR_val (v := (Value.pointer (some ((Addr.mk b2 0 none).add 1)))) (w' := w2) rfl rfl rfl (x_fieldAddr rfl e3 FA_30_1) ?_
  obtain ⟨x4, q4, h⟩ := h
  refine wpR_val (v := (Value.int .i64 x4)) (w' := w2) rfl rfl rfl (x_load1 rfl rfl SH_3 q4) ?_
  refine wpR_val (v := (Value.bool (decide (x3 = x4)))) (w' := w2) rfl rfl rfl (x_eql rfl rfl rfl) ?_
  refine wpR_val (v := (Value.pointer (some ((Addr.mk b1 0 none).add 3)))) (w' := w2) rfl rfl rfl (x_fieldAddr rfl e2 FA_30_3) ?_
  obtain ⟨x5, q5, h⟩ := h
  refine wpR_val (v := (Value.int .i64 x5)) (w' := w2) rfl rfl rfl (x_load1 rfl rfl SH_3 q5) ?_
  refine wpR_val (v := (Value.pointer (some ((Addr.mk b2 0 none).add 3)))) (w' := w2) rfl rfl rfl (x_fieldAddr rfl e3 FA_30_3) ?_
  obtain ⟨x6, q6, h⟩ := h
  refine wpR_val (v := (Value.int .i64 x6)) (w' := w2) rfl rfl rfl (x_load1 rfl rfl SH_3 q6) ?_
  refine wpR_val (v := (Value.bool (decide (x5 = x6)))) (w' := w2) rfl rfl rfl (x_eql rfl rfl rfl) ?_
  refine wpR_val (v := (Value.pointer (some ((Addr.mk b1 0 none).add 4)))) (w' := w2) rfl rfl rfl (x_fieldAddr rfl e2 FA_30_4) ?_
  obtain ⟨x7, q7, h⟩ := h
  refine wpR_val (v := (Value.int .i64 x7)) (w' := w2) rfl rfl rfl (x_load1 rfl rfl SH_3 q7) ?_
  refine wpR_val (v := (Value.pointer (some ((Addr.mk b2 0 none).add 4)))) (w' := w2) rfl rfl rfl (x_fieldAddr rfl e3 FA_30_4) ?_
  obtain ⟨x8, q8, h⟩ := h
  refine wpR_val (v := (Value.int .i64 x8)) (w' := w2) rfl rfl rfl (x_load1 rfl rfl SH_3 q8) ?_
  refine wpR_val (v := (Value.bool (decide (x7 = x8)))) (w' := w2) rfl rfl rfl (x_eql rfl rfl rfl) ?_
  obtain ⟨b9, hb9⟩ : ∃ u, u = w2.heap.size := ⟨_, rfl⟩
  obtain ⟨w3, hw9⟩ : ∃ u, u = w2.alloc (.cells #[(Value.bool (decide (x3 = x4))), (Value.bool (decide (x5 = x6))), (Value.bool (decide (x7 = x8)))] 4) := ⟨_, rfl⟩
  replace h := h b9 w3 hb9 hw9
  refine wpR_val (v := (Sl.v (⟨some ⟨b9, 0, none⟩, 3, 3⟩ : Sl))) (w' := w3) rfl rfl rfl ((x_buildSlice (qs := [(0, (Value.bool (decide (x3 = x4)))), (1, (Value.bool (decide (x5 = x6)))), (2, (Value.bool (decide (x7 = x8))))]) rfl (by rfl) (BS_38_3_0_1_2 (decide (x3 = x4)) (decide (x5 = x6)) (decide (x7 = x8)))).trans (by rw [← hb9, ← hw9])) ?_
  refine wpR_val (v := (Value.int .i64 ((⟨some ⟨b9, 0, none⟩, 3, 3⟩ : Sl).len : Int))) (w' := w3) rfl rfl rfl (x_lenS (s := (⟨some ⟨b9, 0, none⟩, 3, 3⟩ : Sl)) rfl rfl isSliceT_38) ?_
  refine wpR_val (v := (Value.int .i64 0)) (w' := w3) rfl rfl rfl (x_move (v := (Value.int .i64 0)) rfl rfl) ?_
  refine wpR_nil ?_
  refine wpC_block ?_
  obtain ⟨I10, μ10, hI10, hr10⟩ := h
  refine wpC_loop (fun (x : Int × Int) ρ => ρ 5 = (Value.int .i64 x.1) ∧ ρ 25 = (Value.int .i64 x.2) ∧ ρ 23 = (Sl.v (⟨some ⟨b9, 0, none⟩, 3, 3⟩ : Sl)) ∧ ρ 24 = (Value.int .i64 ((⟨some ⟨b9, 0, none⟩, 3, 3⟩ : Sl).len : Int)) ∧ True) I10 μ10 (0, 0) ⟨e5, rfl, rfl, rfl, trivial⟩ hI10 ?_
  rintro l10 ρ w4 ⟨e5, e25, e23, e24, -⟩ h
  replace h := hr10 l10 w4 h
  clear hr10 hI10
  refine wpC_seq ?_
  refine wpC_region ?_
  refine wpR_val (v := (Value.bool (decide (l10.2 < ((⟨some ⟨b9, 0, none⟩, 3, 3⟩ : Sl).len : Int))))) (w' := w4) rfl rfl rfl (x_lss rfl e25 e24) ?_
  refine wpR_nil ?_
  refine wpC_seq ?_
  refine wpC_cond (b := decide (l10.2 < ((⟨some ⟨b9, 0, none⟩, 3, 3⟩ : Sl).len : Int))) rfl (fun hc11 => ?_) (fun hc11 => ?_)
  · replace h := h.1 hc11
    refine wpC_skip ?_
    obtain ⟨J12, h, hk⟩ := h
    refine wpC_seqJ (fun (x : Int) ρ => ρ 5 = (Value.int .i64 x) ∧ ρ 23 = (Sl.v (⟨some ⟨b9, 0, none⟩, 3, 3⟩ : Sl)) ∧ ρ 24 = (Value.int .i64 ((⟨some ⟨b9, 0, none⟩, 3, 3⟩ : Sl).len : Int)) ∧ ρ 25 = (Value.int .i64 l10.2) ∧ True) J12 ?_ ?_
    · clear hk
      refine wpC_block ?_
      refine wpC_seq ?_
      refine wpC_cut (fun ρ => ρ 5 = (Value.int .i64 l10.1) ∧ ρ 23 = (Sl.v (⟨some ⟨b9, 0, none⟩, 3, 3⟩ : Sl)) ∧ ρ 24 = (Value.int .i64 ((⟨some ⟨b9, 0, none⟩, 3, 3⟩ : Sl).len : Int)) ∧ ρ 25 = (Value.int .i64 l10.2) ∧ True) ⟨e5, e23, e24, e25, trivial⟩ ?_
      rintro ρ ⟨e5, e23, e24, e25, -⟩
      refine wpC_region ?_
      obtain ⟨q14, z14, r14, h⟩ := h
      generalize hp14 : z14.add ((l10.2 : Int).toNat * 1) = p14 at h
      refine wpR_val (v := (Value.pointer (some p14))) (w' := w4) rfl rfl rfl ((x_indexAddr (s := (⟨some ⟨b9, 0, none⟩, 3, 3⟩ : Sl)) rfl e23 e25 ES_38 q14 r14).trans (by rw [hp14])) ?_
      obtain ⟨x15, q15, h⟩ := h
      refine wpR_val (v := (Value.bool x15)) (w' := w4) rfl rfl rfl (x_load1 rfl rfl SH_4 q15) ?_
      refine wpR_val (v := (Value.bool x15)) (w' := w4) rfl rfl rfl (x_assign (v := (Value.bool x15)) rfl rfl) ?_
      refine wpR_nil ?_
      refine wpC_seq ?_
      refine wpC_cut (fun ρ => ρ 5 = (Value.int .i64 l10.1) ∧ ρ 7 = (Value.bool x15) ∧ ρ 23 = (Sl.v (⟨some ⟨b9, 0, none⟩, 3, 3⟩ : Sl)) ∧ ρ 24 = (Value.int .i64 ((⟨some ⟨b9, 0, none⟩, 3, 3⟩ : Sl).len : Int)) ∧ ρ 25 = (Value.int .i64 l10.2) ∧ True) ⟨e5, rfl, e23, e24, e25, trivial⟩ ?_
      rintro ρ ⟨e5, e7, e23, e24, e25, -⟩
      refine wpC_region ?_
      refine wpR_val (v := (Value.bool x15)) (w' := w4) rfl rfl rfl (x_move (v := (Value.bool x15)) rfl e7) ?_
      refine wpR_nil ?_
      refine wpC_cond (b := x15) rfl (fun hc16 => ?_) (fun hc16 => ?_)
      · replace h := h.1 hc16
        refine wpC_cut (fun ρ => ρ 5 = (Value.int .i64 l10.1) ∧ ρ 23 = (Sl.v (⟨some ⟨b9, 0, none⟩, 3, 3⟩ : Sl)) ∧ ρ 24 = (Value.int .i64 ((⟨some ⟨b9, 0, none⟩, 3, 3⟩ : Sl).len : Int)) ∧ ρ 25 = (Value.int .i64 l10.2) ∧ True) ⟨e5, e23, e24, e25, trivial⟩ ?_
        rintro ρ ⟨e5, e23, e24, e25, -⟩
        refine wpC_region ?_
        refine wpR_val (v := (Value.int .i64 l10.1)) (w' := w4) rfl rfl rfl (x_move (v := (Value.int .i64 l10.1)) rfl e5) ?_
        refine wpR_val (v := (Value.int .i64 (IntKind.i64.wrap (l10.1 + 1)))) (w' := w4) rfl rfl rfl (x_add rfl rfl rfl) ?_
        refine wpR_val (v := (Value.int .i64 (IntKind.i64.wrap (l10.1 + 1)))) (w' := w4) rfl rfl rfl (x_assign (v := (Value.int .i64 (IntKind.i64.wrap (l10.1 + 1)))) rfl rfl) ?_
        refine wpR_nil ?_
        exact ⟨IntKind.i64.wrap (l10.1 + 1), ⟨rfl, e23, e24, e25, trivial⟩, h⟩
      · replace h := h.2 hc16
        refine wpC_skip ?_
        exact ⟨l10.1, ⟨e5, e23, e24, e25, trivial⟩, h⟩
    clear h
    rintro l13 ρ w5 ⟨e5, e23, e24, e25, -⟩ h
    replace h := hk l13 w5 h
    clear hk
    refine wpC_region ?_
    refine wpR_val (v := (Value.int .i64 (IntKind.i64.wrap (l10.2 + 1)))) (w' := w5) rfl rfl rfl (x_add rfl e25 rfl) ?_
    refine wpR_val (v := (Value.int .i64 (IntKind.i64.wrap (l10.2 + 1)))) (w' := w5) rfl rfl rfl (x_move (v := (Value.int .i64 (IntKind.i64.wrap (l10.2 + 1)))) rfl rfl) ?_
    refine wpR_nil ?_
    exact ⟨(l13, IntKind.i64.wrap (l10.2 + 1)), ⟨e5, rfl, e23, e24, trivial⟩, h⟩
  · replace h := h.2 hc11
    refine wpC_exit ?_
    refine wpC_seq ?_
    refine wpC_cut (fun ρ => ρ 5 = (Value.int .i64 l10.1) ∧ True) ⟨e5, trivial⟩ ?_
    rintro ρ ⟨e5, -⟩
    refine wpC_region ?_
    refine wpR_val (v := (Value.int .i64 l10.1)) (w' := w4) rfl rfl rfl (x_move (v := (Value.int .i64 l10.1)) rfl e5) ?_
    refine wpR_val (v := (Value.int .i64 l10.1)) (w' := w4) rfl rfl rfl (x_assign (v := (Value.int .i64 l10.1)) rfl rfl) ?_
    refine wpR_nil ?_
    refine wpC_ret ?_
    exact ⟨.inl rfl, fun a ha => ⟨_, results_rep1 rfl ha rfl, l10.1, rfl, h⟩⟩

/-- linguaref36.Score -/
def F14 (p0_0 : Int) (p0_1 : Int) (p0_2 : Int) (p0_3 : Int) (p0_4 : Int) (p1_0 : Int) (p1_1 : Int) (p1_2 : Int) (p1_3 : Int) (p1_4 : Int) (w0 : World) (K : Int → World → Prop) : Prop :=
  nw 30 #[(Value.int .i64 p0_0), (Value.int .i64 p0_1), (Value.int .i64 p0_2), (Value.int .i64 p0_3), (Value.int .i64 p0_4)] w0 fun b1 w1 =>
  nw 30 #[(Value.int .i64 p1_0), (Value.int .i64 p1_1), (Value.int .i64 p1_2), (Value.int .i64 p1_3), (Value.int .i64 p1_4)] w1 fun b2 w2 =>
  jn (fun (J3 : Int → World → Prop) =>
    ld (Value.int .i64) ((Addr.mk b1 0 none).add 1) w2 fun x5 =>
    ld (Value.int .i64) ((Addr.mk b2 0 none).add 1) w2 fun x6 =>
    cnd (decide (x5 = x6))
      (
      J3 (IntKind.i64.wrap (0 + 1)) w2
      )
      (
      J3 0 w2
      )
  )
  fun l4 w3 =>
  jn (fun (J8 : Int → World → Prop) =>
    ld (Value.int .i64) ((Addr.mk b1 0 none).add 3) w3 fun x10 =>
    ld (Value.int .i64) ((Addr.mk b2 0 none).add 3) w3 fun x11 =>
    cnd (decide (x10 = x11))
      (
      J8 (IntKind.i64.wrap (l4 + 1)) w3
      )
      (
      J8 l4 w3
      )
  )
  fun l9 w4 =>
  jn (fun (J13 : Int → World → Prop) =>
    ld (Value.int .i64) ((Addr.mk b1 0 none).add 4) w4 fun x15 =>
    ld (Value.int .i64) ((Addr.mk b2 0 none).add 4) w4 fun x16 =>
    cnd (decide (x15 = x16))
      (
      J13 (IntKind.i64.wrap (l9 + 1)) w4
      )
      (
      J13 l9 w4
      )
  )
  fun l14 w5 =>
  K l14 w5
set_option maxRecDepth 100000 in
theorem D14 (p0_0 : Int) (p0_1 : Int) (p0_2 : Int) (p0_3 : Int) (p0_4 : Int) (p1_0 : Int) (p1_1 : Int) (p1_2 : Int) (p1_3 : Int) (p1_4 : Int) (w0 : World) (K : Int → World → Prop) (h : F14 p0_0 p0_1 p0_2 p0_3 p0_4 p1_0 p1_1 p1_2 p1_3 p1_4 w0 K) : callC Try.prog 14 #[(Value.agg #[(Value.int .i64 p0_0), (Value.int .i64 p0_1), (Value.int .i64 p0_2), (Value.int .i64 p0_3), (Value.int .i64 p0_4)]), (Value.agg #[(Value.int .i64 p1_0), (Value.int .i64 p1_1), (Value.int .i64 p1_2), (Value.int .i64 p1_3), (Value.int .i64 p1_4)])] (fun (r : Int) => (Value.int .i64 r)) w0 K := by
  unfold F14 at h
  refine calls_of_wpC Try.func14 rfl 28 rfl (by simp) ?_
  intro ρ hρ
  have e0 : ρ 0 = (Value.agg #[(Value.int .i64 p0_0), (Value.int .i64 p0_1), (Value.int .i64 p0_2), (Value.int .i64 p0_3), (Value.int .i64 p0_4)]) := hρ 0
  have e1 : ρ 1 = (Value.agg #[(Value.int .i64 p1_0), (Value.int .i64 p1_1), (Value.int .i64 p1_2), (Value.int .i64 p1_3), (Value.int .i64 p1_4)]) := hρ 1
  clear hρ
  refine wpC_seq ?_
  refine wpC_region ?_
  obtain ⟨b1, hb1⟩ : ∃ u, u = w0.heap.size := ⟨_, rfl⟩
  obtain ⟨w1, hw1⟩ : ∃ u, u = w0.alloc (.cells #[(Value.int .i64 p0_0), (Value.int .i64 p0_1), (Value.int .i64 p0_2), (Value.int .i64 p0_3), (Value.int .i64 p0_4)] 30) := ⟨_, rfl⟩
  replace h := h b1 w1 hb1 hw1
  refine wpR_val (v := (Value.pointer (some (Addr.mk b1 0 none)))) (w' := w1) rfl rfl rfl ((x_box (v := (Value.agg #[(Value.int .i64 p0_0), (Value.int .i64 p0_1), (Value.int .i64 p0_2), (Value.int .i64 p0_3), (Value.int .i64 p0_4)])) rfl e0).trans (by rw [hb1, hw1]; rfl)) ?_
  obtain ⟨b2, hb2⟩ : ∃ u, u = w1.heap.size := ⟨_, rfl⟩
  obtain ⟨w2, hw2⟩ : ∃ u, u = w1.alloc (.cells #[(Value.int .i64 p1_0), (Value.int .i64 p1_1), (Value.int .i64 p1_2), (Value.int .i64 p1_3), (Value.int .i64 p1_4)] 30) := ⟨_, rfl⟩
  replace h := h b2 w2 hb2 hw2
  refine wpR_val (v := (Value.pointer (some (Addr.mk b2 0 none)))) (w' := w2) rfl rfl rfl ((x_box (v := (Value.agg #[(Value.int .i64 p1_0), (Value.int .i64 p1_1), (Value.int .i64 p1_2), (Value.int .i64 p1_3), (Value.int .i64 p1_4)])) rfl e1).trans (by rw [hb2, hw2]; rfl)) ?_
  refine wpR_val (v := (Value.int .i64 0)) (w' := w2) rfl rfl rfl (x_assign (v := (Value.int .i64 0)) rfl rfl) ?_
  refine wpR_nil ?_
  refine wpC_seq ?_
  refine wpC_cut (fun ρ => ρ 2 = (Value.pointer (some (Addr.mk b1 0 none))) ∧ ρ 3 = (Value.pointer (some (Addr.mk b2 0 none))) ∧ True) ⟨rfl, rfl, trivial⟩ ?_
  rintro ρ ⟨e2, e3, -⟩
  refine wpC_region ?_
  refine wpR_val (v := (Value.int .i64 0)) (w' := w2) rfl rfl rfl (x_assign (v := (Value.int .i64 0)) rfl rfl) ?_
  refine wpR_nil ?_
  obtain ⟨J3, h, hk⟩ := h
  refine wpC_seqJ (fun (x : Int) ρ => ρ 5 = (Value.int .i64 x) ∧ ρ 2 = (Value.pointer (some (Addr.mk b1 0 none))) ∧ ρ 3 = (Value.pointer (some (Addr.mk b2 0 none))) ∧ True) J3 ?_ ?_
  · clear hk
    refine wpC_seq ?_
    refine wpC_cut (fun ρ => ρ 2 = (Value.pointer (some (Addr.mk b1 0 none))) ∧ ρ 3 = (Value.pointer (some (Addr.mk b2 0 none))) ∧ ρ 5 = (Value.int .i64 0) ∧ True) ⟨e2, e3, rfl, trivial⟩ ?_
    rintro ρ ⟨e2, e3, e5, -⟩
    refine wpC_region ?_
    refine wpR_val (v := (Value.pointer (some ((Addr.mk b1 0 none).add 1)))) (w' := w2) rfl rfl rfl (x_fieldAddr rfl e2 FA_30_1) ?_
    obtain ⟨x5, q5, h⟩ := h
    refine wpR_val (v := (Value.int .i64 x5)) (w' := w2) rfl rfl rfl (x_load1 rfl rfl SH_3 q5) ?_
    refine wpR_val (v := (Value.pointer (some ((Addr.mk b2 0 none).add 1)))) (w' := w2) rfl rfl rfl (x_fieldAddr rfl e3 FA_30_1) ?_
    obtain ⟨x6, q6, h⟩ := h
    refine wpR_val (v := (Value.int .i64 x6)) (w' := w2) rfl rfl rfl (x_load1 rfl rfl SH_3 q6) ?_
    refine wpR_val (v := (Value.bool (decide (x5 = x6)))) (w' := w2) rfl rfl rfl (x_eql rfl rfl rfl) ?_
    refine wpR_nil ?_
    refine wpC_cond (b := decide (x5 = x6)) rfl (fun hc7 => ?_) (fun hc7 => ?_)
    · replace h := h.1 hc7
      refine wpC_cut (fun ρ => ρ 2 = (Value.pointer (some (Addr.mk b1 0 none))) ∧ ρ 3 = (Value.pointer (some (Addr.mk b2 0 none))) ∧ ρ 5 = (Value.int .i64 0) ∧ True) ⟨e2, e3, e5, trivial⟩ ?_
      rintro ρ ⟨e2, e3, e5, -⟩
      refine wpC_region ?_
      refine wpR_val (v := (Value.int .i64 0)) (w' := w2) rfl rfl rfl (x_move (v := (Value.int .i64 0)) rfl e5) ?_
      refine wpR_val (v := (Value.int .i64 (IntKind.i64.wrap (0 + 1)))) (w' := w2) rfl rfl rfl (x_add rfl rfl rfl) ?_
      refine wpR_val (v := (Value.int .i64 (IntKind.i64.wrap (0 + 1)))) (w' := w2) rfl rfl rfl (x_assign (v := (Value.int .i64 (IntKind.i64.wrap (0 + 1)))) rfl rfl) ?_
      refine wpR_nil ?_
      exact ⟨IntKind.i64.wrap (0 + 1), ⟨rfl, e2, e3, trivial⟩, h⟩
    · replace h := h.2 hc7
      refine wpC_skip ?_
      exact ⟨0, ⟨e5, e2, e3, trivial⟩, h⟩
  clear h
  rintro l4 ρ w3 ⟨e5, e2, e3, -⟩ h
  replace h := hk l4 w3 h
  clear hk
  obtain ⟨J8, h, hk⟩ := h
  refine wpC_seqJ (fun (x : Int) ρ => ρ 5 = (Value.int .i64 x) ∧ ρ 2 = (Value.pointer (some (Addr.mk b1 0 none))) ∧ ρ 3 = (Value.pointer (some (Addr.mk b2 0 none))) ∧ True) J8 ?_ ?_
  · clear hk
    refine wpC_seq ?_
    refine wpC_region ?_
    refine wpR_val (v := (Value.pointer (some ((Addr.mk b1 0 none).add 3)))) (w' := w3) rfl rfl rfl (x_fieldAddr rfl e2 FA_30_3) ?_
    obtain ⟨x10, q10, h⟩ := h
    refine wpR_val (v := (Value.int .i64 x10)) (w' := w3) rfl rfl rfl (x_load1 rfl rfl SH_3 q10) ?_
    refine wpR_val (v := (Value.pointer (some ((Addr.mk b2 0 none).add 3)))) (w' := w3) rfl rfl rfl (x_fieldAddr rfl e3 FA_30_3) ?_
    obtain ⟨x11, q11, h⟩ := h
    refine wpR_val (v := (Value.int .i64 x11)) (w' := w3) rfl rfl rfl (x_load1 rfl rfl SH_3 q11) ?_
    refine wpR_val (v := (Value.bool (decide (x10 = x11)))) (w' := w3) rfl rfl rfl (x_eql rfl rfl rfl) ?_
    refine wpR_nil ?_
    refine wpC_cond (b := decide (x10 = x11)) rfl (fun hc12 => ?_) (fun hc12 => ?_)
    · replace h := h.1 hc12
      refine wpC_cut (fun ρ => ρ 2 = (Value.pointer (some (Addr.mk b1 0 none))) ∧ ρ 3 = (Value.pointer (some (Addr.mk b2 0 none))) ∧ ρ 5 = (Value.int .i64 l4) ∧ True) ⟨e2, e3, e5, trivial⟩ ?_
      rintro ρ ⟨e2, e3, e5, -⟩
      refine wpC_region ?_
      refine wpR_val (v := (Value.int .i64 l4)) (w' := w3) rfl rfl rfl (x_move (v := (Value.int .i64 l4)) rfl e5) ?_
      refine wpR_val (v := (Value.int .i64 (IntKind.i64.wrap (l4 + 1)))) (w' := w3) rfl rfl rfl (x_add rfl rfl rfl) ?_
      refine wpR_val (v := (Value.int .i64 (IntKind.i64.wrap (l4 + 1)))) (w' := w3) rfl rfl rfl (x_assign (v := (Value.int .i64 (IntKind.i64.wrap (l4 + 1)))) rfl rfl) ?_
      refine wpR_nil ?_
      exact ⟨IntKind.i64.wrap (l4 + 1), ⟨rfl, e2, e3, trivial⟩, h⟩
    · replace h := h.2 hc12
      refine wpC_skip ?_
      exact ⟨l4, ⟨e5, e2, e3, trivial⟩, h⟩
  clear h
  rintro l9 ρ w4 ⟨e5, e2, e3, -⟩ h
  replace h := hk l9 w4 h
  clear hk
  obtain ⟨J13, h, hk⟩ := h
  refine wpC_seqJ (fun (x : Int) ρ => ρ 5 = (Value.int .i64 x) ∧ True) J13 ?_ ?_
  · clear hk
    refine wpC_seq ?_
    refine wpC_region ?_
    refine wpR_val (v := (Value.pointer (some ((Addr.mk b1 0 none).add 4)))) (w' := w4) rfl rfl rfl (x_fieldAddr rfl e2 FA_30_4) ?_
    obtain ⟨x15, q15, h⟩ := h
    refine wpR_val (v := (Value.int .i64 x15)) (w' := w4) rfl rfl rfl (x_load1 rfl rfl SH_3 q15) ?_
    refine wpR_val (v := (Value.pointer (some ((Addr.mk b2 0 none).add 4)))) (w' := w4) rfl rfl rfl (x_fieldAddr rfl e3 FA_30_4) ?_
    obtain ⟨x16, q16, h⟩ := h
    refine wpR_val (v := (Value.int .i64 x16)) (w' := w4) rfl rfl rfl (x_load1 rfl rfl SH_3 q16) ?_
    refine wpR_val (v := (Value.bool (decide (x15 = x16)))) (w' := w4) rfl rfl rfl (x_eql rfl rfl rfl) ?_
    refine wpR_nil ?_
    refine wpC_cond (b := decide (x15 = x16)) rfl (fun hc17 => ?_) (fun hc17 => ?_)
    · replace h := h.1 hc17
      refine wpC_cut (fun ρ => ρ 5 = (Value.int .i64 l9) ∧ True) ⟨e5, trivial⟩ ?_
      rintro ρ ⟨e5, -⟩
      refine wpC_region ?_
      refine wpR_val (v := (Value.int .i64 l9)) (w' := w4) rfl rfl rfl (x_move (v := (Value.int .i64 l9)) rfl e5) ?_
      refine wpR_val (v := (Value.int .i64 (IntKind.i64.wrap (l9 + 1)))) (w' := w4) rfl rfl rfl (x_add rfl rfl rfl) ?_
      refine wpR_val (v := (Value.int .i64 (IntKind.i64.wrap (l9 + 1)))) (w' := w4) rfl rfl rfl (x_assign (v := (Value.int .i64 (IntKind.i64.wrap (l9 + 1)))) rfl rfl) ?_
      refine wpR_nil ?_
      exact ⟨IntKind.i64.wrap (l9 + 1), ⟨rfl, trivial⟩, h⟩
    · replace h := h.2 hc17
      refine wpC_skip ?_
      exact ⟨l9, ⟨e5, trivial⟩, h⟩
  clear h
  rintro l14 ρ w5 ⟨e5, -⟩ h
  replace h := hk l14 w5 h
  clear hk
  refine wpC_seq ?_
  refine wpC_region ?_
  refine wpR_val (v := (Value.int .i64 l14)) (w' := w5) rfl rfl rfl (x_move (v := (Value.int .i64 l14)) rfl e5) ?_
  refine wpR_val (v := (Value.int .i64 l14)) (w' := w5) rfl rfl rfl (x_assign (v := (Value.int .i64 l14)) rfl rfl) ?_
  refine wpR_nil ?_
  refine wpC_ret ?_
  exact ⟨.inl rfl, fun a ha => ⟨_, results_rep1 rfl ha rfl, l14, rfl, h⟩⟩

/-- lingualaw36.calm -/
def F15 (p0 : Sl) (w0 : World) (K : Bool → World → Prop) : Prop :=
  lp (fun (next1 : Int → World → Prop) l1 w1 =>
    cnd (decide (l1 < (p0.len : Int)))
      (
      ix p0 l1 5 fun p3 =>
      ld (Value.int .i64) (p3.add 2) w1 fun x4 =>
      jp (fun J5 => cnd (decide (x4 < 0))
        (
        J5 true
        )
        (
        ix p0 l1 5 fun p7 =>
        ld (Value.int .i64) (p7.add 2) w1 fun x8 =>
        J5 (decide (1073741824 < x8))
        ))
      fun c9 =>
      cnd (c9)
        (
        K false w1
        )
        (
        next1 (IntKind.i64.wrap (l1 + 1)) w1
        )
      )
      (
      K true w1
      )
  ) 0 w0
set_option maxRecDepth 100000 in
theorem D15 (p0 : Sl) (w0 : World) (K : Bool → World → Prop) (h : F15 p0 w0 K) : callC Try.prog 15 #[(Sl.v p0)] (fun (r : Bool) => (Value.bool r)) w0 K := by
  unfold F15 at h
  refine calls_of_wpC Try.func15 rfl 24 rfl (by simp) ?_
  intro ρ hρ
  have e0 : ρ 0 = (Sl.v p0) := hρ 0
  clear hρ
  refine wpC_seq ?_
  refine wpC_region ?_
  refine wpR_val (v := (Value.bool false)) (w' := w0) rfl rfl rfl (x_assign (v := (Value.bool false)) rfl rfl) ?_
  refine wpR_nil ?_
  refine wpC_seq ?_
  refine wpC_seq ?_
  refine wpC_cut (fun ρ => ρ 0 = (Sl.v p0) ∧ True) ⟨e0, trivial⟩ ?_
  rintro ρ ⟨e0, -⟩
  refine wpC_region ?_
  refine wpR_val (v := (Value.int .i64 0)) (w' := w0) rfl rfl rfl (x_assign (v := (Value.int .i64 0)) rfl rfl) ?_
  refine wpR_nil ?_
  refine wpC_block ?_
  obtain ⟨I1, μ1, hI1, hr1⟩ := h
  refine wpC_loop (fun (x : Int) ρ => ρ 3 = (Value.int .i64 x) ∧ ρ 0 = (Sl.v p0) ∧ True) I1 μ1 0 ⟨rfl, e0, trivial⟩ hI1 ?_
  rintro l1 ρ w1 ⟨e3, e0, -⟩ h
  replace h := hr1 l1 w1 h
  clear hr1 hI1
  refine wpC_seq ?_
  refine wpC_seq ?_
  refine wpC_region ?_
  refine wpR_val (v := (Value.int .i64 l1)) (w' := w1) rfl rfl rfl (x_move (v := (Value.int .i64 l1)) rfl e3) ?_
  refine wpR_val (v := (Sl.v p0)) (w' := w1) rfl rfl rfl (x_move (v := (Sl.v p0)) rfl e0) ?_
  refine wpR_val (v := (Value.int .i64 (p0.len : Int))) (w' := w1) rfl rfl rfl (x_lenS (s := p0) rfl rfl isSliceT_22) ?_
  refine wpR_val (v := (Value.bool (decide (l1 < (p0.len : Int))))) (w' := w1) rfl rfl rfl (x_lss rfl rfl rfl) ?_
  refine wpR_nil ?_
  refine wpC_cond (b := decide (l1 < (p0.len : Int))) rfl (fun hc2 => ?_) (fun hc2 => ?_)
  · replace h := h.1 hc2
    refine wpC_skip ?_
    refine wpC_seq ?_
    refine wpC_block ?_
    refine wpC_seq ?_
    refine wpC_cut (fun ρ => ρ 0 = (Sl.v p0) ∧ ρ 3 = (Value.int .i64 l1) ∧ True) ⟨e0, e3, trivial⟩ ?_
    rintro ρ ⟨e0, e3, -⟩
    refine wpC_region ?_
    refine wpR_val (v := (Sl.v p0)) (w' := w1) rfl rfl rfl (x_move (v := (Sl.v p0)) rfl e0) ?_
    refine wpR_val (v := (Value.int .i64 l1)) (w' := w1) rfl rfl rfl (x_move (v := (Value.int .i64 l1)) rfl e3) ?_
    obtain ⟨q3, z3, r3, h⟩ := h
    generalize hp3 : z3.add ((l1 : Int).toNat * 5) = p3 at h
    refine wpR_val (v := (Value.pointer (some p3))) (w' := w1) rfl rfl rfl ((x_indexAddr (s := p0) rfl rfl rfl ES_22 q3 r3).trans (by rw [hp3])) ?_
    refine wpR_val (v := (Value.pointer (some (p3.add 2)))) (w' := w1) rfl rfl rfl (x_fieldAddr rfl rfl FA_30_2) ?_
    obtain ⟨x4, q4, h⟩ := h
    refine wpR_val (v := (Value.int .i64 x4)) (w' := w1) rfl rfl rfl (x_load1 rfl rfl SH_3 q4) ?_
    refine wpR_val (v := (Value.bool (decide (x4 < 0)))) (w' := w1) rfl rfl rfl (x_lss rfl rfl rfl) ?_
    refine wpR_val (v := (Value.bool (decide (x4 < 0)))) (w' := w1) rfl rfl rfl (x_move (v := (Value.bool (decide (x4 < 0)))) rfl rfl) ?_
    obtain ⟨J5, h, hk⟩ := h
    refine wpR_joinJ 7 (fun x ρ => ρ 23 = Value.bool x ∧ ρ 0 = (Sl.v p0) ∧ ρ 3 = (Value.int .i64 l1) ∧ True) (fun x w => J5 x ∧ w1 = w) ?_ ?_
    · clear hk
      rcases Bool.eq_false_or_eq_true (decide (x4 < 0)) with hc6 | hc6
      · replace h := h.1 hc6
        refine wpR_pass (wantN rfl rfl rfl hc6) rfl rfl ?_
        refine wpR_pass (wantN rfl rfl rfl hc6) rfl rfl ?_
        refine wpR_pass (wantN rfl rfl rfl hc6) rfl rfl ?_
        refine wpR_pass (wantN rfl rfl rfl hc6) rfl rfl ?_
        refine wpR_pass (wantN rfl rfl rfl hc6) rfl rfl ?_
        refine wpR_pass (wantN rfl rfl rfl hc6) rfl rfl ?_
        refine wpR_val (v := (Value.bool true)) (w' := w1) rfl rfl rfl (x_pickT (v := (Value.bool true)) rfl rfl hc6 rfl) ?_
        refine wpR_nil ?_
        exact ⟨true, ⟨rfl, e0, e3, trivial⟩, h, rfl⟩
      · replace h := h.2 hc6
        refine wpR_val (v := (Sl.v p0)) (w' := w1) (wantG rfl rfl rfl hc6) rfl rfl (x_move (v := (Sl.v p0)) rfl e0) ?_
        refine wpR_val (v := (Value.int .i64 l1)) (w' := w1) (wantG rfl rfl rfl hc6) rfl rfl (x_move (v := (Value.int .i64 l1)) rfl e3) ?_
        obtain ⟨q7, z7, r7, h⟩ := h
        generalize hp7 : z7.add ((l1 : Int).toNat * 5) = p7 at h
        refine wpR_val (v := (Value.pointer (some p7))) (w' := w1) (wantG rfl rfl rfl hc6) rfl rfl ((x_indexAddr (s := p0) rfl rfl rfl ES_22 q7 r7).trans (by rw [hp7])) ?_
        refine wpR_val (v := (Value.pointer (some (p7.add 2)))) (w' := w1) (wantG rfl rfl rfl hc6) rfl rfl (x_fieldAddr rfl rfl FA_30_2) ?_
        obtain ⟨x8, q8, h⟩ := h
        refine wpR_val (v := (Value.int .i64 x8)) (w' := w1) (wantG rfl rfl rfl hc6) rfl rfl (x_load1 rfl rfl SH_3 q8) ?_
        refine wpR_val (v := (Value.bool (decide (1073741824 < x8)))) (w' := w1) (wantG rfl rfl rfl hc6) rfl rfl (x_gtr rfl rfl rfl) ?_
        refine wpR_val (v := (Value.bool (decide (1073741824 < x8)))) (w' := w1) rfl rfl rfl (x_pickF (v := (Value.bool (decide (1073741824 < x8)))) rfl rfl hc6 rfl) ?_
        refine wpR_nil ?_
        exact ⟨decide (1073741824 < x8), ⟨rfl, e0, e3, trivial⟩, h, rfl⟩
    clear h
    rintro c9 ρ wj ⟨e23, e0, e3, -⟩ ⟨h, rfl⟩
    replace h := hk c9 h
    clear hk
    refine wpR_nil ?_
    refine wpC_cond (b := c9) e23 (fun hc10 => ?_) (fun hc10 => ?_)
    · replace h := h.1 hc10
      refine wpC_seq ?_
      refine wpC_region ?_
      refine wpR_val (v := (Value.bool false)) (w' := w1) rfl rfl rfl (x_assign (v := (Value.bool false)) rfl rfl) ?_
      refine wpR_nil ?_
      refine wpC_ret ?_
      exact ⟨.inl rfl, fun a ha => ⟨_, results_rep1 rfl ha rfl, false, rfl, h⟩⟩
    · replace h := h.2 hc10
      refine wpC_skip ?_
      refine wpC_region ?_
      refine wpR_val (v := (Value.int .i64 l1)) (w' := w1) rfl rfl rfl (x_move (v := (Value.int .i64 l1)) rfl e3) ?_
      refine wpR_val (v := (Value.int .i64 (IntKind.i64.wrap (l1 + 1)))) (w' := w1) rfl rfl rfl (x_add rfl rfl rfl) ?_
      refine wpR_val (v := (Value.int .i64 (IntKind.i64.wrap (l1 + 1)))) (w' := w1) rfl rfl rfl (x_assign (v := (Value.int .i64 (IntKind.i64.wrap (l1 + 1)))) rfl rfl) ?_
      refine wpR_nil ?_
      exact ⟨IntKind.i64.wrap (l1 + 1), ⟨rfl, e0, trivial⟩, h⟩
  · replace h := h.2 hc2
    refine wpC_exit ?_
    refine wpC_seq ?_
    refine wpC_cut (fun ρ => True) trivial ?_
    rintro ρ -
    refine wpC_region ?_
    refine wpR_val (v := (Value.bool true)) (w' := w1) rfl rfl rfl (x_assign (v := (Value.bool true)) rfl rfl) ?_
    refine wpR_nil ?_
    refine wpC_ret ?_
    exact ⟨.inl rfl, fun a ha => ⟨_, results_rep1 rfl ha rfl, true, rfl, h⟩⟩

/-- event.Net -/
def F16 (p0 : Int) (w0 : World) (K : Int → World → Prop) : Prop :=
  callC Try.prog 24 #[(Value.int .i64 p0), (Value.int .i64 2000)] (fun (r : Bool) => (Value.bool r)) w0 fun r1 w1 =>
  cnd (!r1)
    (
    K (-1) w1
    )
    (
    K (p0.tmod 12) w1
    )
set_option maxRecDepth 100000 in
theorem D16 (p0 : Int) (w0 : World) (K : Int → World → Prop) (h : F16 p0 w0 K) : callC Try.prog 16 #[(Value.int .i64 p0)] (fun (r : Int) => (Value.int .i64 r)) w0 K := by
  unfold F16 at h
  refine calls_of_wpC Try.func16 rfl 8 rfl (by simp) ?_
  intro ρ hρ
  have e0 : ρ 0 = (Value.int .i64 p0) := hρ 0
  clear hρ
  refine wpC_seq ?_
  refine wpC_region ?_
  refine wpR_val (v := (Value.int .i64 0)) (w' := w0) rfl rfl rfl (x_assign (v := (Value.int .i64 0)) rfl rfl) ?_
  refine wpR_nil ?_
  refine wpC_seq ?_
  refine wpC_seq ?_
  refine wpC_cut (fun ρ => ρ 0 = (Value.int .i64 p0) ∧ True) ⟨e0, trivial⟩ ?_
  rintro ρ ⟨e0, -⟩
  refine wpC_region ?_
  refine wpR_val (v := (Value.int .i64 p0)) (w' := w0) rfl rfl rfl (x_move (v := (Value.int .i64 p0)) rfl e0) ?_
  refine wpR_enter rfl rfl rfl (x_call (vs := [(Value.int .i64 p0), (Value.int .i64 2000)]) rfl rfl (mapl_cons rfl (mapl_cons rfl mapl_nil)) Try.func24 NN_24 NB_24) (Calls.mono h ?_)
  rintro _ w1 ⟨r1, rfl, h⟩
  refine ⟨_, rfl, ?_⟩
  refine wpR_val (v := (Value.bool (!r1))) (w' := w1) rfl rfl rfl (x_not rfl rfl) ?_
  refine wpR_nil ?_
  refine wpC_cond (b := !r1) rfl (fun hc2 => ?_) (fun hc2 => ?_)
  · replace h := h.1 hc2
    refine wpC_seq ?_
    refine wpC_cut (fun ρ => True) trivial ?_
    rintro ρ -
    refine wpC_region ?_
    refine wpR_val (v := (Value.int .i64 (-1))) (w' := w1) rfl rfl rfl (x_assign (v := (Value.int .i64 (-1))) rfl rfl) ?_
    refine wpR_nil ?_
    refine wpC_ret ?_
    exact ⟨.inl rfl, fun a ha => ⟨_, results_rep1 rfl ha rfl, (-1), rfl, h⟩⟩
  · replace h := h.2 hc2
    refine wpC_skip ?_
    refine wpC_seq ?_
    refine wpC_cut (fun ρ => ρ 0 = (Value.int .i64 p0) ∧ True) ⟨e0, trivial⟩ ?_
    rintro ρ ⟨e0, -⟩
    refine wpC_region ?_
    refine wpR_val (v := (Value.int .i64 p0)) (w' := w1) rfl rfl rfl (x_move (v := (Value.int .i64 p0)) rfl e0) ?_
    refine wpR_val (v := (Value.int .i64 (p0.tmod 12))) (w' := w1) rfl rfl rfl (x_rem rfl rfl rfl (by decide)) ?_
    refine wpR_val (v := (Value.int .i64 (p0.tmod 12))) (w' := w1) rfl rfl rfl (x_assign (v := (Value.int .i64 (p0.tmod 12))) rfl rfl) ?_
    refine wpR_nil ?_
    refine wpC_ret ?_
    exact ⟨.inl rfl, fun a ha => ⟨_, results_rep1 rfl ha rfl, p0.tmod 12, rfl, h⟩⟩

/-- lingualaw36.note -/
def F17 (p0 : Int) (p1 : Int) (p2 : Int) (w0 : World) (K : (Int × Int × Int × Int × Int) → World → Prop) : Prop :=
  nw 30 #[(Value.int .i64 0), (Value.int .i64 0), (Value.int .i64 0), (Value.int .i64 0), (Value.int .i64 0)] w0 fun b1 w1 =>
  st (Addr.mk b1 0 none) [(Value.int .i64 p0), (Value.int .i64 5), (Value.int .i64 p1), (Value.int .i64 p2), (Value.int .i64 (-1))] w1 fun w2 =>
  ld (Value.int .i64) ((Addr.mk b1 0 none).add 0) w2 fun x3 =>
  ld (Value.int .i64) ((Addr.mk b1 0 none).add 1) w2 fun x4 =>
  ld (Value.int .i64) ((Addr.mk b1 0 none).add 2) w2 fun x5 =>
  ld (Value.int .i64) ((Addr.mk b1 0 none).add 3) w2 fun x6 =>
  ld (Value.int .i64) ((Addr.mk b1 0 none).add 4) w2 fun x7 =>
  K (x3, x4, x5, x6, x7) w2
set_option maxRecDepth 100000 in
theorem D17 (p0 : Int) (p1 : Int) (p2 : Int) (w0 : World) (K : (Int × Int × Int × Int × Int) → World → Prop) (h : F17 p0 p1 p2 w0 K) : callC Try.prog 17 #[(Value.int .i64 p0), (Value.int .i64 p1), (Value.int .i64 p2)] (fun (r : Int × Int × Int × Int × Int) => (Value.agg #[(Value.int .i64 r.1), (Value.int .i64 r.2.1), (Value.int .i64 r.2.2.1), (Value.int .i64 r.2.2.2.1), (Value.int .i64 r.2.2.2.2)])) w0 K := by
  unfold F17 at h
  refine calls_of_wpC Try.func17 rfl 11 rfl (by simp) ?_
  intro ρ hρ
  have e0 : ρ 0 = (Value.int .i64 p0) := hρ 0
  have e1 : ρ 1 = (Value.int .i64 p1) := hρ 1
  have e2 : ρ 2 = (Value.int .i64 p2) := hρ 2
  clear hρ
  refine wpC_seq ?_
  refine wpC_region ?_
  obtain ⟨b1, hb1⟩ : ∃ u, u = w0.heap.size := ⟨_, rfl⟩
  obtain ⟨w1, hw1⟩ : ∃ u, u = w0.alloc (.cells #[(Value.int .i64 0), (Value.int .i64 0), (Value.int .i64 0), (Value.int .i64 0), (Value.int .i64 0)] 30) := ⟨_, rfl⟩
  replace h := h b1 w1 hb1 hw1
  refine wpR_val (v := (Value.pointer (some (Addr.mk b1 0 none)))) (w' := w1) rfl rfl rfl ((x_alloc rfl ZV_30).trans (by rw [hb1, hw1]; rfl)) ?_
  refine wpR_nil ?_
  refine wpC_seq ?_
  refine wpC_cut (fun ρ => ρ 0 = (Value.int .i64 p0) ∧ ρ 1 = (Value.int .i64 p1) ∧ ρ 2 = (Value.int .i64 p2) ∧ ρ 6 = (Value.pointer (some (Addr.mk b1 0 none))) ∧ True) ⟨e0, e1, e2, rfl, trivial⟩ ?_
  rintro ρ ⟨e0, e1, e2, e6, -⟩
  refine wpC_region ?_
  refine wpR_val (v := (Value.int .i64 p0)) (w' := w1) rfl rfl rfl (x_move (v := (Value.int .i64 p0)) rfl e0) ?_
  refine wpR_val (v := (Value.int .i64 p1)) (w' := w1) rfl rfl rfl (x_move (v := (Value.int .i64 p1)) rfl e1) ?_
  refine wpR_val (v := (Value.int .i64 p2)) (w' := w1) rfl rfl rfl (x_move (v := (Value.int .i64 p2)) rfl e2) ?_
  refine wpR_val (v := (Value.agg #[(Value.int .i64 p0), (Value.int .i64 5), (Value.int .i64 p1), (Value.int .i64 p2), (Value.int .i64 (-1))])) (w' := w1) rfl rfl rfl (x_build (qs := [(0, (Value.int .i64 p0)), (1, (Value.int .i64 5)), (2, (Value.int .i64 p1)), (3, (Value.int .i64 p2)), (4, (Value.int .i64 (-1)))]) rfl (by rfl) (BD_30_0_1_2_3_4 p0 5 p1 p2 (-1) _)) ?_
  obtain ⟨q2, h⟩ := h
  obtain ⟨w2, hw2⟩ : ∃ u, u = setAll w1 (Addr.mk b1 0 none) [(Value.int .i64 p0), (Value.int .i64 5), (Value.int .i64 p1), (Value.int .i64 p2), (Value.int .i64 (-1))] 0 := ⟨_, rfl⟩
  replace h := h w2 hw2
  refine wpR_skp (w' := w2) rfl rfl ((x_store (v := (Value.agg #[(Value.int .i64 p0), (Value.int .i64 5), (Value.int .i64 p1), (Value.int .i64 p2), (Value.int .i64 (-1))])) rfl e6 rfl SZ_30 (ones (by rfl)) q2).trans (by rw [hw2]; rfl)) ?_
  refine wpR_nil ?_
  refine wpC_ret ?_
  obtain ⟨x3, q3, h⟩ := h
  obtain ⟨x4, q4, h⟩ := h
  obtain ⟨x5, q5, h⟩ := h
  obtain ⟨x6, q6, h⟩ := h
  obtain ⟨x7, q7, h⟩ := h
  exact ⟨.inl rfl, fun a ha => ⟨_, results_repC [(Value.int .i64 x3), (Value.int .i64 x4), (Value.int .i64 x5), (Value.int .i64 x6), (Value.int .i64 x7)] rfl ha e6 SH_30 (CellsAt.out (CellsAt.cons q3 (CellsAt.cons q4 (CellsAt.cons q5 (CellsAt.cons q6 (CellsAt.cons q7 CellsAt.nil)))))), (x3, x4, x5, x6, x7), rfl, h⟩⟩

/-- echo.last -/
def F18 (p0 : Sl) (p1_0 : Int) (p1_1 : Int) (p1_2 : Int) (p1_3 : Int) (p1_4 : Int) (p2 : Int) (p3 : Value) (w0 : World) (K : Int → World → Prop) : Prop :=
  nw 30 #[(Value.int .i64 p1_0), (Value.int .i64 p1_1), (Value.int .i64 p1_2), (Value.int .i64 p1_3), (Value.int .i64 p1_4)] w0 fun b1 w1 =>
  lp (fun (next2 : Int → World → Prop) l2 w2 =>
    cnd (decide (0 ≤ l2))
      (
      jn (fun (J5 : Bool → World → Prop) => tk w2 fun w3 =>
        ix p0 l2 5 fun p6 =>
        ld (Value.int .i64) (p6.add 0) w3 fun x7 =>
        ld (Value.int .i64) (p6.add 1) w3 fun x8 =>
        ld (Value.int .i64) (p6.add 2) w3 fun x9 =>
        ld (Value.int .i64) (p6.add 3) w3 fun x10 =>
        ld (Value.int .i64) (p6.add 4) w3 fun x11 =>
        ld (Value.int .i64) ((Addr.mk b1 0 none).add 0) w3 fun x12 =>
        ld (Value.int .i64) ((Addr.mk b1 0 none).add 1) w3 fun x13 =>
        ld (Value.int .i64) ((Addr.mk b1 0 none).add 2) w3 fun x14 =>
        ld (Value.int .i64) ((Addr.mk b1 0 none).add 3) w3 fun x15 =>
        ld (Value.int .i64) ((Addr.mk b1 0 none).add 4) w3 fun x16 =>
        callC Try.prog 25 #[(Value.agg #[(Value.int .i64 x7), (Value.int .i64 x8), (Value.int .i64 x9), (Value.int .i64 x10), (Value.int .i64 x11)]), (Value.agg #[(Value.int .i64 x12), (Value.int .i64 x13), (Value.int .i64 x14), (Value.int .i64 x15), (Value.int .i64 x16)]), (Value.int .i64 p2)] (fun (r : Bool) => (Value.bool r)) w3 fun r17 w4 =>
        cnd (r17)
          (
          cv Try.prog p3 [(Value.int .i64 l2)] (fun (r : Bool) => (Value.bool r)) w4 fun r19 w5 =>
          J5 (!r19) w5
          )
          (
          J5 false w4
          )
      )
      fun l20 w6 =>
      cnd (l20)
        (
        K l2 w6
        )
        (
        next2 (IntKind.i64.wrap (l2 - 1)) w6
        )
      )
      (
      K (-1) w2
      )
  ) (IntKind.i64.wrap ((p0.len : Int) - 1)) w1
set_option maxRecDepth 100000 in
theorem D18 (p0 : Sl) (p1_0 : Int) (p1_1 : Int) (p1_2 : Int) (p1_3 : Int) (p1_4 : Int) (p2 : Int) (p3 : Value) (w0 : World) (K : Int → World → Prop) (h : F18 p0 p1_0 p1_1 p1_2 p1_3 p1_4 p2 p3 w0 K) : callC Try.prog 18 #[(Sl.v p0), (Value.agg #[(Value.int .i64 p1_0), (Value.int .i64 p1_1), (Value.int .i64 p1_2), (Value.int .i64 p1_3), (Value.int .i64 p1_4)]), (Value.int .i64 p2), p3] (fun (r : Int) => (Value.int .i64 r)) w0 K := by
  unfold F18 at h
  refine calls_of_wpC Try.func18 rfl 31 rfl (by simp) ?_
  intro ρ hρ
  have e0 : ρ 0 = (Sl.v p0) := hρ 0
  have e1 : ρ 1 = (Value.agg #[(Value.int .i64 p1_0), (Value.int .i64 p1_1), (Value.int .i64 p1_2), (Value.int .i64 p1_3), (Value.int .i64 p1_4)]) := hρ 1
  have e2 : ρ 2 = (Value.int .i64 p2) := hρ 2
  have e3 : ρ 3 = p3 := hρ 3
  clear hρ
  refine wpC_seq ?_
  refine wpC_region ?_
  obtain ⟨b1, hb1⟩ : ∃ u, u = w0.heap.size := ⟨_, rfl⟩
  obtain ⟨w1, hw1⟩ : ∃ u, u = w0.alloc (.cells #[(Value.int .i64 p1_0), (Value.int .i64 p1_1), (Value.int .i64 p1_2), (Value.int .i64 p1_3), (Value.int .i64 p1_4)] 30) := ⟨_, rfl⟩
  replace h := h b1 w1 hb1 hw1
  refine wpR_val (v := (Value.pointer (some (Addr.mk b1 0 none)))) (w' := w1) rfl rfl rfl ((x_box (v := (Value.agg #[(Value.int .i64 p1_0), (Value.int .i64 p1_1), (Value.int .i64 p1_2), (Value.int .i64 p1_3), (Value.int .i64 p1_4)])) rfl e1).trans (by rw [hb1, hw1]; rfl)) ?_
  refine wpR_val (v := (Value.int .i64 0)) (w' := w1) rfl rfl rfl (x_assign (v := (Value.int .i64 0)) rfl rfl) ?_
  refine wpR_nil ?_
  refine wpC_seq ?_
  refine wpC_seq ?_
  refine wpC_cut (fun ρ => ρ 0 = (Sl.v p0) ∧ ρ 2 = (Value.int .i64 p2) ∧ ρ 3 = p3 ∧ ρ 5 = (Value.pointer (some (Addr.mk b1 0 none))) ∧ True) ⟨e0, e2, e3, rfl, trivial⟩ ?_
  rintro ρ ⟨e0, e2, e3, e5, -⟩
  refine wpC_region ?_
  refine wpR_val (v := (Sl.v p0)) (w' := w1) rfl rfl rfl (x_move (v := (Sl.v p0)) rfl e0) ?_
  refine wpR_val (v := (Value.int .i64 (p0.len : Int))) (w' := w1) rfl rfl rfl (x_lenS (s := p0) rfl rfl isSliceT_22) ?_
  refine wpR_val (v := (Value.int .i64 (IntKind.i64.wrap ((p0.len : Int) - 1)))) (w' := w1) rfl rfl rfl (x_sub rfl rfl rfl) ?_
  refine wpR_val (v := (Value.int .i64 (IntKind.i64.wrap ((p0.len : Int) - 1)))) (w' := w1) rfl rfl rfl (x_assign (v := (Value.int .i64 (IntKind.i64.wrap ((p0.len : Int) - 1)))) rfl rfl) ?_
  refine wpR_nil ?_
  refine wpC_block ?_
  obtain ⟨I2, μ2, hI2, hr2⟩ := h
  refine wpC_loop (fun (x : Int) ρ => ρ 9 = (Value.int .i64 x) ∧ ρ 0 = (Sl.v p0) ∧ ρ 2 = (Value.int .i64 p2) ∧ ρ 3 = p3 ∧ ρ 5 = (Value.pointer (some (Addr.mk b1 0 none))) ∧ True) I2 μ2 (IntKind.i64.wrap ((p0.len : Int) - 1)) ⟨rfl, e0, e2, e3, e5, trivial⟩ hI2 ?_
  rintro l2 ρ w2 ⟨e9, e0, e2, e3, e5, -⟩ h
  replace h := hr2 l2 w2 h
  clear hr2 hI2
  refine wpC_seq ?_
  refine wpC_seq ?_
  refine wpC_region ?_
  refine wpR_val (v := (Value.int .i64 l2)) (w' := w2) rfl rfl rfl (x_move (v := (Value.int .i64 l2)) rfl e9) ?_
  refine wpR_val (v := (Value.bool (decide (0 ≤ l2)))) (w' := w2) rfl rfl rfl (x_geq rfl rfl rfl) ?_
  refine wpR_nil ?_
  refine wpC_cond (b := decide (0 ≤ l2)) rfl (fun hc3 => ?_) (fun hc3 => ?_)
  · replace h := h.1 hc3
    refine wpC_skip ?_
    refine wpC_seq ?_
    refine wpC_block ?_
    refine wpC_seq ?_
    refine wpC_cut (fun ρ => ρ 0 = (Sl.v p0) ∧ ρ 2 = (Value.int .i64 p2) ∧ ρ 3 = p3 ∧ ρ 5 = (Value.pointer (some (Addr.mk b1 0 none))) ∧ ρ 9 = (Value.int .i64 l2) ∧ True) ⟨e0, e2, e3, e5, e9, trivial⟩ ?_
    rintro ρ ⟨e0, e2, e3, e5, e9, -⟩
    obtain ⟨J5, h, hk⟩ := h
    refine wpC_drawJ (by kernel_rfl) (fun (x : Bool) ρ => ρ 29 = (Value.bool x) ∧ ρ 0 = (Sl.v p0) ∧ ρ 2 = (Value.int .i64 p2) ∧ ρ 3 = p3 ∧ ρ 5 = (Value.pointer (some (Addr.mk b1 0 none))) ∧ ρ 9 = (Value.int .i64 l2) ∧ True) J5 ?_ ?_
    · clear hk
      unfold tk at h
      generalize w2.drew = w3 at h ⊢
      refine wpD_take (v := (Sl.v p0)) 0 (fun _ => True) rfl (by kernel_rfl) (by kernel_rfl) (by kernel_rfl) rfl rfl rfl trivial (fun w _ => (x_move (v := (Sl.v p0)) rfl e0)) ?_
      refine wpD_take (v := (Value.int .i64 l2)) 1 (fun _ => True) rfl (by kernel_rfl) (by kernel_rfl) (by kernel_rfl) rfl rfl rfl trivial (fun w _ => (x_move (v := (Value.int .i64 l2)) rfl e9)) ?_
      obtain ⟨q6, z6, r6, h⟩ := h
      generalize hp6 : z6.add ((l2 : Int).toNat * 5) = p6 at h
      refine wpD_take (v := (Value.pointer (some p6))) 2 (fun _ => True) rfl (by kernel_rfl) (by kernel_rfl) (by kernel_rfl) rfl rfl rfl trivial (fun w _ => ((x_indexAddr (s := p0) rfl rfl rfl ES_22 q6 r6).trans (by rw [hp6]))) ?_
      obtain ⟨x7, q7, h⟩ := h
      obtain ⟨x8, q8, h⟩ := h
      obtain ⟨x9, q9, h⟩ := h
      obtain ⟨x10, q10, h⟩ := h
      obtain ⟨x11, q11, h⟩ := h
      refine wpD_take (v := (Value.agg #[(Value.int .i64 x7), (Value.int .i64 x8), (Value.int .i64 x9), (Value.int .i64 x10), (Value.int .i64 x11)])) 3 (fun w => w.cell? (p6.add 0) = some (Value.int .i64 x7) ∧ w.cell? (p6.add 1) = some (Value.int .i64 x8) ∧ w.cell? (p6.add 2) = some (Value.int .i64 x9) ∧ w.cell? (p6.add 3) = some (Value.int .i64 x10) ∧ w.cell? (p6.add 4) = some (Value.int .i64 x11)) rfl (by kernel_rfl) (by kernel_rfl) (by kernel_rfl) rfl rfl rfl ⟨q7, q8, q9, q10, q11⟩ (fun w ⟨q7, q8, q9, q10, q11⟩ => (x_loadN [(Value.int .i64 x7), (Value.int .i64 x8), (Value.int .i64 x9), (Value.int .i64 x10), (Value.int .i64 x11)] rfl rfl SH_30 (CellsAt.out (CellsAt.cons q7 (CellsAt.cons q8 (CellsAt.cons q9 (CellsAt.cons q10 (CellsAt.cons q11 CellsAt.nil)))))))) ?_
      obtain ⟨x12, q12, h⟩ := h
      obtain ⟨x13, q13, h⟩ := h
      obtain ⟨x14, q14, h⟩ := h
      obtain ⟨x15, q15, h⟩ := h
      obtain ⟨x16, q16, h⟩ := h
      refine wpD_take (v := (Value.agg #[(Value.int .i64 x12), (Value.int .i64 x13), (Value.int .i64 x14), (Value.int .i64 x15), (Value.int .i64 x16)])) 4 (fun w => w.cell? ((Addr.mk b1 0 none).add 0) = some (Value.int .i64 x12) ∧ w.cell? ((Addr.mk b1 0 none).add 1) = some (Value.int .i64 x13) ∧ w.cell? ((Addr.mk b1 0 none).add 2) = some (Value.int .i64 x14) ∧ w.cell? ((Addr.mk b1 0 none).add 3) = some (Value.int .i64 x15) ∧ w.cell? ((Addr.mk b1 0 none).add 4) = some (Value.int .i64 x16)) rfl (by kernel_rfl) (by kernel_rfl) (by kernel_rfl) rfl rfl rfl ⟨q12, q13, q14, q15, q16⟩ (fun w ⟨q12, q13, q14, q15, q16⟩ => (x_loadN [(Value.int .i64 x12), (Value.int .i64 x13), (Value.int .i64 x14), (Value.int .i64 x15), (Value.int .i64 x16)] rfl e5 SH_30 (CellsAt.out (CellsAt.cons q12 (CellsAt.cons q13 (CellsAt.cons q14 (CellsAt.cons q15 (CellsAt.cons q16 CellsAt.nil)))))))) ?_
      refine wpD_take (v := (Value.int .i64 p2)) 5 (fun _ => True) rfl (by kernel_rfl) (by kernel_rfl) (by kernel_rfl) rfl rfl rfl trivial (fun w _ => (x_move (v := (Value.int .i64 p2)) rfl e2)) ?_
      refine wpD_all (rs := [6]) (by kernel_rfl) (by simp) (allD_cons ?_ allD_nil)
      refine stepD_enterL (L' := [(2, fun _ => True), (1, fun _ => True), (0, fun _ => True)]) rfl rfl rfl rfl (x_call (vs := [(Value.agg #[(Value.int .i64 x7), (Value.int .i64 x8), (Value.int .i64 x9), (Value.int .i64 x10), (Value.int .i64 x11)]), (Value.agg #[(Value.int .i64 x12), (Value.int .i64 x13), (Value.int .i64 x14), (Value.int .i64 x15), (Value.int .i64 x16)]), (Value.int .i64 p2)]) rfl rfl (mapl_cons rfl (mapl_cons rfl (mapl_cons rfl mapl_nil))) Try.func25 NN_25 NB_25) (by kernel_rfl) (Calls.mono h ?_)
      rintro _ w4 ⟨r17, rfl, h⟩
      refine ⟨_, rfl, (held_cons trivial (held_cons trivial (held_cons trivial held_nil))), ?_⟩
      refine wpD_take (v := (Value.bool r17)) 7 (fun _ => True) rfl (by kernel_rfl) (by kernel_rfl) (by kernel_rfl) rfl rfl rfl trivial (fun w _ => (x_move (v := (Value.bool r17)) rfl rfl)) ?_
      rcases Bool.eq_false_or_eq_true (r17) with hc18 | hc18
      · replace h := h.1 hc18
        refine wpD_take (v := p3) 8 (fun _ => True) rfl (by kernel_rfl) (by kernel_rfl) (by kernel_rfl) (wantG rfl rfl rfl hc18) rfl rfl trivial (fun w _ => (x_move (v := p3) rfl e3)) ?_
        refine wpD_take (v := (Value.int .i64 l2)) 9 (fun _ => True) rfl (by kernel_rfl) (by kernel_rfl) (by kernel_rfl) (wantG rfl rfl rfl hc18) rfl rfl trivial (fun w _ => (x_move (v := (Value.int .i64 l2)) rfl e9)) ?_
        refine wpD_all (rs := [10]) (by kernel_rfl) (by simp) (allD_cons ?_ allD_nil)
        obtain ⟨f19, fi19, ca19, fn19, qv19, qf19, qn19, qb19, h⟩ := h
        refine stepD_enterL (L' := [(2, fun _ => True), (1, fun _ => True), (0, fun _ => True)]) rfl (wantG rfl rfl rfl hc18) rfl rfl (x_callv (vs := [(Value.int .i64 l2)]) rfl ((show _ = p3 from rfl).trans qv19) (mapl_cons rfl mapl_nil) qf19 qn19 qb19) (by kernel_rfl) (Calls.mono h ?_)
        rintro _ w5 ⟨r19, rfl, h⟩
        refine ⟨_, rfl, (held_cons trivial (held_cons trivial (held_cons trivial held_nil))), ?_⟩
        refine wpD_take (v := (Value.bool (!r19))) 11 (fun _ => True) rfl (by kernel_rfl) (by kernel_rfl) (by kernel_rfl) (wantG rfl rfl rfl hc18) rfl rfl trivial (fun w _ => (x_not rfl rfl)) ?_
        refine wpD_take (v := (Value.bool (!r19))) 12 (fun _ => True) rfl (by kernel_rfl) (by kernel_rfl) (by kernel_rfl) rfl rfl rfl trivial (fun w _ => (x_pickT (v := (Value.bool (!r19))) rfl rfl hc18 rfl)) ?_
        exact wpD_done (by kernel_rfl) ⟨!r19, ⟨rfl, e0, e2, e3, e5, e9, trivial⟩, h⟩
      · replace h := h.2 hc18
        refine wpD_pass 8 rfl (by kernel_rfl) (by kernel_rfl) (by kernel_rfl) (wantN rfl rfl rfl hc18) rfl rfl ?_
        refine wpD_pass 9 rfl (by kernel_rfl) (by kernel_rfl) (by kernel_rfl) (wantN rfl rfl rfl hc18) rfl rfl ?_
        refine wpD_pass 10 rfl (by kernel_rfl) (by kernel_rfl) (by kernel_rfl) (wantN rfl rfl rfl hc18) rfl rfl ?_
        refine wpD_pass 11 rfl (by kernel_rfl) (by kernel_rfl) (by kernel_rfl) (wantN rfl rfl rfl hc18) rfl rfl ?_
        refine wpD_take (v := (Value.bool false)) 12 (fun _ => True) rfl (by kernel_rfl) (by kernel_rfl) (by kernel_rfl) rfl rfl rfl trivial (fun w _ => (x_pickF (v := (Value.bool false)) rfl rfl hc18 rfl)) ?_
        exact wpD_done (by kernel_rfl) ⟨false, ⟨rfl, e0, e2, e3, e5, e9, trivial⟩, h⟩
    clear h
    rintro l20 ρ w6 ⟨e29, e0, e2, e3, e5, e9, -⟩ h
    replace h := hk l20 w6 h
    clear hk
    refine wpC_cond (b := l20) e29 (fun hc21 => ?_) (fun hc21 => ?_)
    · replace h := h.1 hc21
      refine wpC_seq ?_
      refine wpC_region ?_
      refine wpR_val (v := (Value.int .i64 l2)) (w' := w6) rfl rfl rfl (x_move (v := (Value.int .i64 l2)) rfl e9) ?_
      refine wpR_val (v := (Value.int .i64 l2)) (w' := w6) rfl rfl rfl (x_assign (v := (Value.int .i64 l2)) rfl rfl) ?_
      refine wpR_nil ?_
      refine wpC_ret ?_
      exact ⟨.inl rfl, fun a ha => ⟨_, results_rep1 rfl ha rfl, l2, rfl, h⟩⟩
    · replace h := h.2 hc21
      refine wpC_skip ?_
      refine wpC_region ?_
      refine wpR_val (v := (Value.int .i64 l2)) (w' := w6) rfl rfl rfl (x_move (v := (Value.int .i64 l2)) rfl e9) ?_
      refine wpR_val (v := (Value.int .i64 (IntKind.i64.wrap (l2 - 1)))) (w' := w6) rfl rfl rfl (x_sub rfl rfl rfl) ?_
      refine wpR_val (v := (Value.int .i64 (IntKind.i64.wrap (l2 - 1)))) (w' := w6) rfl rfl rfl (x_assign (v := (Value.int .i64 (IntKind.i64.wrap (l2 - 1)))) rfl rfl) ?_
      refine wpR_nil ?_
      exact ⟨IntKind.i64.wrap (l2 - 1), ⟨rfl, e0, e2, e3, e5, trivial⟩, h⟩
  · replace h := h.2 hc3
    refine wpC_exit ?_
    refine wpC_seq ?_
    refine wpC_cut (fun ρ => True) trivial ?_
    rintro ρ -
    refine wpC_region ?_
    refine wpR_val (v := (Value.int .i64 (-1))) (w' := w2) rfl rfl rfl (x_assign (v := (Value.int .i64 (-1))) rfl rfl) ?_
    refine wpR_nil ?_
    refine wpC_ret ?_
    exact ⟨.inl rfl, fun a ha => ⟨_, results_rep1 rfl ha rfl, (-1), rfl, h⟩⟩

/-- echo.Pairs$1 -/
def F19 (p0 : Int) (c1 : Addr) (c2 : Addr) (w0 : World) (K : Bool → World → Prop) : Prop :=
  ld Value.map c1 w0 fun x1 =>
  ld (Value.int .i64) c2 w0 fun x2 =>
  rn Try.prog (Instr.lookup 40 (Value.map x1) (Value.int .i64 x2) false) (fun (r : Sl) => (Sl.v r)) w0 fun r3 w1 =>
  callC Try.prog 20 #[(Sl.v r3), (Value.int .i64 p0)] (fun (r : Bool) => (Value.bool r)) w1 fun r4 w2 =>
  K r4 w2
set_option maxRecDepth 100000 in
theorem D19 (p0 : Int) (c1 : Addr) (c2 : Addr) (w0 : World) (K : Bool → World → Prop) (h : F19 p0 c1 c2 w0 K) : callC Try.prog 19 #[(Value.int .i64 p0), (Value.pointer (some c1)), (Value.pointer (some c2))] (fun (r : Bool) => (Value.bool r)) w0 K := by
  unfold F19 at h
  refine calls_of_wpC Try.func19 rfl 10 rfl (by simp) ?_
  intro ρ hρ
  have e0 : ρ 0 = (Value.int .i64 p0) := hρ 0
  have e1 : ρ 1 = (Value.pointer (some c1)) := hρ 1
  have e2 : ρ 2 = (Value.pointer (some c2)) := hρ 2
  clear hρ
  refine wpC_seq ?_
  refine wpC_region ?_
  refine wpR_val (v := (Value.bool false)) (w' := w0) rfl rfl rfl (x_assign (v := (Value.bool false)) rfl rfl) ?_
  refine wpR_nil ?_
  refine wpC_seq ?_
  refine wpC_cut (fun ρ => ρ 0 = (Value.int .i64 p0) ∧ ρ 1 = (Value.pointer (some c1)) ∧ ρ 2 = (Value.pointer (some c2)) ∧ True) ⟨e0, e1, e2, trivial⟩ ?_
  rintro ρ ⟨e0, e1, e2, -⟩
  refine wpC_region ?_
  obtain ⟨x1, q1, h⟩ := h
  refine wpR_val (v := (Value.map x1)) (w' := w0) rfl rfl rfl (x_load1 rfl e1 SH_40 q1) ?_
  obtain ⟨x2, q2, h⟩ := h
  refine wpR_val (v := (Value.int .i64 x2)) (w' := w0) rfl rfl rfl (x_load1 rfl e2 SH_3 q2) ?_
  obtain ⟨r3, w1, q3, h⟩ := h
  refine wpR_val (v := (Sl.v r3)) (w' := w1) rfl rfl rfl (x_lookup rfl rfl rfl q3) ?_
  refine wpR_val (v := (Value.int .i64 p0)) (w' := w1) rfl rfl rfl (x_move (v := (Value.int .i64 p0)) rfl e0) ?_
  refine wpR_enter rfl rfl rfl (x_call (vs := [(Sl.v r3), (Value.int .i64 p0)]) rfl rfl (mapl_cons rfl (mapl_cons rfl mapl_nil)) Try.func20 NN_20 NB_20) (Calls.mono h ?_)
  rintro _ w2 ⟨r4, rfl, h⟩
  refine ⟨_, rfl, ?_⟩
  refine wpR_val (v := (Value.bool r4)) (w' := w2) rfl rfl rfl (x_assign (v := (Value.bool r4)) rfl rfl) ?_
  refine wpR_nil ?_
  refine wpC_ret ?_
  exact ⟨.inl rfl, fun a ha => ⟨_, results_rep1 rfl ha rfl, r4, rfl, h⟩⟩

/-- slices.Contains[[]int,int] -/
def F20 (p0 : Sl) (p1 : Int) (w0 : World) (K : Bool → World → Prop) : Prop :=
  callC Try.prog 26 #[(Sl.v p0), (Value.int .i64 p1)] (fun (r : Int) => (Value.int .i64 r)) w0 fun r1 w1 =>
  K (decide (0 ≤ r1)) w1
set_option maxRecDepth 100000 in
theorem D20 (p0 : Sl) (p1 : Int) (w0 : World) (K : Bool → World → Prop) (h : F20 p0 p1 w0 K) : callC Try.prog 20 #[(Sl.v p0), (Value.int .i64 p1)] (fun (r : Bool) => (Value.bool r)) w0 K := by
  unfold F20 at h
  refine calls_of_wpC Try.func20 rfl 9 rfl (by simp) ?_
  intro ρ hρ
  have e0 : ρ 0 = (Sl.v p0) := hρ 0
  have e1 : ρ 1 = (Value.int .i64 p1) := hρ 1
  clear hρ
  refine wpC_seq ?_
  refine wpC_region ?_
  refine wpR_val (v := (Value.bool false)) (w' := w0) rfl rfl rfl (x_assign (v := (Value.bool false)) rfl rfl) ?_
  refine wpR_nil ?_
  refine wpC_seq ?_
  refine wpC_cut (fun ρ => ρ 0 = (Sl.v p0) ∧ ρ 1 = (Value.int .i64 p1) ∧ True) ⟨e0, e1, trivial⟩ ?_
  rintro ρ ⟨e0, e1, -⟩
  refine wpC_region ?_
  refine wpR_val (v := (Sl.v p0)) (w' := w0) rfl rfl rfl (x_move (v := (Sl.v p0)) rfl e0) ?_
  refine wpR_val (v := (Value.int .i64 p1)) (w' := w0) rfl rfl rfl (x_move (v := (Value.int .i64 p1)) rfl e1) ?_
  refine wpR_enter rfl rfl rfl (x_call (vs := [(Sl.v p0), (Value.int .i64 p1)]) rfl rfl (mapl_cons rfl (mapl_cons rfl mapl_nil)) Try.func26 NN_26 NB_26) (Calls.mono h ?_)
  rintro _ w1 ⟨r1, rfl, h⟩
  refine ⟨_, rfl, ?_⟩
  refine wpR_val (v := (Value.bool (decide (0 ≤ r1)))) (w' := w1) rfl rfl rfl (x_geq rfl rfl rfl) ?_
  refine wpR_val (v := (Value.bool (decide (0 ≤ r1)))) (w' := w1) rfl rfl rfl (x_assign (v := (Value.bool (decide (0 ≤ r1)))) rfl rfl) ?_
  refine wpR_nil ?_
  refine wpC_ret ?_
  exact ⟨.inl rfl, fun a ha => ⟨_, results_rep1 rfl ha rfl, decide (0 ≤ r1), rfl, h⟩⟩

/-- linguaref36.May -/
def F21 (p0_0 : Int) (p0_1 : Int) (p0_2 : Int) (p0_3 : Int) (p0_4 : Int) (p1_0 : Int) (p1_1 : Int) (p1_2 : Int) (p1_3 : Int) (p1_4 : Int) (p2 : Int) (w0 : World) (K : Bool → World → Prop) : Prop :=
  nw 30 #[(Value.int .i64 p0_0), (Value.int .i64 p0_1), (Value.int .i64 p0_2), (Value.int .i64 p0_3), (Value.int .i64 p0_4)] w0 fun b1 w1 =>
  nw 30 #[(Value.int .i64 p1_0), (Value.int .i64 p1_1), (Value.int .i64 p1_2), (Value.int .i64 p1_3), (Value.int .i64 p1_4)] w1 fun b2 w2 =>
  jn (fun (J4 : Bool → World → Prop) => tk w2 fun w3 =>
    cnd (decide (p2 < 0))
      (
      J4 true w3
      )
      (
      ld (Value.int .i64) ((Addr.mk b1 0 none).add 0) w3 fun x6 =>
      ld (Value.int .i64) ((Addr.mk b1 0 none).add 1) w3 fun x7 =>
      ld (Value.int .i64) ((Addr.mk b1 0 none).add 2) w3 fun x8 =>
      ld (Value.int .i64) ((Addr.mk b1 0 none).add 3) w3 fun x9 =>
      ld (Value.int .i64) ((Addr.mk b1 0 none).add 4) w3 fun x10 =>
      ld (Value.int .i64) ((Addr.mk b2 0 none).add 0) w3 fun x11 =>
      ld (Value.int .i64) ((Addr.mk b2 0 none).add 1) w3 fun x12 =>
      ld (Value.int .i64) ((Addr.mk b2 0 none).add 2) w3 fun x13 =>
      ld (Value.int .i64) ((Addr.mk b2 0 none).add 3) w3 fun x14 =>
      ld (Value.int .i64) ((Addr.mk b2 0 none).add 4) w3 fun x15 =>
      callC Try.prog 14 #[(Value.agg #[(Value.int .i64 x6), (Value.int .i64 x7), (Value.int .i64 x8), (Value.int .i64 x9), (Value.int .i64 x10)]), (Value.agg #[(Value.int .i64 x11), (Value.int .i64 x12), (Value.int .i64 x13), (Value.int .i64 x14), (Value.int .i64 x15)])] (fun (r : Int) => (Value.int .i64 r)) w3 fun r16 w4 =>
      cnd (!decide (r16 = 3))
        (
        J4 true w4
        )
        (
        ld (Value.int .i64) ((Addr.mk b1 0 none).add 0) w4 fun x18 =>
        ld (Value.int .i64) ((Addr.mk b2 0 none).add 0) w4 fun x19 =>
        callC Try.prog 22 #[(Value.int .i64 x18)] (fun (r : Int) => (Value.int .i64 r)) w4 fun r20 w5 =>
        (w5.cell? ((Addr.mk b2 0 none).add 0) = some (Value.int .i64 x19)) ∧
        callC Try.prog 22 #[(Value.int .i64 x19)] (fun (r : Int) => (Value.int .i64 r)) w5 fun r21 w6 =>
        cnd (decide (r20 = r21))
          (
          J4 true w6
          )
          (
          ld (Value.int .i64) ((Addr.mk b1 0 none).add 2) w6 fun x23 =>
          ld (Value.int .i64) ((Addr.mk b2 0 none).add 2) w6 fun x24 =>
          J4 (decide (x24 < x23)) w6
          )
        )
      )
  )
  fun l25 w7 =>
  cnd (l25)
    (
    K false w7
    )
    (
    ld (Value.int .i64) ((Addr.mk b2 0 none).add 2) w7 fun x27 =>
    jp (fun J28 => cnd (decide ((IntKind.i64.wrap ((-9223372036854775808) + p2)) ≤ x27))
      (
      ld (Value.int .i64) ((Addr.mk b1 0 none).add 2) w7 fun x30 =>
      ld (Value.int .i64) ((Addr.mk b2 0 none).add 2) w7 fun x31 =>
      J28 (decide (x30 < (IntKind.i64.wrap (x31 - p2))))
      )
      (
      J28 false
      ))
    fun c32 =>
    K (!c32) w7
    )
set_option maxRecDepth 100000 in
theorem D21 (p0_0 : Int) (p0_1 : Int) (p0_2 : Int) (p0_3 : Int) (p0_4 : Int) (p1_0 : Int) (p1_1 : Int) (p1_2 : Int) (p1_3 : Int) (p1_4 : Int) (p2 : Int) (w0 : World) (K : Bool → World → Prop) (h : F21 p0_0 p0_1 p0_2 p0_3 p0_4 p1_0 p1_1 p1_2 p1_3 p1_4 p2 w0 K) : callC Try.prog 21 #[(Value.agg #[(Value.int .i64 p0_0), (Value.int .i64 p0_1), (Value.int .i64 p0_2), (Value.int .i64 p0_3), (Value.int .i64 p0_4)]), (Value.agg #[(Value.int .i64 p1_0), (Value.int .i64 p1_1), (Value.int .i64 p1_2), (Value.int .i64 p1_3), (Value.int .i64 p1_4)]), (Value.int .i64 p2)] (fun (r : Bool) => (Value.bool r)) w0 K := by
  unfold F21 at h
  refine calls_of_wpC Try.func21 rfl 48 rfl (by simp) ?_
  intro ρ hρ
  have e0 : ρ 0 = (Value.agg #[(Value.int .i64 p0_0), (Value.int .i64 p0_1), (Value.int .i64 p0_2), (Value.int .i64 p0_3), (Value.int .i64 p0_4)]) := hρ 0
  have e1 : ρ 1 = (Value.agg #[(Value.int .i64 p1_0), (Value.int .i64 p1_1), (Value.int .i64 p1_2), (Value.int .i64 p1_3), (Value.int .i64 p1_4)]) := hρ 1
  have e2 : ρ 2 = (Value.int .i64 p2) := hρ 2
  clear hρ
  refine wpC_seq ?_
  refine wpC_region ?_
  obtain ⟨b1, hb1⟩ : ∃ u, u = w0.heap.size := ⟨_, rfl⟩
  obtain ⟨w1, hw1⟩ : ∃ u, u = w0.alloc (.cells #[(Value.int .i64 p0_0), (Value.int .i64 p0_1), (Value.int .i64 p0_2), (Value.int .i64 p0_3), (Value.int .i64 p0_4)] 30) := ⟨_, rfl⟩
  replace h := h b1 w1 hb1 hw1
  refine wpR_val (v := (Value.pointer (some (Addr.mk b1 0 none)))) (w' := w1) rfl rfl rfl ((x_box (v := (Value.agg #[(Value.int .i64 p0_0), (Value.int .i64 p0_1), (Value.int .i64 p0_2), (Value.int .i64 p0_3), (Value.int .i64 p0_4)])) rfl e0).trans (by rw [hb1, hw1]; rfl)) ?_
  obtain ⟨b2, hb2⟩ : ∃ u, u = w1.heap.size := ⟨_, rfl⟩
  obtain ⟨w2, hw2⟩ : ∃ u, u = w1.alloc (.cells #[(Value.int .i64 p1_0), (Value.int .i64 p1_1), (Value.int .i64 p1_2), (Value.int .i64 p1_3), (Value.int .i64 p1_4)] 30) := ⟨_, rfl⟩
  replace h := h b2 w2 hb2 hw2
  refine wpR_val (v := (Value.pointer (some (Addr.mk b2 0 none)))) (w' := w2) rfl rfl rfl ((x_box (v := (Value.agg #[(Value.int .i64 p1_0), (Value.int .i64 p1_1), (Value.int .i64 p1_2), (Value.int .i64 p1_3), (Value.int .i64 p1_4)])) rfl e1).trans (by rw [hb2, hw2]; rfl)) ?_
  refine wpR_val (v := (Value.bool false)) (w' := w2) rfl rfl rfl (x_assign (v := (Value.bool false)) rfl rfl) ?_
  refine wpR_nil ?_
  refine wpC_seq ?_
  refine wpC_seq ?_
  refine wpC_cut (fun ρ => ρ 2 = (Value.int .i64 p2) ∧ ρ 3 = (Value.pointer (some (Addr.mk b1 0 none))) ∧ ρ 4 = (Value.pointer (some (Addr.mk b2 0 none))) ∧ True) ⟨e2, rfl, rfl, trivial⟩ ?_
  rintro ρ ⟨e2, e3, e4, -⟩
  obtain ⟨J4, h, hk⟩ := h
  refine wpC_drawJ (by kernel_rfl) (fun (x : Bool) ρ => ρ 31 = (Value.bool x) ∧ ρ 2 = (Value.int .i64 p2) ∧ ρ 3 = (Value.pointer (some (Addr.mk b1 0 none))) ∧ ρ 4 = (Value.pointer (some (Addr.mk b2 0 none))) ∧ True) J4 ?_ ?_
  · clear hk
    unfold tk at h
    generalize w2.drew = w3 at h ⊢
    refine wpD_take (v := (Value.int .i64 p2)) 0 (fun _ => True) rfl (by kernel_rfl) (by kernel_rfl) (by kernel_rfl) rfl rfl rfl trivial (fun w _ => (x_move (v := (Value.int .i64 p2)) rfl e2)) ?_
    refine wpD_take (v := (Value.bool (decide (p2 < 0)))) 1 (fun _ => True) rfl (by kernel_rfl) (by kernel_rfl) (by kernel_rfl) rfl rfl rfl trivial (fun w _ => (x_lss rfl rfl rfl)) ?_
    refine wpD_take (v := (Value.bool (decide (p2 < 0)))) 2 (fun _ => True) rfl (by kernel_rfl) (by kernel_rfl) (by kernel_rfl) rfl rfl rfl trivial (fun w _ => (x_move (v := (Value.bool (decide (p2 < 0)))) rfl rfl)) ?_
    rcases Bool.eq_false_or_eq_true (decide (p2 < 0)) with hc5 | hc5
    · replace h := h.1 hc5
      refine wpD_pass 3 rfl (by kernel_rfl) (by kernel_rfl) (by kernel_rfl) (wantN rfl rfl rfl hc5) rfl rfl ?_
      refine wpD_pass 4 rfl (by kernel_rfl) (by kernel_rfl) (by kernel_rfl) (wantN rfl rfl rfl hc5) rfl rfl ?_
      refine wpD_pass 5 rfl (by kernel_rfl) (by kernel_rfl) (by kernel_rfl) (wantN rfl rfl rfl hc5) rfl rfl ?_
      refine wpD_pass 6 rfl (by kernel_rfl) (by kernel_rfl) (by kernel_rfl) (wantN rfl rfl rfl hc5) rfl rfl ?_
      refine wpD_take (v := (Value.bool true)) 7 (fun _ => True) rfl (by kernel_rfl) (by kernel_rfl) (by kernel_rfl) rfl rfl rfl trivial (fun w _ => (x_pickT (v := (Value.bool true)) rfl rfl hc5 rfl)) ?_
      refine wpD_take (v := (Value.bool true)) 8 (fun _ => True) rfl (by kernel_rfl) (by kernel_rfl) (by kernel_rfl) rfl rfl rfl trivial (fun w _ => (x_move (v := (Value.bool true)) rfl rfl)) ?_
      refine wpD_pass 9 rfl (by kernel_rfl) (by kernel_rfl) (by kernel_rfl) (wantN rfl rfl rfl rfl) rfl rfl ?_
      refine wpD_pass 10 rfl (by kernel_rfl) (by kernel_rfl) (by kernel_rfl) (wantN rfl rfl rfl rfl) rfl rfl ?_
      refine wpD_pass 11 rfl (by kernel_rfl) (by kernel_rfl) (by kernel_rfl) (wantN rfl rfl rfl rfl) rfl rfl ?_
      refine wpD_pass 12 rfl (by kernel_rfl) (by kernel_rfl) (by kernel_rfl) (wantN rfl rfl rfl rfl) rfl rfl ?_
      refine wpD_pass 13 rfl (by kernel_rfl) (by kernel_rfl) (by kernel_rfl) (wantN rfl rfl rfl rfl) rfl rfl ?_
      refine wpD_pass 14 rfl (by kernel_rfl) (by kernel_rfl) (by kernel_rfl) (wantN rfl rfl rfl rfl) rfl rfl ?_
      refine wpD_pass 15 rfl (by kernel_rfl) (by kernel_rfl) (by kernel_rfl) (wantN rfl rfl rfl rfl) rfl rfl ?_
      refine wpD_take (v := (Value.bool true)) 16 (fun _ => True) rfl (by kernel_rfl) (by kernel_rfl) (by kernel_rfl) rfl rfl rfl trivial (fun w _ => (x_pickT (v := (Value.bool true)) rfl rfl rfl rfl)) ?_
      refine wpD_take (v := (Value.bool true)) 17 (fun _ => True) rfl (by kernel_rfl) (by kernel_rfl) (by kernel_rfl) rfl rfl rfl trivial (fun w _ => (x_move (v := (Value.bool true)) rfl rfl)) ?_
      refine wpD_pass 18 rfl (by kernel_rfl) (by kernel_rfl) (by kernel_rfl) (wantN rfl rfl rfl rfl) rfl rfl ?_
      refine wpD_pass 19 rfl (by kernel_rfl) (by kernel_rfl) (by kernel_rfl) (wantN rfl rfl rfl rfl) rfl rfl ?_
      refine wpD_pass 20 rfl (by kernel_rfl) (by kernel_rfl) (by kernel_rfl) (wantN rfl rfl rfl rfl) rfl rfl ?_
      refine wpD_pass 21 rfl (by kernel_rfl) (by kernel_rfl) (by kernel_rfl) (wantN rfl rfl rfl rfl) rfl rfl ?_
      refine wpD_pass 22 rfl (by kernel_rfl) (by kernel_rfl) (by kernel_rfl) (wantN rfl rfl rfl rfl) rfl rfl ?_
      refine wpD_take (v := (Value.bool true)) 23 (fun _ => True) rfl (by kernel_rfl) (by kernel_rfl) (by kernel_rfl) rfl rfl rfl trivial (fun w _ => (x_pickT (v := (Value.bool true)) rfl rfl rfl rfl)) ?_
      exact wpD_done (by kernel_rfl) ⟨true, ⟨rfl, e2, e3, e4, trivial⟩, h⟩
    · replace h := h.2 hc5
      obtain ⟨x6, q6, h⟩ := h
      obtain ⟨x7, q7, h⟩ := h
      obtain ⟨x8, q8, h⟩ := h
      obtain ⟨x9, q9, h⟩ := h
      obtain ⟨x10, q10, h⟩ := h
      refine wpD_take (v := (Value.agg #[(Value.int .i64 x6), (Value.int .i64 x7), (Value.int .i64 x8), (Value.int .i64 x9), (Value.int .i64 x10)])) 3 (fun w => w.cell? ((Addr.mk b1 0 none).add 0) = some (Value.int .i64 x6) ∧ w.cell? ((Addr.mk b1 0 none).add 1) = some (Value.int .i64 x7) ∧ w.cell? ((Addr.mk b1 0 none).add 2) = some (Value.int .i64 x8) ∧ w.cell? ((Addr.mk b1 0 none).add 3) = some (Value.int .i64 x9) ∧ w.cell? ((Addr.mk b1 0 none).add 4) = some (Value.int .i64 x10)) rfl (by kernel_rfl) (by kernel_rfl) (by kernel_rfl) (wantG rfl rfl rfl hc5) rfl rfl ⟨q6, q7, q8, q9, q10⟩ (fun w ⟨q6, q7, q8, q9, q10⟩ => (x_loadN [(Value.int .i64 x6), (Value.int .i64 x7), (Value.int .i64 x8), (Value.int .i64 x9), (Value.int .i64 x10)] rfl e3 SH_30 (CellsAt.out (CellsAt.cons q6 (CellsAt.cons q7 (CellsAt.cons q8 (CellsAt.cons q9 (CellsAt.cons q10 CellsAt.nil)))))))) ?_
      obtain ⟨x11, q11, h⟩ := h
      obtain ⟨x12, q12, h⟩ := h
      obtain ⟨x13, q13, h⟩ := h
      obtain ⟨x14, q14, h⟩ := h
      obtain ⟨x15, q15, h⟩ := h
      refine wpD_take (v := (Value.agg #[(Value.int .i64 x11), (Value.int .i64 x12), (Value.int .i64 x13), (Value.int .i64 x14), (Value.int .i64 x15)])) 4 (fun w => w.cell? ((Addr.mk b2 0 none).add 0) = some (Value.int .i64 x11) ∧ w.cell? ((Addr.mk b2 0 none).add 1) = some (Value.int .i64 x12) ∧ w.cell? ((Addr.mk b2 0 none).add 2) = some (Value.int .i64 x13) ∧ w.cell? ((Addr.mk b2 0 none).add 3) = some (Value.int .i64 x14) ∧ w.cell? ((Addr.mk b2 0 none).add 4) = some (Value.int .i64 x15)) rfl (by kernel_rfl) (by kernel_rfl) (by kernel_rfl) (wantG rfl rfl rfl hc5) rfl rfl ⟨q11, q12, q13, q14, q15⟩ (fun w ⟨q11, q12, q13, q14, q15⟩ => (x_loadN [(Value.int .i64 x11), (Value.int .i64 x12), (Value.int .i64 x13), (Value.int .i64 x14), (Value.int .i64 x15)] rfl e4 SH_30 (CellsAt.out (CellsAt.cons q11 (CellsAt.cons q12 (CellsAt.cons q13 (CellsAt.cons q14 (CellsAt.cons q15 CellsAt.nil)))))))) ?_
      refine wpD_all (rs := [5]) (by kernel_rfl) (by simp) (allD_cons ?_ allD_nil)
      refine stepD_enterL (L' := [(1, fun _ => True), (0, fun _ => True)]) rfl (wantG rfl rfl rfl hc5) rfl rfl (x_call (vs := [(Value.agg #[(Value.int .i64 x6), (Value.int .i64 x7), (Value.int .i64 x8), (Value.int .i64 x9), (Value.int .i64 x10)]), (Value.agg #[(Value.int .i64 x11), (Value.int .i64 x12), (Value.int .i64 x13), (Value.int .i64 x14), (Value.int .i64 x15)])]) rfl rfl (mapl_cons rfl (mapl_cons rfl mapl_nil)) Try.func14 NN_14 NB_14) (by kernel_rfl) (Calls.mono h ?_)
      rintro _ w4 ⟨r16, rfl, h⟩
      refine ⟨_, rfl, (held_cons trivial (held_cons trivial held_nil)), ?_⟩
      refine wpD_take (v := (Value.bool (!decide (r16 = 3)))) 6 (fun _ => True) rfl (by kernel_rfl) (by kernel_rfl) (by kernel_rfl) (wantG rfl rfl rfl hc5) rfl rfl trivial (fun w _ => (x_neq rfl rfl rfl)) ?_
      refine wpD_take (v := (Value.bool (!decide (r16 = 3)))) 7 (fun _ => True) rfl (by kernel_rfl) (by kernel_rfl) (by kernel_rfl) rfl rfl rfl trivial (fun w _ => (x_pickF (v := (Value.bool (!decide (r16 = 3)))) rfl rfl hc5 rfl)) ?_
      refine wpD_take (v := (Value.bool (!decide (r16 = 3)))) 8 (fun _ => True) rfl (by kernel_rfl) (by kernel_rfl) (by kernel_rfl) rfl rfl rfl trivial (fun w _ => (x_move (v := (Value.bool (!decide (r16 = 3)))) rfl rfl)) ?_
      rcases Bool.eq_false_or_eq_true (!decide (r16 = 3)) with hc17 | hc17
      · replace h := h.1 hc17
        refine wpD_pass 9 rfl (by kernel_rfl) (by kernel_rfl) (by kernel_rfl) (wantN rfl rfl rfl hc17) rfl rfl ?_
        refine wpD_pass 10 rfl (by kernel_rfl) (by kernel_rfl) (by kernel_rfl) (wantN rfl rfl rfl hc17) rfl rfl ?_
        refine wpD_pass 11 rfl (by kernel_rfl) (by kernel_rfl) (by kernel_rfl) (wantN rfl rfl rfl hc17) rfl rfl ?_
        refine wpD_pass 12 rfl (by kernel_rfl) (by kernel_rfl) (by kernel_rfl) (wantN rfl rfl rfl hc17) rfl rfl ?_
        refine wpD_pass 13 rfl (by kernel_rfl) (by kernel_rfl) (by kernel_rfl) (wantN rfl rfl rfl hc17) rfl rfl ?_
        refine wpD_pass 14 rfl (by kernel_rfl) (by kernel_rfl) (by kernel_rfl) (wantN rfl rfl rfl hc17) rfl rfl ?_
        refine wpD_pass 15 rfl (by kernel_rfl) (by kernel_rfl) (by kernel_rfl) (wantN rfl rfl rfl hc17) rfl rfl ?_
        refine wpD_take (v := (Value.bool true)) 16 (fun _ => True) rfl (by kernel_rfl) (by kernel_rfl) (by kernel_rfl) rfl rfl rfl trivial (fun w _ => (x_pickT (v := (Value.bool true)) rfl rfl hc17 rfl)) ?_
        refine wpD_take (v := (Value.bool true)) 17 (fun _ => True) rfl (by kernel_rfl) (by kernel_rfl) (by kernel_rfl) rfl rfl rfl trivial (fun w _ => (x_move (v := (Value.bool true)) rfl rfl)) ?_
        refine wpD_pass 18 rfl (by kernel_rfl) (by kernel_rfl) (by kernel_rfl) (wantN rfl rfl rfl rfl) rfl rfl ?_
        refine wpD_pass 19 rfl (by kernel_rfl) (by kernel_rfl) (by kernel_rfl) (wantN rfl rfl rfl rfl) rfl rfl ?_
        refine wpD_pass 20 rfl (by kernel_rfl) (by kernel_rfl) (by kernel_rfl) (wantN rfl rfl rfl rfl) rfl rfl ?_
        refine wpD_pass 21 rfl (by kernel_rfl) (by kernel_rfl) (by kernel_rfl) (wantN rfl rfl rfl rfl) rfl rfl ?_
        refine wpD_pass 22 rfl (by kernel_rfl) (by kernel_rfl) (by kernel_rfl) (wantN rfl rfl rfl rfl) rfl rfl ?_
        refine wpD_take (v := (Value.bool true)) 23 (fun _ => True) rfl (by kernel_rfl) (by kernel_rfl) (by kernel_rfl) rfl rfl rfl trivial (fun w _ => (x_pickT (v := (Value.bool true)) rfl rfl rfl rfl)) ?_
        exact wpD_done (by kernel_rfl) ⟨true, ⟨rfl, e2, e3, e4, trivial⟩, h⟩
      · replace h := h.2 hc17
        refine wpD_take (v := (Value.pointer (some ((Addr.mk b1 0 none).add 0)))) 9 (fun _ => True) rfl (by kernel_rfl) (by kernel_rfl) (by kernel_rfl) (wantG rfl rfl rfl hc17) rfl rfl trivial (fun w _ => (x_fieldAddr rfl e3 FA_30_0)) ?_
        obtain ⟨x18, q18, h⟩ := h
        refine wpD_take (v := (Value.int .i64 x18)) 10 (fun w => w.cell? ((Addr.mk b1 0 none).add 0) = some (Value.int .i64 x18)) rfl (by kernel_rfl) (by kernel_rfl) (by kernel_rfl) (wantG rfl rfl rfl hc17) rfl rfl q18 (fun w q18 => (x_load1 rfl rfl SH_3 q18)) ?_
        refine wpD_take (v := (Value.pointer (some ((Addr.mk b2 0 none).add 0)))) 12 (fun _ => True) rfl (by kernel_rfl) (by kernel_rfl) (by kernel_rfl) (wantG rfl rfl rfl hc17) rfl rfl trivial (fun w _ => (x_fieldAddr rfl e4 FA_30_0)) ?_
        obtain ⟨x19, q19, h⟩ := h
        refine wpD_take (v := (Value.int .i64 x19)) 13 (fun w => w.cell? ((Addr.mk b2 0 none).add 0) = some (Value.int .i64 x19)) rfl (by kernel_rfl) (by kernel_rfl) (by kernel_rfl) (wantG rfl rfl rfl hc17) rfl rfl q19 (fun w q19 => (x_load1 rfl rfl SH_3 q19)) ?_
        refine wpD_all (rs := [11]) (by kernel_rfl) (by simp) (allD_cons ?_ allD_nil)
        refine stepD_enterL (L' := [(13, fun w => w.cell? ((Addr.mk b2 0 none).add 0) = some (Value.int .i64 x19)), (12, fun _ => True), (9, fun _ => True), (7, fun _ => True), (6, fun _ => True), (1, fun _ => True), (0, fun _ => True)]) rfl (wantG rfl rfl rfl hc17) rfl rfl (x_call (vs := [(Value.int .i64 x18)]) rfl rfl (mapl_cons rfl mapl_nil) Try.func22 NN_22 NB_22) (by kernel_rfl) (Calls.mono h ?_)
        rintro _ w5 ⟨r20, rfl, h⟩
        obtain ⟨o13, h⟩ := h
        refine ⟨_, rfl, (held_cons o13 (held_cons trivial (held_cons trivial (held_cons trivial (held_cons trivial (held_cons trivial (held_cons trivial held_nil))))))), ?_⟩
        refine wpD_all (rs := [14]) (by kernel_rfl) (by simp) (allD_cons ?_ allD_nil)
        refine stepD_enterL (L' := [(12, fun _ => True), (9, fun _ => True), (7, fun _ => True), (6, fun _ => True), (1, fun _ => True), (0, fun _ => True)]) rfl (wantG rfl rfl rfl hc17) rfl rfl (x_call (vs := [(Value.int .i64 x19)]) rfl rfl (mapl_cons rfl mapl_nil) Try.func22 NN_22 NB_22) (by kernel_rfl) (Calls.mono h ?_)
        rintro _ w6 ⟨r21, rfl, h⟩
        refine ⟨_, rfl, (held_cons trivial (held_cons trivial (held_cons trivial (held_cons trivial (held_cons trivial (held_cons trivial held_nil)))))), ?_⟩
        refine wpD_take (v := (Value.bool (decide (r20 = r21)))) 15 (fun _ => True) rfl (by kernel_rfl) (by kernel_rfl) (by kernel_rfl) (wantG rfl rfl rfl hc17) rfl rfl trivial (fun w _ => (x_eql rfl rfl rfl)) ?_
        refine wpD_take (v := (Value.bool (decide (r20 = r21)))) 16 (fun _ => True) rfl (by kernel_rfl) (by kernel_rfl) (by kernel_rfl) rfl rfl rfl trivial (fun w _ => (x_pickF (v := (Value.bool (decide (r20 = r21)))) rfl rfl hc17 rfl)) ?_
        refine wpD_take (v := (Value.bool (decide (r20 = r21)))) 17 (fun _ => True) rfl (by kernel_rfl) (by kernel_rfl) (by kernel_rfl) rfl rfl rfl trivial (fun w _ => (x_move (v := (Value.bool (decide (r20 = r21)))) rfl rfl)) ?_
        rcases Bool.eq_false_or_eq_true (decide (r20 = r21)) with hc22 | hc22
        · replace h := h.1 hc22
          refine wpD_pass 18 rfl (by kernel_rfl) (by kernel_rfl) (by kernel_rfl) (wantN rfl rfl rfl hc22) rfl rfl ?_
          refine wpD_pass 19 rfl (by kernel_rfl) (by kernel_rfl) (by kernel_rfl) (wantN rfl rfl rfl hc22) rfl rfl ?_
          refine wpD_pass 20 rfl (by kernel_rfl) (by kernel_rfl) (by kernel_rfl) (wantN rfl rfl rfl hc22) rfl rfl ?_
          refine wpD_pass 21 rfl (by kernel_rfl) (by kernel_rfl) (by kernel_rfl) (wantN rfl rfl rfl hc22) rfl rfl ?_
          refine wpD_pass 22 rfl (by kernel_rfl) (by kernel_rfl) (by kernel_rfl) (wantN rfl rfl rfl hc22) rfl rfl ?_
          refine wpD_take (v := (Value.bool true)) 23 (fun _ => True) rfl (by kernel_rfl) (by kernel_rfl) (by kernel_rfl) rfl rfl rfl trivial (fun w _ => (x_pickT (v := (Value.bool true)) rfl rfl hc22 rfl)) ?_
          exact wpD_done (by kernel_rfl) ⟨true, ⟨rfl, e2, e3, e4, trivial⟩, h⟩
        · replace h := h.2 hc22
          refine wpD_take (v := (Value.pointer (some ((Addr.mk b1 0 none).add 2)))) 18 (fun _ => True) rfl (by kernel_rfl) (by kernel_rfl) (by kernel_rfl) (wantG rfl rfl rfl hc22) rfl rfl trivial (fun w _ => (x_fieldAddr rfl e3 FA_30_2)) ?_
          obtain ⟨x23, q23, h⟩ := h
          refine wpD_take (v := (Value.int .i64 x23)) 19 (fun w => w.cell? ((Addr.mk b1 0 none).add 2) = some (Value.int .i64 x23)) rfl (by kernel_rfl) (by kernel_rfl) (by kernel_rfl) (wantG rfl rfl rfl hc22) rfl rfl q23 (fun w q23 => (x_load1 rfl rfl SH_3 q23)) ?_
          refine wpD_take (v := (Value.pointer (some ((Addr.mk b2 0 none).add 2)))) 20 (fun _ => True) rfl (by kernel_rfl) (by kernel_rfl) (by kernel_rfl) (wantG rfl rfl rfl hc22) rfl rfl trivial (fun w _ => (x_fieldAddr rfl e4 FA_30_2)) ?_
          obtain ⟨x24, q24, h⟩ := h
          refine wpD_take (v := (Value.int .i64 x24)) 21 (fun w => w.cell? ((Addr.mk b2 0 none).add 2) = some (Value.int .i64 x24)) rfl (by kernel_rfl) (by kernel_rfl) (by kernel_rfl) (wantG rfl rfl rfl hc22) rfl rfl q24 (fun w q24 => (x_load1 rfl rfl SH_3 q24)) ?_
          refine wpD_take (v := (Value.bool (decide (x24 < x23)))) 22 (fun _ => True) rfl (by kernel_rfl) (by kernel_rfl) (by kernel_rfl) (wantG rfl rfl rfl hc22) rfl rfl trivial (fun w _ => (x_gtr rfl rfl rfl)) ?_
          refine wpD_take (v := (Value.bool (decide (x24 < x23)))) 23 (fun _ => True) rfl (by kernel_rfl) (by kernel_rfl) (by kernel_rfl) rfl rfl rfl trivial (fun w _ => (x_pickF (v := (Value.bool (decide (x24 < x23)))) rfl rfl hc22 rfl)) ?_
          exact wpD_done (by kernel_rfl) ⟨decide (x24 < x23), ⟨rfl, e2, e3, e4, trivial⟩, h⟩
  clear h
  rintro l25 ρ w7 ⟨e31, e2, e3, e4, -⟩ h
  replace h := hk l25 w7 h
  clear hk
  refine wpC_cond (b := l25) e31 (fun hc26 => ?_) (fun hc26 => ?_)
  · replace h := h.1 hc26
    refine wpC_seq ?_
    refine wpC_region ?_
    refine wpR_val (v := (Value.bool false)) (w' := w7) rfl rfl rfl (x_assign (v := (Value.bool false)) rfl rfl) ?_
    refine wpR_nil ?_
    refine wpC_ret ?_
    exact ⟨.inl rfl, fun a ha => ⟨_, results_rep1 rfl ha rfl, false, rfl, h⟩⟩
  · replace h := h.2 hc26
    refine wpC_skip ?_
    refine wpC_seq ?_
    refine wpC_region ?_
    refine wpR_val (v := (Value.pointer (some ((Addr.mk b2 0 none).add 2)))) (w' := w7) rfl rfl rfl (x_fieldAddr rfl e4 FA_30_2) ?_
    obtain ⟨x27, q27, h⟩ := h
    refine wpR_val (v := (Value.int .i64 x27)) (w' := w7) rfl rfl rfl (x_load1 rfl rfl SH_3 q27) ?_
    refine wpR_val (v := (Value.int .i64 p2)) (w' := w7) rfl rfl rfl (x_move (v := (Value.int .i64 p2)) rfl e2) ?_
    refine wpR_val (v := (Value.int .i64 (IntKind.i64.wrap ((-9223372036854775808) + p2)))) (w' := w7) rfl rfl rfl (x_add rfl rfl rfl) ?_
    refine wpR_val (v := (Value.bool (decide ((IntKind.i64.wrap ((-9223372036854775808) + p2)) ≤ x27)))) (w' := w7) rfl rfl rfl (x_geq rfl rfl rfl) ?_
    refine wpR_val (v := (Value.bool (decide ((IntKind.i64.wrap ((-9223372036854775808) + p2)) ≤ x27)))) (w' := w7) rfl rfl rfl (x_move (v := (Value.bool (decide ((IntKind.i64.wrap ((-9223372036854775808) + p2)) ≤ x27)))) rfl rfl) ?_
    obtain ⟨J28, h, hk⟩ := h
    refine wpR_joinJ 8 (fun x ρ => ρ 45 = Value.bool x ∧ True) (fun x w => J28 x ∧ w7 = w) ?_ ?_
    · clear hk
      rcases Bool.eq_false_or_eq_true (decide ((IntKind.i64.wrap ((-9223372036854775808) + p2)) ≤ x27)) with hc29 | hc29
      · replace h := h.1 hc29
        refine wpR_val (v := (Value.pointer (some ((Addr.mk b1 0 none).add 2)))) (w' := w7) (wantG rfl rfl rfl hc29) rfl rfl (x_fieldAddr rfl e3 FA_30_2) ?_
        obtain ⟨x30, q30, h⟩ := h
        refine wpR_val (v := (Value.int .i64 x30)) (w' := w7) (wantG rfl rfl rfl hc29) rfl rfl (x_load1 rfl rfl SH_3 q30) ?_
        refine wpR_val (v := (Value.pointer (some ((Addr.mk b2 0 none).add 2)))) (w' := w7) (wantG rfl rfl rfl hc29) rfl rfl (x_fieldAddr rfl e4 FA_30_2) ?_
        obtain ⟨x31, q31, h⟩ := h
        refine wpR_val (v := (Value.int .i64 x31)) (w' := w7) (wantG rfl rfl rfl hc29) rfl rfl (x_load1 rfl rfl SH_3 q31) ?_
        refine wpR_val (v := (Value.int .i64 p2)) (w' := w7) (wantG rfl rfl rfl hc29) rfl rfl (x_move (v := (Value.int .i64 p2)) rfl e2) ?_
        refine wpR_val (v := (Value.int .i64 (IntKind.i64.wrap (x31 - p2)))) (w' := w7) (wantG rfl rfl rfl hc29) rfl rfl (x_sub rfl rfl rfl) ?_
        refine wpR_val (v := (Value.bool (decide (x30 < (IntKind.i64.wrap (x31 - p2)))))) (w' := w7) (wantG rfl rfl rfl hc29) rfl rfl (x_lss rfl rfl rfl) ?_
        refine wpR_val (v := (Value.bool (decide (x30 < (IntKind.i64.wrap (x31 - p2)))))) (w' := w7) rfl rfl rfl (x_pickT (v := (Value.bool (decide (x30 < (IntKind.i64.wrap (x31 - p2)))))) rfl rfl hc29 rfl) ?_
        refine wpR_nil ?_
        exact ⟨decide (x30 < (IntKind.i64.wrap (x31 - p2))), ⟨rfl, trivial⟩, h, rfl⟩
      · replace h := h.2 hc29
        refine wpR_pass (wantN rfl rfl rfl hc29) rfl rfl ?_
        refine wpR_pass (wantN rfl rfl rfl hc29) rfl rfl ?_
        refine wpR_pass (wantN rfl rfl rfl hc29) rfl rfl ?_
        refine wpR_pass (wantN rfl rfl rfl hc29) rfl rfl ?_
        refine wpR_pass (wantN rfl rfl rfl hc29) rfl rfl ?_
        refine wpR_pass (wantN rfl rfl rfl hc29) rfl rfl ?_
        refine wpR_pass (wantN rfl rfl rfl hc29) rfl rfl ?_
        refine wpR_val (v := (Value.bool false)) (w' := w7) rfl rfl rfl (x_pickF (v := (Value.bool false)) rfl rfl hc29 rfl) ?_
        refine wpR_nil ?_
        exact ⟨false, ⟨rfl, trivial⟩, h, rfl⟩
    clear h
    rintro c32 ρ wj ⟨e45, -⟩ ⟨h, rfl⟩
    replace h := hk c32 h
    clear hk
    refine wpR_val (v := (Value.bool c32)) (w' := w7) rfl rfl rfl (x_assign (v := (Value.bool c32)) rfl e45) ?_
    refine wpR_nil ?_
    refine wpC_seq ?_
    refine wpC_cut (fun ρ => ρ 7 = (Value.bool c32) ∧ True) ⟨rfl, trivial⟩ ?_
    rintro ρ ⟨e7, -⟩
    refine wpC_region ?_
    refine wpR_val (v := (Value.bool c32)) (w' := w7) rfl rfl rfl (x_move (v := (Value.bool c32)) rfl e7) ?_
    refine wpR_val (v := (Value.bool (!c32))) (w' := w7) rfl rfl rfl (x_not rfl rfl) ?_
    refine wpR_val (v := (Value.bool (!c32))) (w' := w7) rfl rfl rfl (x_assign (v := (Value.bool (!c32))) rfl rfl) ?_
    refine wpR_nil ?_
    refine wpC_ret ?_
    exact ⟨.inl rfl, fun a ha => ⟨_, results_rep1 rfl ha rfl, !c32, rfl, h⟩⟩

/-- linguaref14.Net -/
def F22 (p0 : Int) (w0 : World) (K : Int → World → Prop) : Prop :=
  cnd ((decide (p0 < 0)) || (decide (1999 < p0)))
    (
    K (-1) w0
    )
    (
    K (p0.tmod 12) w0
    )
set_option maxRecDepth 100000 in
theorem D22 (p0 : Int) (w0 : World) (K : Int → World → Prop) (h : F22 p0 w0 K) : callC Try.prog 22 #[(Value.int .i64 p0)] (fun (r : Int) => (Value.int .i64 r)) w0 K := by
  unfold F22 at h
  refine calls_of_wpC Try.func22 rfl 11 rfl (by simp) ?_
  intro ρ hρ
  have e0 : ρ 0 = (Value.int .i64 p0) := hρ 0
  clear hρ
  refine wpC_seq ?_
  refine wpC_region ?_
  refine wpR_val (v := (Value.int .i64 0)) (w' := w0) rfl rfl rfl (x_assign (v := (Value.int .i64 0)) rfl rfl) ?_
  refine wpR_nil ?_
  refine wpC_seq ?_
  refine wpC_seq ?_
  refine wpC_cut (fun ρ => ρ 0 = (Value.int .i64 p0) ∧ True) ⟨e0, trivial⟩ ?_
  rintro ρ ⟨e0, -⟩
  refine wpC_region ?_
  refine wpR_val (v := (Value.int .i64 p0)) (w' := w0) rfl rfl rfl (x_move (v := (Value.int .i64 p0)) rfl e0) ?_
  refine wpR_val (v := (Value.bool (decide (p0 < 0)))) (w' := w0) rfl rfl rfl (x_lss rfl rfl rfl) ?_
  refine wpR_val (v := (Value.bool (decide (p0 < 0)))) (w' := w0) rfl rfl rfl (x_move (v := (Value.bool (decide (p0 < 0)))) rfl rfl) ?_
  refine wpR_joinJ 3 (fun (_ : Unit) ρ => ρ 8 = Value.bool ((decide (p0 < 0)) || (decide (1999 < p0))) ∧ ρ 0 = (Value.int .i64 p0) ∧ True) (fun _ w => w0 = w) ?_ ?_
  · clear h
    rcases Bool.eq_false_or_eq_true (decide (p0 < 0)) with hc2 | hc2
    · skip
      refine wpR_pass (wantN rfl rfl rfl hc2) rfl rfl ?_
      refine wpR_pass (wantN rfl rfl rfl hc2) rfl rfl ?_
      refine wpR_val (v := (Value.bool true)) (w' := w0) rfl rfl rfl (x_pickT (v := (Value.bool true)) rfl rfl hc2 rfl) ?_
      refine wpR_nil ?_
      exact ⟨(), ⟨(by rw [hc2]; rfl), e0, trivial⟩, rfl⟩
    · skip
      refine wpR_val (v := (Value.int .i64 p0)) (w' := w0) (wantG rfl rfl rfl hc2) rfl rfl (x_move (v := (Value.int .i64 p0)) rfl e0) ?_
      refine wpR_val (v := (Value.bool (decide (1999 < p0)))) (w' := w0) (wantG rfl rfl rfl hc2) rfl rfl (x_gtr rfl rfl rfl) ?_
      refine wpR_val (v := (Value.bool (decide (1999 < p0)))) (w' := w0) rfl rfl rfl (x_pickF (v := (Value.bool (decide (1999 < p0)))) rfl rfl hc2 rfl) ?_
      refine wpR_nil ?_
      exact ⟨(), ⟨(by rw [hc2]; rfl), e0, trivial⟩, rfl⟩
  rintro _ ρ wj ⟨e8, e0, -⟩ rfl
  refine wpR_nil ?_
  refine wpC_cond (b := (decide (p0 < 0)) || (decide (1999 < p0))) e8 (fun hc3 => ?_) (fun hc3 => ?_)
  · replace h := h.1 hc3
    refine wpC_seq ?_
    refine wpC_region ?_
    refine wpR_val (v := (Value.int .i64 (-1))) (w' := w0) rfl rfl rfl (x_assign (v := (Value.int .i64 (-1))) rfl rfl) ?_
    refine wpR_nil ?_
    refine wpC_ret ?_
    exact ⟨.inl rfl, fun a ha => ⟨_, results_rep1 rfl ha rfl, (-1), rfl, h⟩⟩
  · replace h := h.2 hc3
    refine wpC_skip ?_
    refine wpC_seq ?_
    refine wpC_region ?_
    refine wpR_val (v := (Value.int .i64 p0)) (w' := w0) rfl rfl rfl (x_move (v := (Value.int .i64 p0)) rfl e0) ?_
    refine wpR_val (v := (Value.int .i64 (p0.tmod 12))) (w' := w0) rfl rfl rfl (x_rem rfl rfl rfl (by decide)) ?_
    refine wpR_val (v := (Value.int .i64 (p0.tmod 12))) (w' := w0) rfl rfl rfl (x_assign (v := (Value.int .i64 (p0.tmod 12))) rfl rfl) ?_
    refine wpR_nil ?_
    refine wpC_ret ?_
    exact ⟨.inl rfl, fun a ha => ⟨_, results_rep1 rfl ha rfl, p0.tmod 12, rfl, h⟩⟩

/-- echo.Match$1 -/
def F23 (p0 : Int) (w0 : World) (K : Bool → World → Prop) : Prop :=
  K false w0
set_option maxRecDepth 100000 in
theorem D23 (p0 : Int) (w0 : World) (K : Bool → World → Prop) (h : F23 p0 w0 K) : callC Try.prog 23 #[(Value.int .i64 p0)] (fun (r : Bool) => (Value.bool r)) w0 K := by
  unfold F23 at h
  refine calls_of_wpC Try.func23 rfl 3 rfl (by simp) ?_
  intro ρ hρ
  have e0 : ρ 0 = (Value.int .i64 p0) := hρ 0
  clear hρ
  refine wpC_seq ?_
  refine wpC_region ?_
  refine wpR_val (v := (Value.bool false)) (w' := w0) rfl rfl rfl (x_assign (v := (Value.bool false)) rfl rfl) ?_
  refine wpR_nil ?_
  refine wpC_seq ?_
  refine wpC_cut (fun ρ => True) trivial ?_
  rintro ρ -
  refine wpC_region ?_
  refine wpR_val (v := (Value.bool false)) (w' := w0) rfl rfl rfl (x_assign (v := (Value.bool false)) rfl rfl) ?_
  refine wpR_nil ?_
  refine wpC_ret ?_
  exact ⟨.inl rfl, fun a ha => ⟨_, results_rep1 rfl ha rfl, false, rfl, h⟩⟩

/-- event.below -/
def F24 (p0 : Int) (p1 : Int) (w0 : World) (K : Bool → World → Prop) : Prop :=
  K ((decide (0 ≤ p0)) && (decide (p0 < p1))) w0
set_option maxRecDepth 100000 in
theorem D24 (p0 : Int) (p1 : Int) (w0 : World) (K : Bool → World → Prop) (h : F24 p0 p1 w0 K) : callC Try.prog 24 #[(Value.int .i64 p0), (Value.int .i64 p1)] (fun (r : Bool) => (Value.bool r)) w0 K := by
  unfold F24 at h
  refine calls_of_wpC Try.func24 rfl 12 rfl (by simp) ?_
  intro ρ hρ
  have e0 : ρ 0 = (Value.int .i64 p0) := hρ 0
  have e1 : ρ 1 = (Value.int .i64 p1) := hρ 1
  clear hρ
  refine wpC_seq ?_
  refine wpC_region ?_
  refine wpR_val (v := (Value.bool false)) (w' := w0) rfl rfl rfl (x_assign (v := (Value.bool false)) rfl rfl) ?_
  refine wpR_nil ?_
  refine wpC_seq ?_
  refine wpC_cut (fun ρ => ρ 0 = (Value.int .i64 p0) ∧ ρ 1 = (Value.int .i64 p1) ∧ True) ⟨e0, e1, trivial⟩ ?_
  rintro ρ ⟨e0, e1, -⟩
  refine wpC_region ?_
  refine wpR_val (v := (Value.int .i64 p0)) (w' := w0) rfl rfl rfl (x_move (v := (Value.int .i64 p0)) rfl e0) ?_
  refine wpR_val (v := (Value.bool (decide (0 ≤ p0)))) (w' := w0) rfl rfl rfl (x_leq rfl rfl rfl) ?_
  refine wpR_val (v := (Value.bool (decide (0 ≤ p0)))) (w' := w0) rfl rfl rfl (x_move (v := (Value.bool (decide (0 ≤ p0)))) rfl rfl) ?_
  refine wpR_joinJ 4 (fun (_ : Unit) ρ => ρ 11 = Value.bool ((decide (0 ≤ p0)) && (decide (p0 < p1))) ∧ True) (fun _ w => w0 = w) ?_ ?_
  · clear h
    rcases Bool.eq_false_or_eq_true (decide (0 ≤ p0)) with hc2 | hc2
    · skip
      refine wpR_val (v := (Value.int .i64 p0)) (w' := w0) (wantG rfl rfl rfl hc2) rfl rfl (x_move (v := (Value.int .i64 p0)) rfl e0) ?_
      refine wpR_val (v := (Value.int .i64 p1)) (w' := w0) (wantG rfl rfl rfl hc2) rfl rfl (x_move (v := (Value.int .i64 p1)) rfl e1) ?_
      refine wpR_val (v := (Value.bool (decide (p0 < p1)))) (w' := w0) (wantG rfl rfl rfl hc2) rfl rfl (x_lss rfl rfl rfl) ?_
      refine wpR_val (v := (Value.bool (decide (p0 < p1)))) (w' := w0) rfl rfl rfl (x_pickT (v := (Value.bool (decide (p0 < p1)))) rfl rfl hc2 rfl) ?_
      refine wpR_nil ?_
      exact ⟨(), ⟨(by rw [hc2]; rfl), trivial⟩, rfl⟩
    · skip
      refine wpR_pass (wantN rfl rfl rfl hc2) rfl rfl ?_
      refine wpR_pass (wantN rfl rfl rfl hc2) rfl rfl ?_
      refine wpR_pass (wantN rfl rfl rfl hc2) rfl rfl ?_
      refine wpR_val (v := (Value.bool false)) (w' := w0) rfl rfl rfl (x_pickF (v := (Value.bool false)) rfl rfl hc2 rfl) ?_
      refine wpR_nil ?_
      exact ⟨(), ⟨(by rw [hc2]; rfl), trivial⟩, rfl⟩
  rintro _ ρ wj ⟨e11, -⟩ rfl
  refine wpR_val (v := (Value.bool ((decide (0 ≤ p0)) && (decide (p0 < p1))))) (w' := w0) rfl rfl rfl (x_assign (v := (Value.bool ((decide (0 ≤ p0)) && (decide (p0 < p1))))) rfl e11) ?_
  refine wpR_nil ?_
  refine wpC_ret ?_
  exact ⟨.inl rfl, fun a ha => ⟨_, results_rep1 rfl ha rfl, (decide (0 ≤ p0)) && (decide (p0 < p1)), rfl, h⟩⟩

/-- echo.may -/
def F25 (p0_0 : Int) (p0_1 : Int) (p0_2 : Int) (p0_3 : Int) (p0_4 : Int) (p1_0 : Int) (p1_1 : Int) (p1_2 : Int) (p1_3 : Int) (p1_4 : Int) (p2 : Int) (w0 : World) (K : Bool → World → Prop) : Prop :=
  nw 30 #[(Value.int .i64 p0_0), (Value.int .i64 p0_1), (Value.int .i64 p0_2), (Value.int .i64 p0_3), (Value.int .i64 p0_4)] w0 fun b1 w1 =>
  nw 30 #[(Value.int .i64 p1_0), (Value.int .i64 p1_1), (Value.int .i64 p1_2), (Value.int .i64 p1_3), (Value.int .i64 p1_4)] w1 fun b2 w2 =>
  jn (fun (J4 : Bool → World → Prop) => tk w2 fun w3 =>
    cnd (decide (p2 < 0))
      (
      J4 true w3
      )
      (
      ld (Value.int .i64) ((Addr.mk b1 0 none).add 0) w3 fun x6 =>
      ld (Value.int .i64) ((Addr.mk b1 0 none).add 1) w3 fun x7 =>
      ld (Value.int .i64) ((Addr.mk b1 0 none).add 2) w3 fun x8 =>
      ld (Value.int .i64) ((Addr.mk b1 0 none).add 3) w3 fun x9 =>
      ld (Value.int .i64) ((Addr.mk b1 0 none).add 4) w3 fun x10 =>
      ld (Value.int .i64) ((Addr.mk b2 0 none).add 0) w3 fun x11 =>
      ld (Value.int .i64) ((Addr.mk b2 0 none).add 1) w3 fun x12 =>
      ld (Value.int .i64) ((Addr.mk b2 0 none).add 2) w3 fun x13 =>
      ld (Value.int .i64) ((Addr.mk b2 0 none).add 3) w3 fun x14 =>
      ld (Value.int .i64) ((Addr.mk b2 0 none).add 4) w3 fun x15 =>
      callC Try.prog 13 #[(Value.agg #[(Value.int .i64 x6), (Value.int .i64 x7), (Value.int .i64 x8), (Value.int .i64 x9), (Value.int .i64 x10)]), (Value.agg #[(Value.int .i64 x11), (Value.int .i64 x12), (Value.int .i64 x13), (Value.int .i64 x14), (Value.int .i64 x15)])] (fun (r : Int) => (Value.int .i64 r)) w3 fun r16 w4 =>
      cnd (decide (r16 < 3))
        (
        J4 true w4
        )
        (
        ld (Value.int .i64) ((Addr.mk b1 0 none).add 0) w4 fun x18 =>
        ld (Value.int .i64) ((Addr.mk b2 0 none).add 0) w4 fun x19 =>
        callC Try.prog 16 #[(Value.int .i64 x18)] (fun (r : Int) => (Value.int .i64 r)) w4 fun r20 w5 =>
        (w5.cell? ((Addr.mk b2 0 none).add 0) = some (Value.int .i64 x19)) ∧
        callC Try.prog 16 #[(Value.int .i64 x19)] (fun (r : Int) => (Value.int .i64 r)) w5 fun r21 w6 =>
        cnd (decide (r20 = r21))
          (
          J4 true w6
          )
          (
          ld (Value.int .i64) ((Addr.mk b1 0 none).add 2) w6 fun x23 =>
          ld (Value.int .i64) ((Addr.mk b2 0 none).add 2) w6 fun x24 =>
          J4 (decide (x24 < x23)) w6
          )
        )
      )
  )
  fun l25 w7 =>
  cnd (l25)
    (
    K false w7
    )
    (
    ld (Value.int .i64) ((Addr.mk b2 0 none).add 2) w7 fun x27 =>
    ld (Value.int .i64) ((Addr.mk b1 0 none).add 2) w7 fun x28 =>
    K (decide ((IntKind.u64.wrap ((IntKind.u64.wrap x27) - (IntKind.u64.wrap x28))) ≤ (IntKind.u64.wrap p2))) w7
    )
set_option maxRecDepth 100000 in
theorem D25 (p0_0 : Int) (p0_1 : Int) (p0_2 : Int) (p0_3 : Int) (p0_4 : Int) (p1_0 : Int) (p1_1 : Int) (p1_2 : Int) (p1_3 : Int) (p1_4 : Int) (p2 : Int) (w0 : World) (K : Bool → World → Prop) (h : F25 p0_0 p0_1 p0_2 p0_3 p0_4 p1_0 p1_1 p1_2 p1_3 p1_4 p2 w0 K) : callC Try.prog 25 #[(Value.agg #[(Value.int .i64 p0_0), (Value.int .i64 p0_1), (Value.int .i64 p0_2), (Value.int .i64 p0_3), (Value.int .i64 p0_4)]), (Value.agg #[(Value.int .i64 p1_0), (Value.int .i64 p1_1), (Value.int .i64 p1_2), (Value.int .i64 p1_3), (Value.int .i64 p1_4)]), (Value.int .i64 p2)] (fun (r : Bool) => (Value.bool r)) w0 K := by
  unfold F25 at h
  refine calls_of_wpC Try.func25 rfl 41 rfl (by simp) ?_
  intro ρ hρ
  have e0 : ρ 0 = (Value.agg #[(Value.int .i64 p0_0), (Value.int .i64 p0_1), (Value.int .i64 p0_2), (Value.int .i64 p0_3), (Value.int .i64 p0_4)]) := hρ 0
  have e1 : ρ 1 = (Value.agg #[(Value.int .i64 p1_0), (Value.int .i64 p1_1), (Value.int .i64 p1_2), (Value.int .i64 p1_3), (Value.int .i64 p1_4)]) := hρ 1
  have e2 : ρ 2 = (Value.int .i64 p2) := hρ 2
  clear hρ
  refine wpC_seq ?_
  refine wpC_region ?_
  obtain ⟨b1, hb1⟩ : ∃ u, u = w0.heap.size := ⟨_, rfl⟩
  obtain ⟨w1, hw1⟩ : ∃ u, u = w0.alloc (.cells #[(Value.int .i64 p0_0), (Value.int .i64 p0_1), (Value.int .i64 p0_2), (Value.int .i64 p0_3), (Value.int .i64 p0_4)] 30) := ⟨_, rfl⟩
  replace h := h b1 w1 hb1 hw1
  refine wpR_val (v := (Value.pointer (some (Addr.mk b1 0 none)))) (w' := w1) rfl rfl rfl ((x_box (v := (Value.agg #[(Value.int .i64 p0_0), (Value.int .i64 p0_1), (Value.int .i64 p0_2), (Value.int .i64 p0_3), (Value.int .i64 p0_4)])) rfl e0).trans (by rw [hb1, hw1]; rfl)) ?_
  obtain ⟨b2, hb2⟩ : ∃ u, u = w1.heap.size := ⟨_, rfl⟩
  obtain ⟨w2, hw2⟩ : ∃ u, u = w1.alloc (.cells #[(Value.int .i64 p1_0), (Value.int .i64 p1_1), (Value.int .i64 p1_2), (Value.int .i64 p1_3), (Value.int .i64 p1_4)] 30) := ⟨_, rfl⟩
  replace h := h b2 w2 hb2 hw2
  refine wpR_val (v := (Value.pointer (some (Addr.mk b2 0 none)))) (w' := w2) rfl rfl rfl ((x_box (v := (Value.agg #[(Value.int .i64 p1_0), (Value.int .i64 p1_1), (Value.int .i64 p1_2), (Value.int .i64 p1_3), (Value.int .i64 p1_4)])) rfl e1).trans (by rw [hb2, hw2]; rfl)) ?_
  refine wpR_val (v := (Value.bool false)) (w' := w2) rfl rfl rfl (x_assign (v := (Value.bool false)) rfl rfl) ?_
  refine wpR_nil ?_
  refine wpC_seq ?_
  refine wpC_seq ?_
  refine wpC_cut (fun ρ => ρ 2 = (Value.int .i64 p2) ∧ ρ 3 = (Value.pointer (some (Addr.mk b1 0 none))) ∧ ρ 4 = (Value.pointer (some (Addr.mk b2 0 none))) ∧ True) ⟨e2, rfl, rfl, trivial⟩ ?_
  rintro ρ ⟨e2, e3, e4, -⟩
  obtain ⟨J4, h, hk⟩ := h
  refine wpC_drawJ (by kernel_rfl) (fun (x : Bool) ρ => ρ 30 = (Value.bool x) ∧ ρ 2 = (Value.int .i64 p2) ∧ ρ 3 = (Value.pointer (some (Addr.mk b1 0 none))) ∧ ρ 4 = (Value.pointer (some (Addr.mk b2 0 none))) ∧ True) J4 ?_ ?_
  · clear hk
    unfold tk at h
    generalize w2.drew = w3 at h ⊢
    refine wpD_take (v := (Value.int .i64 p2)) 0 (fun _ => True) rfl (by kernel_rfl) (by kernel_rfl) (by kernel_rfl) rfl rfl rfl trivial (fun w _ => (x_move (v := (Value.int .i64 p2)) rfl e2)) ?_
    refine wpD_take (v := (Value.bool (decide (p2 < 0)))) 1 (fun _ => True) rfl (by kernel_rfl) (by kernel_rfl) (by kernel_rfl) rfl rfl rfl trivial (fun w _ => (x_lss rfl rfl rfl)) ?_
    refine wpD_take (v := (Value.bool (decide (p2 < 0)))) 2 (fun _ => True) rfl (by kernel_rfl) (by kernel_rfl) (by kernel_rfl) rfl rfl rfl trivial (fun w _ => (x_move (v := (Value.bool (decide (p2 < 0)))) rfl rfl)) ?_
    rcases Bool.eq_false_or_eq_true (decide (p2 < 0)) with hc5 | hc5
    · replace h := h.1 hc5
      refine wpD_pass 3 rfl (by kernel_rfl) (by kernel_rfl) (by kernel_rfl) (wantN rfl rfl rfl hc5) rfl rfl ?_
      refine wpD_pass 4 rfl (by kernel_rfl) (by kernel_rfl) (by kernel_rfl) (wantN rfl rfl rfl hc5) rfl rfl ?_
      refine wpD_pass 5 rfl (by kernel_rfl) (by kernel_rfl) (by kernel_rfl) (wantN rfl rfl rfl hc5) rfl rfl ?_
      refine wpD_pass 6 rfl (by kernel_rfl) (by kernel_rfl) (by kernel_rfl) (wantN rfl rfl rfl hc5) rfl rfl ?_
      refine wpD_take (v := (Value.bool true)) 7 (fun _ => True) rfl (by kernel_rfl) (by kernel_rfl) (by kernel_rfl) rfl rfl rfl trivial (fun w _ => (x_pickT (v := (Value.bool true)) rfl rfl hc5 rfl)) ?_
      refine wpD_take (v := (Value.bool true)) 8 (fun _ => True) rfl (by kernel_rfl) (by kernel_rfl) (by kernel_rfl) rfl rfl rfl trivial (fun w _ => (x_move (v := (Value.bool true)) rfl rfl)) ?_
      refine wpD_pass 9 rfl (by kernel_rfl) (by kernel_rfl) (by kernel_rfl) (wantN rfl rfl rfl rfl) rfl rfl ?_
      refine wpD_pass 10 rfl (by kernel_rfl) (by kernel_rfl) (by kernel_rfl) (wantN rfl rfl rfl rfl) rfl rfl ?_
      refine wpD_pass 11 rfl (by kernel_rfl) (by kernel_rfl) (by kernel_rfl) (wantN rfl rfl rfl rfl) rfl rfl ?_
      refine wpD_pass 12 rfl (by kernel_rfl) (by kernel_rfl) (by kernel_rfl) (wantN rfl rfl rfl rfl) rfl rfl ?_
      refine wpD_pass 13 rfl (by kernel_rfl) (by kernel_rfl) (by kernel_rfl) (wantN rfl rfl rfl rfl) rfl rfl ?_
      refine wpD_pass 14 rfl (by kernel_rfl) (by kernel_rfl) (by kernel_rfl) (wantN rfl rfl rfl rfl) rfl rfl ?_
      refine wpD_pass 15 rfl (by kernel_rfl) (by kernel_rfl) (by kernel_rfl) (wantN rfl rfl rfl rfl) rfl rfl ?_
      refine wpD_take (v := (Value.bool true)) 16 (fun _ => True) rfl (by kernel_rfl) (by kernel_rfl) (by kernel_rfl) rfl rfl rfl trivial (fun w _ => (x_pickT (v := (Value.bool true)) rfl rfl rfl rfl)) ?_
      refine wpD_take (v := (Value.bool true)) 17 (fun _ => True) rfl (by kernel_rfl) (by kernel_rfl) (by kernel_rfl) rfl rfl rfl trivial (fun w _ => (x_move (v := (Value.bool true)) rfl rfl)) ?_
      refine wpD_pass 18 rfl (by kernel_rfl) (by kernel_rfl) (by kernel_rfl) (wantN rfl rfl rfl rfl) rfl rfl ?_
      refine wpD_pass 19 rfl (by kernel_rfl) (by kernel_rfl) (by kernel_rfl) (wantN rfl rfl rfl rfl) rfl rfl ?_
      refine wpD_pass 20 rfl (by kernel_rfl) (by kernel_rfl) (by kernel_rfl) (wantN rfl rfl rfl rfl) rfl rfl ?_
      refine wpD_pass 21 rfl (by kernel_rfl) (by kernel_rfl) (by kernel_rfl) (wantN rfl rfl rfl rfl) rfl rfl ?_
      refine wpD_pass 22 rfl (by kernel_rfl) (by kernel_rfl) (by kernel_rfl) (wantN rfl rfl rfl rfl) rfl rfl ?_
      refine wpD_take (v := (Value.bool true)) 23 (fun _ => True) rfl (by kernel_rfl) (by kernel_rfl) (by kernel_rfl) rfl rfl rfl trivial (fun w _ => (x_pickT (v := (Value.bool true)) rfl rfl rfl rfl)) ?_
      exact wpD_done (by kernel_rfl) ⟨true, ⟨rfl, e2, e3, e4, trivial⟩, h⟩
    · replace h := h.2 hc5
      obtain ⟨x6, q6, h⟩ := h
      obtain ⟨x7, q7, h⟩ := h
      obtain ⟨x8, q8, h⟩ := h
      obtain ⟨x9, q9, h⟩ := h
      obtain ⟨x10, q10, h⟩ := h
      refine wpD_take (v := (Value.agg #[(Value.int .i64 x6), (Value.int .i64 x7), (Value.int .i64 x8), (Value.int .i64 x9), (Value.int .i64 x10)])) 3 (fun w => w.cell? ((Addr.mk b1 0 none).add 0) = some (Value.int .i64 x6) ∧ w.cell? ((Addr.mk b1 0 none).add 1) = some (Value.int .i64 x7) ∧ w.cell? ((Addr.mk b1 0 none).add 2) = some (Value.int .i64 x8) ∧ w.cell? ((Addr.mk b1 0 none).add 3) = some (Value.int .i64 x9) ∧ w.cell? ((Addr.mk b1 0 none).add 4) = some (Value.int .i64 x10)) rfl (by kernel_rfl) (by kernel_rfl) (by kernel_rfl) (wantG rfl rfl rfl hc5) rfl rfl ⟨q6, q7, q8, q9, q10⟩ (fun w ⟨q6, q7, q8, q9, q10⟩ => (x_loadN [(Value.int .i64 x6), (Value.int .i64 x7), (Value.int .i64 x8), (Value.int .i64 x9), (Value.int .i64 x10)] rfl e3 SH_30 (CellsAt.out (CellsAt.cons q6 (CellsAt.cons q7 (CellsAt.cons q8 (CellsAt.cons q9 (CellsAt.cons q10 CellsAt.nil)))))))) ?_
      obtain ⟨x11, q11, h⟩ := h
      obtain ⟨x12, q12, h⟩ := h
      obtain ⟨x13, q13, h⟩ := h
      obtain ⟨x14, q14, h⟩ := h
      obtain ⟨x15, q15, h⟩ := h
      refine wpD_take (v := (Value.agg #[(Value.int .i64 x11), (Value.int .i64 x12), (Value.int .i64 x13), (Value.int .i64 x14), (Value.int .i64 x15)])) 4 (fun w => w.cell? ((Addr.mk b2 0 none).add 0) = some (Value.int .i64 x11) ∧ w.cell? ((Addr.mk b2 0 none).add 1) = some (Value.int .i64 x12) ∧ w.cell? ((Addr.mk b2 0 none).add 2) = some (Value.int .i64 x13) ∧ w.cell? ((Addr.mk b2 0 none).add 3) = some (Value.int .i64 x14) ∧ w.cell? ((Addr.mk b2 0 none).add 4) = some (Value.int .i64 x15)) rfl (by kernel_rfl) (by kernel_rfl) (by kernel_rfl) (wantG rfl rfl rfl hc5) rfl rfl ⟨q11, q12, q13, q14, q15⟩ (fun w ⟨q11, q12, q13, q14, q15⟩ => (x_loadN [(Value.int .i64 x11), (Value.int .i64 x12), (Value.int .i64 x13), (Value.int .i64 x14), (Value.int .i64 x15)] rfl e4 SH_30 (CellsAt.out (CellsAt.cons q11 (CellsAt.cons q12 (CellsAt.cons q13 (CellsAt.cons q14 (CellsAt.cons q15 CellsAt.nil)))))))) ?_
      refine wpD_all (rs := [5]) (by kernel_rfl) (by simp) (allD_cons ?_ allD_nil)
      refine stepD_enterL (L' := [(1, fun _ => True), (0, fun _ => True)]) rfl (wantG rfl rfl rfl hc5) rfl rfl (x_call (vs := [(Value.agg #[(Value.int .i64 x6), (Value.int .i64 x7), (Value.int .i64 x8), (Value.int .i64 x9), (Value.int .i64 x10)]), (Value.agg #[(Value.int .i64 x11), (Value.int .i64 x12), (Value.int .i64 x13), (Value.int .i64 x14), (Value.int .i64 x15)])]) rfl rfl (mapl_cons rfl (mapl_cons rfl mapl_nil)) Try.func13 NN_13 NB_13) (by kernel_rfl) (Calls.mono h ?_)
      rintro _ w4 ⟨r16, rfl, h⟩
      refine ⟨_, rfl, (held_cons trivial (held_cons trivial held_nil)), ?_⟩
      refine wpD_take (v := (Value.bool (decide (r16 < 3)))) 6 (fun _ => True) rfl (by kernel_rfl) (by kernel_rfl) (by kernel_rfl) (wantG rfl rfl rfl hc5) rfl rfl trivial (fun w _ => (x_lss rfl rfl rfl)) ?_
      refine wpD_take (v := (Value.bool (decide (r16 < 3)))) 7 (fun _ => True) rfl (by kernel_rfl) (by kernel_rfl) (by kernel_rfl) rfl rfl rfl trivial (fun w _ => (x_pickF (v := (Value.bool (decide (r16 < 3)))) rfl rfl hc5 rfl)) ?_
      refine wpD_take (v := (Value.bool (decide (r16 < 3)))) 8 (fun _ => True) rfl (by kernel_rfl) (by kernel_rfl) (by kernel_rfl) rfl rfl rfl trivial (fun w _ => (x_move (v := (Value.bool (decide (r16 < 3)))) rfl rfl)) ?_
      rcases Bool.eq_false_or_eq_true (decide (r16 < 3)) with hc17 | hc17
      · replace h := h.1 hc17
        refine wpD_pass 9 rfl (by kernel_rfl) (by kernel_rfl) (by kernel_rfl) (wantN rfl rfl rfl hc17) rfl rfl ?_
        refine wpD_pass 10 rfl (by kernel_rfl) (by kernel_rfl) (by kernel_rfl) (wantN rfl rfl rfl hc17) rfl rfl ?_
        refine wpD_pass 11 rfl (by kernel_rfl) (by kernel_rfl) (by kernel_rfl) (wantN rfl rfl rfl hc17) rfl rfl ?_
        refine wpD_pass 12 rfl (by kernel_rfl) (by kernel_rfl) (by kernel_rfl) (wantN rfl rfl rfl hc17) rfl rfl ?_
        refine wpD_pass 13 rfl (by kernel_rfl) (by kernel_rfl) (by kernel_rfl) (wantN rfl rfl rfl hc17) rfl rfl ?_
        refine wpD_pass 14 rfl (by kernel_rfl) (by kernel_rfl) (by kernel_rfl) (wantN rfl rfl rfl hc17) rfl rfl ?_
        refine wpD_pass 15 rfl (by kernel_rfl) (by kernel_rfl) (by kernel_rfl) (wantN rfl rfl rfl hc17) rfl rfl ?_
        refine wpD_take (v := (Value.bool true)) 16 (fun _ => True) rfl (by kernel_rfl) (by kernel_rfl) (by kernel_rfl) rfl rfl rfl trivial (fun w _ => (x_pickT (v := (Value.bool true)) rfl rfl hc17 rfl)) ?_
        refine wpD_take (v := (Value.bool true)) 17 (fun _ => True) rfl (by kernel_rfl) (by kernel_rfl) (by kernel_rfl) rfl rfl rfl trivial (fun w _ => (x_move (v := (Value.bool true)) rfl rfl)) ?_
        refine wpD_pass 18 rfl (by kernel_rfl) (by kernel_rfl) (by kernel_rfl) (wantN rfl rfl rfl rfl) rfl rfl ?_
        refine wpD_pass 19 rfl (by kernel_rfl) (by kernel_rfl) (by kernel_rfl) (wantN rfl rfl rfl rfl) rfl rfl ?_
        refine wpD_pass 20 rfl (by kernel_rfl) (by kernel_rfl) (by kernel_rfl) (wantN rfl rfl rfl rfl) rfl rfl ?_
        refine wpD_pass 21 rfl (by kernel_rfl) (by kernel_rfl) (by kernel_rfl) (wantN rfl rfl rfl rfl) rfl rfl ?_
        refine wpD_pass 22 rfl (by kernel_rfl) (by kernel_rfl) (by kernel_rfl) (wantN rfl rfl rfl rfl) rfl rfl ?_
        refine wpD_take (v := (Value.bool true)) 23 (fun _ => True) rfl (by kernel_rfl) (by kernel_rfl) (by kernel_rfl) rfl rfl rfl trivial (fun w _ => (x_pickT (v := (Value.bool true)) rfl rfl rfl rfl)) ?_
        exact wpD_done (by kernel_rfl) ⟨true, ⟨rfl, e2, e3, e4, trivial⟩, h⟩
      · replace h := h.2 hc17
        refine wpD_take (v := (Value.pointer (some ((Addr.mk b1 0 none).add 0)))) 9 (fun _ => True) rfl (by kernel_rfl) (by kernel_rfl) (by kernel_rfl) (wantG rfl rfl rfl hc17) rfl rfl trivial (fun w _ => (x_fieldAddr rfl e3 FA_30_0)) ?_
        obtain ⟨x18, q18, h⟩ := h
        refine wpD_take (v := (Value.int .i64 x18)) 10 (fun w => w.cell? ((Addr.mk b1 0 none).add 0) = some (Value.int .i64 x18)) rfl (by kernel_rfl) (by kernel_rfl) (by kernel_rfl) (wantG rfl rfl rfl hc17) rfl rfl q18 (fun w q18 => (x_load1 rfl rfl SH_3 q18)) ?_
        refine wpD_take (v := (Value.pointer (some ((Addr.mk b2 0 none).add 0)))) 12 (fun _ => True) rfl (by kernel_rfl) (by kernel_rfl) (by kernel_rfl) (wantG rfl rfl rfl hc17) rfl rfl trivial (fun w _ => (x_fieldAddr rfl e4 FA_30_0)) ?_
        obtain ⟨x19, q19, h⟩ := h
        refine wpD_take (v := (Value.int .i64 x19)) 13 (fun w => w.cell? ((Addr.mk b2 0 none).add 0) = some (Value.int .i64 x19)) rfl (by kernel_rfl) (by kernel_rfl) (by kernel_rfl) (wantG rfl rfl rfl hc17) rfl rfl q19 (fun w q19 => (x_load1 rfl rfl SH_3 q19)) ?_
        refine wpD_all (rs := [11]) (by kernel_rfl) (by simp) (allD_cons ?_ allD_nil)
        refine stepD_enterL (L' := [(13, fun w => w.cell? ((Addr.mk b2 0 none).add 0) = some (Value.int .i64 x19)), (12, fun _ => True), (9, fun _ => True), (7, fun _ => True), (6, fun _ => True), (1, fun _ => True), (0, fun _ => True)]) rfl (wantG rfl rfl rfl hc17) rfl rfl (x_call (vs := [(Value.int .i64 x18)]) rfl rfl (mapl_cons rfl mapl_nil) Try.func16 NN_16 NB_16) (by kernel_rfl) (Calls.mono h ?_)
        rintro _ w5 ⟨r20, rfl, h⟩
        obtain ⟨o13, h⟩ := h
        refine ⟨_, rfl, (held_cons o13 (held_cons trivial (held_cons trivial (held_cons trivial (held_cons trivial (held_cons trivial (held_cons trivial held_nil))))))), ?_⟩
        refine wpD_all (rs := [14]) (by kernel_rfl) (by simp) (allD_cons ?_ allD_nil)
        refine stepD_enterL (L' := [(12, fun _ => True), (9, fun _ => True), (7, fun _ => True), (6, fun _ => True), (1, fun _ => True), (0, fun _ => True)]) rfl (wantG rfl rfl rfl hc17) rfl rfl (x_call (vs := [(Value.int .i64 x19)]) rfl rfl (mapl_cons rfl mapl_nil) Try.func16 NN_16 NB_16) (by kernel_rfl) (Calls.mono h ?_)
        rintro _ w6 ⟨r21, rfl, h⟩
        refine ⟨_, rfl, (held_cons trivial (held_cons trivial (held_cons trivial (held_cons trivial (held_cons trivial (held_cons trivial held_nil)))))), ?_⟩
        refine wpD_take (v := (Value.bool (decide (r20 = r21)))) 15 (fun _ => True) rfl (by kernel_rfl) (by kernel_rfl) (by kernel_rfl) (wantG rfl rfl rfl hc17) rfl rfl trivial (fun w _ => (x_eql rfl rfl rfl)) ?_
        refine wpD_take (v := (Value.bool (decide (r20 = r21)))) 16 (fun _ => True) rfl (by kernel_rfl) (by kernel_rfl) (by kernel_rfl) rfl rfl rfl trivial (fun w _ => (x_pickF (v := (Value.bool (decide (r20 = r21)))) rfl rfl hc17 rfl)) ?_
        refine wpD_take (v := (Value.bool (decide (r20 = r21)))) 17 (fun _ => True) rfl (by kernel_rfl) (by kernel_rfl) (by kernel_rfl) rfl rfl rfl trivial (fun w _ => (x_move (v := (Value.bool (decide (r20 = r21)))) rfl rfl)) ?_
        rcases Bool.eq_false_or_eq_true (decide (r20 = r21)) with hc22 | hc22
        · replace h := h.1 hc22
          refine wpD_pass 18 rfl (by kernel_rfl) (by kernel_rfl) (by kernel_rfl) (wantN rfl rfl rfl hc22) rfl rfl ?_
          refine wpD_pass 19 rfl (by kernel_rfl) (by kernel_rfl) (by kernel_rfl) (wantN rfl rfl rfl hc22) rfl rfl ?_
          refine wpD_pass 20 rfl (by kernel_rfl) (by kernel_rfl) (by kernel_rfl) (wantN rfl rfl rfl hc22) rfl rfl ?_
          refine wpD_pass 21 rfl (by kernel_rfl) (by kernel_rfl) (by kernel_rfl) (wantN rfl rfl rfl hc22) rfl rfl ?_
          refine wpD_pass 22 rfl (by kernel_rfl) (by kernel_rfl) (by kernel_rfl) (wantN rfl rfl rfl hc22) rfl rfl ?_
          refine wpD_take (v := (Value.bool true)) 23 (fun _ => True) rfl (by kernel_rfl) (by kernel_rfl) (by kernel_rfl) rfl rfl rfl trivial (fun w _ => (x_pickT (v := (Value.bool true)) rfl rfl hc22 rfl)) ?_
          exact wpD_done (by kernel_rfl) ⟨true, ⟨rfl, e2, e3, e4, trivial⟩, h⟩
        · replace h := h.2 hc22
          refine wpD_take (v := (Value.pointer (some ((Addr.mk b1 0 none).add 2)))) 18 (fun _ => True) rfl (by kernel_rfl) (by kernel_rfl) (by kernel_rfl) (wantG rfl rfl rfl hc22) rfl rfl trivial (fun w _ => (x_fieldAddr rfl e3 FA_30_2)) ?_
          obtain ⟨x23, q23, h⟩ := h
          refine wpD_take (v := (Value.int .i64 x23)) 19 (fun w => w.cell? ((Addr.mk b1 0 none).add 2) = some (Value.int .i64 x23)) rfl (by kernel_rfl) (by kernel_rfl) (by kernel_rfl) (wantG rfl rfl rfl hc22) rfl rfl q23 (fun w q23 => (x_load1 rfl rfl SH_3 q23)) ?_
          refine wpD_take (v := (Value.pointer (some ((Addr.mk b2 0 none).add 2)))) 20 (fun _ => True) rfl (by kernel_rfl) (by kernel_rfl) (by kernel_rfl) (wantG rfl rfl rfl hc22) rfl rfl trivial (fun w _ => (x_fieldAddr rfl e4 FA_30_2)) ?_
          obtain ⟨x24, q24, h⟩ := h
          refine wpD_take (v := (Value.int .i64 x24)) 21 (fun w => w.cell? ((Addr.mk b2 0 none).add 2) = some (Value.int .i64 x24)) rfl (by kernel_rfl) (by kernel_rfl) (by kernel_rfl) (wantG rfl rfl rfl hc22) rfl rfl q24 (fun w q24 => (x_load1 rfl rfl SH_3 q24)) ?_
          refine wpD_take (v := (Value.bool (decide (x24 < x23)))) 22 (fun _ => True) rfl (by kernel_rfl) (by kernel_rfl) (by kernel_rfl) (wantG rfl rfl rfl hc22) rfl rfl trivial (fun w _ => (x_gtr rfl rfl rfl)) ?_
          refine wpD_take (v := (Value.bool (decide (x24 < x23)))) 23 (fun _ => True) rfl (by kernel_rfl) (by kernel_rfl) (by kernel_rfl) rfl rfl rfl trivial (fun w _ => (x_pickF (v := (Value.bool (decide (x24 < x23)))) rfl rfl hc22 rfl)) ?_
          exact wpD_done (by kernel_rfl) ⟨decide (x24 < x23), ⟨rfl, e2, e3, e4, trivial⟩, h⟩
  clear h
  rintro l25 ρ w7 ⟨e30, e2, e3, e4, -⟩ h
  replace h := hk l25 w7 h
  clear hk
  refine wpC_cond (b := l25) e30 (fun hc26 => ?_) (fun hc26 => ?_)
  · replace h := h.1 hc26
    refine wpC_seq ?_
    refine wpC_region ?_
    refine wpR_val (v := (Value.bool false)) (w' := w7) rfl rfl rfl (x_assign (v := (Value.bool false)) rfl rfl) ?_
    refine wpR_nil ?_
    refine wpC_ret ?_
    exact ⟨.inl rfl, fun a ha => ⟨_, results_rep1 rfl ha rfl, false, rfl, h⟩⟩
  · replace h := h.2 hc26
    refine wpC_skip ?_
    refine wpC_seq ?_
    refine wpC_region ?_
    refine wpR_val (v := (Value.pointer (some ((Addr.mk b2 0 none).add 2)))) (w' := w7) rfl rfl rfl (x_fieldAddr rfl e4 FA_30_2) ?_
    obtain ⟨x27, q27, h⟩ := h
    refine wpR_val (v := (Value.int .i64 x27)) (w' := w7) rfl rfl rfl (x_load1 rfl rfl SH_3 q27) ?_
    refine wpR_val (v := (Value.int .u64 (IntKind.u64.wrap x27))) (w' := w7) rfl rfl rfl (x_convI rfl rfl IK_47 IK_3) ?_
    refine wpR_val (v := (Value.pointer (some ((Addr.mk b1 0 none).add 2)))) (w' := w7) rfl rfl rfl (x_fieldAddr rfl e3 FA_30_2) ?_
    obtain ⟨x28, q28, h⟩ := h
    refine wpR_val (v := (Value.int .i64 x28)) (w' := w7) rfl rfl rfl (x_load1 rfl rfl SH_3 q28) ?_
    refine wpR_val (v := (Value.int .u64 (IntKind.u64.wrap x28))) (w' := w7) rfl rfl rfl (x_convI rfl rfl IK_47 IK_3) ?_
    refine wpR_val (v := (Value.int .u64 (IntKind.u64.wrap ((IntKind.u64.wrap x27) - (IntKind.u64.wrap x28))))) (w' := w7) rfl rfl rfl (x_sub rfl rfl rfl) ?_
    refine wpR_val (v := (Value.int .i64 p2)) (w' := w7) rfl rfl rfl (x_move (v := (Value.int .i64 p2)) rfl e2) ?_
    refine wpR_val (v := (Value.int .u64 (IntKind.u64.wrap p2))) (w' := w7) rfl rfl rfl (x_convI rfl rfl IK_47 IK_3) ?_
    refine wpR_val (v := (Value.bool (decide ((IntKind.u64.wrap ((IntKind.u64.wrap x27) - (IntKind.u64.wrap x28))) ≤ (IntKind.u64.wrap p2))))) (w' := w7) rfl rfl rfl (x_leq rfl rfl rfl) ?_
    refine wpR_val (v := (Value.bool (decide ((IntKind.u64.wrap ((IntKind.u64.wrap x27) - (IntKind.u64.wrap x28))) ≤ (IntKind.u64.wrap p2))))) (w' := w7) rfl rfl rfl (x_assign (v := (Value.bool (decide ((IntKind.u64.wrap ((IntKind.u64.wrap x27) - (IntKind.u64.wrap x28))) ≤ (IntKind.u64.wrap p2))))) rfl rfl) ?_
    refine wpR_nil ?_
    refine wpC_ret ?_
    exact ⟨.inl rfl, fun a ha => ⟨_, results_rep1 rfl ha rfl, decide ((IntKind.u64.wrap ((IntKind.u64.wrap x27) - (IntKind.u64.wrap x28))) ≤ (IntKind.u64.wrap p2)), rfl, h⟩⟩

/-- slices.Index[[]int,int] -/
def F26 (p0 : Sl) (p1 : Int) (w0 : World) (K : Int → World → Prop) : Prop :=
  lp (fun (next1 : Int → World → Prop) l1 w1 =>
    cnd (decide (l1 < (p0.len : Int)))
      (
      ix p0 l1 1 fun p3 =>
      ld (Value.int .i64) p3 w1 fun x4 =>
      cnd (decide (p1 = x4))
        (
        K l1 w1
        )
        (
        next1 (IntKind.i64.wrap (l1 + 1)) w1
        )
      )
      (
      K (-1) w1
      )
  ) 0 w0
set_option maxRecDepth 100000 in
theorem D26 (p0 : Sl) (p1 : Int) (w0 : World) (K : Int → World → Prop) (h : F26 p0 p1 w0 K) : callC Try.prog 26 #[(Sl.v p0), (Value.int .i64 p1)] (fun (r : Int) => (Value.int .i64 r)) w0 K := by
  unfold F26 at h
  refine calls_of_wpC Try.func26 rfl 19 rfl (by simp) ?_
  intro ρ hρ
  have e0 : ρ 0 = (Sl.v p0) := hρ 0
  have e1 : ρ 1 = (Value.int .i64 p1) := hρ 1
  clear hρ
  refine wpC_seq ?_
  refine wpC_region ?_
  refine wpR_val (v := (Value.int .i64 0)) (w' := w0) rfl rfl rfl (x_assign (v := (Value.int .i64 0)) rfl rfl) ?_
  refine wpR_nil ?_
  refine wpC_seq ?_
  refine wpC_seq ?_
  refine wpC_cut (fun ρ => ρ 0 = (Sl.v p0) ∧ ρ 1 = (Value.int .i64 p1) ∧ True) ⟨e0, e1, trivial⟩ ?_
  rintro ρ ⟨e0, e1, -⟩
  refine wpC_region ?_
  refine wpR_val (v := (Sl.v p0)) (w' := w0) rfl rfl rfl (x_move (v := (Sl.v p0)) rfl e0) ?_
  refine wpR_val (v := (Value.int .i64 (p0.len : Int))) (w' := w0) rfl rfl rfl (x_lenS (s := p0) rfl rfl isSliceT_25) ?_
  refine wpR_val (v := (Value.int .i64 0)) (w' := w0) rfl rfl rfl (x_move (v := (Value.int .i64 0)) rfl rfl) ?_
  refine wpR_nil ?_
  refine wpC_block ?_
  obtain ⟨I1, μ1, hI1, hr1⟩ := h
  refine wpC_loop (fun (x : Int) ρ => ρ 8 = (Value.int .i64 x) ∧ ρ 0 = (Sl.v p0) ∧ ρ 1 = (Value.int .i64 p1) ∧ ρ 7 = (Value.int .i64 (p0.len : Int)) ∧ True) I1 μ1 0 ⟨rfl, e0, e1, rfl, trivial⟩ hI1 ?_
  rintro l1 ρ w1 ⟨e8, e0, e1, e7, -⟩ h
  replace h := hr1 l1 w1 h
  clear hr1 hI1
  refine wpC_seq ?_
  refine wpC_region ?_
  refine wpR_val (v := (Value.bool (decide (l1 < (p0.len : Int))))) (w' := w1) rfl rfl rfl (x_lss rfl e8 e7) ?_
  refine wpR_nil ?_
  refine wpC_seq ?_
  refine wpC_cond (b := decide (l1 < (p0.len : Int))) rfl (fun hc2 => ?_) (fun hc2 => ?_)
  · replace h := h.1 hc2
    refine wpC_skip ?_
    refine wpC_seq ?_
    refine wpC_block ?_
    refine wpC_seq ?_
    refine wpC_cut (fun ρ => ρ 0 = (Sl.v p0) ∧ ρ 1 = (Value.int .i64 p1) ∧ ρ 7 = (Value.int .i64 (p0.len : Int)) ∧ ρ 8 = (Value.int .i64 l1) ∧ True) ⟨e0, e1, e7, e8, trivial⟩ ?_
    rintro ρ ⟨e0, e1, e7, e8, -⟩
    refine wpC_region ?_
    refine wpR_val (v := (Value.int .i64 l1)) (w' := w1) rfl rfl rfl (x_move (v := (Value.int .i64 l1)) rfl e8) ?_
    refine wpR_val (v := (Value.int .i64 l1)) (w' := w1) rfl rfl rfl (x_assign (v := (Value.int .i64 l1)) rfl rfl) ?_
    refine wpR_nil ?_
    refine wpC_seq ?_
    refine wpC_cut (fun ρ => ρ 0 = (Sl.v p0) ∧ ρ 1 = (Value.int .i64 p1) ∧ ρ 5 = (Value.int .i64 l1) ∧ ρ 7 = (Value.int .i64 (p0.len : Int)) ∧ ρ 8 = (Value.int .i64 l1) ∧ True) ⟨e0, e1, rfl, e7, e8, trivial⟩ ?_
    rintro ρ ⟨e0, e1, e5, e7, e8, -⟩
    refine wpC_region ?_
    refine wpR_val (v := (Value.int .i64 p1)) (w' := w1) rfl rfl rfl (x_move (v := (Value.int .i64 p1)) rfl e1) ?_
    refine wpR_val (v := (Sl.v p0)) (w' := w1) rfl rfl rfl (x_move (v := (Sl.v p0)) rfl e0) ?_
    refine wpR_val (v := (Value.int .i64 l1)) (w' := w1) rfl rfl rfl (x_move (v := (Value.int .i64 l1)) rfl e5) ?_
    obtain ⟨q3, z3, r3, h⟩ := h
    generalize hp3 : z3.add ((l1 : Int).toNat * 1) = p3 at h
    refine wpR_val (v := (Value.pointer (some p3))) (w' := w1) rfl rfl rfl ((x_indexAddr (s := p0) rfl rfl rfl ES_25 q3 r3).trans (by rw [hp3])) ?_
    obtain ⟨x4, q4, h⟩ := h
    refine wpR_val (v := (Value.int .i64 x4)) (w' := w1) rfl rfl rfl (x_load1 rfl rfl SH_3 q4) ?_
    refine wpR_val (v := (Value.bool (decide (p1 = x4)))) (w' := w1) rfl rfl rfl (x_eql rfl rfl rfl) ?_
    refine wpR_nil ?_
    refine wpC_cond (b := decide (p1 = x4)) rfl (fun hc5 => ?_) (fun hc5 => ?_)
    · replace h := h.1 hc5
      refine wpC_seq ?_
      refine wpC_cut (fun ρ => ρ 5 = (Value.int .i64 l1) ∧ True) ⟨e5, trivial⟩ ?_
      rintro ρ ⟨e5, -⟩
      refine wpC_region ?_
      refine wpR_val (v := (Value.int .i64 l1)) (w' := w1) rfl rfl rfl (x_move (v := (Value.int .i64 l1)) rfl e5) ?_
      refine wpR_val (v := (Value.int .i64 l1)) (w' := w1) rfl rfl rfl (x_assign (v := (Value.int .i64 l1)) rfl rfl) ?_
      refine wpR_nil ?_
      refine wpC_ret ?_
      exact ⟨.inl rfl, fun a ha => ⟨_, results_rep1 rfl ha rfl, l1, rfl, h⟩⟩
    · replace h := h.2 hc5
      refine wpC_skip ?_
      refine wpC_cut (fun ρ => ρ 0 = (Sl.v p0) ∧ ρ 1 = (Value.int .i64 p1) ∧ ρ 7 = (Value.int .i64 (p0.len : Int)) ∧ ρ 8 = (Value.int .i64 l1) ∧ True) ⟨e0, e1, e7, e8, trivial⟩ ?_
      rintro ρ ⟨e0, e1, e7, e8, -⟩
      refine wpC_region ?_
      refine wpR_val (v := (Value.int .i64 (IntKind.i64.wrap (l1 + 1)))) (w' := w1) rfl rfl rfl (x_add rfl e8 rfl) ?_
      refine wpR_val (v := (Value.int .i64 (IntKind.i64.wrap (l1 + 1)))) (w' := w1) rfl rfl rfl (x_move (v := (Value.int .i64 (IntKind.i64.wrap (l1 + 1)))) rfl rfl) ?_
      refine wpR_nil ?_
      exact ⟨IntKind.i64.wrap (l1 + 1), ⟨rfl, e0, e1, e7, trivial⟩, h⟩
  · replace h := h.2 hc2
    refine wpC_exit ?_
    refine wpC_seq ?_
    refine wpC_cut (fun ρ => True) trivial ?_
    rintro ρ -
    refine wpC_region ?_
    refine wpR_val (v := (Value.int .i64 (-1))) (w' := w1) rfl rfl rfl (x_assign (v := (Value.int .i64 (-1))) rfl rfl) ?_
    refine wpR_nil ?_
    refine wpC_ret ?_
    exact ⟨.inl rfl, fun a ha => ⟨_, results_rep1 rfl ha rfl, (-1), rfl, h⟩⟩


end Go.Proofs.Ythnebjgmhdilbaa
