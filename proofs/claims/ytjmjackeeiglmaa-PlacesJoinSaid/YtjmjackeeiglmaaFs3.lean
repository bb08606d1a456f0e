import Derived.Test.YtjmjackeeiglmaaRows
import Derived.Test.YtjmjackeeiglmaaFs1
import Derived.Test.YtjmjackeeiglmaaDecRaw
namespace Go.Proofs.Ytjmjackeeiglmaa
open Go.Dec
set_option maxHeartbeats 400000

/-- places.Right -/
def F10 (p0 : Sl) (w0 : World) (K : Bool → World → Prop) : Prop :=
  lp (fun (next1 : Int → World → Prop) l1 w1 =>
    cnd (decide (l1 < (p0.len : Int)))
      (
      ix p0 l1 3 fun p3 =>
      ld (Value.int .i64) (p3.add 0) w1 fun x4 =>
      ld (Value.int .i64) (p3.add 1) w1 fun x5 =>
      ld Sl.v (p3.add 2) w1 fun x6 =>
      nw 32 #[(Value.int .i64 0), (Value.int .i64 0), (Sl.v Sl.nil)] w1 fun b7 w2 =>
      st (Addr.mk b7 0 none) [(Value.int .i64 x4), (Value.int .i64 x5), (Sl.v x6)] w2 fun w3 =>
      ld (Value.int .i64) ((Addr.mk b7 0 none).add 0) w3 fun x9 =>
      jp (fun J10 => cnd (decide (x9 < 0))
        (
        J10 true
        )
        (
        ld (Value.int .i64) ((Addr.mk b7 0 none).add 0) w3 fun x12 =>
        J10 (decide (8 ≤ x12))
        ))
      fun c13 =>
      jp (fun J14 => cnd (c13)
        (
        J14 true
        )
        (
        ld (Value.int .i64) ((Addr.mk b7 0 none).add 1) w3 fun x16 =>
        J14 (decide (x16 < 0))
        ))
      fun c17 =>
      jp (fun J18 => cnd (c17)
        (
        J18 true
        )
        (
        ld (Value.int .i64) ((Addr.mk b7 0 none).add 1) w3 fun x20 =>
        J18 (decide (1099511627776 < x20))
        ))
      fun c21 =>
      cnd (c21)
        (
        K false w3
        )
        (
        ld Sl.v ((Addr.mk b7 0 none).add 2) w3 fun x23 =>
        lp (fun (next24 : (Int × Int) → World → Prop) l24 w4 =>
          cnd (decide (l24.2 < (x23.len : Int)))
            (
            ix x23 l24.2 1 fun p26 =>
            ld (Value.int .i64) p26 w4 fun x27 =>
            cnd ((decide (x27 ≤ l24.1)) || (decide (l1 ≤ x27)))
              (
              K false w4
              )
              (
              next24 (x27, IntKind.i64.wrap (l24.2 + 1)) w4
              )
            )
            (
            next1 (IntKind.i64.wrap (l1 + 1)) w4
            )
        ) ((-1), 0) w3
        )
      )
      (
      K (decide ((p0.len : Int) ≤ 100000)) w1
      )
  ) 0 w0
set_option maxRecDepth 100000 in
theorem D10 (p0 : Sl) (w0 : World) (K : Bool → World → Prop) (h : F10 p0 w0 K) : callC Try.prog 10 #[(Sl.v p0)] (fun (r : Bool) => (Value.bool r)) w0 K := by
  unfold F10 at h
  refine calls_of_wpC Try.func10 rfl 54 rfl (by simp) ?_
  intro ρ hρ
  have e0 : ρ 0 = (Sl.v p0) := hρ 0
  clear hρ
  refine wpC_seq ?_
  refine wpC_region ?_
  refine wpR_val (v := (Value.bool false)) (w' := w0) rfl rfl rfl (x_assign (v := (Value.bool false)) rfl rfl) ?_
  refine wpR_nil ?_
  refine wpC_seq ?_
  refine wpC_seq ?_
  refine wpC_cut (fun ρ => ρ 0 = (Sl.v p0) ∧ True) ⟨e0, trivial⟩ ?_
  rintro ρ ⟨e0, -⟩
  refine wpC_region ?_
  refine wpR_val (v := (Sl.v p0)) (w' := w0) rfl rfl rfl (x_move (v := (Sl.v p0)) rfl e0) ?_
  refine wpR_val (v := (Value.int .i64 (p0.len : Int))) (w' := w0) rfl rfl rfl (x_lenS (s := p0) rfl rfl isSliceT_22) ?_
  refine wpR_val (v := (Value.int .i64 0)) (w' := w0) rfl rfl rfl (x_move (v := (Value.int .i64 0)) rfl rfl) ?_
  refine wpR_nil ?_
  refine wpC_block ?_
  obtain ⟨I1, μ1, hI1, hr1⟩ := h
  refine wpC_loop (fun (x : Int) ρ => ρ 10 = (Value.int .i64 x) ∧ ρ 0 = (Sl.v p0) ∧ ρ 8 = (Sl.v p0) ∧ ρ 9 = (Value.int .i64 (p0.len : Int)) ∧ True) I1 μ1 0 ⟨rfl, e0, rfl, rfl, trivial⟩ hI1 ?_
  rintro l1 ρ w1 ⟨e10, e0, e8, e9, -⟩ h
  replace h := hr1 l1 w1 h
  clear hr1 hI1
  refine wpC_seq ?_
  refine wpC_region ?_
  refine wpR_val (v := (Value.bool (decide (l1 < (p0.len : Int))))) (w' := w1) rfl rfl rfl (x_lss rfl e10 e9) ?_
  refine wpR_nil ?_
  refine wpC_seq ?_
  refine wpC_cond (b := decide (l1 < (p0.len : Int))) rfl (fun hc2 => ?_) (fun hc2 => ?_)
  · replace h := h.1 hc2
    refine wpC_skip ?_
    refine wpC_seq ?_
    refine wpC_block ?_
    refine wpC_seq ?_
    refine wpC_cut (fun ρ => ρ 0 = (Sl.v p0) ∧ ρ 8 = (Sl.v p0) ∧ ρ 9 = (Value.int .i64 (p0.len : Int)) ∧ ρ 10 = (Value.int .i64 l1) ∧ True) ⟨e0, e8, e9, e10, trivial⟩ ?_
    rintro ρ ⟨e0, e8, e9, e10, -⟩
    refine wpC_region ?_
    refine wpR_val (v := (Value.int .i64 l1)) (w' := w1) rfl rfl rfl (x_move (v := (Value.int .i64 l1)) rfl e10) ?_
    obtain ⟨q3, z3, r3, h⟩ := h
    generalize hp3 : z3.add ((l1).toNat * 3) = p3 at h
    refine wpR_val (v := (Value.pointer (some p3))) (w' := w1) rfl rfl rfl ((x_indexAddr (s := p0) rfl e8 e10 ES_22 q3 r3).trans (by rw [hp3])) ?_
    obtain ⟨x4, q4, h⟩ := h
    obtain ⟨x5, q5, h⟩ := h
    obtain ⟨x6, q6, h⟩ := h
    refine wpR_val (v := (Value.agg #[(Value.int .i64 x4), (Value.int .i64 x5), (Sl.v x6)])) (w' := w1) rfl rfl rfl (x_loadN [(Value.int .i64 x4), (Value.int .i64 x5), (Sl.v x6)] rfl rfl SH_32 (CellsAt.out (CellsAt.cons q4 (CellsAt.cons q5 (CellsAt.cons q6 CellsAt.nil))))) ?_
    obtain ⟨b7, hb7⟩ : ∃ u, u = w1.heap.size := ⟨_, rfl⟩
    obtain ⟨w2, hw7⟩ : ∃ u, u = w1.alloc (.cells #[(Value.int .i64 0), (Value.int .i64 0), (Sl.v Sl.nil)] 32) := ⟨_, rfl⟩
    replace h := h b7 w2 hb7 hw7
    refine wpR_val (v := (Value.pointer (some (Addr.mk b7 0 none)))) (w' := w2) rfl rfl rfl ((x_alloc rfl ZV_32).trans (by rw [hb7, hw7]; rfl)) ?_
    refine wpR_val (v := (Value.int .i64 l1)) (w' := w2) rfl rfl rfl (x_assign (v := (Value.int .i64 l1)) rfl rfl) ?_
    obtain ⟨q8, h⟩ := h
    obtain ⟨w3, hw8⟩ : ∃ u, u = setAll w2 (Addr.mk b7 0 none) [(Value.int .i64 x4), (Value.int .i64 x5), (Sl.v x6)] 0 := ⟨_, rfl⟩
    replace h := h w3 hw8
    refine wpR_skp (w' := w3) rfl rfl ((x_store (v := (Value.agg #[(Value.int .i64 x4), (Value.int .i64 x5), (Sl.v x6)])) rfl rfl rfl SZ_32 (ones (by rfl)) q8).trans (by rw [hw8]; rfl)) ?_
    refine wpR_nil ?_
    refine wpC_seq ?_
    refine wpC_seq ?_
    refine wpC_cut (fun ρ => ρ 0 = (Sl.v p0) ∧ ρ 3 = (Value.int .i64 l1) ∧ ρ 4 = (Value.pointer (some (Addr.mk b7 0 none))) ∧ ρ 8 = (Sl.v p0) ∧ ρ 9 = (Value.int .i64 (p0.len : Int)) ∧ ρ 10 = (Value.int .i64 l1) ∧ True) ⟨e0, rfl, rfl, e8, e9, e10, trivial⟩ ?_
    rintro ρ ⟨e0, e3, e4, e8, e9, e10, -⟩
    refine wpC_region ?_
    refine wpR_val (v := (Value.pointer (some ((Addr.mk b7 0 none).add 0)))) (w' := w3) rfl rfl rfl (x_fieldAddr rfl e4 FA_32_0) ?_
    obtain ⟨x9, q9, h⟩ := h
    refine wpR_val (v := (Value.int .i64 x9)) (w' := w3) rfl rfl rfl (x_load1 rfl rfl SH_3 q9) ?_
    refine wpR_val (v := (Value.bool (decide (x9 < 0)))) (w' := w3) rfl rfl rfl (x_lss rfl rfl rfl) ?_
    refine wpR_val (v := (Value.bool (decide (x9 < 0)))) (w' := w3) rfl rfl rfl (x_move (v := (Value.bool (decide (x9 < 0)))) rfl rfl) ?_
    obtain ⟨J10, h, hk⟩ := h
    refine wpR_joinJ 4 (fun x ρ => ρ 22 = Value.bool x ∧ ρ 0 = (Sl.v p0) ∧ ρ 3 = (Value.int .i64 l1) ∧ ρ 4 = (Value.pointer (some (Addr.mk b7 0 none))) ∧ ρ 8 = (Sl.v p0) ∧ ρ 9 = (Value.int .i64 (p0.len : Int)) ∧ ρ 10 = (Value.int .i64 l1) ∧ True) (fun x w => J10 x ∧ w3 = w) ?_ ?_
    · clear hk
      rcases Bool.eq_false_or_eq_true (decide (x9 < 0)) with hc11 | hc11
      · replace h := h.1 hc11
        refine wpR_pass (wantN rfl rfl rfl hc11) rfl rfl ?_
        refine wpR_pass (wantN rfl rfl rfl hc11) rfl rfl ?_
        refine wpR_pass (wantN rfl rfl rfl hc11) rfl rfl ?_
        refine wpR_val (v := (Value.bool true)) (w' := w3) rfl rfl rfl (x_pickT (v := (Value.bool true)) rfl rfl hc11 rfl) ?_
        refine wpR_nil ?_
        exact ⟨true, ⟨rfl, e0, e3, e4, e8, e9, e10, trivial⟩, h, rfl⟩
      · replace h := h.2 hc11
        refine wpR_val (v := (Value.pointer (some ((Addr.mk b7 0 none).add 0)))) (w' := w3) (wantG rfl rfl rfl hc11) rfl rfl (x_fieldAddr rfl e4 FA_32_0) ?_
        obtain ⟨x12, q12, h⟩ := h
        refine wpR_val (v := (Value.int .i64 x12)) (w' := w3) (wantG rfl rfl rfl hc11) rfl rfl (x_load1 rfl rfl SH_3 q12) ?_
        refine wpR_val (v := (Value.bool (decide (8 ≤ x12)))) (w' := w3) (wantG rfl rfl rfl hc11) rfl rfl (x_geq rfl rfl rfl) ?_
        refine wpR_val (v := (Value.bool (decide (8 ≤ x12)))) (w' := w3) rfl rfl rfl (x_pickF (v := (Value.bool (decide (8 ≤ x12)))) rfl rfl hc11 rfl) ?_
        refine wpR_nil ?_
        exact ⟨decide (8 ≤ x12), ⟨rfl, e0, e3, e4, e8, e9, e10, trivial⟩, h, rfl⟩
    clear h
    rintro c13 ρ wj ⟨e22, e0, e3, e4, e8, e9, e10, -⟩ ⟨h, rfl⟩
    replace h := hk c13 h
    clear hk
    refine wpR_val (v := (Value.bool c13)) (w' := w3) rfl rfl rfl (x_move (v := (Value.bool c13)) rfl e22) ?_
    obtain ⟨J14, h, hk⟩ := h
    refine wpR_joinJ 4 (fun x ρ => ρ 27 = Value.bool x ∧ ρ 0 = (Sl.v p0) ∧ ρ 3 = (Value.int .i64 l1) ∧ ρ 4 = (Value.pointer (some (Addr.mk b7 0 none))) ∧ ρ 8 = (Sl.v p0) ∧ ρ 9 = (Value.int .i64 (p0.len : Int)) ∧ ρ 10 = (Value.int .i64 l1) ∧ True) (fun x w => J14 x ∧ w3 = w) ?_ ?_
    · clear hk
      rcases Bool.eq_false_or_eq_true (c13) with hc15 | hc15
      · replace h := h.1 hc15
        refine wpR_pass (wantN rfl rfl rfl hc15) rfl rfl ?_
        refine wpR_pass (wantN rfl rfl rfl hc15) rfl rfl ?_
        refine wpR_pass (wantN rfl rfl rfl hc15) rfl rfl ?_
        refine wpR_val (v := (Value.bool true)) (w' := w3) rfl rfl rfl (x_pickT (v := (Value.bool true)) rfl rfl hc15 rfl) ?_
        refine wpR_nil ?_
        exact ⟨true, ⟨rfl, e0, e3, e4, e8, e9, e10, trivial⟩, h, rfl⟩
      · replace h := h.2 hc15
        refine wpR_val (v := (Value.pointer (some ((Addr.mk b7 0 none).add 1)))) (w' := w3) (wantG rfl rfl rfl hc15) rfl rfl (x_fieldAddr rfl e4 FA_32_1) ?_
        obtain ⟨x16, q16, h⟩ := h
        refine wpR_val (v := (Value.int .i64 x16)) (w' := w3) (wantG rfl rfl rfl hc15) rfl rfl (x_load1 rfl rfl SH_3 q16) ?_
        refine wpR_val (v := (Value.bool (decide (x16 < 0)))) (w' := w3) (wantG rfl rfl rfl hc15) rfl rfl (x_lss rfl rfl rfl) ?_
        refine wpR_val (v := (Value.bool (decide (x16 < 0)))) (w' := w3) rfl rfl rfl (x_pickF (v := (Value.bool (decide (x16 < 0)))) rfl rfl hc15 rfl) ?_
        refine wpR_nil ?_
        exact ⟨decide (x16 < 0), ⟨rfl, e0, e3, e4, e8, e9, e10, trivial⟩, h, rfl⟩
    clear h
    rintro c17 ρ wj ⟨e27, e0, e3, e4, e8, e9, e10, -⟩ ⟨h, rfl⟩
    replace h := hk c17 h
    clear hk
    refine wpR_val (v := (Value.bool c17)) (w' := w3) rfl rfl rfl (x_move (v := (Value.bool c17)) rfl e27) ?_
    obtain ⟨J18, h, hk⟩ := h
    refine wpR_joinJ 4 (fun x ρ => ρ 32 = Value.bool x ∧ ρ 0 = (Sl.v p0) ∧ ρ 3 = (Value.int .i64 l1) ∧ ρ 4 = (Value.pointer (some (Addr.mk b7 0 none))) ∧ ρ 8 = (Sl.v p0) ∧ ρ 9 = (Value.int .i64 (p0.len : Int)) ∧ ρ 10 = (Value.int .i64 l1) ∧ True) (fun x w => J18 x ∧ w3 = w) ?_ ?_
    · clear hk
      rcases Bool.eq_false_or_eq_true (c17) with hc19 | hc19
      · replace h := h.1 hc19
        refine wpR_pass (wantN rfl rfl rfl hc19) rfl rfl ?_
        refine wpR_pass (wantN rfl rfl rfl hc19) rfl rfl ?_
        refine wpR_pass (wantN rfl rfl rfl hc19) rfl rfl ?_
        refine wpR_val (v := (Value.bool true)) (w' := w3) rfl rfl rfl (x_pickT (v := (Value.bool true)) rfl rfl hc19 rfl) ?_
        refine wpR_nil ?_
        exact ⟨true, ⟨rfl, e0, e3, e4, e8, e9, e10, trivial⟩, h, rfl⟩
      · replace h := h.2 hc19
        refine wpR_val (v := (Value.pointer (some ((Addr.mk b7 0 none).add 1)))) (w' := w3) (wantG rfl rfl rfl hc19) rfl rfl (x_fieldAddr rfl e4 FA_32_1) ?_
        obtain ⟨x20, q20, h⟩ := h
        refine wpR_val (v := (Value.int .i64 x20)) (w' := w3) (wantG rfl rfl rfl hc19) rfl rfl (x_load1 rfl rfl SH_3 q20) ?_
        refine wpR_val (v := (Value.bool (decide (1099511627776 < x20)))) (w' := w3) (wantG rfl rfl rfl hc19) rfl rfl (x_gtr rfl rfl rfl) ?_
        refine wpR_val (v := (Value.bool (decide (1099511627776 < x20)))) (w' := w3) rfl rfl rfl (x_pickF (v := (Value.bool (decide (1099511627776 < x20)))) rfl rfl hc19 rfl) ?_
        refine wpR_nil ?_
        exact ⟨decide (1099511627776 < x20), ⟨rfl, e0, e3, e4, e8, e9, e10, trivial⟩, h, rfl⟩
    clear h
    rintro c21 ρ wj ⟨e32, e0, e3, e4, e8, e9, e10, -⟩ ⟨h, rfl⟩
    replace h := hk c21 h
    clear hk
    refine wpR_nil ?_
    refine wpC_cond (b := c21) e32 (fun hc22 => ?_) (fun hc22 => ?_)
    · replace h := h.1 hc22
      refine wpC_seq ?_
      refine wpC_region ?_
      refine wpR_val (v := (Value.bool false)) (w' := w3) rfl rfl rfl (x_assign (v := (Value.bool false)) rfl rfl) ?_
      refine wpR_nil ?_
      refine wpC_ret ?_
      exact ⟨.inl rfl, fun a ha => ⟨_, results_rep1 rfl ha rfl, false, rfl, h⟩⟩
    · replace h := h.2 hc22
      refine wpC_skip ?_
      refine wpC_seq ?_
      refine wpC_region ?_
      refine wpR_val (v := (Value.int .i64 (-1))) (w' := w3) rfl rfl rfl (x_assign (v := (Value.int .i64 (-1))) rfl rfl) ?_
      refine wpR_nil ?_
      refine wpC_seq ?_
      refine wpC_cut (fun ρ => ρ 0 = (Sl.v p0) ∧ ρ 3 = (Value.int .i64 l1) ∧ ρ 4 = (Value.pointer (some (Addr.mk b7 0 none))) ∧ ρ 5 = (Value.int .i64 (-1)) ∧ ρ 8 = (Sl.v p0) ∧ ρ 9 = (Value.int .i64 (p0.len : Int)) ∧ ρ 10 = (Value.int .i64 l1) ∧ True) ⟨e0, e3, e4, rfl, e8, e9, e10, trivial⟩ ?_
      rintro ρ ⟨e0, e3, e4, e5, e8, e9, e10, -⟩
      refine wpC_region ?_
      refine wpR_val (v := (Value.pointer (some ((Addr.mk b7 0 none).add 2)))) (w' := w3) rfl rfl rfl (x_fieldAddr rfl e4 FA_32_2) ?_
      obtain ⟨x23, q23, h⟩ := h
      refine wpR_val (v := (Sl.v x23)) (w' := w3) rfl rfl rfl (x_load1 rfl rfl SH_23 q23) ?_
      refine wpR_val (v := (Value.int .i64 (x23.len : Int))) (w' := w3) rfl rfl rfl (x_lenS (s := x23) rfl rfl isSliceT_23) ?_
      refine wpR_val (v := (Value.int .i64 0)) (w' := w3) rfl rfl rfl (x_move (v := (Value.int .i64 0)) rfl rfl) ?_
      refine wpR_nil ?_
      refine wpC_block ?_
      obtain ⟨I24, μ24, hI24, hr24⟩ := h
      refine wpC_loop (fun (x : Int × Int) ρ => ρ 5 = (Value.int .i64 x.1) ∧ ρ 36 = (Value.int .i64 x.2) ∧ ρ 0 = (Sl.v p0) ∧ ρ 3 = (Value.int .i64 l1) ∧ ρ 8 = (Sl.v p0) ∧ ρ 9 = (Value.int .i64 (p0.len : Int)) ∧ ρ 10 = (Value.int .i64 l1) ∧ ρ 34 = (Sl.v x23) ∧ ρ 35 = (Value.int .i64 (x23.len : Int)) ∧ True) I24 μ24 ((-1), 0) ⟨e5, rfl, e0, e3, e8, e9, e10, rfl, rfl, trivial⟩ hI24 ?_
      rintro l24 ρ w4 ⟨e5, e36, e0, e3, e8, e9, e10, e34, e35, -⟩ h
      replace h := hr24 l24 w4 h
      clear hr24 hI24
      refine wpC_seq ?_
      refine wpC_region ?_
      refine wpR_val (v := (Value.bool (decide (l24.2 < (x23.len : Int))))) (w' := w4) rfl rfl rfl (x_lss rfl e36 e35) ?_
      refine wpR_nil ?_
      refine wpC_seq ?_
      refine wpC_cond (b := decide (l24.2 < (x23.len : Int))) rfl (fun hc25 => ?_) (fun hc25 => ?_)
      · replace h := h.1 hc25
        refine wpC_skip ?_
        refine wpC_seq ?_
        refine wpC_block ?_
        refine wpC_seq ?_
        refine wpC_cut (fun ρ => ρ 0 = (Sl.v p0) ∧ ρ 3 = (Value.int .i64 l1) ∧ ρ 5 = (Value.int .i64 l24.1) ∧ ρ 8 = (Sl.v p0) ∧ ρ 9 = (Value.int .i64 (p0.len : Int)) ∧ ρ 10 = (Value.int .i64 l1) ∧ ρ 34 = (Sl.v x23) ∧ ρ 35 = (Value.int .i64 (x23.len : Int)) ∧ ρ 36 = (Value.int .i64 l24.2) ∧ True) ⟨e0, e3, e5, e8, e9, e10, e34, e35, e36, trivial⟩ ?_
        rintro ρ ⟨e0, e3, e5, e8, e9, e10, e34, e35, e36, -⟩
        refine wpC_region ?_
        obtain ⟨q26, z26, r26, h⟩ := h
        generalize hp26 : z26.add ((l24.2).toNat * 1) = p26 at h
        refine wpR_val (v := (Value.pointer (some p26))) (w' := w4) rfl rfl rfl ((x_indexAddr (s := x23) rfl e34 e36 ES_23 q26 r26).trans (by rw [hp26])) ?_
        obtain ⟨x27, q27, h⟩ := h
        refine wpR_val (v := (Value.int .i64 x27)) (w' := w4) rfl rfl rfl (x_load1 rfl rfl SH_3 q27) ?_
        refine wpR_val (v := (Value.int .i64 x27)) (w' := w4) rfl rfl rfl (x_assign (v := (Value.int .i64 x27)) rfl rfl) ?_
        refine wpR_nil ?_
        refine wpC_seq ?_
        refine wpC_seq ?_
        refine wpC_cut (fun ρ => ρ 0 = (Sl.v p0) ∧ ρ 3 = (Value.int .i64 l1) ∧ ρ 5 = (Value.int .i64 l24.1) ∧ ρ 7 = (Value.int .i64 x27) ∧ ρ 8 = (Sl.v p0) ∧ ρ 9 = (Value.int .i64 (p0.len : Int)) ∧ ρ 10 = (Value.int .i64 l1) ∧ ρ 34 = (Sl.v x23) ∧ ρ 35 = (Value.int .i64 (x23.len : Int)) ∧ ρ 36 = (Value.int .i64 l24.2) ∧ True) ⟨e0, e3, e5, rfl, e8, e9, e10, e34, e35, e36, trivial⟩ ?_
        rintro ρ ⟨e0, e3, e5, e7, e8, e9, e10, e34, e35, e36, -⟩
        refine wpC_region ?_
        refine wpR_val (v := (Value.int .i64 x27)) (w' := w4) rfl rfl rfl (x_move (v := (Value.int .i64 x27)) rfl e7) ?_
        refine wpR_val (v := (Value.int .i64 l24.1)) (w' := w4) rfl rfl rfl (x_move (v := (Value.int .i64 l24.1)) rfl e5) ?_
        refine wpR_val (v := (Value.bool (decide (x27 ≤ l24.1)))) (w' := w4) rfl rfl rfl (x_leq rfl rfl rfl) ?_
        refine wpR_val (v := (Value.bool (decide (x27 ≤ l24.1)))) (w' := w4) rfl rfl rfl (x_move (v := (Value.bool (decide (x27 ≤ l24.1)))) rfl rfl) ?_
        refine wpR_joinJ 4 (fun (_ : Unit) ρ => ρ 47 = Value.bool ((decide (x27 ≤ l24.1)) || (decide (l1 ≤ x27))) ∧ ρ 0 = (Sl.v p0) ∧ ρ 3 = (Value.int .i64 l1) ∧ ρ 7 = (Value.int .i64 x27) ∧ ρ 8 = (Sl.v p0) ∧ ρ 9 = (Value.int .i64 (p0.len : Int)) ∧ ρ 10 = (Value.int .i64 l1) ∧ ρ 34 = (Sl.v x23) ∧ ρ 35 = (Value.int .i64 (x23.len : Int)) ∧ ρ 36 = (Value.int .i64 l24.2) ∧ True) (fun _ w => w4 = w) ?_ ?_
        · clear h
          rcases Bool.eq_false_or_eq_true (decide (x27 ≤ l24.1)) with hc29 | hc29
          · skip
            refine wpR_pass (wantN rfl rfl rfl hc29) rfl rfl ?_
            refine wpR_pass (wantN rfl rfl rfl hc29) rfl rfl ?_
            refine wpR_pass (wantN rfl rfl rfl hc29) rfl rfl ?_
            refine wpR_val (v := (Value.bool true)) (w' := w4) rfl rfl rfl (x_pickT (v := (Value.bool true)) rfl rfl hc29 rfl) ?_
            refine wpR_nil ?_
            exact ⟨(), ⟨(by rw [hc29]; rfl), e0, e3, e7, e8, e9, e10, e34, e35, e36, trivial⟩, rfl⟩
          · skip
            refine wpR_val (v := (Value.int .i64 x27)) (w' := w4) (wantG rfl rfl rfl hc29) rfl rfl (x_move (v := (Value.int .i64 x27)) rfl e7) ?_
            refine wpR_val (v := (Value.int .i64 l1)) (w' := w4) (wantG rfl rfl rfl hc29) rfl rfl (x_move (v := (Value.int .i64 l1)) rfl e3) ?_
            refine wpR_val (v := (Value.bool (decide (l1 ≤ x27)))) (w' := w4) (wantG rfl rfl rfl hc29) rfl rfl (x_geq rfl rfl rfl) ?_
            refine wpR_val (v := (Value.bool (decide (l1 ≤ x27)))) (w' := w4) rfl rfl rfl (x_pickF (v := (Value.bool (decide (l1 ≤ x27)))) rfl rfl hc29 rfl) ?_
            refine wpR_nil ?_
            exact ⟨(), ⟨(by rw [hc29]; rfl), e0, e3, e7, e8, e9, e10, e34, e35, e36, trivial⟩, rfl⟩
        rintro _ ρ wj ⟨e47, e0, e3, e7, e8, e9, e10, e34, e35, e36, -⟩ rfl
        refine wpR_nil ?_
        refine wpC_cond (b := (decide (x27 ≤ l24.1)) || (decide (l1 ≤ x27))) e47 (fun hc30 => ?_) (fun hc30 => ?_)
        · replace h := h.1 hc30
          refine wpC_seq ?_
          refine wpC_region ?_
          refine wpR_val (v := (Value.bool false)) (w' := w4) rfl rfl rfl (x_assign (v := (Value.bool false)) rfl rfl) ?_
          refine wpR_nil ?_
          refine wpC_ret ?_
          exact ⟨.inl rfl, fun a ha => ⟨_, results_rep1 rfl ha rfl, false, rfl, h⟩⟩
        · replace h := h.2 hc30
          refine wpC_skip ?_
          refine wpC_region ?_
          refine wpR_val (v := (Value.int .i64 x27)) (w' := w4) rfl rfl rfl (x_move (v := (Value.int .i64 x27)) rfl e7) ?_
          refine wpR_val (v := (Value.int .i64 x27)) (w' := w4) rfl rfl rfl (x_assign (v := (Value.int .i64 x27)) rfl rfl) ?_
          refine wpR_nil ?_
          refine wpC_cut (fun ρ => ρ 0 = (Sl.v p0) ∧ ρ 3 = (Value.int .i64 l1) ∧ ρ 5 = (Value.int .i64 x27) ∧ ρ 8 = (Sl.v p0) ∧ ρ 9 = (Value.int .i64 (p0.len : Int)) ∧ ρ 10 = (Value.int .i64 l1) ∧ ρ 34 = (Sl.v x23) ∧ ρ 35 = (Value.int .i64 (x23.len : Int)) ∧ ρ 36 = (Value.int .i64 l24.2) ∧ True) ⟨e0, e3, rfl, e8, e9, e10, e34, e35, e36, trivial⟩ ?_
          rintro ρ ⟨e0, e3, e5, e8, e9, e10, e34, e35, e36, -⟩
          refine wpC_region ?_
          refine wpR_val (v := (Value.int .i64 (IntKind.i64.wrap (l24.2 + 1)))) (w' := w4) rfl rfl rfl (x_add rfl e36 rfl) ?_
          refine wpR_val (v := (Value.int .i64 (IntKind.i64.wrap (l24.2 + 1)))) (w' := w4) rfl rfl rfl (x_move (v := (Value.int .i64 (IntKind.i64.wrap (l24.2 + 1)))) rfl rfl) ?_
          refine wpR_nil ?_
          exact ⟨(x27, IntKind.i64.wrap (l24.2 + 1)), ⟨e5, rfl, e0, e3, e8, e9, e10, e34, e35, trivial⟩, h⟩
      · replace h := h.2 hc25
        refine wpC_exit ?_
        refine wpC_cut (fun ρ => ρ 0 = (Sl.v p0) ∧ ρ 8 = (Sl.v p0) ∧ ρ 9 = (Value.int .i64 (p0.len : Int)) ∧ ρ 10 = (Value.int .i64 l1) ∧ True) ⟨e0, e8, e9, e10, trivial⟩ ?_
        rintro ρ ⟨e0, e8, e9, e10, -⟩
        refine wpC_region ?_
        refine wpR_val (v := (Value.int .i64 (IntKind.i64.wrap (l1 + 1)))) (w' := w4) rfl rfl rfl (x_add rfl e10 rfl) ?_
        refine wpR_val (v := (Value.int .i64 (IntKind.i64.wrap (l1 + 1)))) (w' := w4) rfl rfl rfl (x_move (v := (Value.int .i64 (IntKind.i64.wrap (l1 + 1)))) rfl rfl) ?_
        refine wpR_nil ?_
        exact ⟨IntKind.i64.wrap (l1 + 1), ⟨rfl, e0, e8, e9, trivial⟩, h⟩
  · replace h := h.2 hc2
    refine wpC_exit ?_
    refine wpC_seq ?_
    refine wpC_cut (fun ρ => ρ 0 = (Sl.v p0) ∧ True) ⟨e0, trivial⟩ ?_
    rintro ρ ⟨e0, -⟩
    refine wpC_region ?_
    refine wpR_val (v := (Sl.v p0)) (w' := w1) rfl rfl rfl (x_move (v := (Sl.v p0)) rfl e0) ?_
    refine wpR_val (v := (Value.int .i64 (p0.len : Int))) (w' := w1) rfl rfl rfl (x_lenS (s := p0) rfl rfl isSliceT_22) ?_
    refine wpR_val (v := (Value.bool (decide ((p0.len : Int) ≤ 100000)))) (w' := w1) rfl rfl rfl (x_leq rfl rfl rfl) ?_
    refine wpR_val (v := (Value.bool (decide ((p0.len : Int) ≤ 100000)))) (w' := w1) rfl rfl rfl (x_assign (v := (Value.bool (decide ((p0.len : Int) ≤ 100000)))) rfl rfl) ?_
    refine wpR_nil ?_
    refine wpC_ret ?_
    exact ⟨.inl rfl, fun a ha => ⟨_, results_rep1 rfl ha rfl, decide ((p0.len : Int) ≤ 100000), rfl, h⟩⟩

/-- linguaref41.Right -/
def F11 (p0 : Sl) (w0 : World) (K : Bool → World → Prop) : Prop :=
  lp (fun (next1 : Int → World → Prop) l1 w1 =>
    cnd (decide (l1 < (p0.len : Int)))
      (
      ix p0 l1 3 fun p3 =>
      ld (Value.int .i64) (p3.add 0) w1 fun x4 =>
      ld (Value.int .i64) (p3.add 1) w1 fun x5 =>
      ld Sl.v (p3.add 2) w1 fun x6 =>
      nw 32 #[(Value.int .i64 0), (Value.int .i64 0), (Sl.v Sl.nil)] w1 fun b7 w2 =>
      st (Addr.mk b7 0 none) [(Value.int .i64 x4), (Value.int .i64 x5), (Sl.v x6)] w2 fun w3 =>
      ld (Value.int .i64) ((Addr.mk b7 0 none).add 0) w3 fun x9 =>
      jp (fun J10 => cnd (decide (x9 < 0))
        (
        J10 true
        )
        (
        ld (Value.int .i64) ((Addr.mk b7 0 none).add 0) w3 fun x12 =>
        J10 (decide (8 ≤ x12))
        ))
      fun c13 =>
      jp (fun J14 => cnd (c13)
        (
        J14 true
        )
        (
        ld (Value.int .i64) ((Addr.mk b7 0 none).add 1) w3 fun x16 =>
        J14 (decide (x16 < 0))
        ))
      fun c17 =>
      jp (fun J18 => cnd (c17)
        (
        J18 true
        )
        (
        ld (Value.int .i64) ((Addr.mk b7 0 none).add 1) w3 fun x20 =>
        J18 (decide (1099511627776 < x20))
        ))
      fun c21 =>
      cnd (c21)
        (
        K false w3
        )
        (
        lp (fun (next23 : (Int × Int) → World → Prop) l23 w4 =>
          ld Sl.v ((Addr.mk b7 0 none).add 2) w4 fun x24 =>
          cnd (decide (l23.2 < (x24.len : Int)))
            (
            ld Sl.v ((Addr.mk b7 0 none).add 2) w4 fun x26 =>
            ix x26 l23.2 1 fun p27 =>
            ld (Value.int .i64) p27 w4 fun x28 =>
            jp (fun J29 => cnd (decide (x28 ≤ l23.1))
              (
              J29 true
              )
              (
              ld Sl.v ((Addr.mk b7 0 none).add 2) w4 fun x31 =>
              ix x31 l23.2 1 fun p32 =>
              ld (Value.int .i64) p32 w4 fun x33 =>
              J29 (decide (l1 ≤ x33))
              ))
            fun c34 =>
            cnd (c34)
              (
              K false w4
              )
              (
              ld Sl.v ((Addr.mk b7 0 none).add 2) w4 fun x36 =>
              ix x36 l23.2 1 fun p37 =>
              ld (Value.int .i64) p37 w4 fun x38 =>
              next23 (x38, IntKind.i64.wrap (l23.2 + 1)) w4
              )
            )
            (
            next1 (IntKind.i64.wrap (l1 + 1)) w4
            )
        ) ((-1), 0) w3
        )
      )
      (
      K (decide ((p0.len : Int) ≤ 100000)) w1
      )
  ) 0 w0
set_option maxRecDepth 100000 in
theorem D11 (p0 : Sl) (w0 : World) (K : Bool → World → Prop) (h : F11 p0 w0 K) : callC Try.prog 11 #[(Sl.v p0)] (fun (r : Bool) => (Value.bool r)) w0 K := by
  unfold F11 at h
  refine calls_of_wpC Try.func11 rfl 66 rfl (by simp) ?_
  intro ρ hρ
  have e0 : ρ 0 = (Sl.v p0) := hρ 0
  clear hρ
  refine wpC_seq ?_
  refine wpC_region ?_
  refine wpR_val (v := (Value.bool false)) (w' := w0) rfl rfl rfl (x_assign (v := (Value.bool false)) rfl rfl) ?_
  refine wpR_nil ?_
  refine wpC_seq ?_
  refine wpC_seq ?_
  refine wpC_cut (fun ρ => ρ 0 = (Sl.v p0) ∧ True) ⟨e0, trivial⟩ ?_
  rintro ρ ⟨e0, -⟩
  refine wpC_region ?_
  refine wpR_val (v := (Value.int .i64 0)) (w' := w0) rfl rfl rfl (x_assign (v := (Value.int .i64 0)) rfl rfl) ?_
  refine wpR_nil ?_
  refine wpC_block ?_
  obtain ⟨I1, μ1, hI1, hr1⟩ := h
  refine wpC_loop (fun (x : Int) ρ => ρ 3 = (Value.int .i64 x) ∧ ρ 0 = (Sl.v p0) ∧ True) I1 μ1 0 ⟨rfl, e0, trivial⟩ hI1 ?_
  rintro l1 ρ w1 ⟨e3, e0, -⟩ h
  replace h := hr1 l1 w1 h
  clear hr1 hI1
  refine wpC_seq ?_
  refine wpC_seq ?_
  refine wpC_region ?_
  refine wpR_val (v := (Value.int .i64 l1)) (w' := w1) rfl rfl rfl (x_move (v := (Value.int .i64 l1)) rfl e3) ?_
  refine wpR_val (v := (Sl.v p0)) (w' := w1) rfl rfl rfl (x_move (v := (Sl.v p0)) rfl e0) ?_
  refine wpR_val (v := (Value.int .i64 (p0.len : Int))) (w' := w1) rfl rfl rfl (x_lenS (s := p0) rfl rfl isSliceT_22) ?_
  refine wpR_val (v := (Value.bool (decide (l1 < (p0.len : Int))))) (w' := w1) rfl rfl rfl (x_lss rfl rfl rfl) ?_
  refine wpR_nil ?_
  refine wpC_cond (b := decide (l1 < (p0.len : Int))) rfl (fun hc2 => ?_) (fun hc2 => ?_)
  · replace h := h.1 hc2
    refine wpC_skip ?_
    refine wpC_seq ?_
    refine wpC_block ?_
    refine wpC_seq ?_
    refine wpC_cut (fun ρ => ρ 0 = (Sl.v p0) ∧ ρ 3 = (Value.int .i64 l1) ∧ True) ⟨e0, e3, trivial⟩ ?_
    rintro ρ ⟨e0, e3, -⟩
    refine wpC_region ?_
    refine wpR_val (v := (Sl.v p0)) (w' := w1) rfl rfl rfl (x_move (v := (Sl.v p0)) rfl e0) ?_
    refine wpR_val (v := (Value.int .i64 l1)) (w' := w1) rfl rfl rfl (x_move (v := (Value.int .i64 l1)) rfl e3) ?_
    obtain ⟨q3, z3, r3, h⟩ := h
    generalize hp3 : z3.add ((l1).toNat * 3) = p3 at h
    refine wpR_val (v := (Value.pointer (some p3))) (w' := w1) rfl rfl rfl ((x_indexAddr (s := p0) rfl rfl rfl ES_22 q3 r3).trans (by rw [hp3])) ?_
    obtain ⟨x4, q4, h⟩ := h
    obtain ⟨x5, q5, h⟩ := h
    obtain ⟨x6, q6, h⟩ := h
    refine wpR_val (v := (Value.agg #[(Value.int .i64 x4), (Value.int .i64 x5), (Sl.v x6)])) (w' := w1) rfl rfl rfl (x_loadN [(Value.int .i64 x4), (Value.int .i64 x5), (Sl.v x6)] rfl rfl SH_32 (CellsAt.out (CellsAt.cons q4 (CellsAt.cons q5 (CellsAt.cons q6 CellsAt.nil))))) ?_
    obtain ⟨b7, hb7⟩ : ∃ u, u = w1.heap.size := ⟨_, rfl⟩
    obtain ⟨w2, hw7⟩ : ∃ u, u = w1.alloc (.cells #[(Value.int .i64 0), (Value.int .i64 0), (Sl.v Sl.nil)] 32) := ⟨_, rfl⟩
    replace h := h b7 w2 hb7 hw7
    refine wpR_val (v := (Value.pointer (some (Addr.mk b7 0 none)))) (w' := w2) rfl rfl rfl ((x_alloc rfl ZV_32).trans (by rw [hb7, hw7]; rfl)) ?_
    obtain ⟨q8, h⟩ := h
    obtain ⟨w3, hw8⟩ : ∃ u, u = setAll w2 (Addr.mk b7 0 none) [(Value.int .i64 x4), (Value.int .i64 x5), (Sl.v x6)] 0 := ⟨_, rfl⟩
    replace h := h w3 hw8
    refine wpR_skp (w' := w3) rfl rfl ((x_store (v := (Value.agg #[(Value.int .i64 x4), (Value.int .i64 x5), (Sl.v x6)])) rfl rfl rfl SZ_32 (ones (by rfl)) q8).trans (by rw [hw8]; rfl)) ?_
    refine wpR_nil ?_
    refine wpC_seq ?_
    refine wpC_seq ?_
    refine wpC_cut (fun ρ => ρ 0 = (Sl.v p0) ∧ ρ 3 = (Value.int .i64 l1) ∧ ρ 4 = (Value.pointer (some (Addr.mk b7 0 none))) ∧ True) ⟨e0, e3, rfl, trivial⟩ ?_
    rintro ρ ⟨e0, e3, e4, -⟩
    refine wpC_region ?_
    refine wpR_val (v := (Value.pointer (some ((Addr.mk b7 0 none).add 0)))) (w' := w3) rfl rfl rfl (x_fieldAddr rfl e4 FA_32_0) ?_
    obtain ⟨x9, q9, h⟩ := h
    refine wpR_val (v := (Value.int .i64 x9)) (w' := w3) rfl rfl rfl (x_load1 rfl rfl SH_3 q9) ?_
    refine wpR_val (v := (Value.bool (decide (x9 < 0)))) (w' := w3) rfl rfl rfl (x_lss rfl rfl rfl) ?_
    refine wpR_val (v := (Value.bool (decide (x9 < 0)))) (w' := w3) rfl rfl rfl (x_move (v := (Value.bool (decide (x9 < 0)))) rfl rfl) ?_
    obtain ⟨J10, h, hk⟩ := h
    refine wpR_joinJ 4 (fun x ρ => ρ 24 = Value.bool x ∧ ρ 0 = (Sl.v p0) ∧ ρ 3 = (Value.int .i64 l1) ∧ ρ 4 = (Value.pointer (some (Addr.mk b7 0 none))) ∧ True) (fun x w => J10 x ∧ w3 = w) ?_ ?_
    · clear hk
      rcases Bool.eq_false_or_eq_true (decide (x9 < 0)) with hc11 | hc11
      · replace h := h.1 hc11
        refine wpR_pass (wantN rfl rfl rfl hc11) rfl rfl ?_
        refine wpR_pass (wantN rfl rfl rfl hc11) rfl rfl ?_
        refine wpR_pass (wantN rfl rfl rfl hc11) rfl rfl ?_
        refine wpR_val (v := (Value.bool true)) (w' := w3) rfl rfl rfl (x_pickT (v := (Value.bool true)) rfl rfl hc11 rfl) ?_
        refine wpR_nil ?_
        exact ⟨true, ⟨rfl, e0, e3, e4, trivial⟩, h, rfl⟩
      · replace h := h.2 hc11
        refine wpR_val (v := (Value.pointer (some ((Addr.mk b7 0 none).add 0)))) (w' := w3) (wantG rfl rfl rfl hc11) rfl rfl (x_fieldAddr rfl e4 FA_32_0) ?_
        obtain ⟨x12, q12, h⟩ := h
        refine wpR_val (v := (Value.int .i64 x12)) (w' := w3) (wantG rfl rfl rfl hc11) rfl rfl (x_load1 rfl rfl SH_3 q12) ?_
        refine wpR_val (v := (Value.bool (decide (8 ≤ x12)))) (w' := w3) (wantG rfl rfl rfl hc11) rfl rfl (x_geq rfl rfl rfl) ?_
        refine wpR_val (v := (Value.bool (decide (8 ≤ x12)))) (w' := w3) rfl rfl rfl (x_pickF (v := (Value.bool (decide (8 ≤ x12)))) rfl rfl hc11 rfl) ?_
        refine wpR_nil ?_
        exact ⟨decide (8 ≤ x12), ⟨rfl, e0, e3, e4, trivial⟩, h, rfl⟩
    clear h
    rintro c13 ρ wj ⟨e24, e0, e3, e4, -⟩ ⟨h, rfl⟩
    replace h := hk c13 h
    clear hk
    refine wpR_val (v := (Value.bool c13)) (w' := w3) rfl rfl rfl (x_move (v := (Value.bool c13)) rfl e24) ?_
    obtain ⟨J14, h, hk⟩ := h
    refine wpR_joinJ 4 (fun x ρ => ρ 29 = Value.bool x ∧ ρ 0 = (Sl.v p0) ∧ ρ 3 = (Value.int .i64 l1) ∧ ρ 4 = (Value.pointer (some (Addr.mk b7 0 none))) ∧ True) (fun x w => J14 x ∧ w3 = w) ?_ ?_
    · clear hk
      rcases Bool.eq_false_or_eq_true (c13) with hc15 | hc15
      · replace h := h.1 hc15
        refine wpR_pass (wantN rfl rfl rfl hc15) rfl rfl ?_
        refine wpR_pass (wantN rfl rfl rfl hc15) rfl rfl ?_
        refine wpR_pass (wantN rfl rfl rfl hc15) rfl rfl ?_
        refine wpR_val (v := (Value.bool true)) (w' := w3) rfl rfl rfl (x_pickT (v := (Value.bool true)) rfl rfl hc15 rfl) ?_
        refine wpR_nil ?_
        exact ⟨true, ⟨rfl, e0, e3, e4, trivial⟩, h, rfl⟩
      · replace h := h.2 hc15
        refine wpR_val (v := (Value.pointer (some ((Addr.mk b7 0 none).add 1)))) (w' := w3) (wantG rfl rfl rfl hc15) rfl rfl (x_fieldAddr rfl e4 FA_32_1) ?_
        obtain ⟨x16, q16, h⟩ := h
        refine wpR_val (v := (Value.int .i64 x16)) (w' := w3) (wantG rfl rfl rfl hc15) rfl rfl (x_load1 rfl rfl SH_3 q16) ?_
        refine wpR_val (v := (Value.bool (decide (x16 < 0)))) (w' := w3) (wantG rfl rfl rfl hc15) rfl rfl (x_lss rfl rfl rfl) ?_
        refine wpR_val (v := (Value.bool (decide (x16 < 0)))) (w' := w3) rfl rfl rfl (x_pickF (v := (Value.bool (decide (x16 < 0)))) rfl rfl hc15 rfl) ?_
        refine wpR_nil ?_
        exact ⟨decide (x16 < 0), ⟨rfl, e0, e3, e4, trivial⟩, h, rfl⟩
    clear h
    rintro c17 ρ wj ⟨e29, e0, e3, e4, -⟩ ⟨h, rfl⟩
    replace h := hk c17 h
    clear hk
    refine wpR_val (v := (Value.bool c17)) (w' := w3) rfl rfl rfl (x_move (v := (Value.bool c17)) rfl e29) ?_
    obtain ⟨J18, h, hk⟩ := h
    refine wpR_joinJ 4 (fun x ρ => ρ 34 = Value.bool x ∧ ρ 0 = (Sl.v p0) ∧ ρ 3 = (Value.int .i64 l1) ∧ ρ 4 = (Value.pointer (some (Addr.mk b7 0 none))) ∧ True) (fun x w => J18 x ∧ w3 = w) ?_ ?_
    · clear hk
      rcases Bool.eq_false_or_eq_true (c17) with hc19 | hc19
      · replace h := h.1 hc19
        refine wpR_pass (wantN rfl rfl rfl hc19) rfl rfl ?_
        refine wpR_pass (wantN rfl rfl rfl hc19) rfl rfl ?_
        refine wpR_pass (wantN rfl rfl rfl hc19) rfl rfl ?_
        refine wpR_val (v := (Value.bool true)) (w' := w3) rfl rfl rfl (x_pickT (v := (Value.bool true)) rfl rfl hc19 rfl) ?_
        refine wpR_nil ?_
        exact ⟨true, ⟨rfl, e0, e3, e4, trivial⟩, h, rfl⟩
      · replace h := h.2 hc19
        refine wpR_val (v := (Value.pointer (some ((Addr.mk b7 0 none).add 1)))) (w' := w3) (wantG rfl rfl rfl hc19) rfl rfl (x_fieldAddr rfl e4 FA_32_1) ?_
        obtain ⟨x20, q20, h⟩ := h
        refine wpR_val (v := (Value.int .i64 x20)) (w' := w3) (wantG rfl rfl rfl hc19) rfl rfl (x_load1 rfl rfl SH_3 q20) ?_
        refine wpR_val (v := (Value.bool (decide (1099511627776 < x20)))) (w' := w3) (wantG rfl rfl rfl hc19) rfl rfl (x_gtr rfl rfl rfl) ?_
        refine wpR_val (v := (Value.bool (decide (1099511627776 < x20)))) (w' := w3) rfl rfl rfl (x_pickF (v := (Value.bool (decide (1099511627776 < x20)))) rfl rfl hc19 rfl) ?_
        refine wpR_nil ?_
        exact ⟨decide (1099511627776 < x20), ⟨rfl, e0, e3, e4, trivial⟩, h, rfl⟩
    clear h
    rintro c21 ρ wj ⟨e34, e0, e3, e4, -⟩ ⟨h, rfl⟩
    replace h := hk c21 h
    clear hk
    refine wpR_nil ?_
    refine wpC_cond (b := c21) e34 (fun hc22 => ?_) (fun hc22 => ?_)
    · replace h := h.1 hc22
      refine wpC_seq ?_
      refine wpC_region ?_
      refine wpR_val (v := (Value.bool false)) (w' := w3) rfl rfl rfl (x_assign (v := (Value.bool false)) rfl rfl) ?_
      refine wpR_nil ?_
      refine wpC_ret ?_
      exact ⟨.inl rfl, fun a ha => ⟨_, results_rep1 rfl ha rfl, false, rfl, h⟩⟩
    · replace h := h.2 hc22
      refine wpC_skip ?_
      refine wpC_seq ?_
      refine wpC_region ?_
      refine wpR_val (v := (Value.int .i64 (-1))) (w' := w3) rfl rfl rfl (x_assign (v := (Value.int .i64 (-1))) rfl rfl) ?_
      refine wpR_nil ?_
      refine wpC_seq ?_
      refine wpC_cut (fun ρ => ρ 0 = (Sl.v p0) ∧ ρ 3 = (Value.int .i64 l1) ∧ ρ 4 = (Value.pointer (some (Addr.mk b7 0 none))) ∧ ρ 5 = (Value.int .i64 (-1)) ∧ True) ⟨e0, e3, e4, rfl, trivial⟩ ?_
      rintro ρ ⟨e0, e3, e4, e5, -⟩
      refine wpC_region ?_
      refine wpR_val (v := (Value.int .i64 0)) (w' := w3) rfl rfl rfl (x_assign (v := (Value.int .i64 0)) rfl rfl) ?_
      refine wpR_nil ?_
      refine wpC_block ?_
      obtain ⟨I23, μ23, hI23, hr23⟩ := h
      refine wpC_loop (fun (x : Int × Int) ρ => ρ 5 = (Value.int .i64 x.1) ∧ ρ 6 = (Value.int .i64 x.2) ∧ ρ 0 = (Sl.v p0) ∧ ρ 3 = (Value.int .i64 l1) ∧ ρ 4 = (Value.pointer (some (Addr.mk b7 0 none))) ∧ True) I23 μ23 ((-1), 0) ⟨e5, rfl, e0, e3, e4, trivial⟩ hI23 ?_
      rintro l23 ρ w4 ⟨e5, e6, e0, e3, e4, -⟩ h
      replace h := hr23 l23 w4 h
      clear hr23 hI23
      refine wpC_seq ?_
      refine wpC_seq ?_
      refine wpC_region ?_
      refine wpR_val (v := (Value.int .i64 l23.2)) (w' := w4) rfl rfl rfl (x_move (v := (Value.int .i64 l23.2)) rfl e6) ?_
      refine wpR_val (v := (Value.pointer (some ((Addr.mk b7 0 none).add 2)))) (w' := w4) rfl rfl rfl (x_fieldAddr rfl e4 FA_32_2) ?_
      obtain ⟨x24, q24, h⟩ := h
      refine wpR_val (v := (Sl.v x24)) (w' := w4) rfl rfl rfl (x_load1 rfl rfl SH_23 q24) ?_
      refine wpR_val (v := (Value.int .i64 (x24.len : Int))) (w' := w4) rfl rfl rfl (x_lenS (s := x24) rfl rfl isSliceT_23) ?_
      refine wpR_val (v := (Value.bool (decide (l23.2 < (x24.len : Int))))) (w' := w4) rfl rfl rfl (x_lss rfl rfl rfl) ?_
      refine wpR_nil ?_
      refine wpC_cond (b := decide (l23.2 < (x24.len : Int))) rfl (fun hc25 => ?_) (fun hc25 => ?_)
      · replace h := h.1 hc25
        refine wpC_skip ?_
        refine wpC_seq ?_
        refine wpC_block ?_
        refine wpC_seq ?_
        refine wpC_seq ?_
        refine wpC_cut (fun ρ => ρ 0 = (Sl.v p0) ∧ ρ 3 = (Value.int .i64 l1) ∧ ρ 4 = (Value.pointer (some (Addr.mk b7 0 none))) ∧ ρ 5 = (Value.int .i64 l23.1) ∧ ρ 6 = (Value.int .i64 l23.2) ∧ True) ⟨e0, e3, e4, e5, e6, trivial⟩ ?_
        rintro ρ ⟨e0, e3, e4, e5, e6, -⟩
        refine wpC_region ?_
        refine wpR_val (v := (Value.pointer (some ((Addr.mk b7 0 none).add 2)))) (w' := w4) rfl rfl rfl (x_fieldAddr rfl e4 FA_32_2) ?_
        obtain ⟨x26, q26, h⟩ := h
        refine wpR_val (v := (Sl.v x26)) (w' := w4) rfl rfl rfl (x_load1 rfl rfl SH_23 q26) ?_
        refine wpR_val (v := (Value.int .i64 l23.2)) (w' := w4) rfl rfl rfl (x_move (v := (Value.int .i64 l23.2)) rfl e6) ?_
        obtain ⟨q27, z27, r27, h⟩ := h
        generalize hp27 : z27.add ((l23.2).toNat * 1) = p27 at h
        refine wpR_val (v := (Value.pointer (some p27))) (w' := w4) rfl rfl rfl ((x_indexAddr (s := x26) rfl rfl rfl ES_23 q27 r27).trans (by rw [hp27])) ?_
        obtain ⟨x28, q28, h⟩ := h
        refine wpR_val (v := (Value.int .i64 x28)) (w' := w4) rfl rfl rfl (x_load1 rfl rfl SH_3 q28) ?_
        refine wpR_val (v := (Value.int .i64 l23.1)) (w' := w4) rfl rfl rfl (x_move (v := (Value.int .i64 l23.1)) rfl e5) ?_
        refine wpR_val (v := (Value.bool (decide (x28 ≤ l23.1)))) (w' := w4) rfl rfl rfl (x_leq rfl rfl rfl) ?_
        refine wpR_val (v := (Value.bool (decide (x28 ≤ l23.1)))) (w' := w4) rfl rfl rfl (x_move (v := (Value.bool (decide (x28 ≤ l23.1)))) rfl rfl) ?_
        obtain ⟨J29, h, hk⟩ := h
        refine wpR_joinJ 8 (fun x ρ => ρ 57 = Value.bool x ∧ ρ 0 = (Sl.v p0) ∧ ρ 3 = (Value.int .i64 l1) ∧ ρ 4 = (Value.pointer (some (Addr.mk b7 0 none))) ∧ ρ 6 = (Value.int .i64 l23.2) ∧ True) (fun x w => J29 x ∧ w4 = w) ?_ ?_
        · clear hk
          rcases Bool.eq_false_or_eq_true (decide (x28 ≤ l23.1)) with hc30 | hc30
          · replace h := h.1 hc30
            refine wpR_pass (wantN rfl rfl rfl hc30) rfl rfl ?_
            refine wpR_pass (wantN rfl rfl rfl hc30) rfl rfl ?_
            refine wpR_pass (wantN rfl rfl rfl hc30) rfl rfl ?_
            refine wpR_pass (wantN rfl rfl rfl hc30) rfl rfl ?_
            refine wpR_pass (wantN rfl rfl rfl hc30) rfl rfl ?_
            refine wpR_pass (wantN rfl rfl rfl hc30) rfl rfl ?_
            refine wpR_pass (wantN rfl rfl rfl hc30) rfl rfl ?_
            refine wpR_val (v := (Value.bool true)) (w' := w4) rfl rfl rfl (x_pickT (v := (Value.bool true)) rfl rfl hc30 rfl) ?_
            refine wpR_nil ?_
            exact ⟨true, ⟨rfl, e0, e3, e4, e6, trivial⟩, h, rfl⟩
          · replace h := h.2 hc30
            refine wpR_val (v := (Value.pointer (some ((Addr.mk b7 0 none).add 2)))) (w' := w4) (wantG rfl rfl rfl hc30) rfl rfl (x_fieldAddr rfl e4 FA_32_2) ?_
            obtain ⟨x31, q31, h⟩ := h
            refine wpR_val (v := (Sl.v x31)) (w' := w4) (wantG rfl rfl rfl hc30) rfl rfl (x_load1 rfl rfl SH_23 q31) ?_
            refine wpR_val (v := (Value.int .i64 l23.2)) (w' := w4) (wantG rfl rfl rfl hc30) rfl rfl (x_move (v := (Value.int .i64 l23.2)) rfl e6) ?_
            obtain ⟨q32, z32, r32, h⟩ := h
            generalize hp32 : z32.add ((l23.2).toNat * 1) = p32 at h
            refine wpR_val (v := (Value.pointer (some p32))) (w' := w4) (wantG rfl rfl rfl hc30) rfl rfl ((x_indexAddr (s := x31) rfl rfl rfl ES_23 q32 r32).trans (by rw [hp32])) ?_
            obtain ⟨x33, q33, h⟩ := h
            refine wpR_val (v := (Value.int .i64 x33)) (w' := w4) (wantG rfl rfl rfl hc30) rfl rfl (x_load1 rfl rfl SH_3 q33) ?_
            refine wpR_val (v := (Value.int .i64 l1)) (w' := w4) (wantG rfl rfl rfl hc30) rfl rfl (x_move (v := (Value.int .i64 l1)) rfl e3) ?_
            refine wpR_val (v := (Value.bool (decide (l1 ≤ x33)))) (w' := w4) (wantG rfl rfl rfl hc30) rfl rfl (x_geq rfl rfl rfl) ?_
            refine wpR_val (v := (Value.bool (decide (l1 ≤ x33)))) (w' := w4) rfl rfl rfl (x_pickF (v := (Value.bool (decide (l1 ≤ x33)))) rfl rfl hc30 rfl) ?_
            refine wpR_nil ?_
            exact ⟨decide (l1 ≤ x33), ⟨rfl, e0, e3, e4, e6, trivial⟩, h, rfl⟩
        clear h
        rintro c34 ρ wj ⟨e57, e0, e3, e4, e6, -⟩ ⟨h, rfl⟩
        replace h := hk c34 h
        clear hk
        refine wpR_nil ?_
        refine wpC_cond (b := c34) e57 (fun hc35 => ?_) (fun hc35 => ?_)
        · replace h := h.1 hc35
          refine wpC_seq ?_
          refine wpC_region ?_
          refine wpR_val (v := (Value.bool false)) (w' := w4) rfl rfl rfl (x_assign (v := (Value.bool false)) rfl rfl) ?_
          refine wpR_nil ?_
          refine wpC_ret ?_
          exact ⟨.inl rfl, fun a ha => ⟨_, results_rep1 rfl ha rfl, false, rfl, h⟩⟩
        · replace h := h.2 hc35
          refine wpC_skip ?_
          refine wpC_region ?_
          refine wpR_val (v := (Value.pointer (some ((Addr.mk b7 0 none).add 2)))) (w' := w4) rfl rfl rfl (x_fieldAddr rfl e4 FA_32_2) ?_
          obtain ⟨x36, q36, h⟩ := h
          refine wpR_val (v := (Sl.v x36)) (w' := w4) rfl rfl rfl (x_load1 rfl rfl SH_23 q36) ?_
          refine wpR_val (v := (Value.int .i64 l23.2)) (w' := w4) rfl rfl rfl (x_move (v := (Value.int .i64 l23.2)) rfl e6) ?_
          obtain ⟨q37, z37, r37, h⟩ := h
          generalize hp37 : z37.add ((l23.2).toNat * 1) = p37 at h
          refine wpR_val (v := (Value.pointer (some p37))) (w' := w4) rfl rfl rfl ((x_indexAddr (s := x36) rfl rfl rfl ES_23 q37 r37).trans (by rw [hp37])) ?_
          obtain ⟨x38, q38, h⟩ := h
          refine wpR_val (v := (Value.int .i64 x38)) (w' := w4) rfl rfl rfl (x_load1 rfl rfl SH_3 q38) ?_
          refine wpR_val (v := (Value.int .i64 x38)) (w' := w4) rfl rfl rfl (x_assign (v := (Value.int .i64 x38)) rfl rfl) ?_
          refine wpR_nil ?_
          refine wpC_cut (fun ρ => ρ 0 = (Sl.v p0) ∧ ρ 3 = (Value.int .i64 l1) ∧ ρ 4 = (Value.pointer (some (Addr.mk b7 0 none))) ∧ ρ 5 = (Value.int .i64 x38) ∧ ρ 6 = (Value.int .i64 l23.2) ∧ True) ⟨e0, e3, e4, rfl, e6, trivial⟩ ?_
          rintro ρ ⟨e0, e3, e4, e5, e6, -⟩
          refine wpC_region ?_
          refine wpR_val (v := (Value.int .i64 l23.2)) (w' := w4) rfl rfl rfl (x_move (v := (Value.int .i64 l23.2)) rfl e6) ?_
          refine wpR_val (v := (Value.int .i64 (IntKind.i64.wrap (l23.2 + 1)))) (w' := w4) rfl rfl rfl (x_add rfl rfl rfl) ?_
          refine wpR_val (v := (Value.int .i64 (IntKind.i64.wrap (l23.2 + 1)))) (w' := w4) rfl rfl rfl (x_assign (v := (Value.int .i64 (IntKind.i64.wrap (l23.2 + 1)))) rfl rfl) ?_
          refine wpR_nil ?_
          exact ⟨(x38, IntKind.i64.wrap (l23.2 + 1)), ⟨e5, rfl, e0, e3, e4, trivial⟩, h⟩
      · replace h := h.2 hc25
        refine wpC_exit ?_
        refine wpC_cut (fun ρ => ρ 0 = (Sl.v p0) ∧ ρ 3 = (Value.int .i64 l1) ∧ True) ⟨e0, e3, trivial⟩ ?_
        rintro ρ ⟨e0, e3, -⟩
        refine wpC_region ?_
        refine wpR_val (v := (Value.int .i64 l1)) (w' := w4) rfl rfl rfl (x_move (v := (Value.int .i64 l1)) rfl e3) ?_
        refine wpR_val (v := (Value.int .i64 (IntKind.i64.wrap (l1 + 1)))) (w' := w4) rfl rfl rfl (x_add rfl rfl rfl) ?_
        refine wpR_val (v := (Value.int .i64 (IntKind.i64.wrap (l1 + 1)))) (w' := w4) rfl rfl rfl (x_assign (v := (Value.int .i64 (IntKind.i64.wrap (l1 + 1)))) rfl rfl) ?_
        refine wpR_nil ?_
        exact ⟨IntKind.i64.wrap (l1 + 1), ⟨rfl, e0, trivial⟩, h⟩
  · replace h := h.2 hc2
    refine wpC_exit ?_
    refine wpC_seq ?_
    refine wpC_cut (fun ρ => ρ 0 = (Sl.v p0) ∧ True) ⟨e0, trivial⟩ ?_
    rintro ρ ⟨e0, -⟩
    refine wpC_region ?_
    refine wpR_val (v := (Sl.v p0)) (w' := w1) rfl rfl rfl (x_move (v := (Sl.v p0)) rfl e0) ?_
    refine wpR_val (v := (Value.int .i64 (p0.len : Int))) (w' := w1) rfl rfl rfl (x_lenS (s := p0) rfl rfl isSliceT_22) ?_
    refine wpR_val (v := (Value.bool (decide ((p0.len : Int) ≤ 100000)))) (w' := w1) rfl rfl rfl (x_leq rfl rfl rfl) ?_
    refine wpR_val (v := (Value.bool (decide ((p0.len : Int) ≤ 100000)))) (w' := w1) rfl rfl rfl (x_assign (v := (Value.bool (decide ((p0.len : Int) ≤ 100000)))) rfl rfl) ?_
    refine wpR_nil ?_
    refine wpC_ret ?_
    exact ⟨.inl rfl, fun a ha => ⟨_, results_rep1 rfl ha rfl, decide ((p0.len : Int) ≤ 100000), rfl, h⟩⟩

/-- linguaref41.Same -/
def F12 (p0 : Sl) (p1 : Sl) (w0 : World) (K : Bool → World → Prop) : Prop :=
  cnd (!decide ((p0.len : Int) = (p1.len : Int)))
    (
    K false w0
    )
    (
    lp (fun (next2 : Int → World → Prop) l2 w1 =>
      cnd (decide (l2 < (p0.len : Int)))
        (
        jn (fun (J5 : Bool → World → Prop) => tk w1 fun w2 =>
          ix p0 l2 1 fun p6 =>
          ld (Value.int .i64) p6 w2 fun x7 =>
          ix p1 l2 1 fun p8 =>
          ld (Value.int .i64) p8 w2 fun x9 =>
          J5 (!decide (x7 = x9)) w2
        )
        fun l10 w3 =>
        cnd (l10)
          (
          K false w3
          )
          (
          next2 (IntKind.i64.wrap (l2 + 1)) w3
          )
        )
        (
        K true w1
        )
    ) 0 w0
    )
set_option maxRecDepth 100000 in
theorem D12 (p0 : Sl) (p1 : Sl) (w0 : World) (K : Bool → World → Prop) (h : F12 p0 p1 w0 K) : callC Try.prog 12 #[(Sl.v p0), (Sl.v p1)] (fun (r : Bool) => (Value.bool r)) w0 K := by
  unfold F12 at h
  refine calls_of_wpC Try.func12 rfl 26 rfl (by simp) ?_
  intro ρ hρ
  have e0 : ρ 0 = (Sl.v p0) := hρ 0
  have e1 : ρ 1 = (Sl.v p1) := hρ 1
  clear hρ
  refine wpC_seq ?_
  refine wpC_region ?_
  refine wpR_val (v := (Value.bool false)) (w' := w0) rfl rfl rfl (x_assign (v := (Value.bool false)) rfl rfl) ?_
  refine wpR_nil ?_
  refine wpC_seq ?_
  refine wpC_seq ?_
  refine wpC_cut (fun ρ => ρ 0 = (Sl.v p0) ∧ ρ 1 = (Sl.v p1) ∧ True) ⟨e0, e1, trivial⟩ ?_
  rintro ρ ⟨e0, e1, -⟩
  refine wpC_region ?_
  refine wpR_val (v := (Sl.v p0)) (w' := w0) rfl rfl rfl (x_move (v := (Sl.v p0)) rfl e0) ?_
  refine wpR_val (v := (Value.int .i64 (p0.len : Int))) (w' := w0) rfl rfl rfl (x_lenS (s := p0) rfl rfl isSliceT_23) ?_
  refine wpR_val (v := (Sl.v p1)) (w' := w0) rfl rfl rfl (x_move (v := (Sl.v p1)) rfl e1) ?_
  refine wpR_val (v := (Value.int .i64 (p1.len : Int))) (w' := w0) rfl rfl rfl (x_lenS (s := p1) rfl rfl isSliceT_23) ?_
  refine wpR_val (v := (Value.bool (!decide ((p0.len : Int) = (p1.len : Int))))) (w' := w0) rfl rfl rfl (x_neq rfl rfl rfl) ?_
  refine wpR_nil ?_
  refine wpC_cond (b := !decide ((p0.len : Int) = (p1.len : Int))) rfl (fun hc1 => ?_) (fun hc1 => ?_)
  · replace h := h.1 hc1
    refine wpC_seq ?_
    refine wpC_cut (fun ρ => True) trivial ?_
    rintro ρ -
    refine wpC_region ?_
    refine wpR_val (v := (Value.bool false)) (w' := w0) rfl rfl rfl (x_assign (v := (Value.bool false)) rfl rfl) ?_
    refine wpR_nil ?_
    refine wpC_ret ?_
    exact ⟨.inl rfl, fun a ha => ⟨_, results_rep1 rfl ha rfl, false, rfl, h⟩⟩
  · replace h := h.2 hc1
    refine wpC_skip ?_
    refine wpC_seq ?_
    refine wpC_seq ?_
    refine wpC_cut (fun ρ => ρ 0 = (Sl.v p0) ∧ ρ 1 = (Sl.v p1) ∧ True) ⟨e0, e1, trivial⟩ ?_
    rintro ρ ⟨e0, e1, -⟩
    refine wpC_region ?_
    refine wpR_val (v := (Value.int .i64 0)) (w' := w0) rfl rfl rfl (x_assign (v := (Value.int .i64 0)) rfl rfl) ?_
    refine wpR_nil ?_
    refine wpC_block ?_
    obtain ⟨I2, μ2, hI2, hr2⟩ := h
    refine wpC_loop (fun (x : Int) ρ => ρ 5 = (Value.int .i64 x) ∧ ρ 0 = (Sl.v p0) ∧ ρ 1 = (Sl.v p1) ∧ True) I2 μ2 0 ⟨rfl, e0, e1, trivial⟩ hI2 ?_
    rintro l2 ρ w1 ⟨e5, e0, e1, -⟩ h
    replace h := hr2 l2 w1 h
    clear hr2 hI2
    refine wpC_seq ?_
    refine wpC_seq ?_
    refine wpC_region ?_
    refine wpR_val (v := (Value.int .i64 l2)) (w' := w1) rfl rfl rfl (x_move (v := (Value.int .i64 l2)) rfl e5) ?_
    refine wpR_val (v := (Sl.v p0)) (w' := w1) rfl rfl rfl (x_move (v := (Sl.v p0)) rfl e0) ?_
    refine wpR_val (v := (Value.int .i64 (p0.len : Int))) (w' := w1) rfl rfl rfl (x_lenS (s := p0) rfl rfl isSliceT_23) ?_
    refine wpR_val (v := (Value.bool (decide (l2 < (p0.len : Int))))) (w' := w1) rfl rfl rfl (x_lss rfl rfl rfl) ?_
    refine wpR_nil ?_
    refine wpC_cond (b := decide (l2 < (p0.len : Int))) rfl (fun hc3 => ?_) (fun hc3 => ?_)
    · replace h := h.1 hc3
      refine wpC_skip ?_
      refine wpC_seq ?_
      refine wpC_block ?_
      refine wpC_seq ?_
      refine wpC_cut (fun ρ => ρ 0 = (Sl.v p0) ∧ ρ 1 = (Sl.v p1) ∧ ρ 5 = (Value.int .i64 l2) ∧ True) ⟨e0, e1, e5, trivial⟩ ?_
      rintro ρ ⟨e0, e1, e5, -⟩
      obtain ⟨J5, h, hk⟩ := h
      refine wpC_drawJ (by kernel_rfl) (fun (x : Bool) ρ => ρ 25 = (Value.bool x) ∧ ρ 0 = (Sl.v p0) ∧ ρ 1 = (Sl.v p1) ∧ ρ 5 = (Value.int .i64 l2) ∧ True) J5 ?_ ?_
      · clear hk
        unfold tk at h
        generalize w1.drew = w2 at h ⊢
        refine wpD_take (v := (Sl.v p0)) 0 (fun _ => True) rfl (by kernel_rfl) (by kernel_rfl) (by kernel_rfl) rfl rfl rfl trivial (fun w _ => (x_move (v := (Sl.v p0)) rfl e0)) ?_
        refine wpD_take (v := (Value.int .i64 l2)) 1 (fun _ => True) rfl (by kernel_rfl) (by kernel_rfl) (by kernel_rfl) rfl rfl rfl trivial (fun w _ => (x_move (v := (Value.int .i64 l2)) rfl e5)) ?_
        obtain ⟨q6, z6, r6, h⟩ := h
        generalize hp6 : z6.add ((l2).toNat * 1) = p6 at h
        refine wpD_take (v := (Value.pointer (some p6))) 2 (fun _ => True) rfl (by kernel_rfl) (by kernel_rfl) (by kernel_rfl) rfl rfl rfl trivial (fun w _ => ((x_indexAddr (s := p0) rfl rfl rfl ES_23 q6 r6).trans (by rw [hp6]))) ?_
        obtain ⟨x7, q7, h⟩ := h
        refine wpD_take (v := (Value.int .i64 x7)) 3 (fun w => w.cell? p6 = some (Value.int .i64 x7)) rfl (by kernel_rfl) (by kernel_rfl) (by kernel_rfl) rfl rfl rfl q7 (fun w q7 => (x_load1 rfl rfl SH_3 q7)) ?_
        refine wpD_take (v := (Sl.v p1)) 4 (fun _ => True) rfl (by kernel_rfl) (by kernel_rfl) (by kernel_rfl) rfl rfl rfl trivial (fun w _ => (x_move (v := (Sl.v p1)) rfl e1)) ?_
        refine wpD_take (v := (Value.int .i64 l2)) 5 (fun _ => True) rfl (by kernel_rfl) (by kernel_rfl) (by kernel_rfl) rfl rfl rfl trivial (fun w _ => (x_move (v := (Value.int .i64 l2)) rfl e5)) ?_
        obtain ⟨q8, z8, r8, h⟩ := h
        generalize hp8 : z8.add ((l2).toNat * 1) = p8 at h
        refine wpD_take (v := (Value.pointer (some p8))) 6 (fun _ => True) rfl (by kernel_rfl) (by kernel_rfl) (by kernel_rfl) rfl rfl rfl trivial (fun w _ => ((x_indexAddr (s := p1) rfl rfl rfl ES_23 q8 r8).trans (by rw [hp8]))) ?_
        obtain ⟨x9, q9, h⟩ := h
        refine wpD_take (v := (Value.int .i64 x9)) 7 (fun w => w.cell? p8 = some (Value.int .i64 x9)) rfl (by kernel_rfl) (by kernel_rfl) (by kernel_rfl) rfl rfl rfl q9 (fun w q9 => (x_load1 rfl rfl SH_3 q9)) ?_
        refine wpD_take (v := (Value.bool (!decide (x7 = x9)))) 8 (fun _ => True) rfl (by kernel_rfl) (by kernel_rfl) (by kernel_rfl) rfl rfl rfl trivial (fun w _ => (x_neq rfl rfl rfl)) ?_
        exact wpD_done (by kernel_rfl) ⟨!decide (x7 = x9), ⟨rfl, e0, e1, e5, trivial⟩, h⟩
      clear h
      rintro l10 ρ w3 ⟨e25, e0, e1, e5, -⟩ h
      replace h := hk l10 w3 h
      clear hk
      refine wpC_cond (b := l10) e25 (fun hc11 => ?_) (fun hc11 => ?_)
      · replace h := h.1 hc11
        refine wpC_seq ?_
        refine wpC_region ?_
        refine wpR_val (v := (Value.bool false)) (w' := w3) rfl rfl rfl (x_assign (v := (Value.bool false)) rfl rfl) ?_
        refine wpR_nil ?_
        refine wpC_ret ?_
        exact ⟨.inl rfl, fun a ha => ⟨_, results_rep1 rfl ha rfl, false, rfl, h⟩⟩
      · replace h := h.2 hc11
        refine wpC_skip ?_
        refine wpC_region ?_
        refine wpR_val (v := (Value.int .i64 l2)) (w' := w3) rfl rfl rfl (x_move (v := (Value.int .i64 l2)) rfl e5) ?_
        refine wpR_val (v := (Value.int .i64 (IntKind.i64.wrap (l2 + 1)))) (w' := w3) rfl rfl rfl (x_add rfl rfl rfl) ?_
        refine wpR_val (v := (Value.int .i64 (IntKind.i64.wrap (l2 + 1)))) (w' := w3) rfl rfl rfl (x_assign (v := (Value.int .i64 (IntKind.i64.wrap (l2 + 1)))) rfl rfl) ?_
        refine wpR_nil ?_
        exact ⟨IntKind.i64.wrap (l2 + 1), ⟨rfl, e0, e1, trivial⟩, h⟩
    · replace h := h.2 hc3
      refine wpC_exit ?_
      refine wpC_seq ?_
      refine wpC_cut (fun ρ => True) trivial ?_
      rintro ρ -
      refine wpC_region ?_
      refine wpR_val (v := (Value.bool true)) (w' := w1) rfl rfl rfl (x_assign (v := (Value.bool true)) rfl rfl) ?_
      refine wpR_nil ?_
      refine wpC_ret ?_
      exact ⟨.inl rfl, fun a ha => ⟨_, results_rep1 rfl ha rfl, true, rfl, h⟩⟩

/-- places.Reach -/
def F13 (p0 : Sl) (p1 : Sl) (w0 : World) (K : Sl → World → Prop) : Prop :=
  callC Try.prog 10 #[(Sl.v p0)] (fun (r : Bool) => (Value.bool r)) w0 fun r1 w1 =>
  cnd (!r1)
    (
    K Sl.nil w1
    )
    (
    callC Try.prog 22 #[(Sl.v p0), (Sl.v p1)] (fun (r : Sl) => (Sl.v r)) w1 fun r3 w2 =>
    lp (fun (next4 : Int → World → Prop) l4 w3 =>
      cnd (decide (l4 < (p0.len : Int)))
        (
        ix p0 l4 3 fun p6 =>
        ld (Value.int .i64) (p6.add 0) w3 fun x7 =>
        ld (Value.int .i64) (p6.add 1) w3 fun x8 =>
        ld Sl.v (p6.add 2) w3 fun x9 =>
        nw 32 #[(Value.int .i64 0), (Value.int .i64 0), (Sl.v Sl.nil)] w3 fun b10 w4 =>
        st (Addr.mk b10 0 none) [(Value.int .i64 x7), (Value.int .i64 x8), (Sl.v x9)] w4 fun w5 =>
        ld Sl.v ((Addr.mk b10 0 none).add 2) w5 fun x12 =>
        lp (fun (next13 : Int → World → Prop) l13 w6 =>
          cnd (decide (l13 < (x12.len : Int)))
            (
            ix x12 l13 1 fun p15 =>
            ld (Value.int .i64) p15 w6 fun x16 =>
            ix r3 l4 1 fun p17 =>
            ld Value.bool p17 w6 fun x18 =>
            jp (fun J19 => cnd (x18)
              (
              J19 true
              )
              (
              ix r3 x16 1 fun p21 =>
              ld Value.bool p21 w6 fun x22 =>
              J19 x22
              ))
            fun c23 =>
            ix r3 l4 1 fun p24 =>
            st p24 [(Value.bool c23)] w6 fun w7 =>
            next13 (IntKind.i64.wrap (l13 + 1)) w7
            )
            (
            next4 (IntKind.i64.wrap (l4 + 1)) w6
            )
        ) 0 w5
        )
        (
        callC Try.prog 23 #[(Sl.v r3)] (fun (r : Sl) => (Sl.v r)) w3 fun r26 w8 =>
        K r26 w8
        )
    ) 0 w2
    )
set_option maxRecDepth 100000 in
theorem D13 (p0 : Sl) (p1 : Sl) (w0 : World) (K : Sl → World → Prop) (h : F13 p0 p1 w0 K) : callC Try.prog 13 #[(Sl.v p0), (Sl.v p1)] (fun (r : Sl) => (Sl.v r)) w0 K := by
  unfold F13 at h
  refine calls_of_wpC Try.func13 rfl 47 rfl (by simp) ?_
  intro ρ hρ
  have e0 : ρ 0 = (Sl.v p0) := hρ 0
  have e1 : ρ 1 = (Sl.v p1) := hρ 1
  clear hρ
  refine wpC_seq ?_
  refine wpC_region ?_
  refine wpR_val (v := (Sl.v Sl.nil)) (w' := w0) rfl rfl rfl (x_assign (v := (Sl.v Sl.nil)) rfl rfl) ?_
  refine wpR_nil ?_
  refine wpC_seq ?_
  refine wpC_seq ?_
  refine wpC_cut (fun ρ => ρ 0 = (Sl.v p0) ∧ ρ 1 = (Sl.v p1) ∧ True) ⟨e0, e1, trivial⟩ ?_
  rintro ρ ⟨e0, e1, -⟩
  refine wpC_region ?_
  refine wpR_val (v := (Sl.v p0)) (w' := w0) rfl rfl rfl (x_move (v := (Sl.v p0)) rfl e0) ?_
  refine wpR_enter rfl rfl rfl (x_call (vs := [(Sl.v p0)]) rfl rfl (mapl_cons rfl mapl_nil) Try.func10 NN_10 NB_10) (Calls.mono h ?_)
  rintro _ w1 ⟨r1, rfl, h⟩
  refine ⟨_, rfl, ?_⟩
  refine wpR_val (v := (Value.bool (!r1))) (w' := w1) rfl rfl rfl (x_not rfl rfl) ?_
  refine wpR_nil ?_
  refine wpC_cond (b := !r1) rfl (fun hc2 => ?_) (fun hc2 => ?_)
  · replace h := h.1 hc2
    refine wpC_seq ?_
    refine wpC_cut (fun ρ => True) trivial ?_
    rintro ρ -
    refine wpC_region ?_
    refine wpR_val (v := (Sl.v Sl.nil)) (w' := w1) rfl rfl rfl (x_assign (v := (Sl.v Sl.nil)) rfl rfl) ?_
    refine wpR_nil ?_
    refine wpC_ret ?_
    exact ⟨.inl rfl, fun a ha => ⟨_, results_rep1 rfl ha rfl, Sl.nil, rfl, h⟩⟩
  · replace h := h.2 hc2
    refine wpC_skip ?_
    refine wpC_seq ?_
    refine wpC_cut (fun ρ => ρ 0 = (Sl.v p0) ∧ ρ 1 = (Sl.v p1) ∧ True) ⟨e0, e1, trivial⟩ ?_
    rintro ρ ⟨e0, e1, -⟩
    refine wpC_region ?_
    refine wpR_val (v := (Sl.v p0)) (w' := w1) rfl rfl rfl (x_move (v := (Sl.v p0)) rfl e0) ?_
    refine wpR_val (v := (Sl.v p1)) (w' := w1) rfl rfl rfl (x_move (v := (Sl.v p1)) rfl e1) ?_
    refine wpR_enter rfl rfl rfl (x_call (vs := [(Sl.v p0), (Sl.v p1)]) rfl rfl (mapl_cons rfl (mapl_cons rfl mapl_nil)) Try.func22 NN_22 NB_22) (Calls.mono h ?_)
    rintro _ w2 ⟨r3, rfl, h⟩
    refine ⟨_, rfl, ?_⟩
    refine wpR_val (v := (Sl.v r3)) (w' := w2) rfl rfl rfl (x_assign (v := (Sl.v r3)) rfl rfl) ?_
    refine wpR_nil ?_
    refine wpC_seq ?_
    refine wpC_seq ?_
    refine wpC_cut (fun ρ => ρ 0 = (Sl.v p0) ∧ ρ 5 = (Sl.v r3) ∧ True) ⟨e0, rfl, trivial⟩ ?_
    rintro ρ ⟨e0, e5, -⟩
    refine wpC_region ?_
    refine wpR_val (v := (Sl.v p0)) (w' := w2) rfl rfl rfl (x_move (v := (Sl.v p0)) rfl e0) ?_
    refine wpR_val (v := (Value.int .i64 (p0.len : Int))) (w' := w2) rfl rfl rfl (x_lenS (s := p0) rfl rfl isSliceT_22) ?_
    refine wpR_val (v := (Value.int .i64 0)) (w' := w2) rfl rfl rfl (x_move (v := (Value.int .i64 0)) rfl rfl) ?_
    refine wpR_nil ?_
    refine wpC_block ?_
    obtain ⟨I4, μ4, hI4, hr4⟩ := h
    refine wpC_loop (fun (x : Int) ρ => ρ 18 = (Value.int .i64 x) ∧ ρ 5 = (Sl.v r3) ∧ ρ 16 = (Sl.v p0) ∧ ρ 17 = (Value.int .i64 (p0.len : Int)) ∧ True) I4 μ4 0 ⟨rfl, e5, rfl, rfl, trivial⟩ hI4 ?_
    rintro l4 ρ w3 ⟨e18, e5, e16, e17, -⟩ h
    replace h := hr4 l4 w3 h
    clear hr4 hI4
    refine wpC_seq ?_
    refine wpC_region ?_
    refine wpR_val (v := (Value.bool (decide (l4 < (p0.len : Int))))) (w' := w3) rfl rfl rfl (x_lss rfl e18 e17) ?_
    refine wpR_nil ?_
    refine wpC_seq ?_
    refine wpC_cond (b := decide (l4 < (p0.len : Int))) rfl (fun hc5 => ?_) (fun hc5 => ?_)
    · replace h := h.1 hc5
      refine wpC_skip ?_
      refine wpC_seq ?_
      refine wpC_block ?_
      refine wpC_seq ?_
      refine wpC_cut (fun ρ => ρ 5 = (Sl.v r3) ∧ ρ 16 = (Sl.v p0) ∧ ρ 17 = (Value.int .i64 (p0.len : Int)) ∧ ρ 18 = (Value.int .i64 l4) ∧ True) ⟨e5, e16, e17, e18, trivial⟩ ?_
      rintro ρ ⟨e5, e16, e17, e18, -⟩
      refine wpC_region ?_
      refine wpR_val (v := (Value.int .i64 l4)) (w' := w3) rfl rfl rfl (x_move (v := (Value.int .i64 l4)) rfl e18) ?_
      obtain ⟨q6, z6, r6, h⟩ := h
      generalize hp6 : z6.add ((l4).toNat * 3) = p6 at h
      refine wpR_val (v := (Value.pointer (some p6))) (w' := w3) rfl rfl rfl ((x_indexAddr (s := p0) rfl e16 e18 ES_22 q6 r6).trans (by rw [hp6])) ?_
      obtain ⟨x7, q7, h⟩ := h
      obtain ⟨x8, q8, h⟩ := h
      obtain ⟨x9, q9, h⟩ := h
      refine wpR_val (v := (Value.agg #[(Value.int .i64 x7), (Value.int .i64 x8), (Sl.v x9)])) (w' := w3) rfl rfl rfl (x_loadN [(Value.int .i64 x7), (Value.int .i64 x8), (Sl.v x9)] rfl rfl SH_32 (CellsAt.out (CellsAt.cons q7 (CellsAt.cons q8 (CellsAt.cons q9 CellsAt.nil))))) ?_
      obtain ⟨b10, hb10⟩ : ∃ u, u = w3.heap.size := ⟨_, rfl⟩
      obtain ⟨w4, hw10⟩ : ∃ u, u = w3.alloc (.cells #[(Value.int .i64 0), (Value.int .i64 0), (Sl.v Sl.nil)] 32) := ⟨_, rfl⟩
      replace h := h b10 w4 hb10 hw10
      refine wpR_val (v := (Value.pointer (some (Addr.mk b10 0 none)))) (w' := w4) rfl rfl rfl ((x_alloc rfl ZV_32).trans (by rw [hb10, hw10]; rfl)) ?_
      refine wpR_val (v := (Value.int .i64 l4)) (w' := w4) rfl rfl rfl (x_assign (v := (Value.int .i64 l4)) rfl rfl) ?_
      obtain ⟨q11, h⟩ := h
      obtain ⟨w5, hw11⟩ : ∃ u, u = setAll w4 (Addr.mk b10 0 none) [(Value.int .i64 x7), (Value.int .i64 x8), (Sl.v x9)] 0 := ⟨_, rfl⟩
      replace h := h w5 hw11
      refine wpR_skp (w' := w5) rfl rfl ((x_store (v := (Value.agg #[(Value.int .i64 x7), (Value.int .i64 x8), (Sl.v x9)])) rfl rfl rfl SZ_32 (ones (by rfl)) q11).trans (by rw [hw11]; rfl)) ?_
      refine wpR_nil ?_
      refine wpC_seq ?_
      refine wpC_cut (fun ρ => ρ 5 = (Sl.v r3) ∧ ρ 6 = (Value.int .i64 l4) ∧ ρ 7 = (Value.pointer (some (Addr.mk b10 0 none))) ∧ ρ 16 = (Sl.v p0) ∧ ρ 17 = (Value.int .i64 (p0.len : Int)) ∧ ρ 18 = (Value.int .i64 l4) ∧ True) ⟨e5, rfl, rfl, e16, e17, e18, trivial⟩ ?_
      rintro ρ ⟨e5, e6, e7, e16, e17, e18, -⟩
      refine wpC_region ?_
      refine wpR_val (v := (Value.pointer (some ((Addr.mk b10 0 none).add 2)))) (w' := w5) rfl rfl rfl (x_fieldAddr rfl e7 FA_32_2) ?_
      obtain ⟨x12, q12, h⟩ := h
      refine wpR_val (v := (Sl.v x12)) (w' := w5) rfl rfl rfl (x_load1 rfl rfl SH_23 q12) ?_
      refine wpR_val (v := (Value.int .i64 (x12.len : Int))) (w' := w5) rfl rfl rfl (x_lenS (s := x12) rfl rfl isSliceT_23) ?_
      refine wpR_val (v := (Value.int .i64 0)) (w' := w5) rfl rfl rfl (x_move (v := (Value.int .i64 0)) rfl rfl) ?_
      refine wpR_nil ?_
      refine wpC_block ?_
      obtain ⟨I13, μ13, hI13, hr13⟩ := h
      refine wpC_loop (fun (x : Int) ρ => ρ 26 = (Value.int .i64 x) ∧ ρ 5 = (Sl.v r3) ∧ ρ 6 = (Value.int .i64 l4) ∧ ρ 16 = (Sl.v p0) ∧ ρ 17 = (Value.int .i64 (p0.len : Int)) ∧ ρ 18 = (Value.int .i64 l4) ∧ ρ 24 = (Sl.v x12) ∧ ρ 25 = (Value.int .i64 (x12.len : Int)) ∧ True) I13 μ13 0 ⟨rfl, e5, e6, e16, e17, e18, rfl, rfl, trivial⟩ hI13 ?_
      rintro l13 ρ w6 ⟨e26, e5, e6, e16, e17, e18, e24, e25, -⟩ h
      replace h := hr13 l13 w6 h
      clear hr13 hI13
      refine wpC_seq ?_
      refine wpC_region ?_
      refine wpR_val (v := (Value.bool (decide (l13 < (x12.len : Int))))) (w' := w6) rfl rfl rfl (x_lss rfl e26 e25) ?_
      refine wpR_nil ?_
      refine wpC_seq ?_
      refine wpC_cond (b := decide (l13 < (x12.len : Int))) rfl (fun hc14 => ?_) (fun hc14 => ?_)
      · replace h := h.1 hc14
        refine wpC_skip ?_
        refine wpC_seq ?_
        refine wpC_block ?_
        refine wpC_seq ?_
        refine wpC_cut (fun ρ => ρ 5 = (Sl.v r3) ∧ ρ 6 = (Value.int .i64 l4) ∧ ρ 16 = (Sl.v p0) ∧ ρ 17 = (Value.int .i64 (p0.len : Int)) ∧ ρ 18 = (Value.int .i64 l4) ∧ ρ 24 = (Sl.v x12) ∧ ρ 25 = (Value.int .i64 (x12.len : Int)) ∧ ρ 26 = (Value.int .i64 l13) ∧ True) ⟨e5, e6, e16, e17, e18, e24, e25, e26, trivial⟩ ?_
        rintro ρ ⟨e5, e6, e16, e17, e18, e24, e25, e26, -⟩
        refine wpC_region ?_
        obtain ⟨q15, z15, r15, h⟩ := h
        generalize hp15 : z15.add ((l13).toNat * 1) = p15 at h
        refine wpR_val (v := (Value.pointer (some p15))) (w' := w6) rfl rfl rfl ((x_indexAddr (s := x12) rfl e24 e26 ES_23 q15 r15).trans (by rw [hp15])) ?_
        obtain ⟨x16, q16, h⟩ := h
        refine wpR_val (v := (Value.int .i64 x16)) (w' := w6) rfl rfl rfl (x_load1 rfl rfl SH_3 q16) ?_
        refine wpR_val (v := (Value.int .i64 x16)) (w' := w6) rfl rfl rfl (x_assign (v := (Value.int .i64 x16)) rfl rfl) ?_
        refine wpR_nil ?_
        refine wpC_cut (fun ρ => ρ 5 = (Sl.v r3) ∧ ρ 6 = (Value.int .i64 l4) ∧ ρ 9 = (Value.int .i64 x16) ∧ ρ 16 = (Sl.v p0) ∧ ρ 17 = (Value.int .i64 (p0.len : Int)) ∧ ρ 18 = (Value.int .i64 l4) ∧ ρ 24 = (Sl.v x12) ∧ ρ 25 = (Value.int .i64 (x12.len : Int)) ∧ ρ 26 = (Value.int .i64 l13) ∧ True) ⟨e5, e6, rfl, e16, e17, e18, e24, e25, e26, trivial⟩ ?_
        rintro ρ ⟨e5, e6, e9, e16, e17, e18, e24, e25, e26, -⟩
        refine wpC_region ?_
        refine wpR_val (v := (Sl.v r3)) (w' := w6) rfl rfl rfl (x_move (v := (Sl.v r3)) rfl e5) ?_
        refine wpR_val (v := (Value.int .i64 l4)) (w' := w6) rfl rfl rfl (x_move (v := (Value.int .i64 l4)) rfl e6) ?_
        refine wpR_val (v := (Sl.v r3)) (w' := w6) rfl rfl rfl (x_move (v := (Sl.v r3)) rfl e5) ?_
        refine wpR_val (v := (Value.int .i64 l4)) (w' := w6) rfl rfl rfl (x_move (v := (Value.int .i64 l4)) rfl e6) ?_
        obtain ⟨q17, z17, r17, h⟩ := h
        generalize hp17 : z17.add ((l4).toNat * 1) = p17 at h
        refine wpR_val (v := (Value.pointer (some p17))) (w' := w6) rfl rfl rfl ((x_indexAddr (s := r3) rfl rfl rfl ES_37 q17 r17).trans (by rw [hp17])) ?_
        obtain ⟨x18, q18, h⟩ := h
        refine wpR_val (v := (Value.bool x18)) (w' := w6) rfl rfl rfl (x_load1 rfl rfl SH_4 q18) ?_
        refine wpR_val (v := (Value.bool x18)) (w' := w6) rfl rfl rfl (x_move (v := (Value.bool x18)) rfl rfl) ?_
        obtain ⟨J19, h, hk⟩ := h
        refine wpR_joinJ 5 (fun x ρ => ρ 41 = Value.bool x ∧ ρ 5 = (Sl.v r3) ∧ ρ 6 = (Value.int .i64 l4) ∧ ρ 16 = (Sl.v p0) ∧ ρ 17 = (Value.int .i64 (p0.len : Int)) ∧ ρ 18 = (Value.int .i64 l4) ∧ ρ 24 = (Sl.v x12) ∧ ρ 25 = (Value.int .i64 (x12.len : Int)) ∧ ρ 26 = (Value.int .i64 l13) ∧ ρ 30 = (Sl.v r3) ∧ ρ 31 = (Value.int .i64 l4) ∧ True) (fun x w => J19 x ∧ w6 = w) ?_ ?_
        · clear hk
          rcases Bool.eq_false_or_eq_true (x18) with hc20 | hc20
          · replace h := h.1 hc20
            refine wpR_pass (wantN rfl rfl rfl hc20) rfl rfl ?_
            refine wpR_pass (wantN rfl rfl rfl hc20) rfl rfl ?_
            refine wpR_pass (wantN rfl rfl rfl hc20) rfl rfl ?_
            refine wpR_pass (wantN rfl rfl rfl hc20) rfl rfl ?_
            refine wpR_val (v := (Value.bool true)) (w' := w6) rfl rfl rfl (x_pickT (v := (Value.bool true)) rfl rfl hc20 rfl) ?_
            refine wpR_nil ?_
            exact ⟨true, ⟨rfl, e5, e6, e16, e17, e18, e24, e25, e26, rfl, rfl, trivial⟩, h, rfl⟩
          · replace h := h.2 hc20
            refine wpR_val (v := (Sl.v r3)) (w' := w6) (wantG rfl rfl rfl hc20) rfl rfl (x_move (v := (Sl.v r3)) rfl e5) ?_
            refine wpR_val (v := (Value.int .i64 x16)) (w' := w6) (wantG rfl rfl rfl hc20) rfl rfl (x_move (v := (Value.int .i64 x16)) rfl e9) ?_
            obtain ⟨q21, z21, r21, h⟩ := h
            generalize hp21 : z21.add ((x16).toNat * 1) = p21 at h
            refine wpR_val (v := (Value.pointer (some p21))) (w' := w6) (wantG rfl rfl rfl hc20) rfl rfl ((x_indexAddr (s := r3) rfl rfl rfl ES_37 q21 r21).trans (by rw [hp21])) ?_
            obtain ⟨x22, q22, h⟩ := h
            refine wpR_val (v := (Value.bool x22)) (w' := w6) (wantG rfl rfl rfl hc20) rfl rfl (x_load1 rfl rfl SH_4 q22) ?_
            refine wpR_val (v := (Value.bool x22)) (w' := w6) rfl rfl rfl (x_pickF (v := (Value.bool x22)) rfl rfl hc20 rfl) ?_
            refine wpR_nil ?_
            exact ⟨x22, ⟨rfl, e5, e6, e16, e17, e18, e24, e25, e26, rfl, rfl, trivial⟩, h, rfl⟩
        clear h
        rintro c23 ρ wj ⟨e41, e5, e6, e16, e17, e18, e24, e25, e26, e30, e31, -⟩ ⟨h, rfl⟩
        replace h := hk c23 h
        clear hk
        obtain ⟨q24, z24, r24, h⟩ := h
        generalize hp24 : z24.add ((l4).toNat * 1) = p24 at h
        refine wpR_val (v := (Value.pointer (some p24))) (w' := w6) rfl rfl rfl ((x_indexAddr (s := r3) rfl e30 e31 ES_37 q24 r24).trans (by rw [hp24])) ?_
        obtain ⟨q25, h⟩ := h
        obtain ⟨w7, hw25⟩ : ∃ u, u = setAll w6 p24 [(Value.bool c23)] 0 := ⟨_, rfl⟩
        replace h := h w7 hw25
        refine wpR_skp (w' := w7) rfl rfl ((x_store (v := (Value.bool c23)) rfl rfl e41 SZ_4 (ones (by rfl)) q25).trans (by rw [hw25]; rfl)) ?_
        refine wpR_nil ?_
        refine wpC_cut (fun ρ => ρ 5 = (Sl.v r3) ∧ ρ 6 = (Value.int .i64 l4) ∧ ρ 16 = (Sl.v p0) ∧ ρ 17 = (Value.int .i64 (p0.len : Int)) ∧ ρ 18 = (Value.int .i64 l4) ∧ ρ 24 = (Sl.v x12) ∧ ρ 25 = (Value.int .i64 (x12.len : Int)) ∧ ρ 26 = (Value.int .i64 l13) ∧ True) ⟨e5, e6, e16, e17, e18, e24, e25, e26, trivial⟩ ?_
        rintro ρ ⟨e5, e6, e16, e17, e18, e24, e25, e26, -⟩
        refine wpC_region ?_
        refine wpR_val (v := (Value.int .i64 (IntKind.i64.wrap (l13 + 1)))) (w' := w7) rfl rfl rfl (x_add rfl e26 rfl) ?_
        refine wpR_val (v := (Value.int .i64 (IntKind.i64.wrap (l13 + 1)))) (w' := w7) rfl rfl rfl (x_move (v := (Value.int .i64 (IntKind.i64.wrap (l13 + 1)))) rfl rfl) ?_
        refine wpR_nil ?_
        exact ⟨IntKind.i64.wrap (l13 + 1), ⟨rfl, e5, e6, e16, e17, e18, e24, e25, trivial⟩, h⟩
      · replace h := h.2 hc14
        refine wpC_exit ?_
        refine wpC_cut (fun ρ => ρ 5 = (Sl.v r3) ∧ ρ 16 = (Sl.v p0) ∧ ρ 17 = (Value.int .i64 (p0.len : Int)) ∧ ρ 18 = (Value.int .i64 l4) ∧ True) ⟨e5, e16, e17, e18, trivial⟩ ?_
        rintro ρ ⟨e5, e16, e17, e18, -⟩
        refine wpC_region ?_
        refine wpR_val (v := (Value.int .i64 (IntKind.i64.wrap (l4 + 1)))) (w' := w6) rfl rfl rfl (x_add rfl e18 rfl) ?_
        refine wpR_val (v := (Value.int .i64 (IntKind.i64.wrap (l4 + 1)))) (w' := w6) rfl rfl rfl (x_move (v := (Value.int .i64 (IntKind.i64.wrap (l4 + 1)))) rfl rfl) ?_
        refine wpR_nil ?_
        exact ⟨IntKind.i64.wrap (l4 + 1), ⟨rfl, e5, e16, e17, trivial⟩, h⟩
    · replace h := h.2 hc5
      refine wpC_exit ?_
      refine wpC_seq ?_
      refine wpC_cut (fun ρ => ρ 5 = (Sl.v r3) ∧ True) ⟨e5, trivial⟩ ?_
      rintro ρ ⟨e5, -⟩
      refine wpC_region ?_
      refine wpR_val (v := (Sl.v r3)) (w' := w3) rfl rfl rfl (x_move (v := (Sl.v r3)) rfl e5) ?_
      refine wpR_enter rfl rfl rfl (x_call (vs := [(Sl.v r3)]) rfl rfl (mapl_cons rfl mapl_nil) Try.func23 NN_23 NB_23) (Calls.mono h ?_)
      rintro _ w8 ⟨r26, rfl, h⟩
      refine ⟨_, rfl, ?_⟩
      refine wpR_val (v := (Sl.v r26)) (w' := w8) rfl rfl rfl (x_assign (v := (Sl.v r26)) rfl rfl) ?_
      refine wpR_nil ?_
      refine wpC_ret ?_
      exact ⟨.inl rfl, fun a ha => ⟨_, results_rep1 rfl ha rfl, r26, rfl, h⟩⟩

/-- linguaref41.Reach -/
def F14 (p0 : Sl) (p1 : Sl) (w0 : World) (K : Sl → World → Prop) : Prop :=
  callC Try.prog 11 #[(Sl.v p0)] (fun (r : Bool) => (Value.bool r)) w0 fun r1 w1 =>
  cnd (!r1)
    (
    K Sl.nil w1
    )
    (
    lp (fun (next3 : (Sl × Int) → World → Prop) l3 w2 =>
      cnd (decide (l3.2 < (p0.len : Int)))
        (
        jn (fun (J5 : Sl → World → Prop) =>
          callC Try.prog 19 #[(Sl.v p1), (Value.int .i64 l3.2)] (fun (r : Bool) => (Value.bool r)) w2 fun r7 w4 =>
          lp (fun (next8 : (Bool × Int) → World → Prop) l8 w5 =>
            ix p0 l3.2 3 fun p9 =>
            ld Sl.v (p9.add 2) w5 fun x10 =>
            cnd (decide (l8.2 < (x10.len : Int)))
              (
              jn (fun J12 => cnd (l8.1)
                (
                J12 true w5
                )
                (
                ix p0 l3.2 3 fun p14 =>
                ld Sl.v (p14.add 2) w5 fun x15 =>
                ix x15 l8.2 1 fun p16 =>
                ld (Value.int .i64) p16 w5 fun x17 =>
                callC Try.prog 19 #[(Sl.v l3.1), (Value.int .i64 x17)] (fun (r : Bool) => (Value.bool r)) w5 fun r18 w6 =>
                J12 r18 w6
                ))
              fun c19 w7 =>
              next8 (c19, IntKind.i64.wrap (l8.2 + 1)) w7
              )
              (
              cnd (l8.1)
                (
                nw 3 #[(Value.int .i64 l3.2)] w5 fun b21 w8 =>
                rn Try.prog (Builtin.append_ #[23, 23] 23 #[Sl.v l3.1, Sl.v (⟨some ⟨b21, 0, none⟩, 1, 1⟩ : Sl)]) Sl.v w8 fun r22 w9 =>
                J5 r22 w9
                )
                (
                J5 l3.1 w5
                )
              )
          ) (r7, 0) w4
        )
        fun l6 w3 =>
        next3 (l6, IntKind.i64.wrap (l3.2 + 1)) w3
        )
        (
        K l3.1 w2
        )
    ) (Sl.nil, 0) w1
    )
set_option maxRecDepth 100000 in
theorem D14 (p0 : Sl) (p1 : Sl) (w0 : World) (K : Sl → World → Prop) (h : F14 p0 p1 w0 K) : callC Try.prog 14 #[(Sl.v p0), (Sl.v p1)] (fun (r : Sl) => (Sl.v r)) w0 K := by
  unfold F14 at h
  refine calls_of_wpC Try.func14 rfl 50 rfl (by simp) ?_
  intro ρ hρ
  have e0 : ρ 0 = (Sl.v p0) := hρ 0
  have e1 : ρ 1 = (Sl.v p1) := hρ 1
  clear hρ
  refine wpC_seq ?_
  refine wpC_region ?_
  refine wpR_val (v := (Sl.v Sl.nil)) (w' := w0) rfl rfl rfl (x_assign (v := (Sl.v Sl.nil)) rfl rfl) ?_
  refine wpR_nil ?_
  refine wpC_seq ?_
  refine wpC_seq ?_
  refine wpC_cut (fun ρ => ρ 0 = (Sl.v p0) ∧ ρ 1 = (Sl.v p1) ∧ True) ⟨e0, e1, trivial⟩ ?_
  rintro ρ ⟨e0, e1, -⟩
  refine wpC_region ?_
  refine wpR_val (v := (Sl.v p0)) (w' := w0) rfl rfl rfl (x_move (v := (Sl.v p0)) rfl e0) ?_
  refine wpR_enter rfl rfl rfl (x_call (vs := [(Sl.v p0)]) rfl rfl (mapl_cons rfl mapl_nil) Try.func11 NN_11 NB_11) (Calls.mono h ?_)
  rintro _ w1 ⟨r1, rfl, h⟩
  refine ⟨_, rfl, ?_⟩
  refine wpR_val (v := (Value.bool (!r1))) (w' := w1) rfl rfl rfl (x_not rfl rfl) ?_
  refine wpR_nil ?_
  refine wpC_cond (b := !r1) rfl (fun hc2 => ?_) (fun hc2 => ?_)
  · replace h := h.1 hc2
    refine wpC_seq ?_
    refine wpC_cut (fun ρ => True) trivial ?_
    rintro ρ -
    refine wpC_region ?_
    refine wpR_val (v := (Sl.v Sl.nil)) (w' := w1) rfl rfl rfl (x_assign (v := (Sl.v Sl.nil)) rfl rfl) ?_
    refine wpR_nil ?_
    refine wpC_ret ?_
    exact ⟨.inl rfl, fun a ha => ⟨_, results_rep1 rfl ha rfl, Sl.nil, rfl, h⟩⟩
  · replace h := h.2 hc2
    refine wpC_skip ?_
    refine wpC_seq ?_
    refine wpC_cut (fun ρ => ρ 0 = (Sl.v p0) ∧ ρ 1 = (Sl.v p1) ∧ True) ⟨e0, e1, trivial⟩ ?_
    rintro ρ ⟨e0, e1, -⟩
    refine wpC_region ?_
    refine wpR_val (v := (Sl.v Sl.nil)) (w' := w1) rfl rfl rfl (x_assign (v := (Sl.v Sl.nil)) rfl rfl) ?_
    refine wpR_nil ?_
    refine wpC_seq ?_
    refine wpC_seq ?_
    refine wpC_cut (fun ρ => ρ 0 = (Sl.v p0) ∧ ρ 1 = (Sl.v p1) ∧ ρ 5 = (Sl.v Sl.nil) ∧ True) ⟨e0, e1, rfl, trivial⟩ ?_
    rintro ρ ⟨e0, e1, e5, -⟩
    refine wpC_region ?_
    refine wpR_val (v := (Value.int .i64 0)) (w' := w1) rfl rfl rfl (x_assign (v := (Value.int .i64 0)) rfl rfl) ?_
    refine wpR_nil ?_
    refine wpC_block ?_
    obtain ⟨I3, μ3, hI3, hr3⟩ := h
    refine wpC_loop (fun (x : Sl × Int) ρ => ρ 5 = (Sl.v x.1) ∧ ρ 6 = (Value.int .i64 x.2) ∧ ρ 0 = (Sl.v p0) ∧ ρ 1 = (Sl.v p1) ∧ True) I3 μ3 (Sl.nil, 0) ⟨e5, rfl, e0, e1, trivial⟩ hI3 ?_
    rintro l3 ρ w2 ⟨e5, e6, e0, e1, -⟩ h
    replace h := hr3 l3 w2 h
    clear hr3 hI3
    refine wpC_seq ?_
    refine wpC_seq ?_
    refine wpC_region ?_
    refine wpR_val (v := (Value.int .i64 l3.2)) (w' := w2) rfl rfl rfl (x_move (v := (Value.int .i64 l3.2)) rfl e6) ?_
    refine wpR_val (v := (Sl.v p0)) (w' := w2) rfl rfl rfl (x_move (v := (Sl.v p0)) rfl e0) ?_
    refine wpR_val (v := (Value.int .i64 (p0.len : Int))) (w' := w2) rfl rfl rfl (x_lenS (s := p0) rfl rfl isSliceT_22) ?_
    refine wpR_val (v := (Value.bool (decide (l3.2 < (p0.len : Int))))) (w' := w2) rfl rfl rfl (x_lss rfl rfl rfl) ?_
    refine wpR_nil ?_
    refine wpC_cond (b := decide (l3.2 < (p0.len : Int))) rfl (fun hc4 => ?_) (fun hc4 => ?_)
    · replace h := h.1 hc4
      refine wpC_skip ?_
      obtain ⟨J5, h, hk⟩ := h
      refine wpC_seqJ (fun (x : Sl) ρ => ρ 5 = (Sl.v x) ∧ ρ 0 = (Sl.v p0) ∧ ρ 1 = (Sl.v p1) ∧ ρ 6 = (Value.int .i64 l3.2) ∧ True) J5 ?_ ?_
      · clear hk
        refine wpC_block ?_
        refine wpC_seq ?_
        refine wpC_cut (fun ρ => ρ 0 = (Sl.v p0) ∧ ρ 1 = (Sl.v p1) ∧ ρ 5 = (Sl.v l3.1) ∧ ρ 6 = (Value.int .i64 l3.2) ∧ True) ⟨e0, e1, e5, e6, trivial⟩ ?_
        rintro ρ ⟨e0, e1, e5, e6, -⟩
        refine wpC_region ?_
        refine wpR_val (v := (Sl.v p1)) (w' := w2) rfl rfl rfl (x_move (v := (Sl.v p1)) rfl e1) ?_
        refine wpR_val (v := (Value.int .i64 l3.2)) (w' := w2) rfl rfl rfl (x_move (v := (Value.int .i64 l3.2)) rfl e6) ?_
        refine wpR_enter rfl rfl rfl (x_call (vs := [(Sl.v p1), (Value.int .i64 l3.2)]) rfl rfl (mapl_cons rfl (mapl_cons rfl mapl_nil)) Try.func19 NN_19 NB_19) (Calls.mono h ?_)
        rintro _ w4 ⟨r7, rfl, h⟩
        refine ⟨_, rfl, ?_⟩
        refine wpR_val (v := (Value.bool r7)) (w' := w4) rfl rfl rfl (x_assign (v := (Value.bool r7)) rfl rfl) ?_
        refine wpR_nil ?_
        refine wpC_seq ?_
        refine wpC_seq ?_
        refine wpC_cut (fun ρ => ρ 0 = (Sl.v p0) ∧ ρ 1 = (Sl.v p1) ∧ ρ 5 = (Sl.v l3.1) ∧ ρ 6 = (Value.int .i64 l3.2) ∧ ρ 7 = (Value.bool r7) ∧ True) ⟨e0, e1, e5, e6, rfl, trivial⟩ ?_
        rintro ρ ⟨e0, e1, e5, e6, e7, -⟩
        refine wpC_region ?_
        refine wpR_val (v := (Value.int .i64 0)) (w' := w4) rfl rfl rfl (x_assign (v := (Value.int .i64 0)) rfl rfl) ?_
        refine wpR_nil ?_
        refine wpC_block ?_
        obtain ⟨I8, μ8, hI8, hr8⟩ := h
        refine wpC_loop (fun (x : Bool × Int) ρ => ρ 7 = (Value.bool x.1) ∧ ρ 8 = (Value.int .i64 x.2) ∧ ρ 0 = (Sl.v p0) ∧ ρ 1 = (Sl.v p1) ∧ ρ 5 = (Sl.v l3.1) ∧ ρ 6 = (Value.int .i64 l3.2) ∧ True) I8 μ8 (r7, 0) ⟨e7, rfl, e0, e1, e5, e6, trivial⟩ hI8 ?_
        rintro l8 ρ w5 ⟨e7, e8, e0, e1, e5, e6, -⟩ h
        replace h := hr8 l8 w5 h
        clear hr8 hI8
        refine wpC_seq ?_
        refine wpC_seq ?_
        refine wpC_region ?_
        refine wpR_val (v := (Value.int .i64 l8.2)) (w' := w5) rfl rfl rfl (x_move (v := (Value.int .i64 l8.2)) rfl e8) ?_
        refine wpR_val (v := (Sl.v p0)) (w' := w5) rfl rfl rfl (x_move (v := (Sl.v p0)) rfl e0) ?_
        refine wpR_val (v := (Value.int .i64 l3.2)) (w' := w5) rfl rfl rfl (x_move (v := (Value.int .i64 l3.2)) rfl e6) ?_
        obtain ⟨q9, z9, r9, h⟩ := h
        generalize hp9 : z9.add ((l3.2).toNat * 3) = p9 at h
        refine wpR_val (v := (Value.pointer (some p9))) (w' := w5) rfl rfl rfl ((x_indexAddr (s := p0) rfl rfl rfl ES_22 q9 r9).trans (by rw [hp9])) ?_
        refine wpR_val (v := (Value.pointer (some (p9.add 2)))) (w' := w5) rfl rfl rfl (x_fieldAddr rfl rfl FA_32_2) ?_
        obtain ⟨x10, q10, h⟩ := h
        refine wpR_val (v := (Sl.v x10)) (w' := w5) rfl rfl rfl (x_load1 rfl rfl SH_23 q10) ?_
        refine wpR_val (v := (Value.int .i64 (x10.len : Int))) (w' := w5) rfl rfl rfl (x_lenS (s := x10) rfl rfl isSliceT_23) ?_
        refine wpR_val (v := (Value.bool (decide (l8.2 < (x10.len : Int))))) (w' := w5) rfl rfl rfl (x_lss rfl rfl rfl) ?_
        refine wpR_nil ?_
        refine wpC_cond (b := decide (l8.2 < (x10.len : Int))) rfl (fun hc11 => ?_) (fun hc11 => ?_)
        · replace h := h.1 hc11
          refine wpC_skip ?_
          refine wpC_seq ?_
          refine wpC_block ?_
          refine wpC_cut (fun ρ => ρ 0 = (Sl.v p0) ∧ ρ 1 = (Sl.v p1) ∧ ρ 5 = (Sl.v l3.1) ∧ ρ 6 = (Value.int .i64 l3.2) ∧ ρ 7 = (Value.bool l8.1) ∧ ρ 8 = (Value.int .i64 l8.2) ∧ True) ⟨e0, e1, e5, e6, e7, e8, trivial⟩ ?_
          rintro ρ ⟨e0, e1, e5, e6, e7, e8, -⟩
          refine wpC_region ?_
          refine wpR_val (v := (Value.bool l8.1)) (w' := w5) rfl rfl rfl (x_move (v := (Value.bool l8.1)) rfl e7) ?_
          refine wpR_val (v := (Value.bool l8.1)) (w' := w5) rfl rfl rfl (x_move (v := (Value.bool l8.1)) rfl rfl) ?_
          obtain ⟨J12, h, hk⟩ := h
          refine wpR_joinJ 11 (fun x ρ => ρ 43 = Value.bool x ∧ ρ 0 = (Sl.v p0) ∧ ρ 1 = (Sl.v p1) ∧ ρ 5 = (Sl.v l3.1) ∧ ρ 6 = (Value.int .i64 l3.2) ∧ ρ 8 = (Value.int .i64 l8.2) ∧ True) (J12) ?_ ?_
          · clear hk
            rcases Bool.eq_false_or_eq_true (l8.1) with hc13 | hc13
            · replace h := h.1 hc13
              refine wpR_pass (wantN rfl rfl rfl hc13) rfl rfl ?_
              refine wpR_pass (wantN rfl rfl rfl hc13) rfl rfl ?_
              refine wpR_pass (wantN rfl rfl rfl hc13) rfl rfl ?_
              refine wpR_pass (wantN rfl rfl rfl hc13) rfl rfl ?_
              refine wpR_pass (wantN rfl rfl rfl hc13) rfl rfl ?_
              refine wpR_pass (wantN rfl rfl rfl hc13) rfl rfl ?_
              refine wpR_pass (wantN rfl rfl rfl hc13) rfl rfl ?_
              refine wpR_pass (wantN rfl rfl rfl hc13) rfl rfl ?_
              refine wpR_pass (wantN rfl rfl rfl hc13) rfl rfl ?_
              refine wpR_pass (wantN rfl rfl rfl hc13) rfl rfl ?_
              refine wpR_val (v := (Value.bool true)) (w' := w5) rfl rfl rfl (x_pickT (v := (Value.bool true)) rfl rfl hc13 rfl) ?_
              refine wpR_nil ?_
              exact ⟨true, ⟨rfl, e0, e1, e5, e6, e8, trivial⟩, h⟩
            · replace h := h.2 hc13
              refine wpR_val (v := (Sl.v l3.1)) (w' := w5) (wantG rfl rfl rfl hc13) rfl rfl (x_move (v := (Sl.v l3.1)) rfl e5) ?_
              refine wpR_val (v := (Sl.v p0)) (w' := w5) (wantG rfl rfl rfl hc13) rfl rfl (x_move (v := (Sl.v p0)) rfl e0) ?_
              refine wpR_val (v := (Value.int .i64 l3.2)) (w' := w5) (wantG rfl rfl rfl hc13) rfl rfl (x_move (v := (Value.int .i64 l3.2)) rfl e6) ?_
              obtain ⟨q14, z14, r14, h⟩ := h
              generalize hp14 : z14.add ((l3.2).toNat * 3) = p14 at h
              refine wpR_val (v := (Value.pointer (some p14))) (w' := w5) (wantG rfl rfl rfl hc13) rfl rfl ((x_indexAddr (s := p0) rfl rfl rfl ES_22 q14 r14).trans (by rw [hp14])) ?_
              refine wpR_val (v := (Value.pointer (some (p14.add 2)))) (w' := w5) (wantG rfl rfl rfl hc13) rfl rfl (x_fieldAddr rfl rfl FA_32_2) ?_
              obtain ⟨x15, q15, h⟩ := h
              refine wpR_val (v := (Sl.v x15)) (w' := w5) (wantG rfl rfl rfl hc13) rfl rfl (x_load1 rfl rfl SH_23 q15) ?_
              refine wpR_val (v := (Value.int .i64 l8.2)) (w' := w5) (wantG rfl rfl rfl hc13) rfl rfl (x_move (v := (Value.int .i64 l8.2)) rfl e8) ?_
              obtain ⟨q16, z16, r16, h⟩ := h
              generalize hp16 : z16.add ((l8.2).toNat * 1) = p16 at h
              refine wpR_val (v := (Value.pointer (some p16))) (w' := w5) (wantG rfl rfl rfl hc13) rfl rfl ((x_indexAddr (s := x15) rfl rfl rfl ES_23 q16 r16).trans (by rw [hp16])) ?_
              obtain ⟨x17, q17, h⟩ := h
              refine wpR_val (v := (Value.int .i64 x17)) (w' := w5) (wantG rfl rfl rfl hc13) rfl rfl (x_load1 rfl rfl SH_3 q17) ?_
              refine wpR_enter (wantG rfl rfl rfl hc13) rfl rfl (x_call (vs := [(Sl.v l3.1), (Value.int .i64 x17)]) rfl rfl (mapl_cons rfl (mapl_cons rfl mapl_nil)) Try.func19 NN_19 NB_19) (Calls.mono h ?_)
              rintro _ w6 ⟨r18, rfl, h⟩
              refine ⟨_, rfl, ?_⟩
              refine wpR_val (v := (Value.bool r18)) (w' := w6) rfl rfl rfl (x_pickF (v := (Value.bool r18)) rfl rfl hc13 rfl) ?_
              refine wpR_nil ?_
              exact ⟨r18, ⟨rfl, e0, e1, e5, e6, e8, trivial⟩, h⟩
          clear h
          rintro c19 ρ w7 ⟨e43, e0, e1, e5, e6, e8, -⟩ h
          replace h := hk c19 w7 h
          clear hk
          refine wpR_val (v := (Value.bool c19)) (w' := w7) rfl rfl rfl (x_assign (v := (Value.bool c19)) rfl e43) ?_
          refine wpR_nil ?_
          refine wpC_cut (fun ρ => ρ 0 = (Sl.v p0) ∧ ρ 1 = (Sl.v p1) ∧ ρ 5 = (Sl.v l3.1) ∧ ρ 6 = (Value.int .i64 l3.2) ∧ ρ 7 = (Value.bool c19) ∧ ρ 8 = (Value.int .i64 l8.2) ∧ True) ⟨e0, e1, e5, e6, rfl, e8, trivial⟩ ?_
          rintro ρ ⟨e0, e1, e5, e6, e7, e8, -⟩
          refine wpC_region ?_
          refine wpR_val (v := (Value.int .i64 l8.2)) (w' := w7) rfl rfl rfl (x_move (v := (Value.int .i64 l8.2)) rfl e8) ?_
          refine wpR_val (v := (Value.int .i64 (IntKind.i64.wrap (l8.2 + 1)))) (w' := w7) rfl rfl rfl (x_add rfl rfl rfl) ?_
          refine wpR_val (v := (Value.int .i64 (IntKind.i64.wrap (l8.2 + 1)))) (w' := w7) rfl rfl rfl (x_assign (v := (Value.int .i64 (IntKind.i64.wrap (l8.2 + 1)))) rfl rfl) ?_
          refine wpR_nil ?_
          exact ⟨(c19, IntKind.i64.wrap (l8.2 + 1)), ⟨e7, rfl, e0, e1, e5, e6, trivial⟩, h⟩
        · replace h := h.2 hc11
          refine wpC_exit ?_
          refine wpC_seq ?_
          refine wpC_cut (fun ρ => ρ 0 = (Sl.v p0) ∧ ρ 1 = (Sl.v p1) ∧ ρ 5 = (Sl.v l3.1) ∧ ρ 6 = (Value.int .i64 l3.2) ∧ ρ 7 = (Value.bool l8.1) ∧ True) ⟨e0, e1, e5, e6, e7, trivial⟩ ?_
          rintro ρ ⟨e0, e1, e5, e6, e7, -⟩
          refine wpC_region ?_
          refine wpR_val (v := (Value.bool l8.1)) (w' := w5) rfl rfl rfl (x_move (v := (Value.bool l8.1)) rfl e7) ?_
          refine wpR_nil ?_
          refine wpC_cond (b := l8.1) rfl (fun hc20 => ?_) (fun hc20 => ?_)
          · replace h := h.1 hc20
            refine wpC_cut (fun ρ => ρ 0 = (Sl.v p0) ∧ ρ 1 = (Sl.v p1) ∧ ρ 5 = (Sl.v l3.1) ∧ ρ 6 = (Value.int .i64 l3.2) ∧ True) ⟨e0, e1, e5, e6, trivial⟩ ?_
            rintro ρ ⟨e0, e1, e5, e6, -⟩
            refine wpC_region ?_
            refine wpR_val (v := (Sl.v l3.1)) (w' := w5) rfl rfl rfl (x_move (v := (Sl.v l3.1)) rfl e5) ?_
            refine wpR_val (v := (Value.int .i64 l3.2)) (w' := w5) rfl rfl rfl (x_move (v := (Value.int .i64 l3.2)) rfl e6) ?_
            obtain ⟨b21, hb21⟩ : ∃ u, u = w5.heap.size := ⟨_, rfl⟩
            obtain ⟨w8, hw21⟩ : ∃ u, u = w5.alloc (.cells #[(Value.int .i64 l3.2)] 3) := ⟨_, rfl⟩
            replace h := h b21 w8 hb21 hw21
            refine wpR_val (v := (Sl.v (⟨some ⟨b21, 0, none⟩, 1, 1⟩ : Sl))) (w' := w8) rfl rfl rfl ((x_buildSlice (qs := [(0, (Value.int .i64 l3.2))]) rfl (by rfl) (BS_23_1_0 l3.2)).trans (by rw [← hb21, ← hw21])) ?_
            obtain ⟨r22, w9, q22, h⟩ := h
            refine wpR_val (v := (Sl.v r22)) (w' := w9) rfl rfl rfl (x_append (s := l3.1) (u := (⟨some ⟨b21, 0, none⟩, 1, 1⟩ : Sl)) rfl rfl rfl rfl q22) ?_
            refine wpR_val (v := (Sl.v r22)) (w' := w9) rfl rfl rfl (x_assign (v := (Sl.v r22)) rfl rfl) ?_
            refine wpR_nil ?_
            exact ⟨r22, ⟨rfl, e0, e1, e6, trivial⟩, h⟩
          · replace h := h.2 hc20
            refine wpC_skip ?_
            exact ⟨l3.1, ⟨e5, e0, e1, e6, trivial⟩, h⟩
      clear h
      rintro l6 ρ w3 ⟨e5, e0, e1, e6, -⟩ h
      replace h := hk l6 w3 h
      clear hk
      refine wpC_region ?_
      refine wpR_val (v := (Value.int .i64 l3.2)) (w' := w3) rfl rfl rfl (x_move (v := (Value.int .i64 l3.2)) rfl e6) ?_
      refine wpR_val (v := (Value.int .i64 (IntKind.i64.wrap (l3.2 + 1)))) (w' := w3) rfl rfl rfl (x_add rfl rfl rfl) ?_
      refine wpR_val (v := (Value.int .i64 (IntKind.i64.wrap (l3.2 + 1)))) (w' := w3) rfl rfl rfl (x_assign (v := (Value.int .i64 (IntKind.i64.wrap (l3.2 + 1)))) rfl rfl) ?_
      refine wpR_nil ?_
      exact ⟨(l6, IntKind.i64.wrap (l3.2 + 1)), ⟨e5, rfl, e0, e1, trivial⟩, h⟩
    · replace h := h.2 hc4
      refine wpC_exit ?_
      refine wpC_seq ?_
      refine wpC_cut (fun ρ => ρ 5 = (Sl.v l3.1) ∧ True) ⟨e5, trivial⟩ ?_
      rintro ρ ⟨e5, -⟩
      refine wpC_region ?_
      refine wpR_val (v := (Sl.v l3.1)) (w' := w2) rfl rfl rfl (x_move (v := (Sl.v l3.1)) rfl e5) ?_
      refine wpR_val (v := (Sl.v l3.1)) (w' := w2) rfl rfl rfl (x_assign (v := (Sl.v l3.1)) rfl rfl) ?_
      refine wpR_nil ?_
      refine wpC_ret ?_
      exact ⟨.inl rfl, fun a ha => ⟨_, results_rep1 rfl ha rfl, l3.1, rfl, h⟩⟩

/-- places.Order -/
def F15 (p0 : Sl) (p1 : Sl) (w0 : World) (K : Sl → World → Prop) : Prop :=
  callC Try.prog 10 #[(Sl.v p0)] (fun (r : Bool) => (Value.bool r)) w0 fun r1 w1 =>
  cnd (!r1)
    (
    K Sl.nil w1
    )
    (
    callC Try.prog 22 #[(Sl.v p0), (Sl.v p1)] (fun (r : Sl) => (Sl.v r)) w1 fun r3 w2 =>
    callC Try.prog 23 #[(Sl.v r3)] (fun (r : Sl) => (Sl.v r)) w2 fun r4 w3 =>
    callC Try.prog 24 #[(Sl.v r4)] (fun (_ : Unit) => (Value.tuple #[])) w3 fun _r5 w4 =>
    K r4 w4
    )
set_option maxRecDepth 100000 in
theorem D15 (p0 : Sl) (p1 : Sl) (w0 : World) (K : Sl → World → Prop) (h : F15 p0 p1 w0 K) : callC Try.prog 15 #[(Sl.v p0), (Sl.v p1)] (fun (r : Sl) => (Sl.v r)) w0 K := by
  unfold F15 at h
  refine calls_of_wpC Try.func15 rfl 16 rfl (by simp) ?_
  intro ρ hρ
  have e0 : ρ 0 = (Sl.v p0) := hρ 0
  have e1 : ρ 1 = (Sl.v p1) := hρ 1
  clear hρ
  refine wpC_seq ?_
  refine wpC_region ?_
  refine wpR_val (v := (Sl.v Sl.nil)) (w' := w0) rfl rfl rfl (x_assign (v := (Sl.v Sl.nil)) rfl rfl) ?_
  refine wpR_nil ?_
  refine wpC_seq ?_
  refine wpC_seq ?_
  refine wpC_cut (fun ρ => ρ 0 = (Sl.v p0) ∧ ρ 1 = (Sl.v p1) ∧ True) ⟨e0, e1, trivial⟩ ?_
  rintro ρ ⟨e0, e1, -⟩
  refine wpC_region ?_
  refine wpR_val (v := (Sl.v p0)) (w' := w0) rfl rfl rfl (x_move (v := (Sl.v p0)) rfl e0) ?_
  refine wpR_enter rfl rfl rfl (x_call (vs := [(Sl.v p0)]) rfl rfl (mapl_cons rfl mapl_nil) Try.func10 NN_10 NB_10) (Calls.mono h ?_)
  rintro _ w1 ⟨r1, rfl, h⟩
  refine ⟨_, rfl, ?_⟩
  refine wpR_val (v := (Value.bool (!r1))) (w' := w1) rfl rfl rfl (x_not rfl rfl) ?_
  refine wpR_nil ?_
  refine wpC_cond (b := !r1) rfl (fun hc2 => ?_) (fun hc2 => ?_)
  · replace h := h.1 hc2
    refine wpC_seq ?_
    refine wpC_cut (fun ρ => True) trivial ?_
    rintro ρ -
    refine wpC_region ?_
    refine wpR_val (v := (Sl.v Sl.nil)) (w' := w1) rfl rfl rfl (x_assign (v := (Sl.v Sl.nil)) rfl rfl) ?_
    refine wpR_nil ?_
    refine wpC_ret ?_
    exact ⟨.inl rfl, fun a ha => ⟨_, results_rep1 rfl ha rfl, Sl.nil, rfl, h⟩⟩
  · replace h := h.2 hc2
    refine wpC_skip ?_
    refine wpC_seq ?_
    refine wpC_cut (fun ρ => ρ 0 = (Sl.v p0) ∧ ρ 1 = (Sl.v p1) ∧ True) ⟨e0, e1, trivial⟩ ?_
    rintro ρ ⟨e0, e1, -⟩
    refine wpC_region ?_
    refine wpR_val (v := (Sl.v p0)) (w' := w1) rfl rfl rfl (x_move (v := (Sl.v p0)) rfl e0) ?_
    refine wpR_val (v := (Sl.v p1)) (w' := w1) rfl rfl rfl (x_move (v := (Sl.v p1)) rfl e1) ?_
    refine wpR_enter rfl rfl rfl (x_call (vs := [(Sl.v p0), (Sl.v p1)]) rfl rfl (mapl_cons rfl (mapl_cons rfl mapl_nil)) Try.func22 NN_22 NB_22) (Calls.mono h ?_)
    rintro _ w2 ⟨r3, rfl, h⟩
    refine ⟨_, rfl, ?_⟩
    refine wpR_enter rfl rfl rfl (x_call (vs := [(Sl.v r3)]) rfl rfl (mapl_cons rfl mapl_nil) Try.func23 NN_23 NB_23) (Calls.mono h ?_)
    rintro _ w3 ⟨r4, rfl, h⟩
    refine ⟨_, rfl, ?_⟩
    refine wpR_val (v := (Sl.v r4)) (w' := w3) rfl rfl rfl (x_assign (v := (Sl.v r4)) rfl rfl) ?_
    refine wpR_nil ?_
    refine wpC_seq ?_
    refine wpC_cut (fun ρ => ρ 5 = (Sl.v r4) ∧ True) ⟨rfl, trivial⟩ ?_
    rintro ρ ⟨e5, -⟩
    refine wpC_region ?_
    refine wpR_val (v := (Sl.v r4)) (w' := w3) rfl rfl rfl (x_move (v := (Sl.v r4)) rfl e5) ?_
    refine wpR_enter rfl rfl rfl (x_call (vs := [(Sl.v r4)]) rfl rfl (mapl_cons rfl mapl_nil) Try.func24 NN_24 NB_24) (Calls.mono h ?_)
    rintro _ w4 ⟨r5, rfl, h⟩
    refine ⟨_, rfl, ?_⟩
    refine wpR_nil ?_
    refine wpC_seq ?_
    refine wpC_cut (fun ρ => ρ 5 = (Sl.v r4) ∧ True) ⟨e5, trivial⟩ ?_
    rintro ρ ⟨e5, -⟩
    refine wpC_region ?_
    refine wpR_val (v := (Sl.v r4)) (w' := w4) rfl rfl rfl (x_move (v := (Sl.v r4)) rfl e5) ?_
    refine wpR_val (v := (Sl.v r4)) (w' := w4) rfl rfl rfl (x_assign (v := (Sl.v r4)) rfl rfl) ?_
    refine wpR_nil ?_
    refine wpC_ret ?_
    exact ⟨.inl rfl, fun a ha => ⟨_, results_rep1 rfl ha rfl, r4, rfl, h⟩⟩

/-- linguaref41.Order -/
def F16 (p0 : Sl) (p1 : Sl) (w0 : World) (K : Sl → World → Prop) : Prop :=
  callC Try.prog 11 #[(Sl.v p0)] (fun (r : Bool) => (Value.bool r)) w0 fun r1 w1 =>
  cnd (!r1)
    (
    K Sl.nil w1
    )
    (
    lp (fun (next3 : (Sl × Int) → World → Prop) l3 w2 =>
      cnd (decide (0 ≤ l3.2))
        (
        jn (fun (J5 : Sl → World → Prop) =>
          callC Try.prog 19 #[(Sl.v p1), (Value.int .i64 l3.2)] (fun (r : Bool) => (Value.bool r)) w2 fun r7 w4 =>
          cnd (r7)
            (
            nw 3 #[(Value.int .i64 l3.2)] w4 fun b9 w5 =>
            rn Try.prog (Builtin.append_ #[23, 23] 23 #[Sl.v l3.1, Sl.v (⟨some ⟨b9, 0, none⟩, 1, 1⟩ : Sl)]) Sl.v w5 fun r10 w6 =>
            J5 r10 w6
            )
            (
            J5 l3.1 w4
            )
        )
        fun l6 w3 =>
        next3 (l6, IntKind.i64.wrap (l3.2 - 1)) w3
        )
        (
        K l3.1 w2
        )
    ) (Sl.nil, IntKind.i64.wrap ((p0.len : Int) - 1)) w1
    )
set_option maxRecDepth 100000 in
theorem D16 (p0 : Sl) (p1 : Sl) (w0 : World) (K : Sl → World → Prop) (h : F16 p0 p1 w0 K) : callC Try.prog 16 #[(Sl.v p0), (Sl.v p1)] (fun (r : Sl) => (Sl.v r)) w0 K := by
  unfold F16 at h
  refine calls_of_wpC Try.func16 rfl 25 rfl (by simp) ?_
  intro ρ hρ
  have e0 : ρ 0 = (Sl.v p0) := hρ 0
  have e1 : ρ 1 = (Sl.v p1) := hρ 1
  clear hρ
  refine wpC_seq ?_
  refine wpC_region ?_
  refine wpR_val (v := (Sl.v Sl.nil)) (w' := w0) rfl rfl rfl (x_assign (v := (Sl.v Sl.nil)) rfl rfl) ?_
  refine wpR_nil ?_
  refine wpC_seq ?_
  refine wpC_seq ?_
  refine wpC_cut (fun ρ => ρ 0 = (Sl.v p0) ∧ ρ 1 = (Sl.v p1) ∧ True) ⟨e0, e1, trivial⟩ ?_
  rintro ρ ⟨e0, e1, -⟩
  refine wpC_region ?_
  refine wpR_val (v := (Sl.v p0)) (w' := w0) rfl rfl rfl (x_move (v := (Sl.v p0)) rfl e0) ?_
  refine wpR_enter rfl rfl rfl (x_call (vs := [(Sl.v p0)]) rfl rfl (mapl_cons rfl mapl_nil) Try.func11 NN_11 NB_11) (Calls.mono h ?_)
  rintro _ w1 ⟨r1, rfl, h⟩
  refine ⟨_, rfl, ?_⟩
  refine wpR_val (v := (Value.bool (!r1))) (w' := w1) rfl rfl rfl (x_not rfl rfl) ?_
  refine wpR_nil ?_
  refine wpC_cond (b := !r1) rfl (fun hc2 => ?_) (fun hc2 => ?_)
  · replace h := h.1 hc2
    refine wpC_seq ?_
    refine wpC_cut (fun ρ => True) trivial ?_
    rintro ρ -
    refine wpC_region ?_
    refine wpR_val (v := (Sl.v Sl.nil)) (w' := w1) rfl rfl rfl (x_assign (v := (Sl.v Sl.nil)) rfl rfl) ?_
    refine wpR_nil ?_
    refine wpC_ret ?_
    exact ⟨.inl rfl, fun a ha => ⟨_, results_rep1 rfl ha rfl, Sl.nil, rfl, h⟩⟩
  · replace h := h.2 hc2
    refine wpC_skip ?_
    refine wpC_seq ?_
    refine wpC_cut (fun ρ => ρ 0 = (Sl.v p0) ∧ ρ 1 = (Sl.v p1) ∧ True) ⟨e0, e1, trivial⟩ ?_
    rintro ρ ⟨e0, e1, -⟩
    refine wpC_region ?_
    refine wpR_val (v := (Sl.v Sl.nil)) (w' := w1) rfl rfl rfl (x_assign (v := (Sl.v Sl.nil)) rfl rfl) ?_
    refine wpR_nil ?_
    refine wpC_seq ?_
    refine wpC_seq ?_
    refine wpC_cut (fun ρ => ρ 0 = (Sl.v p0) ∧ ρ 1 = (Sl.v p1) ∧ ρ 5 = (Sl.v Sl.nil) ∧ True) ⟨e0, e1, rfl, trivial⟩ ?_
    rintro ρ ⟨e0, e1, e5, -⟩
    refine wpC_region ?_
    refine wpR_val (v := (Sl.v p0)) (w' := w1) rfl rfl rfl (x_move (v := (Sl.v p0)) rfl e0) ?_
    refine wpR_val (v := (Value.int .i64 (p0.len : Int))) (w' := w1) rfl rfl rfl (x_lenS (s := p0) rfl rfl isSliceT_22) ?_
    refine wpR_val (v := (Value.int .i64 (IntKind.i64.wrap ((p0.len : Int) - 1)))) (w' := w1) rfl rfl rfl (x_sub rfl rfl rfl) ?_
    refine wpR_val (v := (Value.int .i64 (IntKind.i64.wrap ((p0.len : Int) - 1)))) (w' := w1) rfl rfl rfl (x_assign (v := (Value.int .i64 (IntKind.i64.wrap ((p0.len : Int) - 1)))) rfl rfl) ?_
    refine wpR_nil ?_
    refine wpC_block ?_
    obtain ⟨I3, μ3, hI3, hr3⟩ := h
    refine wpC_loop (fun (x : Sl × Int) ρ => ρ 5 = (Sl.v x.1) ∧ ρ 6 = (Value.int .i64 x.2) ∧ ρ 1 = (Sl.v p1) ∧ True) I3 μ3 (Sl.nil, IntKind.i64.wrap ((p0.len : Int) - 1)) ⟨e5, rfl, e1, trivial⟩ hI3 ?_
    rintro l3 ρ w2 ⟨e5, e6, e1, -⟩ h
    replace h := hr3 l3 w2 h
    clear hr3 hI3
    refine wpC_seq ?_
    refine wpC_seq ?_
    refine wpC_region ?_
    refine wpR_val (v := (Value.int .i64 l3.2)) (w' := w2) rfl rfl rfl (x_move (v := (Value.int .i64 l3.2)) rfl e6) ?_
    refine wpR_val (v := (Value.bool (decide (0 ≤ l3.2)))) (w' := w2) rfl rfl rfl (x_geq rfl rfl rfl) ?_
    refine wpR_nil ?_
    refine wpC_cond (b := decide (0 ≤ l3.2)) rfl (fun hc4 => ?_) (fun hc4 => ?_)
    · replace h := h.1 hc4
      refine wpC_skip ?_
      obtain ⟨J5, h, hk⟩ := h
      refine wpC_seqJ (fun (x : Sl) ρ => ρ 5 = (Sl.v x) ∧ ρ 1 = (Sl.v p1) ∧ ρ 6 = (Value.int .i64 l3.2) ∧ True) J5 ?_ ?_
      · clear hk
        refine wpC_block ?_
        refine wpC_seq ?_
        refine wpC_cut (fun ρ => ρ 1 = (Sl.v p1) ∧ ρ 5 = (Sl.v l3.1) ∧ ρ 6 = (Value.int .i64 l3.2) ∧ True) ⟨e1, e5, e6, trivial⟩ ?_
        rintro ρ ⟨e1, e5, e6, -⟩
        refine wpC_region ?_
        refine wpR_val (v := (Sl.v p1)) (w' := w2) rfl rfl rfl (x_move (v := (Sl.v p1)) rfl e1) ?_
        refine wpR_val (v := (Value.int .i64 l3.2)) (w' := w2) rfl rfl rfl (x_move (v := (Value.int .i64 l3.2)) rfl e6) ?_
        refine wpR_enter rfl rfl rfl (x_call (vs := [(Sl.v p1), (Value.int .i64 l3.2)]) rfl rfl (mapl_cons rfl (mapl_cons rfl mapl_nil)) Try.func19 NN_19 NB_19) (Calls.mono h ?_)
        rintro _ w4 ⟨r7, rfl, h⟩
        refine ⟨_, rfl, ?_⟩
        refine wpR_nil ?_
        refine wpC_cond (b := r7) rfl (fun hc8 => ?_) (fun hc8 => ?_)
        · replace h := h.1 hc8
          refine wpC_cut (fun ρ => ρ 1 = (Sl.v p1) ∧ ρ 5 = (Sl.v l3.1) ∧ ρ 6 = (Value.int .i64 l3.2) ∧ True) ⟨e1, e5, e6, trivial⟩ ?_
          rintro ρ ⟨e1, e5, e6, -⟩
          refine wpC_region ?_
          refine wpR_val (v := (Sl.v l3.1)) (w' := w4) rfl rfl rfl (x_move (v := (Sl.v l3.1)) rfl e5) ?_
          refine wpR_val (v := (Value.int .i64 l3.2)) (w' := w4) rfl rfl rfl (x_move (v := (Value.int .i64 l3.2)) rfl e6) ?_
          obtain ⟨b9, hb9⟩ : ∃ u, u = w4.heap.size := ⟨_, rfl⟩
          obtain ⟨w5, hw9⟩ : ∃ u, u = w4.alloc (.cells #[(Value.int .i64 l3.2)] 3) := ⟨_, rfl⟩
          replace h := h b9 w5 hb9 hw9
          refine wpR_val (v := (Sl.v (⟨some ⟨b9, 0, none⟩, 1, 1⟩ : Sl))) (w' := w5) rfl rfl rfl ((x_buildSlice (qs := [(0, (Value.int .i64 l3.2))]) rfl (by rfl) (BS_23_1_0 l3.2)).trans (by rw [← hb9, ← hw9])) ?_
          obtain ⟨r10, w6, q10, h⟩ := h
          refine wpR_val (v := (Sl.v r10)) (w' := w6) rfl rfl rfl (x_append (s := l3.1) (u := (⟨some ⟨b9, 0, none⟩, 1, 1⟩ : Sl)) rfl rfl rfl rfl q10) ?_
          refine wpR_val (v := (Sl.v r10)) (w' := w6) rfl rfl rfl (x_assign (v := (Sl.v r10)) rfl rfl) ?_
          refine wpR_nil ?_
          exact ⟨r10, ⟨rfl, e1, e6, trivial⟩, h⟩
        · replace h := h.2 hc8
          refine wpC_skip ?_
          exact ⟨l3.1, ⟨e5, e1, e6, trivial⟩, h⟩
      clear h
      rintro l6 ρ w3 ⟨e5, e1, e6, -⟩ h
      replace h := hk l6 w3 h
      clear hk
      refine wpC_region ?_
      refine wpR_val (v := (Value.int .i64 l3.2)) (w' := w3) rfl rfl rfl (x_move (v := (Value.int .i64 l3.2)) rfl e6) ?_
      refine wpR_val (v := (Value.int .i64 (IntKind.i64.wrap (l3.2 - 1)))) (w' := w3) rfl rfl rfl (x_sub rfl rfl rfl) ?_
      refine wpR_val (v := (Value.int .i64 (IntKind.i64.wrap (l3.2 - 1)))) (w' := w3) rfl rfl rfl (x_assign (v := (Value.int .i64 (IntKind.i64.wrap (l3.2 - 1)))) rfl rfl) ?_
      refine wpR_nil ?_
      exact ⟨(l6, IntKind.i64.wrap (l3.2 - 1)), ⟨e5, rfl, e1, trivial⟩, h⟩
    · replace h := h.2 hc4
      refine wpC_exit ?_
      refine wpC_seq ?_
      refine wpC_cut (fun ρ => ρ 5 = (Sl.v l3.1) ∧ True) ⟨e5, trivial⟩ ?_
      rintro ρ ⟨e5, -⟩
      refine wpC_region ?_
      refine wpR_val (v := (Sl.v l3.1)) (w' := w2) rfl rfl rfl (x_move (v := (Sl.v l3.1)) rfl e5) ?_
      refine wpR_val (v := (Sl.v l3.1)) (w' := w2) rfl rfl rfl (x_assign (v := (Sl.v l3.1)) rfl rfl) ?_
      refine wpR_nil ?_
      refine wpC_ret ?_
      exact ⟨.inl rfl, fun a ha => ⟨_, results_rep1 rfl ha rfl, l3.1, rfl, h⟩⟩

/-- places.Kinds -/
def F17 (p0 : Sl) (p1 : Sl) (w0 : World) (K : Sl → World → Prop) : Prop :=
  callC Try.prog 10 #[(Sl.v p0)] (fun (r : Bool) => (Value.bool r)) w0 fun r1 w1 =>
  cnd (!r1)
    (
    K Sl.nil w1
    )
    (
    rn Try.prog (Instr.makeSlice 23 (Value.int .i64 8) (Value.int .i64 8)) (fun (r : Sl) => (Sl.v r)) w1 fun r3 w2 =>
    callC Try.prog 22 #[(Sl.v p0), (Sl.v p1)] (fun (r : Sl) => (Sl.v r)) w2 fun r4 w3 =>
    callC Try.prog 23 #[(Sl.v r4)] (fun (r : Sl) => (Sl.v r)) w3 fun r5 w4 =>
    lp (fun (next6 : Int → World → Prop) l6 w5 =>
      cnd (decide (l6 < (r5.len : Int)))
        (
        ix r5 l6 1 fun p8 =>
        ld (Value.int .i64) p8 w5 fun x9 =>
        ix p0 x9 3 fun p10 =>
        ld (Value.int .i64) (p10.add 0) w5 fun x11 =>
        ix r3 x11 1 fun p12 =>
        ld (Value.int .i64) p12 w5 fun x13 =>
        ix r3 x11 1 fun p14 =>
        st p14 [(Value.int .i64 (IntKind.i64.wrap (x13 + 1)))] w5 fun w6 =>
        next6 (IntKind.i64.wrap (l6 + 1)) w6
        )
        (
        K r3 w5
        )
    ) 0 w4
    )
set_option maxRecDepth 100000 in
theorem D17 (p0 : Sl) (p1 : Sl) (w0 : World) (K : Sl → World → Prop) (h : F17 p0 p1 w0 K) : callC Try.prog 17 #[(Sl.v p0), (Sl.v p1)] (fun (r : Sl) => (Sl.v r)) w0 K := by
  unfold F17 at h
  refine calls_of_wpC Try.func17 rfl 33 rfl (by simp) ?_
  intro ρ hρ
  have e0 : ρ 0 = (Sl.v p0) := hρ 0
  have e1 : ρ 1 = (Sl.v p1) := hρ 1
  clear hρ
  refine wpC_seq ?_
  refine wpC_region ?_
  refine wpR_val (v := (Sl.v Sl.nil)) (w' := w0) rfl rfl rfl (x_assign (v := (Sl.v Sl.nil)) rfl rfl) ?_
  refine wpR_nil ?_
  refine wpC_seq ?_
  refine wpC_seq ?_
  refine wpC_cut (fun ρ => ρ 0 = (Sl.v p0) ∧ ρ 1 = (Sl.v p1) ∧ True) ⟨e0, e1, trivial⟩ ?_
  rintro ρ ⟨e0, e1, -⟩
  refine wpC_region ?_
  refine wpR_val (v := (Sl.v p0)) (w' := w0) rfl rfl rfl (x_move (v := (Sl.v p0)) rfl e0) ?_
  refine wpR_enter rfl rfl rfl (x_call (vs := [(Sl.v p0)]) rfl rfl (mapl_cons rfl mapl_nil) Try.func10 NN_10 NB_10) (Calls.mono h ?_)
  rintro _ w1 ⟨r1, rfl, h⟩
  refine ⟨_, rfl, ?_⟩
  refine wpR_val (v := (Value.bool (!r1))) (w' := w1) rfl rfl rfl (x_not rfl rfl) ?_
  refine wpR_nil ?_
  refine wpC_cond (b := !r1) rfl (fun hc2 => ?_) (fun hc2 => ?_)
  · replace h := h.1 hc2
    refine wpC_seq ?_
    refine wpC_cut (fun ρ => True) trivial ?_
    rintro ρ -
    refine wpC_region ?_
    refine wpR_val (v := (Sl.v Sl.nil)) (w' := w1) rfl rfl rfl (x_assign (v := (Sl.v Sl.nil)) rfl rfl) ?_
    refine wpR_nil ?_
    refine wpC_ret ?_
    exact ⟨.inl rfl, fun a ha => ⟨_, results_rep1 rfl ha rfl, Sl.nil, rfl, h⟩⟩
  · replace h := h.2 hc2
    refine wpC_skip ?_
    refine wpC_seq ?_
    refine wpC_cut (fun ρ => ρ 0 = (Sl.v p0) ∧ ρ 1 = (Sl.v p1) ∧ True) ⟨e0, e1, trivial⟩ ?_
    rintro ρ ⟨e0, e1, -⟩
    refine wpC_region ?_
    obtain ⟨r3, w2, q3, h⟩ := h
    refine wpR_val (v := (Sl.v r3)) (w' := w2) rfl rfl rfl (x_makeSlice rfl rfl rfl q3) ?_
    refine wpR_val (v := (Sl.v r3)) (w' := w2) rfl rfl rfl (x_assign (v := (Sl.v r3)) rfl rfl) ?_
    refine wpR_nil ?_
    refine wpC_seq ?_
    refine wpC_seq ?_
    refine wpC_cut (fun ρ => ρ 0 = (Sl.v p0) ∧ ρ 1 = (Sl.v p1) ∧ ρ 5 = (Sl.v r3) ∧ True) ⟨e0, e1, rfl, trivial⟩ ?_
    rintro ρ ⟨e0, e1, e5, -⟩
    refine wpC_region ?_
    refine wpR_val (v := (Sl.v p0)) (w' := w2) rfl rfl rfl (x_move (v := (Sl.v p0)) rfl e0) ?_
    refine wpR_val (v := (Sl.v p1)) (w' := w2) rfl rfl rfl (x_move (v := (Sl.v p1)) rfl e1) ?_
    refine wpR_enter rfl rfl rfl (x_call (vs := [(Sl.v p0), (Sl.v p1)]) rfl rfl (mapl_cons rfl (mapl_cons rfl mapl_nil)) Try.func22 NN_22 NB_22) (Calls.mono h ?_)
    rintro _ w3 ⟨r4, rfl, h⟩
    refine ⟨_, rfl, ?_⟩
    refine wpR_enter rfl rfl rfl (x_call (vs := [(Sl.v r4)]) rfl rfl (mapl_cons rfl mapl_nil) Try.func23 NN_23 NB_23) (Calls.mono h ?_)
    rintro _ w4 ⟨r5, rfl, h⟩
    refine ⟨_, rfl, ?_⟩
    refine wpR_val (v := (Value.int .i64 (r5.len : Int))) (w' := w4) rfl rfl rfl (x_lenS (s := r5) rfl rfl isSliceT_23) ?_
    refine wpR_val (v := (Value.int .i64 0)) (w' := w4) rfl rfl rfl (x_move (v := (Value.int .i64 0)) rfl rfl) ?_
    refine wpR_nil ?_
    refine wpC_block ?_
    obtain ⟨I6, μ6, hI6, hr6⟩ := h
    refine wpC_loop (fun (x : Int) ρ => ρ 17 = (Value.int .i64 x) ∧ ρ 0 = (Sl.v p0) ∧ ρ 5 = (Sl.v r3) ∧ ρ 15 = (Sl.v r5) ∧ ρ 16 = (Value.int .i64 (r5.len : Int)) ∧ True) I6 μ6 0 ⟨rfl, e0, e5, rfl, rfl, trivial⟩ hI6 ?_
    rintro l6 ρ w5 ⟨e17, e0, e5, e15, e16, -⟩ h
    replace h := hr6 l6 w5 h
    clear hr6 hI6
    refine wpC_seq ?_
    refine wpC_region ?_
    refine wpR_val (v := (Value.bool (decide (l6 < (r5.len : Int))))) (w' := w5) rfl rfl rfl (x_lss rfl e17 e16) ?_
    refine wpR_nil ?_
    refine wpC_seq ?_
    refine wpC_cond (b := decide (l6 < (r5.len : Int))) rfl (fun hc7 => ?_) (fun hc7 => ?_)
    · replace h := h.1 hc7
      refine wpC_skip ?_
      refine wpC_seq ?_
      refine wpC_block ?_
      refine wpC_seq ?_
      refine wpC_cut (fun ρ => ρ 0 = (Sl.v p0) ∧ ρ 5 = (Sl.v r3) ∧ ρ 15 = (Sl.v r5) ∧ ρ 16 = (Value.int .i64 (r5.len : Int)) ∧ ρ 17 = (Value.int .i64 l6) ∧ True) ⟨e0, e5, e15, e16, e17, trivial⟩ ?_
      rintro ρ ⟨e0, e5, e15, e16, e17, -⟩
      refine wpC_region ?_
      obtain ⟨q8, z8, r8, h⟩ := h
      generalize hp8 : z8.add ((l6).toNat * 1) = p8 at h
      refine wpR_val (v := (Value.pointer (some p8))) (w' := w5) rfl rfl rfl ((x_indexAddr (s := r5) rfl e15 e17 ES_23 q8 r8).trans (by rw [hp8])) ?_
      obtain ⟨x9, q9, h⟩ := h
      refine wpR_val (v := (Value.int .i64 x9)) (w' := w5) rfl rfl rfl (x_load1 rfl rfl SH_3 q9) ?_
      refine wpR_val (v := (Value.int .i64 x9)) (w' := w5) rfl rfl rfl (x_assign (v := (Value.int .i64 x9)) rfl rfl) ?_
      refine wpR_nil ?_
      refine wpC_cut (fun ρ => ρ 0 = (Sl.v p0) ∧ ρ 5 = (Sl.v r3) ∧ ρ 7 = (Value.int .i64 x9) ∧ ρ 15 = (Sl.v r5) ∧ ρ 16 = (Value.int .i64 (r5.len : Int)) ∧ ρ 17 = (Value.int .i64 l6) ∧ True) ⟨e0, e5, rfl, e15, e16, e17, trivial⟩ ?_
      rintro ρ ⟨e0, e5, e7, e15, e16, e17, -⟩
      refine wpC_region ?_
      refine wpR_val (v := (Sl.v r3)) (w' := w5) rfl rfl rfl (x_move (v := (Sl.v r3)) rfl e5) ?_
      refine wpR_val (v := (Sl.v p0)) (w' := w5) rfl rfl rfl (x_move (v := (Sl.v p0)) rfl e0) ?_
      refine wpR_val (v := (Value.int .i64 x9)) (w' := w5) rfl rfl rfl (x_move (v := (Value.int .i64 x9)) rfl e7) ?_
      obtain ⟨q10, z10, r10, h⟩ := h
      generalize hp10 : z10.add ((x9).toNat * 3) = p10 at h
      refine wpR_val (v := (Value.pointer (some p10))) (w' := w5) rfl rfl rfl ((x_indexAddr (s := p0) rfl rfl rfl ES_22 q10 r10).trans (by rw [hp10])) ?_
      refine wpR_val (v := (Value.pointer (some (p10.add 0)))) (w' := w5) rfl rfl rfl (x_fieldAddr rfl rfl FA_32_0) ?_
      obtain ⟨x11, q11, h⟩ := h
      refine wpR_val (v := (Value.int .i64 x11)) (w' := w5) rfl rfl rfl (x_load1 rfl rfl SH_3 q11) ?_
      obtain ⟨q12, z12, r12, h⟩ := h
      generalize hp12 : z12.add ((x11).toNat * 1) = p12 at h
      refine wpR_val (v := (Value.pointer (some p12))) (w' := w5) rfl rfl rfl ((x_indexAddr (s := r3) rfl rfl rfl ES_23 q12 r12).trans (by rw [hp12])) ?_
      obtain ⟨x13, q13, h⟩ := h
      refine wpR_val (v := (Value.int .i64 x13)) (w' := w5) rfl rfl rfl (x_load1 rfl rfl SH_3 q13) ?_
      refine wpR_val (v := (Value.int .i64 (IntKind.i64.wrap (x13 + 1)))) (w' := w5) rfl rfl rfl (x_add rfl rfl rfl) ?_
      obtain ⟨q14, z14, r14, h⟩ := h
      generalize hp14 : z14.add ((x11).toNat * 1) = p14 at h
      refine wpR_val (v := (Value.pointer (some p14))) (w' := w5) rfl rfl rfl ((x_indexAddr (s := r3) rfl rfl rfl ES_23 q14 r14).trans (by rw [hp14])) ?_
      obtain ⟨q15, h⟩ := h
      obtain ⟨w6, hw15⟩ : ∃ u, u = setAll w5 p14 [(Value.int .i64 (IntKind.i64.wrap (x13 + 1)))] 0 := ⟨_, rfl⟩
      replace h := h w6 hw15
      refine wpR_skp (w' := w6) rfl rfl ((x_store (v := (Value.int .i64 (IntKind.i64.wrap (x13 + 1)))) rfl rfl rfl SZ_3 (ones (by rfl)) q15).trans (by rw [hw15]; rfl)) ?_
      refine wpR_nil ?_
      refine wpC_cut (fun ρ => ρ 0 = (Sl.v p0) ∧ ρ 5 = (Sl.v r3) ∧ ρ 15 = (Sl.v r5) ∧ ρ 16 = (Value.int .i64 (r5.len : Int)) ∧ ρ 17 = (Value.int .i64 l6) ∧ True) ⟨e0, e5, e15, e16, e17, trivial⟩ ?_
      rintro ρ ⟨e0, e5, e15, e16, e17, -⟩
      refine wpC_region ?_
      refine wpR_val (v := (Value.int .i64 (IntKind.i64.wrap (l6 + 1)))) (w' := w6) rfl rfl rfl (x_add rfl e17 rfl) ?_
      refine wpR_val (v := (Value.int .i64 (IntKind.i64.wrap (l6 + 1)))) (w' := w6) rfl rfl rfl (x_move (v := (Value.int .i64 (IntKind.i64.wrap (l6 + 1)))) rfl rfl) ?_
      refine wpR_nil ?_
      exact ⟨IntKind.i64.wrap (l6 + 1), ⟨rfl, e0, e5, e15, e16, trivial⟩, h⟩
    · replace h := h.2 hc7
      refine wpC_exit ?_
      refine wpC_seq ?_
      refine wpC_cut (fun ρ => ρ 5 = (Sl.v r3) ∧ True) ⟨e5, trivial⟩ ?_
      rintro ρ ⟨e5, -⟩
      refine wpC_region ?_
      refine wpR_val (v := (Sl.v r3)) (w' := w5) rfl rfl rfl (x_move (v := (Sl.v r3)) rfl e5) ?_
      refine wpR_val (v := (Sl.v r3)) (w' := w5) rfl rfl rfl (x_assign (v := (Sl.v r3)) rfl rfl) ?_
      refine wpR_nil ?_
      refine wpC_ret ?_
      exact ⟨.inl rfl, fun a ha => ⟨_, results_rep1 rfl ha rfl, r3, rfl, h⟩⟩

/-- linguaref41.Kinds -/
def F18 (p0 : Sl) (p1 : Sl) (w0 : World) (K : Sl → World → Prop) : Prop :=
  callC Try.prog 11 #[(Sl.v p0)] (fun (r : Bool) => (Value.bool r)) w0 fun r1 w1 =>
  cnd (!r1)
    (
    K Sl.nil w1
    )
    (
    rn Try.prog (Instr.makeSlice 23 (Value.int .i64 8) (Value.int .i64 8)) (fun (r : Sl) => (Sl.v r)) w1 fun r3 w2 =>
    lp (fun (next4 : Int → World → Prop) l4 w3 =>
      cnd (decide (l4 < (p0.len : Int)))
        (
        jn (fun (J6 : Unit → World → Prop) =>
          callC Try.prog 19 #[(Sl.v p1), (Value.int .i64 l4)] (fun (r : Bool) => (Value.bool r)) w3 fun r8 w5 =>
          cnd (r8)
            (
            jn (fun (J11 : Unit → World → Prop) => tk w5 fun w6 =>
              ix p0 l4 3 fun p12 =>
              ld (Value.int .i64) (p12.add 0) w6 fun x13 =>
              ix p0 l4 3 fun p14 =>
              ld (Value.int .i64) (p14.add 0) w6 fun x15 =>
              ix r3 x15 1 fun p16 =>
              ld (Value.int .i64) p16 w6 fun x17 =>
              ix r3 x13 1 fun p18 =>
              st p18 [(Value.int .i64 (IntKind.i64.wrap (x17 + 1)))] w6 fun w7 =>
              J11 () w7
            )
            fun _l20 w8 =>
            J6 () w8
            )
            (
            J6 () w5
            )
        )
        fun _l7 w4 =>
        next4 (IntKind.i64.wrap (l4 + 1)) w4
        )
        (
        K r3 w3
        )
    ) 0 w2
    )
set_option maxRecDepth 100000 in
theorem D18 (p0 : Sl) (p1 : Sl) (w0 : World) (K : Sl → World → Prop) (h : F18 p0 p1 w0 K) : callC Try.prog 18 #[(Sl.v p0), (Sl.v p1)] (fun (r : Sl) => (Sl.v r)) w0 K := by
  unfold F18 at h
  refine calls_of_wpC Try.func18 rfl 37 rfl (by simp) ?_
  intro ρ hρ
  have e0 : ρ 0 = (Sl.v p0) := hρ 0
  have e1 : ρ 1 = (Sl.v p1) := hρ 1
  clear hρ
  refine wpC_seq ?_
  refine wpC_region ?_
  refine wpR_val (v := (Sl.v Sl.nil)) (w' := w0) rfl rfl rfl (x_assign (v := (Sl.v Sl.nil)) rfl rfl) ?_
  refine wpR_nil ?_
  refine wpC_seq ?_
  refine wpC_seq ?_
  refine wpC_cut (fun ρ => ρ 0 = (Sl.v p0) ∧ ρ 1 = (Sl.v p1) ∧ True) ⟨e0, e1, trivial⟩ ?_
  rintro ρ ⟨e0, e1, -⟩
  refine wpC_region ?_
  refine wpR_val (v := (Sl.v p0)) (w' := w0) rfl rfl rfl (x_move (v := (Sl.v p0)) rfl e0) ?_
  refine wpR_enter rfl rfl rfl (x_call (vs := [(Sl.v p0)]) rfl rfl (mapl_cons rfl mapl_nil) Try.func11 NN_11 NB_11) (Calls.mono h ?_)
  rintro _ w1 ⟨r1, rfl, h⟩
  refine ⟨_, rfl, ?_⟩
  refine wpR_val (v := (Value.bool (!r1))) (w' := w1) rfl rfl rfl (x_not rfl rfl) ?_
  refine wpR_nil ?_
  refine wpC_cond (b := !r1) rfl (fun hc2 => ?_) (fun hc2 => ?_)
  · replace h := h.1 hc2
    refine wpC_seq ?_
    refine wpC_cut (fun ρ => True) trivial ?_
    rintro ρ -
    refine wpC_region ?_
    refine wpR_val (v := (Sl.v Sl.nil)) (w' := w1) rfl rfl rfl (x_assign (v := (Sl.v Sl.nil)) rfl rfl) ?_
    refine wpR_nil ?_
    refine wpC_ret ?_
    exact ⟨.inl rfl, fun a ha => ⟨_, results_rep1 rfl ha rfl, Sl.nil, rfl, h⟩⟩
  · replace h := h.2 hc2
    refine wpC_skip ?_
    refine wpC_seq ?_
    refine wpC_cut (fun ρ => ρ 0 = (Sl.v p0) ∧ ρ 1 = (Sl.v p1) ∧ True) ⟨e0, e1, trivial⟩ ?_
    rintro ρ ⟨e0, e1, -⟩
    refine wpC_region ?_
    obtain ⟨r3, w2, q3, h⟩ := h
    refine wpR_val (v := (Sl.v r3)) (w' := w2) rfl rfl rfl (x_makeSlice rfl rfl rfl q3) ?_
    refine wpR_val (v := (Sl.v r3)) (w' := w2) rfl rfl rfl (x_assign (v := (Sl.v r3)) rfl rfl) ?_
    refine wpR_nil ?_
    refine wpC_seq ?_
    refine wpC_seq ?_
    refine wpC_cut (fun ρ => ρ 0 = (Sl.v p0) ∧ ρ 1 = (Sl.v p1) ∧ ρ 5 = (Sl.v r3) ∧ True) ⟨e0, e1, rfl, trivial⟩ ?_
    rintro ρ ⟨e0, e1, e5, -⟩
    refine wpC_region ?_
    refine wpR_val (v := (Value.int .i64 0)) (w' := w2) rfl rfl rfl (x_assign (v := (Value.int .i64 0)) rfl rfl) ?_
    refine wpR_nil ?_
    refine wpC_block ?_
    obtain ⟨I4, μ4, hI4, hr4⟩ := h
    refine wpC_loop (fun (x : Int) ρ => ρ 6 = (Value.int .i64 x) ∧ ρ 0 = (Sl.v p0) ∧ ρ 1 = (Sl.v p1) ∧ ρ 5 = (Sl.v r3) ∧ True) I4 μ4 0 ⟨rfl, e0, e1, e5, trivial⟩ hI4 ?_
    rintro l4 ρ w3 ⟨e6, e0, e1, e5, -⟩ h
    replace h := hr4 l4 w3 h
    clear hr4 hI4
    refine wpC_seq ?_
    refine wpC_seq ?_
    refine wpC_region ?_
    refine wpR_val (v := (Value.int .i64 l4)) (w' := w3) rfl rfl rfl (x_move (v := (Value.int .i64 l4)) rfl e6) ?_
    refine wpR_val (v := (Sl.v p0)) (w' := w3) rfl rfl rfl (x_move (v := (Sl.v p0)) rfl e0) ?_
    refine wpR_val (v := (Value.int .i64 (p0.len : Int))) (w' := w3) rfl rfl rfl (x_lenS (s := p0) rfl rfl isSliceT_22) ?_
    refine wpR_val (v := (Value.bool (decide (l4 < (p0.len : Int))))) (w' := w3) rfl rfl rfl (x_lss rfl rfl rfl) ?_
    refine wpR_nil ?_
    refine wpC_cond (b := decide (l4 < (p0.len : Int))) rfl (fun hc5 => ?_) (fun hc5 => ?_)
    · replace h := h.1 hc5
      refine wpC_skip ?_
      obtain ⟨J6, h, hk⟩ := h
      refine wpC_seqJ (fun (x : Unit) ρ => ρ 0 = (Sl.v p0) ∧ ρ 1 = (Sl.v p1) ∧ ρ 5 = (Sl.v r3) ∧ ρ 6 = (Value.int .i64 l4) ∧ True) J6 ?_ ?_
      · clear hk
        refine wpC_block ?_
        refine wpC_seq ?_
        refine wpC_cut (fun ρ => ρ 0 = (Sl.v p0) ∧ ρ 1 = (Sl.v p1) ∧ ρ 5 = (Sl.v r3) ∧ ρ 6 = (Value.int .i64 l4) ∧ True) ⟨e0, e1, e5, e6, trivial⟩ ?_
        rintro ρ ⟨e0, e1, e5, e6, -⟩
        refine wpC_region ?_
        refine wpR_val (v := (Sl.v p1)) (w' := w3) rfl rfl rfl (x_move (v := (Sl.v p1)) rfl e1) ?_
        refine wpR_val (v := (Value.int .i64 l4)) (w' := w3) rfl rfl rfl (x_move (v := (Value.int .i64 l4)) rfl e6) ?_
        refine wpR_enter rfl rfl rfl (x_call (vs := [(Sl.v p1), (Value.int .i64 l4)]) rfl rfl (mapl_cons rfl (mapl_cons rfl mapl_nil)) Try.func19 NN_19 NB_19) (Calls.mono h ?_)
        rintro _ w5 ⟨r8, rfl, h⟩
        refine ⟨_, rfl, ?_⟩
        refine wpR_nil ?_
        refine wpC_cond (b := r8) rfl (fun hc9 => ?_) (fun hc9 => ?_)
        · replace h := h.1 hc9
          refine wpC_cut (fun ρ => ρ 0 = (Sl.v p0) ∧ ρ 1 = (Sl.v p1) ∧ ρ 5 = (Sl.v r3) ∧ ρ 6 = (Value.int .i64 l4) ∧ True) ⟨e0, e1, e5, e6, trivial⟩ ?_
          rintro ρ ⟨e0, e1, e5, e6, -⟩
          obtain ⟨J11, h, hk⟩ := h
          refine wpC_drawJ (by kernel_rfl) (fun (x : Unit) ρ => ρ 0 = (Sl.v p0) ∧ ρ 1 = (Sl.v p1) ∧ ρ 5 = (Sl.v r3) ∧ ρ 6 = (Value.int .i64 l4) ∧ True) J11 ?_ ?_
          · clear hk
            unfold tk at h
            generalize w5.drew = w6 at h ⊢
            refine wpD_take (v := (Sl.v r3)) 0 (fun _ => True) rfl (by kernel_rfl) (by kernel_rfl) (by kernel_rfl) rfl rfl rfl trivial (fun w _ => (x_move (v := (Sl.v r3)) rfl e5)) ?_
            refine wpD_take (v := (Sl.v p0)) 1 (fun _ => True) rfl (by kernel_rfl) (by kernel_rfl) (by kernel_rfl) rfl rfl rfl trivial (fun w _ => (x_move (v := (Sl.v p0)) rfl e0)) ?_
            refine wpD_take (v := (Value.int .i64 l4)) 2 (fun _ => True) rfl (by kernel_rfl) (by kernel_rfl) (by kernel_rfl) rfl rfl rfl trivial (fun w _ => (x_move (v := (Value.int .i64 l4)) rfl e6)) ?_
            obtain ⟨q12, z12, r12, h⟩ := h
            generalize hp12 : z12.add ((l4).toNat * 3) = p12 at h
            refine wpD_take (v := (Value.pointer (some p12))) 3 (fun _ => True) rfl (by kernel_rfl) (by kernel_rfl) (by kernel_rfl) rfl rfl rfl trivial (fun w _ => ((x_indexAddr (s := p0) rfl rfl rfl ES_22 q12 r12).trans (by rw [hp12]))) ?_
            refine wpD_take (v := (Value.pointer (some (p12.add 0)))) 4 (fun _ => True) rfl (by kernel_rfl) (by kernel_rfl) (by kernel_rfl) rfl rfl rfl trivial (fun w _ => (x_fieldAddr rfl rfl FA_32_0)) ?_
            obtain ⟨x13, q13, h⟩ := h
            refine wpD_take (v := (Value.int .i64 x13)) 5 (fun w => w.cell? (p12.add 0) = some (Value.int .i64 x13)) rfl (by kernel_rfl) (by kernel_rfl) (by kernel_rfl) rfl rfl rfl q13 (fun w q13 => (x_load1 rfl rfl SH_3 q13)) ?_
            refine wpD_take (v := (Sl.v r3)) 6 (fun _ => True) rfl (by kernel_rfl) (by kernel_rfl) (by kernel_rfl) rfl rfl rfl trivial (fun w _ => (x_move (v := (Sl.v r3)) rfl e5)) ?_
            refine wpD_take (v := (Sl.v p0)) 7 (fun _ => True) rfl (by kernel_rfl) (by kernel_rfl) (by kernel_rfl) rfl rfl rfl trivial (fun w _ => (x_move (v := (Sl.v p0)) rfl e0)) ?_
            refine wpD_take (v := (Value.int .i64 l4)) 8 (fun _ => True) rfl (by kernel_rfl) (by kernel_rfl) (by kernel_rfl) rfl rfl rfl trivial (fun w _ => (x_move (v := (Value.int .i64 l4)) rfl e6)) ?_
            obtain ⟨q14, z14, r14, h⟩ := h
            generalize hp14 : z14.add ((l4).toNat * 3) = p14 at h
            refine wpD_take (v := (Value.pointer (some p14))) 9 (fun _ => True) rfl (by kernel_rfl) (by kernel_rfl) (by kernel_rfl) rfl rfl rfl trivial (fun w _ => ((x_indexAddr (s := p0) rfl rfl rfl ES_22 q14 r14).trans (by rw [hp14]))) ?_
            refine wpD_take (v := (Value.pointer (some (p14.add 0)))) 10 (fun _ => True) rfl (by kernel_rfl) (by kernel_rfl) (by kernel_rfl) rfl rfl rfl trivial (fun w _ => (x_fieldAddr rfl rfl FA_32_0)) ?_
            obtain ⟨x15, q15, h⟩ := h
            refine wpD_take (v := (Value.int .i64 x15)) 11 (fun w => w.cell? (p14.add 0) = some (Value.int .i64 x15)) rfl (by kernel_rfl) (by kernel_rfl) (by kernel_rfl) rfl rfl rfl q15 (fun w q15 => (x_load1 rfl rfl SH_3 q15)) ?_
            obtain ⟨q16, z16, r16, h⟩ := h
            generalize hp16 : z16.add ((x15).toNat * 1) = p16 at h
            refine wpD_take (v := (Value.pointer (some p16))) 12 (fun _ => True) rfl (by kernel_rfl) (by kernel_rfl) (by kernel_rfl) rfl rfl rfl trivial (fun w _ => ((x_indexAddr (s := r3) rfl rfl rfl ES_23 q16 r16).trans (by rw [hp16]))) ?_
            obtain ⟨x17, q17, h⟩ := h
            refine wpD_take (v := (Value.int .i64 x17)) 13 (fun w => w.cell? p16 = some (Value.int .i64 x17)) rfl (by kernel_rfl) (by kernel_rfl) (by kernel_rfl) rfl rfl rfl q17 (fun w q17 => (x_load1 rfl rfl SH_3 q17)) ?_
            refine wpD_take (v := (Value.int .i64 (IntKind.i64.wrap (x17 + 1)))) 14 (fun _ => True) rfl (by kernel_rfl) (by kernel_rfl) (by kernel_rfl) rfl rfl rfl trivial (fun w _ => (x_add rfl rfl rfl)) ?_
            obtain ⟨q18, z18, r18, h⟩ := h
            generalize hp18 : z18.add ((x13).toNat * 1) = p18 at h
            refine wpD_take (v := (Value.pointer (some p18))) 15 (fun _ => True) rfl (by kernel_rfl) (by kernel_rfl) (by kernel_rfl) rfl rfl rfl trivial (fun w _ => ((x_indexAddr (s := r3) rfl rfl rfl ES_23 q18 r18).trans (by rw [hp18]))) ?_
            refine wpD_all (rs := [16]) (by kernel_rfl) (by simp) (allD_cons ?_ allD_nil)
            obtain ⟨q19, h⟩ := h
            obtain ⟨w7, hw19⟩ : ∃ u, u = setAll w6 p18 [(Value.int .i64 (IntKind.i64.wrap (x17 + 1)))] 0 := ⟨_, rfl⟩
            replace h := h w7 hw19
            refine stepD_skpL (L' := []) (w' := w7) rfl rfl rfl ((x_store (v := (Value.int .i64 (IntKind.i64.wrap (x17 + 1)))) rfl rfl rfl SZ_3 (ones (by rfl)) q19).trans (by rw [hw19]; rfl)) (by kernel_rfl) held_nil ?_
            exact wpD_done (by kernel_rfl) ⟨(), ⟨e0, e1, e5, e6, trivial⟩, h⟩
          clear h
          rintro l20 ρ w8 ⟨e0, e1, e5, e6, -⟩ h
          replace h := hk l20 w8 h
          clear hk
          exact ⟨(), ⟨e0, e1, e5, e6, trivial⟩, h⟩
        · replace h := h.2 hc9
          refine wpC_skip ?_
          exact ⟨(), ⟨e0, e1, e5, e6, trivial⟩, h⟩
      clear h
      rintro l7 ρ w4 ⟨e0, e1, e5, e6, -⟩ h
      replace h := hk l7 w4 h
      clear hk
      refine wpC_region ?_
      refine wpR_val (v := (Value.int .i64 l4)) (w' := w4) rfl rfl rfl (x_move (v := (Value.int .i64 l4)) rfl e6) ?_
      refine wpR_val (v := (Value.int .i64 (IntKind.i64.wrap (l4 + 1)))) (w' := w4) rfl rfl rfl (x_add rfl rfl rfl) ?_
      refine wpR_val (v := (Value.int .i64 (IntKind.i64.wrap (l4 + 1)))) (w' := w4) rfl rfl rfl (x_assign (v := (Value.int .i64 (IntKind.i64.wrap (l4 + 1)))) rfl rfl) ?_
      refine wpR_nil ?_
      exact ⟨IntKind.i64.wrap (l4 + 1), ⟨rfl, e0, e1, e5, trivial⟩, h⟩
    · replace h := h.2 hc5
      refine wpC_exit ?_
      refine wpC_seq ?_
      refine wpC_cut (fun ρ => ρ 5 = (Sl.v r3) ∧ True) ⟨e5, trivial⟩ ?_
      rintro ρ ⟨e5, -⟩
      refine wpC_region ?_
      refine wpR_val (v := (Sl.v r3)) (w' := w3) rfl rfl rfl (x_move (v := (Sl.v r3)) rfl e5) ?_
      refine wpR_val (v := (Sl.v r3)) (w' := w3) rfl rfl rfl (x_assign (v := (Sl.v r3)) rfl rfl) ?_
      refine wpR_nil ?_
      refine wpC_ret ?_
      exact ⟨.inl rfl, fun a ha => ⟨_, results_rep1 rfl ha rfl, r3, rfl, h⟩⟩

/-- linguaref41.Has -/
def F19 (p0 : Sl) (p1 : Int) (w0 : World) (K : Bool → World → Prop) : Prop :=
  lp (fun (next1 : Int → World → Prop) l1 w1 =>
    cnd (decide (l1 < (p0.len : Int)))
      (
      ix p0 l1 1 fun p3 =>
      ld (Value.int .i64) p3 w1 fun x4 =>
      cnd (decide (x4 = p1))
        (
        K true w1
        )
        (
        next1 (IntKind.i64.wrap (l1 + 1)) w1
        )
      )
      (
      K false w1
      )
  ) 0 w0
set_option maxRecDepth 100000 in
theorem D19 (p0 : Sl) (p1 : Int) (w0 : World) (K : Bool → World → Prop) (h : F19 p0 p1 w0 K) : callC Try.prog 19 #[(Sl.v p0), (Value.int .i64 p1)] (fun (r : Bool) => (Value.bool r)) w0 K := by
  unfold F19 at h
  refine calls_of_wpC Try.func19 rfl 18 rfl (by simp) ?_
  intro ρ hρ
  have e0 : ρ 0 = (Sl.v p0) := hρ 0
  have e1 : ρ 1 = (Value.int .i64 p1) := hρ 1
  clear hρ
  refine wpC_seq ?_
  refine wpC_region ?_
  refine wpR_val (v := (Value.bool false)) (w' := w0) rfl rfl rfl (x_assign (v := (Value.bool false)) rfl rfl) ?_
  refine wpR_nil ?_
  refine wpC_seq ?_
  refine wpC_seq ?_
  refine wpC_cut (fun ρ => ρ 0 = (Sl.v p0) ∧ ρ 1 = (Value.int .i64 p1) ∧ True) ⟨e0, e1, trivial⟩ ?_
  rintro ρ ⟨e0, e1, -⟩
  refine wpC_region ?_
  refine wpR_val (v := (Value.int .i64 0)) (w' := w0) rfl rfl rfl (x_assign (v := (Value.int .i64 0)) rfl rfl) ?_
  refine wpR_nil ?_
  refine wpC_block ?_
  obtain ⟨I1, μ1, hI1, hr1⟩ := h
  refine wpC_loop (fun (x : Int) ρ => ρ 5 = (Value.int .i64 x) ∧ ρ 0 = (Sl.v p0) ∧ ρ 1 = (Value.int .i64 p1) ∧ True) I1 μ1 0 ⟨rfl, e0, e1, trivial⟩ hI1 ?_
  rintro l1 ρ w1 ⟨e5, e0, e1, -⟩ h
  replace h := hr1 l1 w1 h
  clear hr1 hI1
  refine wpC_seq ?_
  refine wpC_seq ?_
  refine wpC_region ?_
  refine wpR_val (v := (Value.int .i64 l1)) (w' := w1) rfl rfl rfl (x_move (v := (Value.int .i64 l1)) rfl e5) ?_
  refine wpR_val (v := (Sl.v p0)) (w' := w1) rfl rfl rfl (x_move (v := (Sl.v p0)) rfl e0) ?_
  refine wpR_val (v := (Value.int .i64 (p0.len : Int))) (w' := w1) rfl rfl rfl (x_lenS (s := p0) rfl rfl isSliceT_23) ?_
  refine wpR_val (v := (Value.bool (decide (l1 < (p0.len : Int))))) (w' := w1) rfl rfl rfl (x_lss rfl rfl rfl) ?_
  refine wpR_nil ?_
  refine wpC_cond (b := decide (l1 < (p0.len : Int))) rfl (fun hc2 => ?_) (fun hc2 => ?_)
  · replace h := h.1 hc2
    refine wpC_skip ?_
    refine wpC_seq ?_
    refine wpC_block ?_
    refine wpC_seq ?_
    refine wpC_cut (fun ρ => ρ 0 = (Sl.v p0) ∧ ρ 1 = (Value.int .i64 p1) ∧ ρ 5 = (Value.int .i64 l1) ∧ True) ⟨e0, e1, e5, trivial⟩ ?_
    rintro ρ ⟨e0, e1, e5, -⟩
    refine wpC_region ?_
    refine wpR_val (v := (Sl.v p0)) (w' := w1) rfl rfl rfl (x_move (v := (Sl.v p0)) rfl e0) ?_
    refine wpR_val (v := (Value.int .i64 l1)) (w' := w1) rfl rfl rfl (x_move (v := (Value.int .i64 l1)) rfl e5) ?_
    obtain ⟨q3, z3, r3, h⟩ := h
    generalize hp3 : z3.add ((l1).toNat * 1) = p3 at h
    refine wpR_val (v := (Value.pointer (some p3))) (w' := w1) rfl rfl rfl ((x_indexAddr (s := p0) rfl rfl rfl ES_23 q3 r3).trans (by rw [hp3])) ?_
    obtain ⟨x4, q4, h⟩ := h
    refine wpR_val (v := (Value.int .i64 x4)) (w' := w1) rfl rfl rfl (x_load1 rfl rfl SH_3 q4) ?_
    refine wpR_val (v := (Value.int .i64 p1)) (w' := w1) rfl rfl rfl (x_move (v := (Value.int .i64 p1)) rfl e1) ?_
    refine wpR_val (v := (Value.bool (decide (x4 = p1)))) (w' := w1) rfl rfl rfl (x_eql rfl rfl rfl) ?_
    refine wpR_nil ?_
    refine wpC_cond (b := decide (x4 = p1)) rfl (fun hc5 => ?_) (fun hc5 => ?_)
    · replace h := h.1 hc5
      refine wpC_seq ?_
      refine wpC_cut (fun ρ => True) trivial ?_
      rintro ρ -
      refine wpC_region ?_
      refine wpR_val (v := (Value.bool true)) (w' := w1) rfl rfl rfl (x_assign (v := (Value.bool true)) rfl rfl) ?_
      refine wpR_nil ?_
      refine wpC_ret ?_
      exact ⟨.inl rfl, fun a ha => ⟨_, results_rep1 rfl ha rfl, true, rfl, h⟩⟩
    · replace h := h.2 hc5
      refine wpC_skip ?_
      refine wpC_cut (fun ρ => ρ 0 = (Sl.v p0) ∧ ρ 1 = (Value.int .i64 p1) ∧ ρ 5 = (Value.int .i64 l1) ∧ True) ⟨e0, e1, e5, trivial⟩ ?_
      rintro ρ ⟨e0, e1, e5, -⟩
      refine wpC_region ?_
      refine wpR_val (v := (Value.int .i64 l1)) (w' := w1) rfl rfl rfl (x_move (v := (Value.int .i64 l1)) rfl e5) ?_
      refine wpR_val (v := (Value.int .i64 (IntKind.i64.wrap (l1 + 1)))) (w' := w1) rfl rfl rfl (x_add rfl rfl rfl) ?_
      refine wpR_val (v := (Value.int .i64 (IntKind.i64.wrap (l1 + 1)))) (w' := w1) rfl rfl rfl (x_assign (v := (Value.int .i64 (IntKind.i64.wrap (l1 + 1)))) rfl rfl) ?_
      refine wpR_nil ?_
      exact ⟨IntKind.i64.wrap (l1 + 1), ⟨rfl, e0, e1, trivial⟩, h⟩
  · replace h := h.2 hc2
    refine wpC_exit ?_
    refine wpC_seq ?_
    refine wpC_cut (fun ρ => True) trivial ?_
    rintro ρ -
    refine wpC_region ?_
    refine wpR_val (v := (Value.bool false)) (w' := w1) rfl rfl rfl (x_assign (v := (Value.bool false)) rfl rfl) ?_
    refine wpR_nil ?_
    refine wpC_ret ?_
    exact ⟨.inl rfl, fun a ha => ⟨_, results_rep1 rfl ha rfl, false, rfl, h⟩⟩

/-- lingualaw41.closed -/
def F20 (p0 : Sl) (p1 : Sl) (w0 : World) (K : Bool → World → Prop) : Prop :=
  lp (fun (next1 : Int → World → Prop) l1 w1 =>
    cnd (decide (l1 < (p0.len : Int)))
      (
      lp (fun (next3 : Int → World → Prop) l3 w2 =>
        ix p0 l1 3 fun p4 =>
        ld Sl.v (p4.add 2) w2 fun x5 =>
        cnd (decide (l3 < (x5.len : Int)))
          (
          ix p0 l1 3 fun p7 =>
          ld Sl.v (p7.add 2) w2 fun x8 =>
          ix x8 l3 1 fun p9 =>
          ld (Value.int .i64) p9 w2 fun x10 =>
          callC Try.prog 19 #[(Sl.v p1), (Value.int .i64 x10)] (fun (r : Bool) => (Value.bool r)) w2 fun r11 w3 =>
          jn (fun J12 => cnd (r11)
            (
            callC Try.prog 19 #[(Sl.v p1), (Value.int .i64 l1)] (fun (r : Bool) => (Value.bool r)) w3 fun r14 w4 =>
            J12 (!r14) w4
            )
            (
            J12 false w3
            ))
          fun c15 w5 =>
          cnd (c15)
            (
            K false w5
            )
            (
            next3 (IntKind.i64.wrap (l3 + 1)) w5
            )
          )
          (
          next1 (IntKind.i64.wrap (l1 + 1)) w2
          )
      ) 0 w1
      )
      (
      K true w1
      )
  ) 0 w0
set_option maxRecDepth 100000 in
theorem D20 (p0 : Sl) (p1 : Sl) (w0 : World) (K : Bool → World → Prop) (h : F20 p0 p1 w0 K) : callC Try.prog 20 #[(Sl.v p0), (Sl.v p1)] (fun (r : Bool) => (Value.bool r)) w0 K := by
  unfold F20 at h
  refine calls_of_wpC Try.func20 rfl 39 rfl (by simp) ?_
  intro ρ hρ
  have e0 : ρ 0 = (Sl.v p0) := hρ 0
  have e1 : ρ 1 = (Sl.v p1) := hρ 1
  clear hρ
  refine wpC_seq ?_
  refine wpC_region ?_
  refine wpR_val (v := (Value.bool false)) (w' := w0) rfl rfl rfl (x_assign (v := (Value.bool false)) rfl rfl) ?_
  refine wpR_nil ?_
  refine wpC_seq ?_
  refine wpC_seq ?_
  refine wpC_cut (fun ρ => ρ 0 = (Sl.v p0) ∧ ρ 1 = (Sl.v p1) ∧ True) ⟨e0, e1, trivial⟩ ?_
  rintro ρ ⟨e0, e1, -⟩
  refine wpC_region ?_
  refine wpR_val (v := (Value.int .i64 0)) (w' := w0) rfl rfl rfl (x_assign (v := (Value.int .i64 0)) rfl rfl) ?_
  refine wpR_nil ?_
  refine wpC_block ?_
  obtain ⟨I1, μ1, hI1, hr1⟩ := h
  refine wpC_loop (fun (x : Int) ρ => ρ 5 = (Value.int .i64 x) ∧ ρ 0 = (Sl.v p0) ∧ ρ 1 = (Sl.v p1) ∧ True) I1 μ1 0 ⟨rfl, e0, e1, trivial⟩ hI1 ?_
  rintro l1 ρ w1 ⟨e5, e0, e1, -⟩ h
  replace h := hr1 l1 w1 h
  clear hr1 hI1
  refine wpC_seq ?_
  refine wpC_seq ?_
  refine wpC_region ?_
  refine wpR_val (v := (Value.int .i64 l1)) (w' := w1) rfl rfl rfl (x_move (v := (Value.int .i64 l1)) rfl e5) ?_
  refine wpR_val (v := (Sl.v p0)) (w' := w1) rfl rfl rfl (x_move (v := (Sl.v p0)) rfl e0) ?_
  refine wpR_val (v := (Value.int .i64 (p0.len : Int))) (w' := w1) rfl rfl rfl (x_lenS (s := p0) rfl rfl isSliceT_22) ?_
  refine wpR_val (v := (Value.bool (decide (l1 < (p0.len : Int))))) (w' := w1) rfl rfl rfl (x_lss rfl rfl rfl) ?_
  refine wpR_nil ?_
  refine wpC_cond (b := decide (l1 < (p0.len : Int))) rfl (fun hc2 => ?_) (fun hc2 => ?_)
  · replace h := h.1 hc2
    refine wpC_skip ?_
    refine wpC_seq ?_
    refine wpC_block ?_
    refine wpC_seq ?_
    refine wpC_cut (fun ρ => ρ 0 = (Sl.v p0) ∧ ρ 1 = (Sl.v p1) ∧ ρ 5 = (Value.int .i64 l1) ∧ True) ⟨e0, e1, e5, trivial⟩ ?_
    rintro ρ ⟨e0, e1, e5, -⟩
    refine wpC_region ?_
    refine wpR_val (v := (Value.int .i64 0)) (w' := w1) rfl rfl rfl (x_assign (v := (Value.int .i64 0)) rfl rfl) ?_
    refine wpR_nil ?_
    refine wpC_block ?_
    obtain ⟨I3, μ3, hI3, hr3⟩ := h
    refine wpC_loop (fun (x : Int) ρ => ρ 6 = (Value.int .i64 x) ∧ ρ 0 = (Sl.v p0) ∧ ρ 1 = (Sl.v p1) ∧ ρ 5 = (Value.int .i64 l1) ∧ True) I3 μ3 0 ⟨rfl, e0, e1, e5, trivial⟩ hI3 ?_
    rintro l3 ρ w2 ⟨e6, e0, e1, e5, -⟩ h
    replace h := hr3 l3 w2 h
    clear hr3 hI3
    refine wpC_seq ?_
    refine wpC_seq ?_
    refine wpC_region ?_
    refine wpR_val (v := (Value.int .i64 l3)) (w' := w2) rfl rfl rfl (x_move (v := (Value.int .i64 l3)) rfl e6) ?_
    refine wpR_val (v := (Sl.v p0)) (w' := w2) rfl rfl rfl (x_move (v := (Sl.v p0)) rfl e0) ?_
    refine wpR_val (v := (Value.int .i64 l1)) (w' := w2) rfl rfl rfl (x_move (v := (Value.int .i64 l1)) rfl e5) ?_
    obtain ⟨q4, z4, r4, h⟩ := h
    generalize hp4 : z4.add ((l1).toNat * 3) = p4 at h
    refine wpR_val (v := (Value.pointer (some p4))) (w' := w2) rfl rfl rfl ((x_indexAddr (s := p0) rfl rfl rfl ES_22 q4 r4).trans (by rw [hp4])) ?_
    refine wpR_val (v := (Value.pointer (some (p4.add 2)))) (w' := w2) rfl rfl rfl (x_fieldAddr rfl rfl FA_32_2) ?_
    obtain ⟨x5, q5, h⟩ := h
    refine wpR_val (v := (Sl.v x5)) (w' := w2) rfl rfl rfl (x_load1 rfl rfl SH_23 q5) ?_
    refine wpR_val (v := (Value.int .i64 (x5.len : Int))) (w' := w2) rfl rfl rfl (x_lenS (s := x5) rfl rfl isSliceT_23) ?_
    refine wpR_val (v := (Value.bool (decide (l3 < (x5.len : Int))))) (w' := w2) rfl rfl rfl (x_lss rfl rfl rfl) ?_
    refine wpR_nil ?_
    refine wpC_cond (b := decide (l3 < (x5.len : Int))) rfl (fun hc6 => ?_) (fun hc6 => ?_)
    · replace h := h.1 hc6
      refine wpC_skip ?_
      refine wpC_seq ?_
      refine wpC_block ?_
      refine wpC_seq ?_
      refine wpC_cut (fun ρ => ρ 0 = (Sl.v p0) ∧ ρ 1 = (Sl.v p1) ∧ ρ 5 = (Value.int .i64 l1) ∧ ρ 6 = (Value.int .i64 l3) ∧ True) ⟨e0, e1, e5, e6, trivial⟩ ?_
      rintro ρ ⟨e0, e1, e5, e6, -⟩
      refine wpC_region ?_
      refine wpR_val (v := (Sl.v p1)) (w' := w2) rfl rfl rfl (x_move (v := (Sl.v p1)) rfl e1) ?_
      refine wpR_val (v := (Sl.v p0)) (w' := w2) rfl rfl rfl (x_move (v := (Sl.v p0)) rfl e0) ?_
      refine wpR_val (v := (Value.int .i64 l1)) (w' := w2) rfl rfl rfl (x_move (v := (Value.int .i64 l1)) rfl e5) ?_
      obtain ⟨q7, z7, r7, h⟩ := h
      generalize hp7 : z7.add ((l1).toNat * 3) = p7 at h
      refine wpR_val (v := (Value.pointer (some p7))) (w' := w2) rfl rfl rfl ((x_indexAddr (s := p0) rfl rfl rfl ES_22 q7 r7).trans (by rw [hp7])) ?_
      refine wpR_val (v := (Value.pointer (some (p7.add 2)))) (w' := w2) rfl rfl rfl (x_fieldAddr rfl rfl FA_32_2) ?_
      obtain ⟨x8, q8, h⟩ := h
      refine wpR_val (v := (Sl.v x8)) (w' := w2) rfl rfl rfl (x_load1 rfl rfl SH_23 q8) ?_
      refine wpR_val (v := (Value.int .i64 l3)) (w' := w2) rfl rfl rfl (x_move (v := (Value.int .i64 l3)) rfl e6) ?_
      obtain ⟨q9, z9, r9, h⟩ := h
      generalize hp9 : z9.add ((l3).toNat * 1) = p9 at h
      refine wpR_val (v := (Value.pointer (some p9))) (w' := w2) rfl rfl rfl ((x_indexAddr (s := x8) rfl rfl rfl ES_23 q9 r9).trans (by rw [hp9])) ?_
      obtain ⟨x10, q10, h⟩ := h
      refine wpR_val (v := (Value.int .i64 x10)) (w' := w2) rfl rfl rfl (x_load1 rfl rfl SH_3 q10) ?_
      refine wpR_enter rfl rfl rfl (x_call (vs := [(Sl.v p1), (Value.int .i64 x10)]) rfl rfl (mapl_cons rfl (mapl_cons rfl mapl_nil)) Try.func19 NN_19 NB_19) (Calls.mono h ?_)
      rintro _ w3 ⟨r11, rfl, h⟩
      refine ⟨_, rfl, ?_⟩
      refine wpR_val (v := (Value.bool r11)) (w' := w3) rfl rfl rfl (x_move (v := (Value.bool r11)) rfl rfl) ?_
      obtain ⟨J12, h, hk⟩ := h
      refine wpR_joinJ 5 (fun x ρ => ρ 38 = Value.bool x ∧ ρ 0 = (Sl.v p0) ∧ ρ 1 = (Sl.v p1) ∧ ρ 5 = (Value.int .i64 l1) ∧ ρ 6 = (Value.int .i64 l3) ∧ True) (J12) ?_ ?_
      · clear hk
        rcases Bool.eq_false_or_eq_true (r11) with hc13 | hc13
        · replace h := h.1 hc13
          refine wpR_val (v := (Sl.v p1)) (w' := w3) (wantG rfl rfl rfl hc13) rfl rfl (x_move (v := (Sl.v p1)) rfl e1) ?_
          refine wpR_val (v := (Value.int .i64 l1)) (w' := w3) (wantG rfl rfl rfl hc13) rfl rfl (x_move (v := (Value.int .i64 l1)) rfl e5) ?_
          refine wpR_enter (wantG rfl rfl rfl hc13) rfl rfl (x_call (vs := [(Sl.v p1), (Value.int .i64 l1)]) rfl rfl (mapl_cons rfl (mapl_cons rfl mapl_nil)) Try.func19 NN_19 NB_19) (Calls.mono h ?_)
          rintro _ w4 ⟨r14, rfl, h⟩
          refine ⟨_, rfl, ?_⟩
          refine wpR_val (v := (Value.bool (!r14))) (w' := w4) (wantG rfl rfl rfl hc13) rfl rfl (x_not rfl rfl) ?_
          refine wpR_val (v := (Value.bool (!r14))) (w' := w4) rfl rfl rfl (x_pickT (v := (Value.bool (!r14))) rfl rfl hc13 rfl) ?_
          refine wpR_nil ?_
          exact ⟨!r14, ⟨rfl, e0, e1, e5, e6, trivial⟩, h⟩
        · replace h := h.2 hc13
          refine wpR_pass (wantN rfl rfl rfl hc13) rfl rfl ?_
          refine wpR_pass (wantN rfl rfl rfl hc13) rfl rfl ?_
          refine wpR_pass (wantN rfl rfl rfl hc13) rfl rfl ?_
          refine wpR_pass (wantN rfl rfl rfl hc13) rfl rfl ?_
          refine wpR_val (v := (Value.bool false)) (w' := w3) rfl rfl rfl (x_pickF (v := (Value.bool false)) rfl rfl hc13 rfl) ?_
          refine wpR_nil ?_
          exact ⟨false, ⟨rfl, e0, e1, e5, e6, trivial⟩, h⟩
      clear h
      rintro c15 ρ w5 ⟨e38, e0, e1, e5, e6, -⟩ h
      replace h := hk c15 w5 h
      clear hk
      refine wpR_nil ?_
      refine wpC_cond (b := c15) e38 (fun hc16 => ?_) (fun hc16 => ?_)
      · replace h := h.1 hc16
        refine wpC_seq ?_
        refine wpC_region ?_
        refine wpR_val (v := (Value.bool false)) (w' := w5) rfl rfl rfl (x_assign (v := (Value.bool false)) rfl rfl) ?_
        refine wpR_nil ?_
        refine wpC_ret ?_
        exact ⟨.inl rfl, fun a ha => ⟨_, results_rep1 rfl ha rfl, false, rfl, h⟩⟩
      · replace h := h.2 hc16
        refine wpC_skip ?_
        refine wpC_region ?_
        refine wpR_val (v := (Value.int .i64 l3)) (w' := w5) rfl rfl rfl (x_move (v := (Value.int .i64 l3)) rfl e6) ?_
        refine wpR_val (v := (Value.int .i64 (IntKind.i64.wrap (l3 + 1)))) (w' := w5) rfl rfl rfl (x_add rfl rfl rfl) ?_
        refine wpR_val (v := (Value.int .i64 (IntKind.i64.wrap (l3 + 1)))) (w' := w5) rfl rfl rfl (x_assign (v := (Value.int .i64 (IntKind.i64.wrap (l3 + 1)))) rfl rfl) ?_
        refine wpR_nil ?_
        exact ⟨IntKind.i64.wrap (l3 + 1), ⟨rfl, e0, e1, e5, trivial⟩, h⟩
    · replace h := h.2 hc6
      refine wpC_exit ?_
      refine wpC_cut (fun ρ => ρ 0 = (Sl.v p0) ∧ ρ 1 = (Sl.v p1) ∧ ρ 5 = (Value.int .i64 l1) ∧ True) ⟨e0, e1, e5, trivial⟩ ?_
      rintro ρ ⟨e0, e1, e5, -⟩
      refine wpC_region ?_
      refine wpR_val (v := (Value.int .i64 l1)) (w' := w2) rfl rfl rfl (x_move (v := (Value.int .i64 l1)) rfl e5) ?_
      refine wpR_val (v := (Value.int .i64 (IntKind.i64.wrap (l1 + 1)))) (w' := w2) rfl rfl rfl (x_add rfl rfl rfl) ?_
      refine wpR_val (v := (Value.int .i64 (IntKind.i64.wrap (l1 + 1)))) (w' := w2) rfl rfl rfl (x_assign (v := (Value.int .i64 (IntKind.i64.wrap (l1 + 1)))) rfl rfl) ?_
      refine wpR_nil ?_
      exact ⟨IntKind.i64.wrap (l1 + 1), ⟨rfl, e0, e1, trivial⟩, h⟩
  · replace h := h.2 hc2
    refine wpC_exit ?_
    refine wpC_seq ?_
    refine wpC_cut (fun ρ => True) trivial ?_
    rintro ρ -
    refine wpC_region ?_
    refine wpR_val (v := (Value.bool true)) (w' := w1) rfl rfl rfl (x_assign (v := (Value.bool true)) rfl rfl) ?_
    refine wpR_nil ?_
    refine wpC_ret ?_
    exact ⟨.inl rfl, fun a ha => ⟨_, results_rep1 rfl ha rfl, true, rfl, h⟩⟩

/-- lingualaw41.five -/
def F21  (w0 : World) (K : Sl → World → Prop) : Prop :=
  nw 3 #[(Value.int .i64 0)] w0 fun b1 w1 =>
  nw 3 #[(Value.int .i64 0), (Value.int .i64 2)] w1 fun b2 w2 =>
  nw 3 #[(Value.int .i64 1)] w2 fun b3 w3 =>
  nw 32 #[(Value.int .i64 0), (Value.int .i64 0), (Sl.v Sl.nil), (Value.int .i64 1), (Value.int .i64 0), (Sl.v (⟨some ⟨b1, 0, none⟩, 1, 1⟩ : Sl)), (Value.int .i64 0), (Value.int .i64 2), (Sl.v Sl.nil), (Value.int .i64 3), (Value.int .i64 0), (Sl.v (⟨some ⟨b2, 0, none⟩, 2, 2⟩ : Sl)), (Value.int .i64 6), (Value.int .i64 0), (Sl.v (⟨some ⟨b3, 0, none⟩, 1, 1⟩ : Sl))] w3 fun b4 w4 =>
  K (⟨some ⟨b4, 0, none⟩, 5, 5⟩ : Sl) w4
set_option maxRecDepth 100000 in
theorem D21  (w0 : World) (K : Sl → World → Prop) (h : F21  w0 K) : callC Try.prog 21 #[] (fun (r : Sl) => (Sl.v r)) w0 K := by
  unfold F21 at h
  refine calls_of_wpC Try.func21 rfl 10 rfl (by simp) ?_
  intro ρ hρ
  clear hρ
  refine wpC_seq ?_
  refine wpC_region ?_
  refine wpR_val (v := (Sl.v Sl.nil)) (w' := w0) rfl rfl rfl (x_assign (v := (Sl.v Sl.nil)) rfl rfl) ?_
  refine wpR_nil ?_
  refine wpC_seq ?_
  refine wpC_cut (fun ρ => True) trivial ?_
  rintro ρ -
  refine wpC_region ?_
  refine wpR_val (v := (Value.agg #[(Value.int .i64 0), (Value.int .i64 0), (Sl.v Sl.nil)])) (w' := w0) rfl rfl rfl (x_build (qs := []) rfl (by rfl) (BD_32_  _)) ?_
  obtain ⟨b1, hb1⟩ : ∃ u, u = w0.heap.size := ⟨_, rfl⟩
  obtain ⟨w1, hw1⟩ : ∃ u, u = w0.alloc (.cells #[(Value.int .i64 0)] 3) := ⟨_, rfl⟩
  replace h := h b1 w1 hb1 hw1
  refine wpR_val (v := (Sl.v (⟨some ⟨b1, 0, none⟩, 1, 1⟩ : Sl))) (w' := w1) rfl rfl rfl ((x_buildSlice (qs := [(0, (Value.int .i64 0))]) rfl (by rfl) (BS_23_1_0 0)).trans (by rw [← hb1, ← hw1])) ?_
  refine wpR_val (v := (Value.agg #[(Value.int .i64 1), (Value.int .i64 0), (Sl.v (⟨some ⟨b1, 0, none⟩, 1, 1⟩ : Sl))])) (w' := w1) rfl rfl rfl (x_build (qs := [(0, (Value.int .i64 1)), (2, (Sl.v (⟨some ⟨b1, 0, none⟩, 1, 1⟩ : Sl)))]) rfl (by rfl) (BD_32_0_2 1 (⟨some ⟨b1, 0, none⟩, 1, 1⟩ : Sl) _)) ?_
  refine wpR_val (v := (Value.agg #[(Value.int .i64 0), (Value.int .i64 2), (Sl.v Sl.nil)])) (w' := w1) rfl rfl rfl (x_build (qs := [(1, (Value.int .i64 2))]) rfl (by rfl) (BD_32_1 2 _)) ?_
  obtain ⟨b2, hb2⟩ : ∃ u, u = w1.heap.size := ⟨_, rfl⟩
  obtain ⟨w2, hw2⟩ : ∃ u, u = w1.alloc (.cells #[(Value.int .i64 0), (Value.int .i64 2)] 3) := ⟨_, rfl⟩
  replace h := h b2 w2 hb2 hw2
  refine wpR_val (v := (Sl.v (⟨some ⟨b2, 0, none⟩, 2, 2⟩ : Sl))) (w' := w2) rfl rfl rfl ((x_buildSlice (qs := [(0, (Value.int .i64 0)), (1, (Value.int .i64 2))]) rfl (by rfl) (BS_23_2_0_1 0 2)).trans (by rw [← hb2, ← hw2])) ?_
  refine wpR_val (v := (Value.agg #[(Value.int .i64 3), (Value.int .i64 0), (Sl.v (⟨some ⟨b2, 0, none⟩, 2, 2⟩ : Sl))])) (w' := w2) rfl rfl rfl (x_build (qs := [(0, (Value.int .i64 3)), (2, (Sl.v (⟨some ⟨b2, 0, none⟩, 2, 2⟩ : Sl)))]) rfl (by rfl) (BD_32_0_2 3 (⟨some ⟨b2, 0, none⟩, 2, 2⟩ : Sl) _)) ?_
  obtain ⟨b3, hb3⟩ : ∃ u, u = w2.heap.size := ⟨_, rfl⟩
  obtain ⟨w3, hw3⟩ : ∃ u, u = w2.alloc (.cells #[(Value.int .i64 1)] 3) := ⟨_, rfl⟩
  replace h := h b3 w3 hb3 hw3
  refine wpR_val (v := (Sl.v (⟨some ⟨b3, 0, none⟩, 1, 1⟩ : Sl))) (w' := w3) rfl rfl rfl ((x_buildSlice (qs := [(0, (Value.int .i64 1))]) rfl (by rfl) (BS_23_1_0 1)).trans (by rw [← hb3, ← hw3])) ?_
  refine wpR_val (v := (Value.agg #[(Value.int .i64 6), (Value.int .i64 0), (Sl.v (⟨some ⟨b3, 0, none⟩, 1, 1⟩ : Sl))])) (w' := w3) rfl rfl rfl (x_build (qs := [(0, (Value.int .i64 6)), (2, (Sl.v (⟨some ⟨b3, 0, none⟩, 1, 1⟩ : Sl)))]) rfl (by rfl) (BD_32_0_2 6 (⟨some ⟨b3, 0, none⟩, 1, 1⟩ : Sl) _)) ?_
  obtain ⟨b4, hb4⟩ : ∃ u, u = w3.heap.size := ⟨_, rfl⟩
  obtain ⟨w4, hw4⟩ : ∃ u, u = w3.alloc (.cells #[(Value.int .i64 0), (Value.int .i64 0), (Sl.v Sl.nil), (Value.int .i64 1), (Value.int .i64 0), (Sl.v (⟨some ⟨b1, 0, none⟩, 1, 1⟩ : Sl)), (Value.int .i64 0), (Value.int .i64 2), (Sl.v Sl.nil), (Value.int .i64 3), (Value.int .i64 0), (Sl.v (⟨some ⟨b2, 0, none⟩, 2, 2⟩ : Sl)), (Value.int .i64 6), (Value.int .i64 0), (Sl.v (⟨some ⟨b3, 0, none⟩, 1, 1⟩ : Sl))] 32) := ⟨_, rfl⟩
  replace h := h b4 w4 hb4 hw4
  refine wpR_val (v := (Sl.v (⟨some ⟨b4, 0, none⟩, 5, 5⟩ : Sl))) (w' := w4) rfl rfl rfl ((x_buildSlice (qs := [(0, (Value.agg #[(Value.int .i64 0), (Value.int .i64 0), (Sl.v Sl.nil)])), (1, (Value.agg #[(Value.int .i64 1), (Value.int .i64 0), (Sl.v (⟨some ⟨b1, 0, none⟩, 1, 1⟩ : Sl))])), (2, (Value.agg #[(Value.int .i64 0), (Value.int .i64 2), (Sl.v Sl.nil)])), (3, (Value.agg #[(Value.int .i64 3), (Value.int .i64 0), (Sl.v (⟨some ⟨b2, 0, none⟩, 2, 2⟩ : Sl))])), (4, (Value.agg #[(Value.int .i64 6), (Value.int .i64 0), (Sl.v (⟨some ⟨b3, 0, none⟩, 1, 1⟩ : Sl))]))]) rfl (by rfl) (BS_22_5_0_1_2_3_4 0 0 Sl.nil 1 0 (⟨some ⟨b1, 0, none⟩, 1, 1⟩ : Sl) 0 2 Sl.nil 3 0 (⟨some ⟨b2, 0, none⟩, 2, 2⟩ : Sl) 6 0 (⟨some ⟨b3, 0, none⟩, 1, 1⟩ : Sl))).trans (by rw [← hb4, ← hw4])) ?_
  refine wpR_val (v := (Sl.v (⟨some ⟨b4, 0, none⟩, 5, 5⟩ : Sl))) (w' := w4) rfl rfl rfl (x_assign (v := (Sl.v (⟨some ⟨b4, 0, none⟩, 5, 5⟩ : Sl))) rfl rfl) ?_
  refine wpR_nil ?_
  refine wpC_ret ?_
  exact ⟨.inl rfl, fun a ha => ⟨_, results_rep1 rfl ha rfl, (⟨some ⟨b4, 0, none⟩, 5, 5⟩ : Sl), rfl, h⟩⟩

/-- places.marked -/
def F22 (p0 : Sl) (p1 : Sl) (w0 : World) (K : Sl → World → Prop) : Prop :=
  rn Try.prog (Instr.makeSlice 37 (Value.int .i64 (p0.len : Int)) (Value.int .i64 (p0.len : Int))) (fun (r : Sl) => (Sl.v r)) w0 fun r1 w1 =>
  lp (fun (next2 : Int → World → Prop) l2 w2 =>
    cnd (decide (l2 < (p1.len : Int)))
      (
      jn (fun (J4 : Unit → World → Prop) =>
        ix p1 l2 1 fun p6 =>
        ld (Value.int .i64) p6 w2 fun x7 =>
        cnd ((decide (0 ≤ x7)) && (decide (x7 < (p0.len : Int))))
          (
          ix r1 x7 1 fun p11 =>
          st p11 [(Value.bool true)] w2 fun w4 =>
          J4 () w4
          )
          (
          J4 () w2
          )
      )
      fun _l5 w3 =>
      next2 (IntKind.i64.wrap (l2 + 1)) w3
      )
      (
      K r1 w2
      )
  ) 0 w1
set_option maxRecDepth 100000 in
theorem D22 (p0 : Sl) (p1 : Sl) (w0 : World) (K : Sl → World → Prop) (h : F22 p0 p1 w0 K) : callC Try.prog 22 #[(Sl.v p0), (Sl.v p1)] (fun (r : Sl) => (Sl.v r)) w0 K := by
  unfold F22 at h
  refine calls_of_wpC Try.func22 rfl 30 rfl (by simp) ?_
  intro ρ hρ
  have e0 : ρ 0 = (Sl.v p0) := hρ 0
  have e1 : ρ 1 = (Sl.v p1) := hρ 1
  clear hρ
  refine wpC_seq ?_
  refine wpC_region ?_
  refine wpR_val (v := (Sl.v Sl.nil)) (w' := w0) rfl rfl rfl (x_assign (v := (Sl.v Sl.nil)) rfl rfl) ?_
  refine wpR_nil ?_
  refine wpC_seq ?_
  refine wpC_cut (fun ρ => ρ 0 = (Sl.v p0) ∧ ρ 1 = (Sl.v p1) ∧ True) ⟨e0, e1, trivial⟩ ?_
  rintro ρ ⟨e0, e1, -⟩
  refine wpC_region ?_
  refine wpR_val (v := (Sl.v p0)) (w' := w0) rfl rfl rfl (x_move (v := (Sl.v p0)) rfl e0) ?_
  refine wpR_val (v := (Value.int .i64 (p0.len : Int))) (w' := w0) rfl rfl rfl (x_lenS (s := p0) rfl rfl isSliceT_22) ?_
  obtain ⟨r1, w1, q1, h⟩ := h
  refine wpR_val (v := (Sl.v r1)) (w' := w1) rfl rfl rfl (x_makeSlice rfl rfl rfl q1) ?_
  refine wpR_val (v := (Sl.v r1)) (w' := w1) rfl rfl rfl (x_assign (v := (Sl.v r1)) rfl rfl) ?_
  refine wpR_nil ?_
  refine wpC_seq ?_
  refine wpC_seq ?_
  refine wpC_cut (fun ρ => ρ 0 = (Sl.v p0) ∧ ρ 1 = (Sl.v p1) ∧ ρ 5 = (Sl.v r1) ∧ True) ⟨e0, e1, rfl, trivial⟩ ?_
  rintro ρ ⟨e0, e1, e5, -⟩
  refine wpC_region ?_
  refine wpR_val (v := (Sl.v p1)) (w' := w1) rfl rfl rfl (x_move (v := (Sl.v p1)) rfl e1) ?_
  refine wpR_val (v := (Value.int .i64 (p1.len : Int))) (w' := w1) rfl rfl rfl (x_lenS (s := p1) rfl rfl isSliceT_23) ?_
  refine wpR_val (v := (Value.int .i64 0)) (w' := w1) rfl rfl rfl (x_move (v := (Value.int .i64 0)) rfl rfl) ?_
  refine wpR_nil ?_
  refine wpC_block ?_
  obtain ⟨I2, μ2, hI2, hr2⟩ := h
  refine wpC_loop (fun (x : Int) ρ => ρ 13 = (Value.int .i64 x) ∧ ρ 0 = (Sl.v p0) ∧ ρ 5 = (Sl.v r1) ∧ ρ 11 = (Sl.v p1) ∧ ρ 12 = (Value.int .i64 (p1.len : Int)) ∧ True) I2 μ2 0 ⟨rfl, e0, e5, rfl, rfl, trivial⟩ hI2 ?_
  rintro l2 ρ w2 ⟨e13, e0, e5, e11, e12, -⟩ h
  replace h := hr2 l2 w2 h
  clear hr2 hI2
  refine wpC_seq ?_
  refine wpC_region ?_
  refine wpR_val (v := (Value.bool (decide (l2 < (p1.len : Int))))) (w' := w2) rfl rfl rfl (x_lss rfl e13 e12) ?_
  refine wpR_nil ?_
  refine wpC_seq ?_
  refine wpC_cond (b := decide (l2 < (p1.len : Int))) rfl (fun hc3 => ?_) (fun hc3 => ?_)
  · replace h := h.1 hc3
    refine wpC_skip ?_
    obtain ⟨J4, h, hk⟩ := h
    refine wpC_seqJ (fun (x : Unit) ρ => ρ 0 = (Sl.v p0) ∧ ρ 5 = (Sl.v r1) ∧ ρ 11 = (Sl.v p1) ∧ ρ 12 = (Value.int .i64 (p1.len : Int)) ∧ ρ 13 = (Value.int .i64 l2) ∧ True) J4 ?_ ?_
    · clear hk
      refine wpC_block ?_
      refine wpC_seq ?_
      refine wpC_cut (fun ρ => ρ 0 = (Sl.v p0) ∧ ρ 5 = (Sl.v r1) ∧ ρ 11 = (Sl.v p1) ∧ ρ 12 = (Value.int .i64 (p1.len : Int)) ∧ ρ 13 = (Value.int .i64 l2) ∧ True) ⟨e0, e5, e11, e12, e13, trivial⟩ ?_
      rintro ρ ⟨e0, e5, e11, e12, e13, -⟩
      refine wpC_region ?_
      obtain ⟨q6, z6, r6, h⟩ := h
      generalize hp6 : z6.add ((l2).toNat * 1) = p6 at h
      refine wpR_val (v := (Value.pointer (some p6))) (w' := w2) rfl rfl rfl ((x_indexAddr (s := p1) rfl e11 e13 ES_23 q6 r6).trans (by rw [hp6])) ?_
      obtain ⟨x7, q7, h⟩ := h
      refine wpR_val (v := (Value.int .i64 x7)) (w' := w2) rfl rfl rfl (x_load1 rfl rfl SH_3 q7) ?_
      refine wpR_val (v := (Value.int .i64 x7)) (w' := w2) rfl rfl rfl (x_assign (v := (Value.int .i64 x7)) rfl rfl) ?_
      refine wpR_nil ?_
      refine wpC_seq ?_
      refine wpC_cut (fun ρ => ρ 0 = (Sl.v p0) ∧ ρ 5 = (Sl.v r1) ∧ ρ 7 = (Value.int .i64 x7) ∧ ρ 11 = (Sl.v p1) ∧ ρ 12 = (Value.int .i64 (p1.len : Int)) ∧ ρ 13 = (Value.int .i64 l2) ∧ True) ⟨e0, e5, rfl, e11, e12, e13, trivial⟩ ?_
      rintro ρ ⟨e0, e5, e7, e11, e12, e13, -⟩
      refine wpC_region ?_
      refine wpR_val (v := (Value.int .i64 x7)) (w' := w2) rfl rfl rfl (x_move (v := (Value.int .i64 x7)) rfl e7) ?_
      refine wpR_val (v := (Value.bool (decide (0 ≤ x7)))) (w' := w2) rfl rfl rfl (x_geq rfl rfl rfl) ?_
      refine wpR_val (v := (Value.bool (decide (0 ≤ x7)))) (w' := w2) rfl rfl rfl (x_move (v := (Value.bool (decide (0 ≤ x7)))) rfl rfl) ?_
      refine wpR_joinJ 5 (fun (_ : Unit) ρ => ρ 24 = Value.bool ((decide (0 ≤ x7)) && (decide (x7 < (p0.len : Int)))) ∧ ρ 0 = (Sl.v p0) ∧ ρ 5 = (Sl.v r1) ∧ ρ 7 = (Value.int .i64 x7) ∧ ρ 11 = (Sl.v p1) ∧ ρ 12 = (Value.int .i64 (p1.len : Int)) ∧ ρ 13 = (Value.int .i64 l2) ∧ True) (fun _ w => w2 = w) ?_ ?_
      · clear h
        rcases Bool.eq_false_or_eq_true (decide (0 ≤ x7)) with hc9 | hc9
        · skip
          refine wpR_val (v := (Value.int .i64 x7)) (w' := w2) (wantG rfl rfl rfl hc9) rfl rfl (x_move (v := (Value.int .i64 x7)) rfl e7) ?_
          refine wpR_val (v := (Sl.v p0)) (w' := w2) (wantG rfl rfl rfl hc9) rfl rfl (x_move (v := (Sl.v p0)) rfl e0) ?_
          refine wpR_val (v := (Value.int .i64 (p0.len : Int))) (w' := w2) (wantG rfl rfl rfl hc9) rfl rfl (x_lenS (s := p0) rfl rfl isSliceT_22) ?_
          refine wpR_val (v := (Value.bool (decide (x7 < (p0.len : Int))))) (w' := w2) (wantG rfl rfl rfl hc9) rfl rfl (x_lss rfl rfl rfl) ?_
          refine wpR_val (v := (Value.bool (decide (x7 < (p0.len : Int))))) (w' := w2) rfl rfl rfl (x_pickT (v := (Value.bool (decide (x7 < (p0.len : Int))))) rfl rfl hc9 rfl) ?_
          refine wpR_nil ?_
          exact ⟨(), ⟨(by rw [hc9]; rfl), e0, e5, e7, e11, e12, e13, trivial⟩, rfl⟩
        · skip
          refine wpR_pass (wantN rfl rfl rfl hc9) rfl rfl ?_
          refine wpR_pass (wantN rfl rfl rfl hc9) rfl rfl ?_
          refine wpR_pass (wantN rfl rfl rfl hc9) rfl rfl ?_
          refine wpR_pass (wantN rfl rfl rfl hc9) rfl rfl ?_
          refine wpR_val (v := (Value.bool false)) (w' := w2) rfl rfl rfl (x_pickF (v := (Value.bool false)) rfl rfl hc9 rfl) ?_
          refine wpR_nil ?_
          exact ⟨(), ⟨(by rw [hc9]; rfl), e0, e5, e7, e11, e12, e13, trivial⟩, rfl⟩
      rintro _ ρ wj ⟨e24, e0, e5, e7, e11, e12, e13, -⟩ rfl
      refine wpR_nil ?_
      refine wpC_cond (b := (decide (0 ≤ x7)) && (decide (x7 < (p0.len : Int)))) e24 (fun hc10 => ?_) (fun hc10 => ?_)
      · replace h := h.1 hc10
        refine wpC_region ?_
        refine wpR_val (v := (Sl.v r1)) (w' := w2) rfl rfl rfl (x_move (v := (Sl.v r1)) rfl e5) ?_
        refine wpR_val (v := (Value.int .i64 x7)) (w' := w2) rfl rfl rfl (x_move (v := (Value.int .i64 x7)) rfl e7) ?_
        obtain ⟨q11, z11, r11, h⟩ := h
        generalize hp11 : z11.add ((x7).toNat * 1) = p11 at h
        refine wpR_val (v := (Value.pointer (some p11))) (w' := w2) rfl rfl rfl ((x_indexAddr (s := r1) rfl rfl rfl ES_37 q11 r11).trans (by rw [hp11])) ?_
        obtain ⟨q12, h⟩ := h
        obtain ⟨w4, hw12⟩ : ∃ u, u = setAll w2 p11 [(Value.bool true)] 0 := ⟨_, rfl⟩
        replace h := h w4 hw12
        refine wpR_skp (w' := w4) rfl rfl ((x_store (v := (Value.bool true)) rfl rfl rfl SZ_4 (ones (by rfl)) q12).trans (by rw [hw12]; rfl)) ?_
        refine wpR_nil ?_
        exact ⟨(), ⟨e0, e5, e11, e12, e13, trivial⟩, h⟩
      · replace h := h.2 hc10
        refine wpC_skip ?_
        exact ⟨(), ⟨e0, e5, e11, e12, e13, trivial⟩, h⟩
    clear h
    rintro l5 ρ w3 ⟨e0, e5, e11, e12, e13, -⟩ h
    replace h := hk l5 w3 h
    clear hk
    refine wpC_region ?_
    refine wpR_val (v := (Value.int .i64 (IntKind.i64.wrap (l2 + 1)))) (w' := w3) rfl rfl rfl (x_add rfl e13 rfl) ?_
    refine wpR_val (v := (Value.int .i64 (IntKind.i64.wrap (l2 + 1)))) (w' := w3) rfl rfl rfl (x_move (v := (Value.int .i64 (IntKind.i64.wrap (l2 + 1)))) rfl rfl) ?_
    refine wpR_nil ?_
    exact ⟨IntKind.i64.wrap (l2 + 1), ⟨rfl, e0, e5, e11, e12, trivial⟩, h⟩
  · replace h := h.2 hc3
    refine wpC_exit ?_
    refine wpC_seq ?_
    refine wpC_cut (fun ρ => ρ 5 = (Sl.v r1) ∧ True) ⟨e5, trivial⟩ ?_
    rintro ρ ⟨e5, -⟩
    refine wpC_region ?_
    refine wpR_val (v := (Sl.v r1)) (w' := w2) rfl rfl rfl (x_move (v := (Sl.v r1)) rfl e5) ?_
    refine wpR_val (v := (Sl.v r1)) (w' := w2) rfl rfl rfl (x_assign (v := (Sl.v r1)) rfl rfl) ?_
    refine wpR_nil ?_
    refine wpC_ret ?_
    exact ⟨.inl rfl, fun a ha => ⟨_, results_rep1 rfl ha rfl, r1, rfl, h⟩⟩

/-- places.indices -/
def F23 (p0 : Sl) (w0 : World) (K : Sl → World → Prop) : Prop :=
  lp (fun (next1 : (Sl × Int) → World → Prop) l1 w1 =>
    cnd (decide (l1.2 < (p0.len : Int)))
      (
      jn (fun (J3 : Sl → World → Prop) =>
        ix p0 l1.2 1 fun p5 =>
        ld Value.bool p5 w1 fun x6 =>
        cnd (x6)
          (
          nw 3 #[(Value.int .i64 l1.2)] w1 fun b8 w3 =>
          rn Try.prog (Builtin.append_ #[23, 23] 23 #[Sl.v l1.1, Sl.v (⟨some ⟨b8, 0, none⟩, 1, 1⟩ : Sl)]) Sl.v w3 fun r9 w4 =>
          J3 r9 w4
          )
          (
          J3 l1.1 w1
          )
      )
      fun l4 w2 =>
      next1 (l4, IntKind.i64.wrap (l1.2 + 1)) w2
      )
      (
      K l1.1 w1
      )
  ) (Sl.nil, 0) w0
set_option maxRecDepth 100000 in
theorem D23 (p0 : Sl) (w0 : World) (K : Sl → World → Prop) (h : F23 p0 w0 K) : callC Try.prog 23 #[(Sl.v p0)] (fun (r : Sl) => (Sl.v r)) w0 K := by
  unfold F23 at h
  refine calls_of_wpC Try.func23 rfl 20 rfl (by simp) ?_
  intro ρ hρ
  have e0 : ρ 0 = (Sl.v p0) := hρ 0
  clear hρ
  refine wpC_seq ?_
  refine wpC_region ?_
  refine wpR_val (v := (Sl.v Sl.nil)) (w' := w0) rfl rfl rfl (x_assign (v := (Sl.v Sl.nil)) rfl rfl) ?_
  refine wpR_nil ?_
  refine wpC_seq ?_
  refine wpC_cut (fun ρ => ρ 0 = (Sl.v p0) ∧ True) ⟨e0, trivial⟩ ?_
  rintro ρ ⟨e0, -⟩
  refine wpC_region ?_
  refine wpR_val (v := (Sl.v Sl.nil)) (w' := w0) rfl rfl rfl (x_assign (v := (Sl.v Sl.nil)) rfl rfl) ?_
  refine wpR_nil ?_
  refine wpC_seq ?_
  refine wpC_seq ?_
  refine wpC_cut (fun ρ => ρ 0 = (Sl.v p0) ∧ ρ 3 = (Sl.v Sl.nil) ∧ True) ⟨e0, rfl, trivial⟩ ?_
  rintro ρ ⟨e0, e3, -⟩
  refine wpC_region ?_
  refine wpR_val (v := (Sl.v p0)) (w' := w0) rfl rfl rfl (x_move (v := (Sl.v p0)) rfl e0) ?_
  refine wpR_val (v := (Value.int .i64 (p0.len : Int))) (w' := w0) rfl rfl rfl (x_lenS (s := p0) rfl rfl isSliceT_37) ?_
  refine wpR_val (v := (Value.int .i64 0)) (w' := w0) rfl rfl rfl (x_move (v := (Value.int .i64 0)) rfl rfl) ?_
  refine wpR_nil ?_
  refine wpC_block ?_
  obtain ⟨I1, μ1, hI1, hr1⟩ := h
  refine wpC_loop (fun (x : Sl × Int) ρ => ρ 3 = (Sl.v x.1) ∧ ρ 8 = (Value.int .i64 x.2) ∧ ρ 6 = (Sl.v p0) ∧ ρ 7 = (Value.int .i64 (p0.len : Int)) ∧ True) I1 μ1 (Sl.nil, 0) ⟨e3, rfl, rfl, rfl, trivial⟩ hI1 ?_
  rintro l1 ρ w1 ⟨e3, e8, e6, e7, -⟩ h
  replace h := hr1 l1 w1 h
  clear hr1 hI1
  refine wpC_seq ?_
  refine wpC_region ?_
  refine wpR_val (v := (Value.bool (decide (l1.2 < (p0.len : Int))))) (w' := w1) rfl rfl rfl (x_lss rfl e8 e7) ?_
  refine wpR_nil ?_
  refine wpC_seq ?_
  refine wpC_cond (b := decide (l1.2 < (p0.len : Int))) rfl (fun hc2 => ?_) (fun hc2 => ?_)
  · replace h := h.1 hc2
    refine wpC_skip ?_
    obtain ⟨J3, h, hk⟩ := h
    refine wpC_seqJ (fun (x : Sl) ρ => ρ 3 = (Sl.v x) ∧ ρ 6 = (Sl.v p0) ∧ ρ 7 = (Value.int .i64 (p0.len : Int)) ∧ ρ 8 = (Value.int .i64 l1.2) ∧ True) J3 ?_ ?_
    · clear hk
      refine wpC_block ?_
      refine wpC_seq ?_
      refine wpC_cut (fun ρ => ρ 3 = (Sl.v l1.1) ∧ ρ 6 = (Sl.v p0) ∧ ρ 7 = (Value.int .i64 (p0.len : Int)) ∧ ρ 8 = (Value.int .i64 l1.2) ∧ True) ⟨e3, e6, e7, e8, trivial⟩ ?_
      rintro ρ ⟨e3, e6, e7, e8, -⟩
      refine wpC_region ?_
      refine wpR_val (v := (Value.int .i64 l1.2)) (w' := w1) rfl rfl rfl (x_move (v := (Value.int .i64 l1.2)) rfl e8) ?_
      obtain ⟨q5, z5, r5, h⟩ := h
      generalize hp5 : z5.add ((l1.2).toNat * 1) = p5 at h
      refine wpR_val (v := (Value.pointer (some p5))) (w' := w1) rfl rfl rfl ((x_indexAddr (s := p0) rfl e6 e8 ES_37 q5 r5).trans (by rw [hp5])) ?_
      obtain ⟨x6, q6, h⟩ := h
      refine wpR_val (v := (Value.bool x6)) (w' := w1) rfl rfl rfl (x_load1 rfl rfl SH_4 q6) ?_
      refine wpR_val (v := (Value.int .i64 l1.2)) (w' := w1) rfl rfl rfl (x_assign (v := (Value.int .i64 l1.2)) rfl rfl) ?_
      refine wpR_val (v := (Value.bool x6)) (w' := w1) rfl rfl rfl (x_assign (v := (Value.bool x6)) rfl rfl) ?_
      refine wpR_nil ?_
      refine wpC_seq ?_
      refine wpC_cut (fun ρ => ρ 3 = (Sl.v l1.1) ∧ ρ 4 = (Value.int .i64 l1.2) ∧ ρ 5 = (Value.bool x6) ∧ ρ 6 = (Sl.v p0) ∧ ρ 7 = (Value.int .i64 (p0.len : Int)) ∧ ρ 8 = (Value.int .i64 l1.2) ∧ True) ⟨e3, rfl, rfl, e6, e7, e8, trivial⟩ ?_
      rintro ρ ⟨e3, e4, e5, e6, e7, e8, -⟩
      refine wpC_region ?_
      refine wpR_val (v := (Value.bool x6)) (w' := w1) rfl rfl rfl (x_move (v := (Value.bool x6)) rfl e5) ?_
      refine wpR_nil ?_
      refine wpC_cond (b := x6) rfl (fun hc7 => ?_) (fun hc7 => ?_)
      · replace h := h.1 hc7
        refine wpC_cut (fun ρ => ρ 3 = (Sl.v l1.1) ∧ ρ 4 = (Value.int .i64 l1.2) ∧ ρ 6 = (Sl.v p0) ∧ ρ 7 = (Value.int .i64 (p0.len : Int)) ∧ ρ 8 = (Value.int .i64 l1.2) ∧ True) ⟨e3, e4, e6, e7, e8, trivial⟩ ?_
        rintro ρ ⟨e3, e4, e6, e7, e8, -⟩
        refine wpC_region ?_
        refine wpR_val (v := (Sl.v l1.1)) (w' := w1) rfl rfl rfl (x_move (v := (Sl.v l1.1)) rfl e3) ?_
        refine wpR_val (v := (Value.int .i64 l1.2)) (w' := w1) rfl rfl rfl (x_move (v := (Value.int .i64 l1.2)) rfl e4) ?_
        obtain ⟨b8, hb8⟩ : ∃ u, u = w1.heap.size := ⟨_, rfl⟩
        obtain ⟨w3, hw8⟩ : ∃ u, u = w1.alloc (.cells #[(Value.int .i64 l1.2)] 3) := ⟨_, rfl⟩
        replace h := h b8 w3 hb8 hw8
        refine wpR_val (v := (Sl.v (⟨some ⟨b8, 0, none⟩, 1, 1⟩ : Sl))) (w' := w3) rfl rfl rfl ((x_buildSlice (qs := [(0, (Value.int .i64 l1.2))]) rfl (by rfl) (BS_23_1_0 l1.2)).trans (by rw [← hb8, ← hw8])) ?_
        obtain ⟨r9, w4, q9, h⟩ := h
        refine wpR_val (v := (Sl.v r9)) (w' := w4) rfl rfl rfl (x_append (s := l1.1) (u := (⟨some ⟨b8, 0, none⟩, 1, 1⟩ : Sl)) rfl rfl rfl rfl q9) ?_
        refine wpR_val (v := (Sl.v r9)) (w' := w4) rfl rfl rfl (x_assign (v := (Sl.v r9)) rfl rfl) ?_
        refine wpR_nil ?_
        exact ⟨r9, ⟨rfl, e6, e7, e8, trivial⟩, h⟩
      · replace h := h.2 hc7
        refine wpC_skip ?_
        exact ⟨l1.1, ⟨e3, e6, e7, e8, trivial⟩, h⟩
    clear h
    rintro l4 ρ w2 ⟨e3, e6, e7, e8, -⟩ h
    replace h := hk l4 w2 h
    clear hk
    refine wpC_region ?_
    refine wpR_val (v := (Value.int .i64 (IntKind.i64.wrap (l1.2 + 1)))) (w' := w2) rfl rfl rfl (x_add rfl e8 rfl) ?_
    refine wpR_val (v := (Value.int .i64 (IntKind.i64.wrap (l1.2 + 1)))) (w' := w2) rfl rfl rfl (x_move (v := (Value.int .i64 (IntKind.i64.wrap (l1.2 + 1)))) rfl rfl) ?_
    refine wpR_nil ?_
    exact ⟨(l4, IntKind.i64.wrap (l1.2 + 1)), ⟨e3, rfl, e6, e7, trivial⟩, h⟩
  · replace h := h.2 hc2
    refine wpC_exit ?_
    refine wpC_seq ?_
    refine wpC_cut (fun ρ => ρ 3 = (Sl.v l1.1) ∧ True) ⟨e3, trivial⟩ ?_
    rintro ρ ⟨e3, -⟩
    refine wpC_region ?_
    refine wpR_val (v := (Sl.v l1.1)) (w' := w1) rfl rfl rfl (x_move (v := (Sl.v l1.1)) rfl e3) ?_
    refine wpR_val (v := (Sl.v l1.1)) (w' := w1) rfl rfl rfl (x_assign (v := (Sl.v l1.1)) rfl rfl) ?_
    refine wpR_nil ?_
    refine wpC_ret ?_
    exact ⟨.inl rfl, fun a ha => ⟨_, results_rep1 rfl ha rfl, l1.1, rfl, h⟩⟩

/-- slices.Reverse[[]int,int] -/
def F24 (p0 : Sl) (w0 : World) (K : Unit → World → Prop) : Prop :=
  lp (fun (next1 : (Int × Int) → World → Prop) l1 w1 =>
    cnd (decide (l1.1 < l1.2))
      (
      jn (fun (J4 : Unit → World → Prop) => tk w1 fun w2 =>
        ix p0 l1.2 1 fun p5 =>
        ld (Value.int .i64) p5 w2 fun x6 =>
        ix p0 l1.1 1 fun p7 =>
        ld (Value.int .i64) p7 w2 fun x8 =>
        ix p0 l1.1 1 fun p9 =>
        st p9 [(Value.int .i64 x6)] w2 fun w3 =>
        ix p0 l1.2 1 fun p11 =>
        st p11 [(Value.int .i64 x8)] w3 fun w4 =>
        J4 () w4
      )
      fun _l13 w5 =>
      next1 (IntKind.i64.wrap (l1.1 + 1), IntKind.i64.wrap (l1.2 - 1)) w5
      )
      (
      K () w1
      )
  ) (0, IntKind.i64.wrap ((p0.len : Int) - 1)) w0
set_option maxRecDepth 100000 in
theorem D24 (p0 : Sl) (w0 : World) (K : Unit → World → Prop) (h : F24 p0 w0 K) : callC Try.prog 24 #[(Sl.v p0)] (fun (_ : Unit) => (Value.tuple #[])) w0 K := by
  unfold F24 at h
  refine calls_of_wpC Try.func24 rfl 28 rfl (by simp) ?_
  intro ρ hρ
  have e0 : ρ 0 = (Sl.v p0) := hρ 0
  clear hρ
  refine wpC_seq ?_
  refine wpC_region ?_
  refine wpR_val (v := (Sl.v p0)) (w' := w0) rfl rfl rfl (x_move (v := (Sl.v p0)) rfl e0) ?_
  refine wpR_val (v := (Value.int .i64 (p0.len : Int))) (w' := w0) rfl rfl rfl (x_lenS (s := p0) rfl rfl isSliceT_23) ?_
  refine wpR_val (v := (Value.int .i64 (IntKind.i64.wrap ((p0.len : Int) - 1)))) (w' := w0) rfl rfl rfl (x_sub rfl rfl rfl) ?_
  refine wpR_val (v := (Value.int .i64 0)) (w' := w0) rfl rfl rfl (x_assign (v := (Value.int .i64 0)) rfl rfl) ?_
  refine wpR_val (v := (Value.int .i64 (IntKind.i64.wrap ((p0.len : Int) - 1)))) (w' := w0) rfl rfl rfl (x_assign (v := (Value.int .i64 (IntKind.i64.wrap ((p0.len : Int) - 1)))) rfl rfl) ?_
  refine wpR_nil ?_
  refine wpC_block ?_
  obtain ⟨I1, μ1, hI1, hr1⟩ := h
  refine wpC_loop (fun (x : Int × Int) ρ => ρ 2 = (Value.int .i64 x.1) ∧ ρ 3 = (Value.int .i64 x.2) ∧ ρ 0 = (Sl.v p0) ∧ True) I1 μ1 (0, IntKind.i64.wrap ((p0.len : Int) - 1)) ⟨rfl, rfl, e0, trivial⟩ hI1 ?_
  rintro l1 ρ w1 ⟨e2, e3, e0, -⟩ h
  replace h := hr1 l1 w1 h
  clear hr1 hI1
  refine wpC_seq ?_
  refine wpC_seq ?_
  refine wpC_region ?_
  refine wpR_val (v := (Value.int .i64 l1.1)) (w' := w1) rfl rfl rfl (x_move (v := (Value.int .i64 l1.1)) rfl e2) ?_
  refine wpR_val (v := (Value.int .i64 l1.2)) (w' := w1) rfl rfl rfl (x_move (v := (Value.int .i64 l1.2)) rfl e3) ?_
  refine wpR_val (v := (Value.bool (decide (l1.1 < l1.2)))) (w' := w1) rfl rfl rfl (x_lss rfl rfl rfl) ?_
  refine wpR_nil ?_
  refine wpC_cond (b := decide (l1.1 < l1.2)) rfl (fun hc2 => ?_) (fun hc2 => ?_)
  · replace h := h.1 hc2
    refine wpC_skip ?_
    refine wpC_seq ?_
    refine wpC_block ?_
    refine wpC_cut (fun ρ => ρ 0 = (Sl.v p0) ∧ ρ 2 = (Value.int .i64 l1.1) ∧ ρ 3 = (Value.int .i64 l1.2) ∧ True) ⟨e0, e2, e3, trivial⟩ ?_
    rintro ρ ⟨e0, e2, e3, -⟩
    obtain ⟨J4, h, hk⟩ := h
    refine wpC_drawJ (by kernel_rfl) (fun (x : Unit) ρ => ρ 0 = (Sl.v p0) ∧ ρ 2 = (Value.int .i64 l1.1) ∧ ρ 3 = (Value.int .i64 l1.2) ∧ True) J4 ?_ ?_
    · clear hk
      unfold tk at h
      generalize w1.drew = w2 at h ⊢
      refine wpD_take (v := (Sl.v p0)) 0 (fun _ => True) rfl (by kernel_rfl) (by kernel_rfl) (by kernel_rfl) rfl rfl rfl trivial (fun w _ => (x_move (v := (Sl.v p0)) rfl e0)) ?_
      refine wpD_take (v := (Value.int .i64 l1.1)) 1 (fun _ => True) rfl (by kernel_rfl) (by kernel_rfl) (by kernel_rfl) rfl rfl rfl trivial (fun w _ => (x_move (v := (Value.int .i64 l1.1)) rfl e2)) ?_
      refine wpD_take (v := (Sl.v p0)) 2 (fun _ => True) rfl (by kernel_rfl) (by kernel_rfl) (by kernel_rfl) rfl rfl rfl trivial (fun w _ => (x_move (v := (Sl.v p0)) rfl e0)) ?_
      refine wpD_take (v := (Value.int .i64 l1.2)) 3 (fun _ => True) rfl (by kernel_rfl) (by kernel_rfl) (by kernel_rfl) rfl rfl rfl trivial (fun w _ => (x_move (v := (Value.int .i64 l1.2)) rfl e3)) ?_
      refine wpD_take (v := (Sl.v p0)) 4 (fun _ => True) rfl (by kernel_rfl) (by kernel_rfl) (by kernel_rfl) rfl rfl rfl trivial (fun w _ => (x_move (v := (Sl.v p0)) rfl e0)) ?_
      refine wpD_take (v := (Value.int .i64 l1.2)) 5 (fun _ => True) rfl (by kernel_rfl) (by kernel_rfl) (by kernel_rfl) rfl rfl rfl trivial (fun w _ => (x_move (v := (Value.int .i64 l1.2)) rfl e3)) ?_
      obtain ⟨q5, z5, r5, h⟩ := h
      generalize hp5 : z5.add ((l1.2).toNat * 1) = p5 at h
      refine wpD_take (v := (Value.pointer (some p5))) 6 (fun _ => True) rfl (by kernel_rfl) (by kernel_rfl) (by kernel_rfl) rfl rfl rfl trivial (fun w _ => ((x_indexAddr (s := p0) rfl rfl rfl ES_23 q5 r5).trans (by rw [hp5]))) ?_
      obtain ⟨x6, q6, h⟩ := h
      refine wpD_take (v := (Value.int .i64 x6)) 7 (fun w => w.cell? p5 = some (Value.int .i64 x6)) rfl (by kernel_rfl) (by kernel_rfl) (by kernel_rfl) rfl rfl rfl q6 (fun w q6 => (x_load1 rfl rfl SH_3 q6)) ?_
      refine wpD_take (v := (Sl.v p0)) 8 (fun _ => True) rfl (by kernel_rfl) (by kernel_rfl) (by kernel_rfl) rfl rfl rfl trivial (fun w _ => (x_move (v := (Sl.v p0)) rfl e0)) ?_
      refine wpD_take (v := (Value.int .i64 l1.1)) 9 (fun _ => True) rfl (by kernel_rfl) (by kernel_rfl) (by kernel_rfl) rfl rfl rfl trivial (fun w _ => (x_move (v := (Value.int .i64 l1.1)) rfl e2)) ?_
      obtain ⟨q7, z7, r7, h⟩ := h
      generalize hp7 : z7.add ((l1.1).toNat * 1) = p7 at h
      refine wpD_take (v := (Value.pointer (some p7))) 10 (fun _ => True) rfl (by kernel_rfl) (by kernel_rfl) (by kernel_rfl) rfl rfl rfl trivial (fun w _ => ((x_indexAddr (s := p0) rfl rfl rfl ES_23 q7 r7).trans (by rw [hp7]))) ?_
      obtain ⟨x8, q8, h⟩ := h
      refine wpD_take (v := (Value.int .i64 x8)) 11 (fun w => w.cell? p7 = some (Value.int .i64 x8)) rfl (by kernel_rfl) (by kernel_rfl) (by kernel_rfl) rfl rfl rfl q8 (fun w q8 => (x_load1 rfl rfl SH_3 q8)) ?_
      obtain ⟨q9, z9, r9, h⟩ := h
      generalize hp9 : z9.add ((l1.1).toNat * 1) = p9 at h
      refine wpD_take (v := (Value.pointer (some p9))) 12 (fun _ => True) rfl (by kernel_rfl) (by kernel_rfl) (by kernel_rfl) rfl rfl rfl trivial (fun w _ => ((x_indexAddr (s := p0) rfl rfl rfl ES_23 q9 r9).trans (by rw [hp9]))) ?_
      refine wpD_all (rs := [13]) (by kernel_rfl) (by simp) (allD_cons ?_ allD_nil)
      obtain ⟨q10, h⟩ := h
      obtain ⟨w3, hw10⟩ : ∃ u, u = setAll w2 p9 [(Value.int .i64 x6)] 0 := ⟨_, rfl⟩
      replace h := h w3 hw10
      refine stepD_skpL (L' := [(10, fun _ => True), (9, fun _ => True), (8, fun _ => True), (3, fun _ => True), (2, fun _ => True)]) (w' := w3) rfl rfl rfl ((x_store (v := (Value.int .i64 x6)) rfl rfl rfl SZ_3 (ones (by rfl)) q10).trans (by rw [hw10]; rfl)) (by kernel_rfl) (held_cons trivial (held_cons trivial (held_cons trivial (held_cons trivial (held_cons trivial held_nil))))) ?_
      obtain ⟨q11, z11, r11, h⟩ := h
      generalize hp11 : z11.add ((l1.2).toNat * 1) = p11 at h
      refine wpD_take (v := (Value.pointer (some p11))) 14 (fun _ => True) rfl (by kernel_rfl) (by kernel_rfl) (by kernel_rfl) rfl rfl rfl trivial (fun w _ => ((x_indexAddr (s := p0) rfl rfl rfl ES_23 q11 r11).trans (by rw [hp11]))) ?_
      refine wpD_all (rs := [15]) (by kernel_rfl) (by simp) (allD_cons ?_ allD_nil)
      obtain ⟨q12, h⟩ := h
      obtain ⟨w4, hw12⟩ : ∃ u, u = setAll w3 p11 [(Value.int .i64 x8)] 0 := ⟨_, rfl⟩
      replace h := h w4 hw12
      refine stepD_skpL (L' := []) (w' := w4) rfl rfl rfl ((x_store (v := (Value.int .i64 x8)) rfl rfl rfl SZ_3 (ones (by rfl)) q12).trans (by rw [hw12]; rfl)) (by kernel_rfl) held_nil ?_
      exact wpD_done (by kernel_rfl) ⟨(), ⟨e0, e2, e3, trivial⟩, h⟩
    clear h
    rintro l13 ρ w5 ⟨e0, e2, e3, -⟩ h
    replace h := hk l13 w5 h
    clear hk
    refine wpC_region ?_
    refine wpR_val (v := (Value.int .i64 l1.1)) (w' := w5) rfl rfl rfl (x_move (v := (Value.int .i64 l1.1)) rfl e2) ?_
    refine wpR_val (v := (Value.int .i64 (IntKind.i64.wrap (l1.1 + 1)))) (w' := w5) rfl rfl rfl (x_add rfl rfl rfl) ?_
    refine wpR_val (v := (Value.int .i64 l1.2)) (w' := w5) rfl rfl rfl (x_move (v := (Value.int .i64 l1.2)) rfl e3) ?_
    refine wpR_val (v := (Value.int .i64 (IntKind.i64.wrap (l1.2 - 1)))) (w' := w5) rfl rfl rfl (x_sub rfl rfl rfl) ?_
    refine wpR_val (v := (Value.int .i64 (IntKind.i64.wrap (l1.1 + 1)))) (w' := w5) rfl rfl rfl (x_assign (v := (Value.int .i64 (IntKind.i64.wrap (l1.1 + 1)))) rfl rfl) ?_
    refine wpR_val (v := (Value.int .i64 (IntKind.i64.wrap (l1.2 - 1)))) (w' := w5) rfl rfl rfl (x_assign (v := (Value.int .i64 (IntKind.i64.wrap (l1.2 - 1)))) rfl rfl) ?_
    refine wpR_nil ?_
    exact ⟨(IntKind.i64.wrap (l1.1 + 1), IntKind.i64.wrap (l1.2 - 1)), ⟨rfl, rfl, e0, trivial⟩, h⟩
  · replace h := h.2 hc2
    refine wpC_exit ?_
    exact ⟨.inr rfl, fun a ha => ⟨_, results_rep0 rfl ha , (), rfl, h⟩⟩


end Go.Proofs.Ytjmjackeeiglmaa
