import Derived.Test.YtdcbmadmcmjopaaRows
import Derived.Test.YtdcbmadmcmjopaaFs1
import Derived.Test.YtdcbmadmcmjopaaDecRaw
namespace Go.Proofs.Ytdcbmadmcmjopaa
open Go.Dec
set_option maxHeartbeats 400000
set_option maxRecDepth 100000

/-- share.valid -/
def F19 (p0 : Sl) (p1 : Int) (w0 : World) (K : Int → World → Prop) : Prop :=
  cnd ((decide (p1 < 1)) || (decide (20 < p1)))
    (
    K 1 w0
    )
    (
    rn Try.prog (Instr.makeMap 49 none) (fun (r : (Option Nat)) => (Value.map r)) w0 fun r12 w1 =>
    lp (fun (next13 : (Bool × Int) → World → Prop) l13 w2 =>
      cnd (decide (l13.2 < (p0.len : Int)))
        (
        ix p0 l13.2 2 fun p15 =>
        ld (Value.int .i64) (p15.add 0) w2 fun x16 =>
        ld (Value.int .i64) (p15.add 1) w2 fun x17 =>
        nw 39 #[(Value.int .i64 0), (Value.int .i64 0)] w2 fun b18 w3 =>
        st (Addr.mk b18 0 none) [(Value.int .i64 x16), (Value.int .i64 x17)] w3 fun w4 =>
        ld (Value.int .i64) ((Addr.mk b18 0 none).add 0) w4 fun x20 =>
        jp (fun J21 => cnd (decide (x20 < 1))
          (
          J21 true
          )
          (
          ld (Value.int .i64) ((Addr.mk b18 0 none).add 0) w4 fun x23 =>
          J21 (decide (20 < x23))
          ))
        fun c24 =>
        jn (fun J25 => cnd (c24)
          (
          J25 true w4
          )
          (
          ld (Value.int .i64) ((Addr.mk b18 0 none).add 1) w4 fun x27 =>
          callC Try.prog 18 #[(Value.int .i64 x27)] (fun (r : Bool) => (Value.bool r)) w4 fun r28 w5 =>
          J25 (!r28) w5
          ))
        fun c29 w6 =>
        cnd (c29)
          (
          K 1 w6
          )
          (
          jn (fun J31 => cnd (l13.1)
            (
            J31 true w6
            )
            (
            ld (Value.int .i64) ((Addr.mk b18 0 none).add 0) w6 fun x33 =>
            rn Try.prog (Instr.lookup 49 (Value.map r12) (Value.int .i64 x33) false) (fun (r : Bool) => (Value.bool r)) w6 fun r34 w7 =>
            J31 r34 w7
            ))
          fun c35 w8 =>
          ld (Value.int .i64) ((Addr.mk b18 0 none).add 0) w8 fun x36 =>
          rn0 Try.prog (Instr.mapUpdate 49 (Value.map r12) (Value.int .i64 x36) (Value.bool true)) w8 fun w9 =>
          next13 (c35, IntKind.i64.wrap (l13.2 + 1)) w9
          )
        )
        (
        cnd (l13.1)
          (
          K 5 w2
          )
          (
          K 0 w2
          )
        )
    ) (false, 0) w1
    )
set_option maxRecDepth 100000 in
theorem D19 (p0 : Sl) (p1 : Int) (w0 : World) (K : Int → World → Prop) (h : F19 p0 p1 w0 K) : callC Try.prog 19 #[(Sl.v p0), (Value.int .i64 p1)] (fun (r : Int) => (Value.int .i64 r)) w0 K := by
  unfold F19 at h
  refine calls_of_wpC Try.func19 rfl 48 rfl (by simp) ?_
  intro ρ hρ
  have e0 : ρ 0 = (Sl.v p0) := hρ 0
  have e1 : ρ 1 = (Value.int .i64 p1) := hρ 1
  clear hρ
  refine wpC_seq ?_
  refine wpC_region ?_
  refine wpR_val (v := (Value.int .i64 0)) (w' := w0) rfl rfl rfl (x_assign (v := (Value.int .i64 0)) rfl rfl) ?_
  refine wpR_nil ?_
  refine wpC_seq ?_
  refine wpC_seq ?_
  refine wpC_cut (fun ρ => ρ 0 = (Sl.v p0) ∧ ρ 1 = (Value.int .i64 p1) ∧ True) ⟨e0, e1, trivial⟩ ?_
  rintro ρ ⟨e0, e1, -⟩
  refine wpC_region ?_
  refine wpR_val (v := (Value.int .i64 p1)) (w' := w0) rfl rfl rfl (x_move (v := (Value.int .i64 p1)) rfl e1) ?_
  refine wpR_val (v := (Value.bool (decide (p1 < 1)))) (w' := w0) rfl rfl rfl (x_lss rfl rfl rfl) ?_
  refine wpR_val (v := (Value.bool (decide (p1 < 1)))) (w' := w0) rfl rfl rfl (x_move (v := (Value.bool (decide (p1 < 1)))) rfl rfl) ?_
  refine wpR_joinJ 3 (fun (_ : Unit) ρ => ρ 14 = Value.bool ((decide (p1 < 1)) || (decide (20 < p1))) ∧ ρ 0 = (Sl.v p0) ∧ True) (fun _ w => w0 = w) ?_ ?_
  · clear h
    rcases Bool.eq_false_or_eq_true (decide (p1 < 1)) with hc10 | hc10
    · skip
      refine wpR_pass (wantN rfl rfl rfl hc10) rfl rfl ?_
      refine wpR_pass (wantN rfl rfl rfl hc10) rfl rfl ?_
      refine wpR_val (v := (Value.bool true)) (w' := w0) rfl rfl rfl (x_pickT (v := (Value.bool true)) rfl rfl hc10 rfl) ?_
      refine wpR_nil ?_
      exact ⟨(), ⟨(by rw [hc10]; rfl), e0, trivial⟩, rfl⟩
    · skip
      refine wpR_val (v := (Value.int .i64 p1)) (w' := w0) (wantG rfl rfl rfl hc10) rfl rfl (x_move (v := (Value.int .i64 p1)) rfl e1) ?_
      refine wpR_val (v := (Value.bool (decide (20 < p1)))) (w' := w0) (wantG rfl rfl rfl hc10) rfl rfl (x_gtr rfl rfl rfl) ?_
      refine wpR_val (v := (Value.bool (decide (20 < p1)))) (w' := w0) rfl rfl rfl (x_pickF (v := (Value.bool (decide (20 < p1)))) rfl rfl hc10 rfl) ?_
      refine wpR_nil ?_
      exact ⟨(), ⟨(by rw [hc10]; rfl), e0, trivial⟩, rfl⟩
  rintro _ ρ wj ⟨e14, e0, -⟩ rfl
  refine wpR_nil ?_
  refine wpC_cond (b := (decide (p1 < 1)) || (decide (20 < p1))) e14 (fun hc11 => ?_) (fun hc11 => ?_)
  · replace h := h.1 hc11
    refine wpC_seq ?_
    refine wpC_region ?_
    refine wpR_val (v := (Value.int .i64 1)) (w' := w0) rfl rfl rfl (x_assign (v := (Value.int .i64 1)) rfl rfl) ?_
    refine wpR_nil ?_
    refine wpC_ret ?_
    exact ⟨.inl rfl, fun a ha => ⟨_, results_rep1 rfl ha rfl, 1, rfl, h⟩⟩
  · replace h := h.2 hc11
    refine wpC_skip ?_
    refine wpC_seq ?_
    refine wpC_region ?_
    obtain ⟨r12, w1, q12, h⟩ := h
    refine wpR_val (v := (Value.map r12)) (w' := w1) rfl rfl rfl (x_makeMap rfl rfl q12) ?_
    refine wpR_val (v := (Value.map r12)) (w' := w1) rfl rfl rfl (x_assign (v := (Value.map r12)) rfl rfl) ?_
    refine wpR_nil ?_
    refine wpC_seq ?_
    refine wpC_cut (fun ρ => ρ 0 = (Sl.v p0) ∧ ρ 5 = (Value.map r12) ∧ True) ⟨e0, rfl, trivial⟩ ?_
    rintro ρ ⟨e0, e5, -⟩
    refine wpC_region ?_
    refine wpR_val (v := (Value.bool false)) (w' := w1) rfl rfl rfl (x_assign (v := (Value.bool false)) rfl rfl) ?_
    refine wpR_nil ?_
    refine wpC_seq ?_
    refine wpC_seq ?_
    refine wpC_cut (fun ρ => ρ 0 = (Sl.v p0) ∧ ρ 5 = (Value.map r12) ∧ ρ 6 = (Value.bool false) ∧ True) ⟨e0, e5, rfl, trivial⟩ ?_
    rintro ρ ⟨e0, e5, e6, -⟩
    refine wpC_region ?_
    refine wpR_val (v := (Sl.v p0)) (w' := w1) rfl rfl rfl (x_move (v := (Sl.v p0)) rfl e0) ?_
    refine wpR_val (v := (Value.int .i64 (p0.len : Int))) (w' := w1) rfl rfl rfl (x_lenS (s := p0) rfl rfl isSliceT_22) ?_
    refine wpR_val (v := (Value.int .i64 0)) (w' := w1) rfl rfl rfl (x_move (v := (Value.int .i64 0)) rfl rfl) ?_
    refine wpR_nil ?_
    refine wpC_block ?_
    obtain ⟨I13, μ13, hI13, hr13⟩ := h
    refine wpC_loop (fun (x : Bool × Int) ρ => ρ 6 = (Value.bool x.1) ∧ ρ 18 = (Value.int .i64 x.2) ∧ ρ 5 = (Value.map r12) ∧ ρ 16 = (Sl.v p0) ∧ ρ 17 = (Value.int .i64 (p0.len : Int)) ∧ True) I13 μ13 (false, 0) ⟨e6, rfl, e5, rfl, rfl, trivial⟩ hI13 ?_
    rintro l13 ρ w2 ⟨e6, e18, e5, e16, e17, -⟩ h
    replace h := hr13 l13 w2 h
    clear hr13 hI13
    refine wpC_seq ?_
    refine wpC_region ?_
    refine wpR_val (v := (Value.bool (decide (l13.2 < (p0.len : Int))))) (w' := w2) rfl rfl rfl (x_lss rfl e18 e17) ?_
    refine wpR_nil ?_
    refine wpC_seq ?_
    refine wpC_cond (b := decide (l13.2 < (p0.len : Int))) rfl (fun hc14 => ?_) (fun hc14 => ?_)
    · replace h := h.1 hc14
      refine wpC_skip ?_
      refine wpC_seq ?_
      refine wpC_block ?_
      refine wpC_seq ?_
      refine wpC_cut (fun ρ => ρ 5 = (Value.map r12) ∧ ρ 6 = (Value.bool l13.1) ∧ ρ 16 = (Sl.v p0) ∧ ρ 17 = (Value.int .i64 (p0.len : Int)) ∧ ρ 18 = (Value.int .i64 l13.2) ∧ True) ⟨e5, e6, e16, e17, e18, trivial⟩ ?_
      rintro ρ ⟨e5, e6, e16, e17, e18, -⟩
      refine wpC_region ?_
      obtain ⟨q15, z15, r15, h⟩ := h
      generalize hp15 : z15.add ((l13.2 : Int).toNat * 2) = p15 at h
      refine wpR_val (v := (Value.pointer (some p15))) (w' := w2) rfl rfl rfl ((x_indexAddr (s := p0) rfl e16 e18 ES_22 q15 r15).trans (by rw [hp15])) ?_
      obtain ⟨x16, q16, x17, q17, h⟩ := h
      refine wpR_val (v := (Value.agg #[(Value.int .i64 x16), (Value.int .i64 x17)])) (w' := w2) rfl rfl rfl (x_loadN [(Value.int .i64 x16), (Value.int .i64 x17)] rfl rfl SH_39 (CellsAt.out (CellsAt.cons q16 (CellsAt.cons q17 CellsAt.nil)))) ?_
      obtain ⟨b18, hb18⟩ : ∃ u, u = w2.heap.size := ⟨_, rfl⟩
      obtain ⟨w3, hw18⟩ : ∃ u, u = w2.alloc (.cells #[(Value.int .i64 0), (Value.int .i64 0)] 39) := ⟨_, rfl⟩
      replace h := h b18 w3 hb18 hw18
      refine wpR_val (v := (Value.pointer (some (Addr.mk b18 0 none)))) (w' := w3) rfl rfl rfl ((x_alloc rfl ZV_39).trans (by rw [hb18, hw18]; rfl)) ?_
      obtain ⟨q19, h⟩ := h
      obtain ⟨w4, hw19⟩ : ∃ u, u = setAll w3 (Addr.mk b18 0 none) [(Value.int .i64 x16), (Value.int .i64 x17)] 0 := ⟨_, rfl⟩
      replace h := h w4 hw19
      refine wpR_skp (w' := w4) rfl rfl ((x_store (v := (Value.agg #[(Value.int .i64 x16), (Value.int .i64 x17)])) rfl rfl rfl SZ_39 (ones (by rfl)) q19).trans (by rw [hw19]; rfl)) ?_
      refine wpR_nil ?_
      refine wpC_seq ?_
      refine wpC_seq ?_
      refine wpC_cut (fun ρ => ρ 5 = (Value.map r12) ∧ ρ 6 = (Value.bool l13.1) ∧ ρ 8 = (Value.pointer (some (Addr.mk b18 0 none))) ∧ ρ 16 = (Sl.v p0) ∧ ρ 17 = (Value.int .i64 (p0.len : Int)) ∧ ρ 18 = (Value.int .i64 l13.2) ∧ True) ⟨e5, e6, rfl, e16, e17, e18, trivial⟩ ?_
      rintro ρ ⟨e5, e6, e8, e16, e17, e18, -⟩
      refine wpC_region ?_
      refine wpR_val (v := (Value.pointer (some ((Addr.mk b18 0 none).add 0)))) (w' := w4) rfl rfl rfl (x_fieldAddr rfl e8 FA_39_0) ?_
      obtain ⟨x20, q20, h⟩ := h
      refine wpR_val (v := (Value.int .i64 x20)) (w' := w4) rfl rfl rfl (x_load1 rfl rfl SH_3 q20) ?_
      refine wpR_val (v := (Value.bool (decide (x20 < 1)))) (w' := w4) rfl rfl rfl (x_lss rfl rfl rfl) ?_
      refine wpR_val (v := (Value.bool (decide (x20 < 1)))) (w' := w4) rfl rfl rfl (x_move (v := (Value.bool (decide (x20 < 1)))) rfl rfl) ?_
      obtain ⟨J21, h, hk⟩ := h
      refine wpR_joinJ 4 (fun x ρ => ρ 29 = Value.bool x ∧ ρ 5 = (Value.map r12) ∧ ρ 6 = (Value.bool l13.1) ∧ ρ 8 = (Value.pointer (some (Addr.mk b18 0 none))) ∧ ρ 16 = (Sl.v p0) ∧ ρ 17 = (Value.int .i64 (p0.len : Int)) ∧ ρ 18 = (Value.int .i64 l13.2) ∧ True) (fun x w => J21 x ∧ w4 = w) ?_ ?_
      · clear hk
        rcases Bool.eq_false_or_eq_true (decide (x20 < 1)) with hc22 | hc22
        · replace h := h.1 hc22
          refine wpR_pass (wantN rfl rfl rfl hc22) rfl rfl ?_
          refine wpR_pass (wantN rfl rfl rfl hc22) rfl rfl ?_
          refine wpR_pass (wantN rfl rfl rfl hc22) rfl rfl ?_
          refine wpR_val (v := (Value.bool true)) (w' := w4) rfl rfl rfl (x_pickT (v := (Value.bool true)) rfl rfl hc22 rfl) ?_
          refine wpR_nil ?_
          exact ⟨true, ⟨rfl, e5, e6, e8, e16, e17, e18, trivial⟩, h, rfl⟩
        · replace h := h.2 hc22
          refine wpR_val (v := (Value.pointer (some ((Addr.mk b18 0 none).add 0)))) (w' := w4) (wantG rfl rfl rfl hc22) rfl rfl (x_fieldAddr rfl e8 FA_39_0) ?_
          obtain ⟨x23, q23, h⟩ := h
          refine wpR_val (v := (Value.int .i64 x23)) (w' := w4) (wantG rfl rfl rfl hc22) rfl rfl (x_load1 rfl rfl SH_3 q23) ?_
          refine wpR_val (v := (Value.bool (decide (20 < x23)))) (w' := w4) (wantG rfl rfl rfl hc22) rfl rfl (x_gtr rfl rfl rfl) ?_
          refine wpR_val (v := (Value.bool (decide (20 < x23)))) (w' := w4) rfl rfl rfl (x_pickF (v := (Value.bool (decide (20 < x23)))) rfl rfl hc22 rfl) ?_
          refine wpR_nil ?_
          exact ⟨decide (20 < x23), ⟨rfl, e5, e6, e8, e16, e17, e18, trivial⟩, h, rfl⟩
      clear h
      rintro c24 ρ wj ⟨e29, e5, e6, e8, e16, e17, e18, -⟩ ⟨h, rfl⟩
      replace h := hk c24 h
      clear hk
      refine wpR_val (v := (Value.bool c24)) (w' := w4) rfl rfl rfl (x_move (v := (Value.bool c24)) rfl e29) ?_
      obtain ⟨J25, h, hk⟩ := h
      refine wpR_joinJ 5 (fun x ρ => ρ 35 = Value.bool x ∧ ρ 5 = (Value.map r12) ∧ ρ 6 = (Value.bool l13.1) ∧ ρ 8 = (Value.pointer (some (Addr.mk b18 0 none))) ∧ ρ 16 = (Sl.v p0) ∧ ρ 17 = (Value.int .i64 (p0.len : Int)) ∧ ρ 18 = (Value.int .i64 l13.2) ∧ True) (J25) ?_ ?_
      · clear hk
        rcases Bool.eq_false_or_eq_true (c24) with hc26 | hc26
        · replace h := h.1 hc26
          refine wpR_pass (wantN rfl rfl rfl hc26) rfl rfl ?_
          refine wpR_pass (wantN rfl rfl rfl hc26) rfl rfl ?_
          refine wpR_pass (wantN rfl rfl rfl hc26) rfl rfl ?_
          refine wpR_pass (wantN rfl rfl rfl hc26) rfl rfl ?_
          refine wpR_val (v := (Value.bool true)) (w' := w4) rfl rfl rfl (x_pickT (v := (Value.bool true)) rfl rfl hc26 rfl) ?_
          refine wpR_nil ?_
          exact ⟨true, ⟨rfl, e5, e6, e8, e16, e17, e18, trivial⟩, h⟩
        · replace h := h.2 hc26
          refine wpR_val (v := (Value.pointer (some ((Addr.mk b18 0 none).add 1)))) (w' := w4) (wantG rfl rfl rfl hc26) rfl rfl (x_fieldAddr rfl e8 FA_39_1) ?_
          obtain ⟨x27, q27, h⟩ := h
          refine wpR_val (v := (Value.int .i64 x27)) (w' := w4) (wantG rfl rfl rfl hc26) rfl rfl (x_load1 rfl rfl SH_3 q27) ?_
          refine wpR_enter (wantG rfl rfl rfl hc26) rfl rfl (x_call (vs := [(Value.int .i64 x27)]) rfl rfl (mapl_cons rfl mapl_nil) Try.func18 NN_18 NB_18) (Calls.mono h ?_)
          rintro _ w5 ⟨r28, rfl, h⟩
          refine ⟨_, rfl, ?_⟩
          refine wpR_val (v := (Value.bool (!r28))) (w' := w5) (wantG rfl rfl rfl hc26) rfl rfl (x_not rfl rfl) ?_
          refine wpR_val (v := (Value.bool (!r28))) (w' := w5) rfl rfl rfl (x_pickF (v := (Value.bool (!r28))) rfl rfl hc26 rfl) ?_
          refine wpR_nil ?_
          exact ⟨!r28, ⟨rfl, e5, e6, e8, e16, e17, e18, trivial⟩, h⟩
      clear h
      rintro c29 ρ w6 ⟨e35, e5, e6, e8, e16, e17, e18, -⟩ h
      replace h := hk c29 w6 h
      clear hk
      refine wpR_nil ?_
      refine wpC_cond (b := c29) e35 (fun hc30 => ?_) (fun hc30 => ?_)
      · replace h := h.1 hc30
        refine wpC_seq ?_
        refine wpC_region ?_
        refine wpR_val (v := (Value.int .i64 1)) (w' := w6) rfl rfl rfl (x_assign (v := (Value.int .i64 1)) rfl rfl) ?_
        refine wpR_nil ?_
        refine wpC_ret ?_
        exact ⟨.inl rfl, fun a ha => ⟨_, results_rep1 rfl ha rfl, 1, rfl, h⟩⟩
      · replace h := h.2 hc30
        refine wpC_skip ?_
        refine wpC_seq ?_
        refine wpC_region ?_
        refine wpR_val (v := (Value.bool l13.1)) (w' := w6) rfl rfl rfl (x_move (v := (Value.bool l13.1)) rfl e6) ?_
        refine wpR_val (v := (Value.bool l13.1)) (w' := w6) rfl rfl rfl (x_move (v := (Value.bool l13.1)) rfl rfl) ?_
        obtain ⟨J31, h, hk⟩ := h
        refine wpR_joinJ 5 (fun x ρ => ρ 42 = Value.bool x ∧ ρ 5 = (Value.map r12) ∧ ρ 8 = (Value.pointer (some (Addr.mk b18 0 none))) ∧ ρ 16 = (Sl.v p0) ∧ ρ 17 = (Value.int .i64 (p0.len : Int)) ∧ ρ 18 = (Value.int .i64 l13.2) ∧ True) (J31) ?_ ?_
        · clear hk
          rcases Bool.eq_false_or_eq_true (l13.1) with hc32 | hc32
          · replace h := h.1 hc32
            refine wpR_pass (wantN rfl rfl rfl hc32) rfl rfl ?_
            refine wpR_pass (wantN rfl rfl rfl hc32) rfl rfl ?_
            refine wpR_pass (wantN rfl rfl rfl hc32) rfl rfl ?_
            refine wpR_pass (wantN rfl rfl rfl hc32) rfl rfl ?_
            refine wpR_val (v := (Value.bool true)) (w' := w6) rfl rfl rfl (x_pickT (v := (Value.bool true)) rfl rfl hc32 rfl) ?_
            refine wpR_nil ?_
            exact ⟨true, ⟨rfl, e5, e8, e16, e17, e18, trivial⟩, h⟩
          · replace h := h.2 hc32
            refine wpR_val (v := (Value.map r12)) (w' := w6) (wantG rfl rfl rfl hc32) rfl rfl (x_move (v := (Value.map r12)) rfl e5) ?_
            refine wpR_val (v := (Value.pointer (some ((Addr.mk b18 0 none).add 0)))) (w' := w6) (wantG rfl rfl rfl hc32) rfl rfl (x_fieldAddr rfl e8 FA_39_0) ?_
            obtain ⟨x33, q33, h⟩ := h
            refine wpR_val (v := (Value.int .i64 x33)) (w' := w6) (wantG rfl rfl rfl hc32) rfl rfl (x_load1 rfl rfl SH_3 q33) ?_
            obtain ⟨r34, w7, q34, h⟩ := h
            refine wpR_val (v := (Value.bool r34)) (w' := w7) (wantG rfl rfl rfl hc32) rfl rfl (x_lookup rfl rfl rfl q34) ?_
            refine wpR_val (v := (Value.bool r34)) (w' := w7) rfl rfl rfl (x_pickF (v := (Value.bool r34)) rfl rfl hc32 rfl) ?_
            refine wpR_nil ?_
            exact ⟨r34, ⟨rfl, e5, e8, e16, e17, e18, trivial⟩, h⟩
        clear h
        rintro c35 ρ w8 ⟨e42, e5, e8, e16, e17, e18, -⟩ h
        replace h := hk c35 w8 h
        clear hk
        refine wpR_val (v := (Value.bool c35)) (w' := w8) rfl rfl rfl (x_assign (v := (Value.bool c35)) rfl e42) ?_
        refine wpR_nil ?_
        refine wpC_cut (fun ρ => ρ 5 = (Value.map r12) ∧ ρ 6 = (Value.bool c35) ∧ ρ 8 = (Value.pointer (some (Addr.mk b18 0 none))) ∧ ρ 16 = (Sl.v p0) ∧ ρ 17 = (Value.int .i64 (p0.len : Int)) ∧ ρ 18 = (Value.int .i64 l13.2) ∧ True) ⟨e5, rfl, e8, e16, e17, e18, trivial⟩ ?_
        rintro ρ ⟨e5, e6, e8, e16, e17, e18, -⟩
        refine wpC_region ?_
        refine wpR_val (v := (Value.map r12)) (w' := w8) rfl rfl rfl (x_move (v := (Value.map r12)) rfl e5) ?_
        refine wpR_val (v := (Value.pointer (some ((Addr.mk b18 0 none).add 0)))) (w' := w8) rfl rfl rfl (x_fieldAddr rfl e8 FA_39_0) ?_
        obtain ⟨x36, q36, h⟩ := h
        refine wpR_val (v := (Value.int .i64 x36)) (w' := w8) rfl rfl rfl (x_load1 rfl rfl SH_3 q36) ?_
        obtain ⟨w9, q37, h⟩ := h
        refine wpR_skp (w' := w9) rfl rfl (x_mapUpdate rfl rfl rfl rfl q37) ?_
        refine wpR_nil ?_
        refine wpC_cut (fun ρ => ρ 5 = (Value.map r12) ∧ ρ 6 = (Value.bool c35) ∧ ρ 16 = (Sl.v p0) ∧ ρ 17 = (Value.int .i64 (p0.len : Int)) ∧ ρ 18 = (Value.int .i64 l13.2) ∧ True) ⟨e5, e6, e16, e17, e18, trivial⟩ ?_
        rintro ρ ⟨e5, e6, e16, e17, e18, -⟩
        refine wpC_region ?_
        refine wpR_val (v := (Value.int .i64 (IntKind.i64.wrap (l13.2 + 1)))) (w' := w9) rfl rfl rfl (x_add rfl e18 rfl) ?_
        refine wpR_val (v := (Value.int .i64 (IntKind.i64.wrap (l13.2 + 1)))) (w' := w9) rfl rfl rfl (x_move (v := (Value.int .i64 (IntKind.i64.wrap (l13.2 + 1)))) rfl rfl) ?_
        refine wpR_nil ?_
        exact ⟨(c35, IntKind.i64.wrap (l13.2 + 1)), ⟨e6, rfl, e5, e16, e17, trivial⟩, h⟩
    · replace h := h.2 hc14
      refine wpC_exit ?_
      refine wpC_seq ?_
      refine wpC_seq ?_
      refine wpC_cut (fun ρ => ρ 6 = (Value.bool l13.1) ∧ True) ⟨e6, trivial⟩ ?_
      rintro ρ ⟨e6, -⟩
      refine wpC_region ?_
      refine wpR_val (v := (Value.bool l13.1)) (w' := w2) rfl rfl rfl (x_move (v := (Value.bool l13.1)) rfl e6) ?_
      refine wpR_nil ?_
      refine wpC_cond (b := l13.1) rfl (fun hc38 => ?_) (fun hc38 => ?_)
      · replace h := h.1 hc38
        refine wpC_seq ?_
        refine wpC_cut (fun ρ => True) trivial ?_
        rintro ρ -
        refine wpC_region ?_
        refine wpR_val (v := (Value.int .i64 5)) (w' := w2) rfl rfl rfl (x_assign (v := (Value.int .i64 5)) rfl rfl) ?_
        refine wpR_nil ?_
        refine wpC_ret ?_
        exact ⟨.inl rfl, fun a ha => ⟨_, results_rep1 rfl ha rfl, 5, rfl, h⟩⟩
      · replace h := h.2 hc38
        refine wpC_skip ?_
        refine wpC_seq ?_
        refine wpC_cut (fun ρ => True) trivial ?_
        rintro ρ -
        refine wpC_region ?_
        refine wpR_val (v := (Value.int .i64 0)) (w' := w2) rfl rfl rfl (x_assign (v := (Value.int .i64 0)) rfl rfl) ?_
        refine wpR_nil ?_
        refine wpC_ret ?_
        exact ⟨.inl rfl, fun a ha => ⟨_, results_rep1 rfl ha rfl, 0, rfl, h⟩⟩

/-- share.agree -/
def F20 (p0 : Sl) (p1 : Int) (w0 : World) (K : Bool → World → Prop) : Prop :=
  lp (fun (next9 : Int → World → Prop) l9 w1 =>
    cnd (decide (l9 < (p0.len : Int)))
      (
      jn (fun (J12 : Bool → World → Prop) => tk w1 fun w2 =>
        ix p0 l9 2 fun p13 =>
        ld (Value.int .i64) (p13.add 0) w2 fun x14 =>
        ix p0 l9 2 fun p15 =>
        ld (Value.int .i64) (p15.add 1) w2 fun x16 =>
        rn Try.prog (Instr.sliceAt 22 (Sl.v p0) none (some (Value.int .i64 p1)) none) (fun (r : Sl) => (Sl.v r)) w2 fun r17 w3 =>
        (w3.cell? (p15.add 1) = some (Value.int .i64 x16)) ∧
        (w3.cell? (p13.add 0) = some (Value.int .i64 x14)) ∧
        callC Try.prog 21 #[(Sl.v r17), (Value.int .i64 x14)] (fun (r : Int) => (Value.int .i64 r)) w3 fun r18 w4 =>
        (w4.cell? (p15.add 1) = some (Value.int .i64 x16)) ∧
        J12 (!decide (r18 = x16)) w4
      )
      fun l19 w5 =>
      cnd (l19)
        (
        K false w5
        )
        (
        next9 (IntKind.i64.wrap (l9 + 1)) w5
        )
      )
      (
      K true w1
      )
  ) p1 w0
set_option maxRecDepth 100000 in
theorem D20 (p0 : Sl) (p1 : Int) (w0 : World) (K : Bool → World → Prop) (h : F20 p0 p1 w0 K) : callC Try.prog 20 #[(Sl.v p0), (Value.int .i64 p1)] (fun (r : Bool) => (Value.bool r)) w0 K := by
  unfold F20 at h
  refine calls_of_wpC Try.func20 rfl 28 rfl (by simp) ?_
  intro ρ hρ
  have e0 : ρ 0 = (Sl.v p0) := hρ 0
  have e1 : ρ 1 = (Value.int .i64 p1) := hρ 1
  clear hρ
  refine wpC_seq ?_
  refine wpC_region ?_
  refine wpR_val (v := (Value.bool false)) (w' := w0) rfl rfl rfl (x_assign (v := (Value.bool false)) rfl rfl) ?_
  refine wpR_nil ?_
  refine wpC_seq ?_
  refine wpC_seq ?_
  refine wpC_cut (fun ρ => ρ 0 = (Sl.v p0) ∧ ρ 1 = (Value.int .i64 p1) ∧ True) ⟨e0, e1, trivial⟩ ?_
  rintro ρ ⟨e0, e1, -⟩
  refine wpC_region ?_
  refine wpR_val (v := (Value.int .i64 p1)) (w' := w0) rfl rfl rfl (x_move (v := (Value.int .i64 p1)) rfl e1) ?_
  refine wpR_val (v := (Value.int .i64 p1)) (w' := w0) rfl rfl rfl (x_assign (v := (Value.int .i64 p1)) rfl rfl) ?_
  refine wpR_nil ?_
  refine wpC_block ?_
  obtain ⟨I9, μ9, hI9, hr9⟩ := h
  refine wpC_loop (fun (x : Int) ρ => ρ 5 = (Value.int .i64 x) ∧ ρ 0 = (Sl.v p0) ∧ ρ 1 = (Value.int .i64 p1) ∧ True) I9 μ9 p1 ⟨rfl, e0, e1, trivial⟩ hI9 ?_
  rintro l9 ρ w1 ⟨e5, e0, e1, -⟩ h
  replace h := hr9 l9 w1 h
  clear hr9 hI9
  refine wpC_seq ?_
  refine wpC_seq ?_
  refine wpC_region ?_
  refine wpR_val (v := (Value.int .i64 l9)) (w' := w1) rfl rfl rfl (x_move (v := (Value.int .i64 l9)) rfl e5) ?_
  refine wpR_val (v := (Sl.v p0)) (w' := w1) rfl rfl rfl (x_move (v := (Sl.v p0)) rfl e0) ?_
  refine wpR_val (v := (Value.int .i64 (p0.len : Int))) (w' := w1) rfl rfl rfl (x_lenS (s := p0) rfl rfl isSliceT_22) ?_
  refine wpR_val (v := (Value.bool (decide (l9 < (p0.len : Int))))) (w' := w1) rfl rfl rfl (x_lss rfl rfl rfl) ?_
  refine wpR_nil ?_
  refine wpC_cond (b := decide (l9 < (p0.len : Int))) rfl (fun hc10 => ?_) (fun hc10 => ?_)
  · replace h := h.1 hc10
    refine wpC_skip ?_
    refine wpC_seq ?_
    refine wpC_block ?_
    refine wpC_seq ?_
    refine wpC_cut (fun ρ => ρ 0 = (Sl.v p0) ∧ ρ 1 = (Value.int .i64 p1) ∧ ρ 5 = (Value.int .i64 l9) ∧ True) ⟨e0, e1, e5, trivial⟩ ?_
    rintro ρ ⟨e0, e1, e5, -⟩
    obtain ⟨J12, h, hk⟩ := h
    refine wpC_drawJ (by kernel_rfl) (fun (x : Bool) ρ => ρ 27 = (Value.bool x) ∧ ρ 0 = (Sl.v p0) ∧ ρ 1 = (Value.int .i64 p1) ∧ ρ 5 = (Value.int .i64 l9) ∧ True) J12 ?_ ?_
    · clear hk
      unfold tk at h
      generalize w1.drew = w2 at h ⊢
      refine wpD_take (v := (Sl.v p0)) 0 (fun _ => True) rfl (by kernel_rfl) (by kernel_rfl) (by kernel_rfl) rfl rfl rfl trivial (fun w _ => (x_move (v := (Sl.v p0)) rfl e0)) ?_
      refine wpD_take (v := (Value.int .i64 p1)) 1 (fun _ => True) rfl (by kernel_rfl) (by kernel_rfl) (by kernel_rfl) rfl rfl rfl trivial (fun w _ => (x_move (v := (Value.int .i64 p1)) rfl e1)) ?_
      refine wpD_take (v := (Sl.v p0)) 3 (fun _ => True) rfl (by kernel_rfl) (by kernel_rfl) (by kernel_rfl) rfl rfl rfl trivial (fun w _ => (x_move (v := (Sl.v p0)) rfl e0)) ?_
      refine wpD_take (v := (Value.int .i64 l9)) 4 (fun _ => True) rfl (by kernel_rfl) (by kernel_rfl) (by kernel_rfl) rfl rfl rfl trivial (fun w _ => (x_move (v := (Value.int .i64 l9)) rfl e5)) ?_
      obtain ⟨q13, z13, r13, h⟩ := h
      generalize hp13 : z13.add ((l9 : Int).toNat * 2) = p13 at h
      refine wpD_take (v := (Value.pointer (some p13))) 5 (fun _ => True) rfl (by kernel_rfl) (by kernel_rfl) (by kernel_rfl) rfl rfl rfl trivial (fun w _ => ((x_indexAddr (s := p0) rfl rfl rfl ES_22 q13 r13).trans (by rw [hp13]))) ?_
      refine wpD_take (v := (Value.pointer (some (p13.add 0)))) 6 (fun _ => True) rfl (by kernel_rfl) (by kernel_rfl) (by kernel_rfl) rfl rfl rfl trivial (fun w _ => (x_fieldAddr rfl rfl FA_39_0)) ?_
      obtain ⟨x14, q14, h⟩ := h
      refine wpD_take (v := (Value.int .i64 x14)) 7 (fun w => w.cell? (p13.add 0) = some (Value.int .i64 x14)) rfl (by kernel_rfl) (by kernel_rfl) (by kernel_rfl) rfl rfl rfl q14 (fun w q14 => (x_load1 rfl rfl SH_3 q14)) ?_
      refine wpD_take (v := (Sl.v p0)) 9 (fun _ => True) rfl (by kernel_rfl) (by kernel_rfl) (by kernel_rfl) rfl rfl rfl trivial (fun w _ => (x_move (v := (Sl.v p0)) rfl e0)) ?_
      refine wpD_take (v := (Value.int .i64 l9)) 10 (fun _ => True) rfl (by kernel_rfl) (by kernel_rfl) (by kernel_rfl) rfl rfl rfl trivial (fun w _ => (x_move (v := (Value.int .i64 l9)) rfl e5)) ?_
      obtain ⟨q15, z15, r15, h⟩ := h
      generalize hp15 : z15.add ((l9 : Int).toNat * 2) = p15 at h
      refine wpD_take (v := (Value.pointer (some p15))) 11 (fun _ => True) rfl (by kernel_rfl) (by kernel_rfl) (by kernel_rfl) rfl rfl rfl trivial (fun w _ => ((x_indexAddr (s := p0) rfl rfl rfl ES_22 q15 r15).trans (by rw [hp15]))) ?_
      refine wpD_take (v := (Value.pointer (some (p15.add 1)))) 12 (fun _ => True) rfl (by kernel_rfl) (by kernel_rfl) (by kernel_rfl) rfl rfl rfl trivial (fun w _ => (x_fieldAddr rfl rfl FA_39_1)) ?_
      obtain ⟨x16, q16, h⟩ := h
      refine wpD_take (v := (Value.int .i64 x16)) 13 (fun w => w.cell? (p15.add 1) = some (Value.int .i64 x16)) rfl (by kernel_rfl) (by kernel_rfl) (by kernel_rfl) rfl rfl rfl q16 (fun w q16 => (x_load1 rfl rfl SH_3 q16)) ?_
      refine wpD_all (rs := [2]) (by kernel_rfl) (by simp) (allD_cons ?_ allD_nil)
      obtain ⟨r17, w3, q17, h⟩ := h
      obtain ⟨o13, h⟩ := h
      obtain ⟨o7, h⟩ := h
      refine stepD_valL (L' := [(13, fun w => w.cell? (p15.add 1) = some (Value.int .i64 x16)), (12, fun _ => True), (11, fun _ => True), (10, fun _ => True), (9, fun _ => True), (7, fun w => w.cell? (p13.add 0) = some (Value.int .i64 x14)), (6, fun _ => True), (5, fun _ => True), (4, fun _ => True), (3, fun _ => True)]) (v := (Sl.v r17)) (w' := w3) rfl rfl rfl rfl (x_sliceAt rfl rfl rfl (congrArg some rfl) rfl q17) (by kernel_rfl) (held_cons o13 (held_cons trivial (held_cons trivial (held_cons trivial (held_cons trivial (held_cons o7 (held_cons trivial (held_cons trivial (held_cons trivial (held_cons trivial held_nil)))))))))) ?_
      refine wpD_all (rs := [8]) (by kernel_rfl) (by simp) (allD_cons ?_ allD_nil)
      refine stepD_enterL (L' := [(13, fun w => w.cell? (p15.add 1) = some (Value.int .i64 x16)), (12, fun _ => True), (11, fun _ => True), (10, fun _ => True), (9, fun _ => True), (6, fun _ => True), (5, fun _ => True), (4, fun _ => True), (3, fun _ => True)]) rfl rfl rfl rfl (x_call (vs := [(Sl.v r17), (Value.int .i64 x14)]) rfl rfl (mapl_cons rfl (mapl_cons rfl mapl_nil)) Try.func21 NN_21 NB_21) (by kernel_rfl) (Calls.mono h ?_)
      rintro _ w4 ⟨r18, rfl, h⟩
      obtain ⟨o13, h⟩ := h
      refine ⟨_, rfl, (held_cons o13 (held_cons trivial (held_cons trivial (held_cons trivial (held_cons trivial (held_cons trivial (held_cons trivial (held_cons trivial (held_cons trivial held_nil))))))))), ?_⟩
      refine wpD_take (v := (Value.bool (!decide (r18 = x16)))) 14 (fun _ => True) rfl (by kernel_rfl) (by kernel_rfl) (by kernel_rfl) rfl rfl rfl trivial (fun w _ => (x_neq rfl rfl rfl)) ?_
      exact wpD_done (by kernel_rfl) ⟨!decide (r18 = x16), ⟨rfl, e0, e1, e5, trivial⟩, h⟩
    clear h
    rintro l19 ρ w5 ⟨e27, e0, e1, e5, -⟩ h
    replace h := hk l19 w5 h
    clear hk
    refine wpC_cond (b := l19) e27 (fun hc20 => ?_) (fun hc20 => ?_)
    · replace h := h.1 hc20
      refine wpC_seq ?_
      refine wpC_region ?_
      refine wpR_val (v := (Value.bool false)) (w' := w5) rfl rfl rfl (x_assign (v := (Value.bool false)) rfl rfl) ?_
      refine wpR_nil ?_
      refine wpC_ret ?_
      exact ⟨.inl rfl, fun a ha => ⟨_, results_rep1 rfl ha rfl, false, rfl, h⟩⟩
    · replace h := h.2 hc20
      refine wpC_skip ?_
      refine wpC_region ?_
      refine wpR_val (v := (Value.int .i64 l9)) (w' := w5) rfl rfl rfl (x_move (v := (Value.int .i64 l9)) rfl e5) ?_
      refine wpR_val (v := (Value.int .i64 (IntKind.i64.wrap (l9 + 1)))) (w' := w5) rfl rfl rfl (x_add rfl rfl rfl) ?_
      refine wpR_val (v := (Value.int .i64 (IntKind.i64.wrap (l9 + 1)))) (w' := w5) rfl rfl rfl (x_assign (v := (Value.int .i64 (IntKind.i64.wrap (l9 + 1)))) rfl rfl) ?_
      refine wpR_nil ?_
      exact ⟨IntKind.i64.wrap (l9 + 1), ⟨rfl, e0, e1, trivial⟩, h⟩
  · replace h := h.2 hc10
    refine wpC_exit ?_
    refine wpC_seq ?_
    refine wpC_cut (fun ρ => True) trivial ?_
    rintro ρ -
    refine wpC_region ?_
    refine wpR_val (v := (Value.bool true)) (w' := w1) rfl rfl rfl (x_assign (v := (Value.bool true)) rfl rfl) ?_
    refine wpR_nil ?_
    refine wpC_ret ?_
    exact ⟨.inl rfl, fun a ha => ⟨_, results_rep1 rfl ha rfl, true, rfl, h⟩⟩

/-- share.value -/
def F21 (p0 : Sl) (p1 : Int) (w0 : World) (K : Int → World → Prop) : Prop :=
  lp (fun (next9 : (Int × Int) → World → Prop) l9 w1 =>
    cnd (decide (l9.2 < (p0.len : Int)))
      (
      ix p0 l9.2 2 fun p11 =>
      ld (Value.int .i64) (p11.add 0) w1 fun x12 =>
      ld (Value.int .i64) (p11.add 1) w1 fun x13 =>
      nw 39 #[(Value.int .i64 0), (Value.int .i64 0)] w1 fun b14 w2 =>
      st (Addr.mk b14 0 none) [(Value.int .i64 x12), (Value.int .i64 x13)] w2 fun w3 =>
      ld (Value.int .i64) ((Addr.mk b14 0 none).add 1) w3 fun x16 =>
      lp (fun (next17 : (Int × Int × Int) → World → Prop) l17 w4 =>
        cnd (decide (l17.2.2 < (p0.len : Int)))
          (
          jn (fun (J19 : (Int × Int) → World → Prop) =>
            ix p0 l17.2.2 2 fun p21 =>
            ld (Value.int .i64) (p21.add 0) w4 fun x22 =>
            ld (Value.int .i64) (p21.add 1) w4 fun x23 =>
            nw 39 #[(Value.int .i64 0), (Value.int .i64 0)] w4 fun b24 w6 =>
            st (Addr.mk b24 0 none) [(Value.int .i64 x22), (Value.int .i64 x23)] w6 fun w7 =>
            cnd (decide (l17.2.2 = l9.2))
              (
              J19 (l17.1, l17.2.1) w7
              )
              (
              ld (Value.int .i64) ((Addr.mk b24 0 none).add 0) w7 fun x27 =>
              ld (Value.int .i64) ((Addr.mk b14 0 none).add 0) w7 fun x28 =>
              ld (Value.int .i64) ((Addr.mk b24 0 none).add 0) w7 fun x29 =>
              J19 ((IntKind.i64.wrap (l17.1 * ((IntKind.i64.wrap ((IntKind.i64.wrap (p1 - x27)) + 2147483647)).tmod 2147483647))).tmod 2147483647, (IntKind.i64.wrap (l17.2.1 * ((IntKind.i64.wrap ((IntKind.i64.wrap (x28 - x29)) + 2147483647)).tmod 2147483647))).tmod 2147483647) w7
              )
          )
          fun l20 w5 =>
          next17 (l20.1, l20.2, IntKind.i64.wrap (l17.2.2 + 1)) w5
          )
          (
          callC Try.prog 24 #[(Value.int .i64 l17.2.1), (Value.int .i64 2147483645)] (fun (r : Int) => (Value.int .i64 r)) w4 fun r30 w8 =>
          next9 ((IntKind.i64.wrap (l9.1 + (IntKind.i64.wrap (l17.1 * r30)))).tmod 2147483647, IntKind.i64.wrap (l9.2 + 1)) w8
          )
      ) (x16, 1, 0) w3
      )
      (
      K l9.1 w1
      )
  ) (0, 0) w0
set_option maxRecDepth 100000 in
theorem D21 (p0 : Sl) (p1 : Int) (w0 : World) (K : Int → World → Prop) (h : F21 p0 p1 w0 K) : callC Try.prog 21 #[(Sl.v p0), (Value.int .i64 p1)] (fun (r : Int) => (Value.int .i64 r)) w0 K := by
  unfold F21 at h
  refine calls_of_wpC Try.func21 rfl 60 rfl (by simp) ?_
  intro ρ hρ
  have e0 : ρ 0 = (Sl.v p0) := hρ 0
  have e1 : ρ 1 = (Value.int .i64 p1) := hρ 1
  clear hρ
  refine wpC_seq ?_
  refine wpC_region ?_
  refine wpR_val (v := (Value.int .i64 0)) (w' := w0) rfl rfl rfl (x_assign (v := (Value.int .i64 0)) rfl rfl) ?_
  refine wpR_nil ?_
  refine wpC_seq ?_
  refine wpC_cut (fun ρ => ρ 0 = (Sl.v p0) ∧ ρ 1 = (Value.int .i64 p1) ∧ True) ⟨e0, e1, trivial⟩ ?_
  rintro ρ ⟨e0, e1, -⟩
  refine wpC_region ?_
  refine wpR_val (v := (Value.int .i64 0)) (w' := w0) rfl rfl rfl (x_assign (v := (Value.int .i64 0)) rfl rfl) ?_
  refine wpR_nil ?_
  refine wpC_seq ?_
  refine wpC_seq ?_
  refine wpC_cut (fun ρ => ρ 0 = (Sl.v p0) ∧ ρ 1 = (Value.int .i64 p1) ∧ ρ 5 = (Value.int .i64 0) ∧ True) ⟨e0, e1, rfl, trivial⟩ ?_
  rintro ρ ⟨e0, e1, e5, -⟩
  refine wpC_region ?_
  refine wpR_val (v := (Sl.v p0)) (w' := w0) rfl rfl rfl (x_move (v := (Sl.v p0)) rfl e0) ?_
  refine wpR_val (v := (Value.int .i64 (p0.len : Int))) (w' := w0) rfl rfl rfl (x_lenS (s := p0) rfl rfl isSliceT_22) ?_
  refine wpR_val (v := (Value.int .i64 0)) (w' := w0) rfl rfl rfl (x_move (v := (Value.int .i64 0)) rfl rfl) ?_
  refine wpR_nil ?_
  refine wpC_block ?_
  obtain ⟨I9, μ9, hI9, hr9⟩ := h
  refine wpC_loop (fun (x : Int × Int) ρ => ρ 5 = (Value.int .i64 x.1) ∧ ρ 14 = (Value.int .i64 x.2) ∧ ρ 0 = (Sl.v p0) ∧ ρ 1 = (Value.int .i64 p1) ∧ ρ 12 = (Sl.v p0) ∧ ρ 13 = (Value.int .i64 (p0.len : Int)) ∧ True) I9 μ9 (0, 0) ⟨e5, rfl, e0, e1, rfl, rfl, trivial⟩ hI9 ?_
  rintro l9 ρ w1 ⟨e5, e14, e0, e1, e12, e13, -⟩ h
  replace h := hr9 l9 w1 h
  clear hr9 hI9
  refine wpC_seq ?_
  refine wpC_region ?_
  refine wpR_val (v := (Value.bool (decide (l9.2 < (p0.len : Int))))) (w' := w1) rfl rfl rfl (x_lss rfl e14 e13) ?_
  refine wpR_nil ?_
  refine wpC_seq ?_
  refine wpC_cond (b := decide (l9.2 < (p0.len : Int))) rfl (fun hc10 => ?_) (fun hc10 => ?_)
  · replace h := h.1 hc10
    refine wpC_skip ?_
    refine wpC_seq ?_
    refine wpC_block ?_
    refine wpC_seq ?_
    refine wpC_cut (fun ρ => ρ 0 = (Sl.v p0) ∧ ρ 1 = (Value.int .i64 p1) ∧ ρ 5 = (Value.int .i64 l9.1) ∧ ρ 12 = (Sl.v p0) ∧ ρ 13 = (Value.int .i64 (p0.len : Int)) ∧ ρ 14 = (Value.int .i64 l9.2) ∧ True) ⟨e0, e1, e5, e12, e13, e14, trivial⟩ ?_
    rintro ρ ⟨e0, e1, e5, e12, e13, e14, -⟩
    refine wpC_region ?_
    refine wpR_val (v := (Value.int .i64 l9.2)) (w' := w1) rfl rfl rfl (x_move (v := (Value.int .i64 l9.2)) rfl e14) ?_
    obtain ⟨q11, z11, r11, h⟩ := h
    generalize hp11 : z11.add ((l9.2 : Int).toNat * 2) = p11 at h
    refine wpR_val (v := (Value.pointer (some p11))) (w' := w1) rfl rfl rfl ((x_indexAddr (s := p0) rfl e12 e14 ES_22 q11 r11).trans (by rw [hp11])) ?_
    obtain ⟨x12, q12, x13, q13, h⟩ := h
    refine wpR_val (v := (Value.agg #[(Value.int .i64 x12), (Value.int .i64 x13)])) (w' := w1) rfl rfl rfl (x_loadN [(Value.int .i64 x12), (Value.int .i64 x13)] rfl rfl SH_39 (CellsAt.out (CellsAt.cons q12 (CellsAt.cons q13 CellsAt.nil)))) ?_
    obtain ⟨b14, hb14⟩ : ∃ u, u = w1.heap.size := ⟨_, rfl⟩
    obtain ⟨w2, hw14⟩ : ∃ u, u = w1.alloc (.cells #[(Value.int .i64 0), (Value.int .i64 0)] 39) := ⟨_, rfl⟩
    replace h := h b14 w2 hb14 hw14
    refine wpR_val (v := (Value.pointer (some (Addr.mk b14 0 none)))) (w' := w2) rfl rfl rfl ((x_alloc rfl ZV_39).trans (by rw [hb14, hw14]; rfl)) ?_
    refine wpR_val (v := (Value.int .i64 l9.2)) (w' := w2) rfl rfl rfl (x_assign (v := (Value.int .i64 l9.2)) rfl rfl) ?_
    obtain ⟨q15, h⟩ := h
    obtain ⟨w3, hw15⟩ : ∃ u, u = setAll w2 (Addr.mk b14 0 none) [(Value.int .i64 x12), (Value.int .i64 x13)] 0 := ⟨_, rfl⟩
    replace h := h w3 hw15
    refine wpR_skp (w' := w3) rfl rfl ((x_store (v := (Value.agg #[(Value.int .i64 x12), (Value.int .i64 x13)])) rfl rfl rfl SZ_39 (ones (by rfl)) q15).trans (by rw [hw15]; rfl)) ?_
    refine wpR_nil ?_
    refine wpC_seq ?_
    refine wpC_cut (fun ρ => ρ 0 = (Sl.v p0) ∧ ρ 1 = (Value.int .i64 p1) ∧ ρ 5 = (Value.int .i64 l9.1) ∧ ρ 6 = (Value.int .i64 l9.2) ∧ ρ 7 = (Value.pointer (some (Addr.mk b14 0 none))) ∧ ρ 12 = (Sl.v p0) ∧ ρ 13 = (Value.int .i64 (p0.len : Int)) ∧ ρ 14 = (Value.int .i64 l9.2) ∧ True) ⟨e0, e1, e5, rfl, rfl, e12, e13, e14, trivial⟩ ?_
    rintro ρ ⟨e0, e1, e5, e6, e7, e12, e13, e14, -⟩
    refine wpC_region ?_
    refine wpR_val (v := (Value.pointer (some ((Addr.mk b14 0 none).add 1)))) (w' := w3) rfl rfl rfl (x_fieldAddr rfl e7 FA_39_1) ?_
    obtain ⟨x16, q16, h⟩ := h
    refine wpR_val (v := (Value.int .i64 x16)) (w' := w3) rfl rfl rfl (x_load1 rfl rfl SH_3 q16) ?_
    refine wpR_val (v := (Value.int .i64 x16)) (w' := w3) rfl rfl rfl (x_assign (v := (Value.int .i64 x16)) rfl rfl) ?_
    refine wpR_val (v := (Value.int .i64 1)) (w' := w3) rfl rfl rfl (x_assign (v := (Value.int .i64 1)) rfl rfl) ?_
    refine wpR_nil ?_
    refine wpC_seq ?_
    refine wpC_seq ?_
    refine wpC_cut (fun ρ => ρ 0 = (Sl.v p0) ∧ ρ 1 = (Value.int .i64 p1) ∧ ρ 5 = (Value.int .i64 l9.1) ∧ ρ 6 = (Value.int .i64 l9.2) ∧ ρ 7 = (Value.pointer (some (Addr.mk b14 0 none))) ∧ ρ 8 = (Value.int .i64 x16) ∧ ρ 9 = (Value.int .i64 1) ∧ ρ 12 = (Sl.v p0) ∧ ρ 13 = (Value.int .i64 (p0.len : Int)) ∧ ρ 14 = (Value.int .i64 l9.2) ∧ True) ⟨e0, e1, e5, e6, e7, rfl, rfl, e12, e13, e14, trivial⟩ ?_
    rintro ρ ⟨e0, e1, e5, e6, e7, e8, e9, e12, e13, e14, -⟩
    refine wpC_region ?_
    refine wpR_val (v := (Sl.v p0)) (w' := w3) rfl rfl rfl (x_move (v := (Sl.v p0)) rfl e0) ?_
    refine wpR_val (v := (Value.int .i64 (p0.len : Int))) (w' := w3) rfl rfl rfl (x_lenS (s := p0) rfl rfl isSliceT_22) ?_
    refine wpR_val (v := (Value.int .i64 0)) (w' := w3) rfl rfl rfl (x_move (v := (Value.int .i64 0)) rfl rfl) ?_
    refine wpR_nil ?_
    refine wpC_block ?_
    obtain ⟨I17, μ17, hI17, hr17⟩ := h
    refine wpC_loop (fun (x : Int × Int × Int) ρ => ρ 8 = (Value.int .i64 x.1) ∧ ρ 9 = (Value.int .i64 x.2.1) ∧ ρ 23 = (Value.int .i64 x.2.2) ∧ ρ 0 = (Sl.v p0) ∧ ρ 1 = (Value.int .i64 p1) ∧ ρ 5 = (Value.int .i64 l9.1) ∧ ρ 6 = (Value.int .i64 l9.2) ∧ ρ 7 = (Value.pointer (some (Addr.mk b14 0 none))) ∧ ρ 12 = (Sl.v p0) ∧ ρ 13 = (Value.int .i64 (p0.len : Int)) ∧ ρ 14 = (Value.int .i64 l9.2) ∧ ρ 21 = (Sl.v p0) ∧ ρ 22 = (Value.int .i64 (p0.len : Int)) ∧ True) I17 μ17 (x16, 1, 0) ⟨e8, e9, rfl, e0, e1, e5, e6, e7, e12, e13, e14, rfl, rfl, trivial⟩ hI17 ?_
    rintro l17 ρ w4 ⟨e8, e9, e23, e0, e1, e5, e6, e7, e12, e13, e14, e21, e22, -⟩ h
    replace h := hr17 l17 w4 h
    clear hr17 hI17
    refine wpC_seq ?_
    refine wpC_region ?_
    refine wpR_val (v := (Value.bool (decide (l17.2.2 < (p0.len : Int))))) (w' := w4) rfl rfl rfl (x_lss rfl e23 e22) ?_
    refine wpR_nil ?_
    refine wpC_seq ?_
    refine wpC_cond (b := decide (l17.2.2 < (p0.len : Int))) rfl (fun hc18 => ?_) (fun hc18 => ?_)
    · replace h := h.1 hc18
      refine wpC_skip ?_
      obtain ⟨J19, h, hk⟩ := h
      refine wpC_seqJ (fun (x : Int × Int) ρ => ρ 8 = (Value.int .i64 x.1) ∧ ρ 9 = (Value.int .i64 x.2) ∧ ρ 0 = (Sl.v p0) ∧ ρ 1 = (Value.int .i64 p1) ∧ ρ 5 = (Value.int .i64 l9.1) ∧ ρ 6 = (Value.int .i64 l9.2) ∧ ρ 7 = (Value.pointer (some (Addr.mk b14 0 none))) ∧ ρ 12 = (Sl.v p0) ∧ ρ 13 = (Value.int .i64 (p0.len : Int)) ∧ ρ 14 = (Value.int .i64 l9.2) ∧ ρ 21 = (Sl.v p0) ∧ ρ 22 = (Value.int .i64 (p0.len : Int)) ∧ ρ 23 = (Value.int .i64 l17.2.2) ∧ True) J19 ?_ ?_
      · clear hk
        refine wpC_block ?_
        refine wpC_seq ?_
        refine wpC_cut (fun ρ => ρ 0 = (Sl.v p0) ∧ ρ 1 = (Value.int .i64 p1) ∧ ρ 5 = (Value.int .i64 l9.1) ∧ ρ 6 = (Value.int .i64 l9.2) ∧ ρ 7 = (Value.pointer (some (Addr.mk b14 0 none))) ∧ ρ 8 = (Value.int .i64 l17.1) ∧ ρ 9 = (Value.int .i64 l17.2.1) ∧ ρ 12 = (Sl.v p0) ∧ ρ 13 = (Value.int .i64 (p0.len : Int)) ∧ ρ 14 = (Value.int .i64 l9.2) ∧ ρ 21 = (Sl.v p0) ∧ ρ 22 = (Value.int .i64 (p0.len : Int)) ∧ ρ 23 = (Value.int .i64 l17.2.2) ∧ True) ⟨e0, e1, e5, e6, e7, e8, e9, e12, e13, e14, e21, e22, e23, trivial⟩ ?_
        rintro ρ ⟨e0, e1, e5, e6, e7, e8, e9, e12, e13, e14, e21, e22, e23, -⟩
        refine wpC_region ?_
        refine wpR_val (v := (Value.int .i64 l17.2.2)) (w' := w4) rfl rfl rfl (x_move (v := (Value.int .i64 l17.2.2)) rfl e23) ?_
        obtain ⟨q21, z21, r21, h⟩ := h
        generalize hp21 : z21.add ((l17.2.2 : Int).toNat * 2) = p21 at h
        refine wpR_val (v := (Value.pointer (some p21))) (w' := w4) rfl rfl rfl ((x_indexAddr (s := p0) rfl e21 e23 ES_22 q21 r21).trans (by rw [hp21])) ?_
        obtain ⟨x22, q22, x23, q23, h⟩ := h
        refine wpR_val (v := (Value.agg #[(Value.int .i64 x22), (Value.int .i64 x23)])) (w' := w4) rfl rfl rfl (x_loadN [(Value.int .i64 x22), (Value.int .i64 x23)] rfl rfl SH_39 (CellsAt.out (CellsAt.cons q22 (CellsAt.cons q23 CellsAt.nil)))) ?_
        obtain ⟨b24, hb24⟩ : ∃ u, u = w4.heap.size := ⟨_, rfl⟩
        obtain ⟨w6, hw24⟩ : ∃ u, u = w4.alloc (.cells #[(Value.int .i64 0), (Value.int .i64 0)] 39) := ⟨_, rfl⟩
        replace h := h b24 w6 hb24 hw24
        refine wpR_val (v := (Value.pointer (some (Addr.mk b24 0 none)))) (w' := w6) rfl rfl rfl ((x_alloc rfl ZV_39).trans (by rw [hb24, hw24]; rfl)) ?_
        refine wpR_val (v := (Value.int .i64 l17.2.2)) (w' := w6) rfl rfl rfl (x_assign (v := (Value.int .i64 l17.2.2)) rfl rfl) ?_
        obtain ⟨q25, h⟩ := h
        obtain ⟨w7, hw25⟩ : ∃ u, u = setAll w6 (Addr.mk b24 0 none) [(Value.int .i64 x22), (Value.int .i64 x23)] 0 := ⟨_, rfl⟩
        replace h := h w7 hw25
        refine wpR_skp (w' := w7) rfl rfl ((x_store (v := (Value.agg #[(Value.int .i64 x22), (Value.int .i64 x23)])) rfl rfl rfl SZ_39 (ones (by rfl)) q25).trans (by rw [hw25]; rfl)) ?_
        refine wpR_nil ?_
        refine wpC_seq ?_
        refine wpC_seq ?_
        refine wpC_cut (fun ρ => ρ 0 = (Sl.v p0) ∧ ρ 1 = (Value.int .i64 p1) ∧ ρ 5 = (Value.int .i64 l9.1) ∧ ρ 6 = (Value.int .i64 l9.2) ∧ ρ 7 = (Value.pointer (some (Addr.mk b14 0 none))) ∧ ρ 8 = (Value.int .i64 l17.1) ∧ ρ 9 = (Value.int .i64 l17.2.1) ∧ ρ 10 = (Value.int .i64 l17.2.2) ∧ ρ 11 = (Value.pointer (some (Addr.mk b24 0 none))) ∧ ρ 12 = (Sl.v p0) ∧ ρ 13 = (Value.int .i64 (p0.len : Int)) ∧ ρ 14 = (Value.int .i64 l9.2) ∧ ρ 21 = (Sl.v p0) ∧ ρ 22 = (Value.int .i64 (p0.len : Int)) ∧ ρ 23 = (Value.int .i64 l17.2.2) ∧ True) ⟨e0, e1, e5, e6, e7, e8, e9, rfl, rfl, e12, e13, e14, e21, e22, e23, trivial⟩ ?_
        rintro ρ ⟨e0, e1, e5, e6, e7, e8, e9, e10, e11, e12, e13, e14, e21, e22, e23, -⟩
        refine wpC_region ?_
        refine wpR_val (v := (Value.int .i64 l17.2.2)) (w' := w7) rfl rfl rfl (x_move (v := (Value.int .i64 l17.2.2)) rfl e10) ?_
        refine wpR_val (v := (Value.int .i64 l9.2)) (w' := w7) rfl rfl rfl (x_move (v := (Value.int .i64 l9.2)) rfl e6) ?_
        refine wpR_val (v := (Value.bool (decide (l17.2.2 = l9.2)))) (w' := w7) rfl rfl rfl (x_eql rfl rfl rfl) ?_
        refine wpR_nil ?_
        refine wpC_cond (b := decide (l17.2.2 = l9.2)) rfl (fun hc26 => ?_) (fun hc26 => ?_)
        · replace h := h.1 hc26
          refine wpC_exit ?_
          exact ⟨(l17.1, l17.2.1), ⟨e8, e9, e0, e1, e5, e6, e7, e12, e13, e14, e21, e22, e23, trivial⟩, h⟩
        · replace h := h.2 hc26
          refine wpC_skip ?_
          refine wpC_seq ?_
          refine wpC_cut (fun ρ => ρ 0 = (Sl.v p0) ∧ ρ 1 = (Value.int .i64 p1) ∧ ρ 5 = (Value.int .i64 l9.1) ∧ ρ 6 = (Value.int .i64 l9.2) ∧ ρ 7 = (Value.pointer (some (Addr.mk b14 0 none))) ∧ ρ 8 = (Value.int .i64 l17.1) ∧ ρ 9 = (Value.int .i64 l17.2.1) ∧ ρ 11 = (Value.pointer (some (Addr.mk b24 0 none))) ∧ ρ 12 = (Sl.v p0) ∧ ρ 13 = (Value.int .i64 (p0.len : Int)) ∧ ρ 14 = (Value.int .i64 l9.2) ∧ ρ 21 = (Sl.v p0) ∧ ρ 22 = (Value.int .i64 (p0.len : Int)) ∧ ρ 23 = (Value.int .i64 l17.2.2) ∧ True) ⟨e0, e1, e5, e6, e7, e8, e9, e11, e12, e13, e14, e21, e22, e23, trivial⟩ ?_
          rintro ρ ⟨e0, e1, e5, e6, e7, e8, e9, e11, e12, e13, e14, e21, e22, e23, -⟩
          refine wpC_region ?_
          refine wpR_val (v := (Value.int .i64 l17.1)) (w' := w7) rfl rfl rfl (x_move (v := (Value.int .i64 l17.1)) rfl e8) ?_
          refine wpR_val (v := (Value.int .i64 p1)) (w' := w7) rfl rfl rfl (x_move (v := (Value.int .i64 p1)) rfl e1) ?_
          refine wpR_val (v := (Value.pointer (some ((Addr.mk b24 0 none).add 0)))) (w' := w7) rfl rfl rfl (x_fieldAddr rfl e11 FA_39_0) ?_
          obtain ⟨x27, q27, h⟩ := h
          refine wpR_val (v := (Value.int .i64 x27)) (w' := w7) rfl rfl rfl (x_load1 rfl rfl SH_3 q27) ?_
          refine wpR_val (v := (Value.int .i64 (IntKind.i64.wrap (p1 - x27)))) (w' := w7) rfl rfl rfl (x_sub rfl rfl rfl) ?_
          refine wpR_val (v := (Value.int .i64 (IntKind.i64.wrap ((IntKind.i64.wrap (p1 - x27)) + 2147483647)))) (w' := w7) rfl rfl rfl (x_add rfl rfl rfl) ?_
          refine wpR_val (v := (Value.int .i64 ((IntKind.i64.wrap ((IntKind.i64.wrap (p1 - x27)) + 2147483647)).tmod 2147483647))) (w' := w7) rfl rfl rfl (x_rem rfl rfl rfl (by decide)) ?_
          refine wpR_val (v := (Value.int .i64 (IntKind.i64.wrap (l17.1 * ((IntKind.i64.wrap ((IntKind.i64.wrap (p1 - x27)) + 2147483647)).tmod 2147483647))))) (w' := w7) rfl rfl rfl (x_mul rfl rfl rfl) ?_
          refine wpR_val (v := (Value.int .i64 ((IntKind.i64.wrap (l17.1 * ((IntKind.i64.wrap ((IntKind.i64.wrap (p1 - x27)) + 2147483647)).tmod 2147483647))).tmod 2147483647))) (w' := w7) rfl rfl rfl (x_rem rfl rfl rfl (by decide)) ?_
          refine wpR_val (v := (Value.int .i64 ((IntKind.i64.wrap (l17.1 * ((IntKind.i64.wrap ((IntKind.i64.wrap (p1 - x27)) + 2147483647)).tmod 2147483647))).tmod 2147483647))) (w' := w7) rfl rfl rfl (x_assign (v := (Value.int .i64 ((IntKind.i64.wrap (l17.1 * ((IntKind.i64.wrap ((IntKind.i64.wrap (p1 - x27)) + 2147483647)).tmod 2147483647))).tmod 2147483647))) rfl rfl) ?_
          refine wpR_nil ?_
          refine wpC_cut (fun ρ => ρ 0 = (Sl.v p0) ∧ ρ 1 = (Value.int .i64 p1) ∧ ρ 5 = (Value.int .i64 l9.1) ∧ ρ 6 = (Value.int .i64 l9.2) ∧ ρ 7 = (Value.pointer (some (Addr.mk b14 0 none))) ∧ ρ 8 = (Value.int .i64 ((IntKind.i64.wrap (l17.1 * ((IntKind.i64.wrap ((IntKind.i64.wrap (p1 - x27)) + 2147483647)).tmod 2147483647))).tmod 2147483647)) ∧ ρ 9 = (Value.int .i64 l17.2.1) ∧ ρ 11 = (Value.pointer (some (Addr.mk b24 0 none))) ∧ ρ 12 = (Sl.v p0) ∧ ρ 13 = (Value.int .i64 (p0.len : Int)) ∧ ρ 14 = (Value.int .i64 l9.2) ∧ ρ 21 = (Sl.v p0) ∧ ρ 22 = (Value.int .i64 (p0.len : Int)) ∧ ρ 23 = (Value.int .i64 l17.2.2) ∧ True) ⟨e0, e1, e5, e6, e7, rfl, e9, e11, e12, e13, e14, e21, e22, e23, trivial⟩ ?_
          rintro ρ ⟨e0, e1, e5, e6, e7, e8, e9, e11, e12, e13, e14, e21, e22, e23, -⟩
          refine wpC_region ?_
          refine wpR_val (v := (Value.int .i64 l17.2.1)) (w' := w7) rfl rfl rfl (x_move (v := (Value.int .i64 l17.2.1)) rfl e9) ?_
          refine wpR_val (v := (Value.pointer (some ((Addr.mk b14 0 none).add 0)))) (w' := w7) rfl rfl rfl (x_fieldAddr rfl e7 FA_39_0) ?_
          obtain ⟨x28, q28, h⟩ := h
          refine wpR_val (v := (Value.int .i64 x28)) (w' := w7) rfl rfl rfl (x_load1 rfl rfl SH_3 q28) ?_
          refine wpR_val (v := (Value.pointer (some ((Addr.mk b24 0 none).add 0)))) (w' := w7) rfl rfl rfl (x_fieldAddr rfl e11 FA_39_0) ?_
          obtain ⟨x29, q29, h⟩ := h
          refine wpR_val (v := (Value.int .i64 x29)) (w' := w7) rfl rfl rfl (x_load1 rfl rfl SH_3 q29) ?_
          refine wpR_val (v := (Value.int .i64 (IntKind.i64.wrap (x28 - x29)))) (w' := w7) rfl rfl rfl (x_sub rfl rfl rfl) ?_
          refine wpR_val (v := (Value.int .i64 (IntKind.i64.wrap ((IntKind.i64.wrap (x28 - x29)) + 2147483647)))) (w' := w7) rfl rfl rfl (x_add rfl rfl rfl) ?_
          refine wpR_val (v := (Value.int .i64 ((IntKind.i64.wrap ((IntKind.i64.wrap (x28 - x29)) + 2147483647)).tmod 2147483647))) (w' := w7) rfl rfl rfl (x_rem rfl rfl rfl (by decide)) ?_
          refine wpR_val (v := (Value.int .i64 (IntKind.i64.wrap (l17.2.1 * ((IntKind.i64.wrap ((IntKind.i64.wrap (x28 - x29)) + 2147483647)).tmod 2147483647))))) (w' := w7) rfl rfl rfl (x_mul rfl rfl rfl) ?_
          refine wpR_val (v := (Value.int .i64 ((IntKind.i64.wrap (l17.2.1 * ((IntKind.i64.wrap ((IntKind.i64.wrap (x28 - x29)) + 2147483647)).tmod 2147483647))).tmod 2147483647))) (w' := w7) rfl rfl rfl (x_rem rfl rfl rfl (by decide)) ?_
          refine wpR_val (v := (Value.int .i64 ((IntKind.i64.wrap (l17.2.1 * ((IntKind.i64.wrap ((IntKind.i64.wrap (x28 - x29)) + 2147483647)).tmod 2147483647))).tmod 2147483647))) (w' := w7) rfl rfl rfl (x_assign (v := (Value.int .i64 ((IntKind.i64.wrap (l17.2.1 * ((IntKind.i64.wrap ((IntKind.i64.wrap (x28 - x29)) + 2147483647)).tmod 2147483647))).tmod 2147483647))) rfl rfl) ?_
          refine wpR_nil ?_
          exact ⟨((IntKind.i64.wrap (l17.1 * ((IntKind.i64.wrap ((IntKind.i64.wrap (p1 - x27)) + 2147483647)).tmod 2147483647))).tmod 2147483647, (IntKind.i64.wrap (l17.2.1 * ((IntKind.i64.wrap ((IntKind.i64.wrap (x28 - x29)) + 2147483647)).tmod 2147483647))).tmod 2147483647), ⟨e8, rfl, e0, e1, e5, e6, e7, e12, e13, e14, e21, e22, e23, trivial⟩, h⟩
      clear h
      rintro l20 ρ w5 ⟨e8, e9, e0, e1, e5, e6, e7, e12, e13, e14, e21, e22, e23, -⟩ h
      replace h := hk l20 w5 h
      clear hk
      refine wpC_region ?_
      refine wpR_val (v := (Value.int .i64 (IntKind.i64.wrap (l17.2.2 + 1)))) (w' := w5) rfl rfl rfl (x_add rfl e23 rfl) ?_
      refine wpR_val (v := (Value.int .i64 (IntKind.i64.wrap (l17.2.2 + 1)))) (w' := w5) rfl rfl rfl (x_move (v := (Value.int .i64 (IntKind.i64.wrap (l17.2.2 + 1)))) rfl rfl) ?_
      refine wpR_nil ?_
      exact ⟨(l20.1, l20.2, IntKind.i64.wrap (l17.2.2 + 1)), ⟨e8, e9, rfl, e0, e1, e5, e6, e7, e12, e13, e14, e21, e22, trivial⟩, h⟩
    · replace h := h.2 hc18
      refine wpC_exit ?_
      refine wpC_cut (fun ρ => ρ 0 = (Sl.v p0) ∧ ρ 1 = (Value.int .i64 p1) ∧ ρ 5 = (Value.int .i64 l9.1) ∧ ρ 8 = (Value.int .i64 l17.1) ∧ ρ 9 = (Value.int .i64 l17.2.1) ∧ ρ 12 = (Sl.v p0) ∧ ρ 13 = (Value.int .i64 (p0.len : Int)) ∧ ρ 14 = (Value.int .i64 l9.2) ∧ True) ⟨e0, e1, e5, e8, e9, e12, e13, e14, trivial⟩ ?_
      rintro ρ ⟨e0, e1, e5, e8, e9, e12, e13, e14, -⟩
      refine wpC_region ?_
      refine wpR_val (v := (Value.int .i64 l9.1)) (w' := w4) rfl rfl rfl (x_move (v := (Value.int .i64 l9.1)) rfl e5) ?_
      refine wpR_val (v := (Value.int .i64 l17.1)) (w' := w4) rfl rfl rfl (x_move (v := (Value.int .i64 l17.1)) rfl e8) ?_
      refine wpR_val (v := (Value.int .i64 l17.2.1)) (w' := w4) rfl rfl rfl (x_move (v := (Value.int .i64 l17.2.1)) rfl e9) ?_
      refine wpR_enter rfl rfl rfl (x_call (vs := [(Value.int .i64 l17.2.1), (Value.int .i64 2147483645)]) rfl rfl (mapl_cons rfl (mapl_cons rfl mapl_nil)) Try.func24 NN_24 NB_24) (Calls.mono h ?_)
      rintro _ w8 ⟨r30, rfl, h⟩
      refine ⟨_, rfl, ?_⟩
      refine wpR_val (v := (Value.int .i64 (IntKind.i64.wrap (l17.1 * r30)))) (w' := w8) rfl rfl rfl (x_mul rfl rfl rfl) ?_
      refine wpR_val (v := (Value.int .i64 (IntKind.i64.wrap (l9.1 + (IntKind.i64.wrap (l17.1 * r30)))))) (w' := w8) rfl rfl rfl (x_add rfl rfl rfl) ?_
      refine wpR_val (v := (Value.int .i64 ((IntKind.i64.wrap (l9.1 + (IntKind.i64.wrap (l17.1 * r30)))).tmod 2147483647))) (w' := w8) rfl rfl rfl (x_rem rfl rfl rfl (by decide)) ?_
      refine wpR_val (v := (Value.int .i64 ((IntKind.i64.wrap (l9.1 + (IntKind.i64.wrap (l17.1 * r30)))).tmod 2147483647))) (w' := w8) rfl rfl rfl (x_assign (v := (Value.int .i64 ((IntKind.i64.wrap (l9.1 + (IntKind.i64.wrap (l17.1 * r30)))).tmod 2147483647))) rfl rfl) ?_
      refine wpR_nil ?_
      refine wpC_cut (fun ρ => ρ 0 = (Sl.v p0) ∧ ρ 1 = (Value.int .i64 p1) ∧ ρ 5 = (Value.int .i64 ((IntKind.i64.wrap (l9.1 + (IntKind.i64.wrap (l17.1 * r30)))).tmod 2147483647)) ∧ ρ 12 = (Sl.v p0) ∧ ρ 13 = (Value.int .i64 (p0.len : Int)) ∧ ρ 14 = (Value.int .i64 l9.2) ∧ True) ⟨e0, e1, rfl, e12, e13, e14, trivial⟩ ?_
      rintro ρ ⟨e0, e1, e5, e12, e13, e14, -⟩
      refine wpC_region ?_
      refine wpR_val (v := (Value.int .i64 (IntKind.i64.wrap (l9.2 + 1)))) (w' := w8) rfl rfl rfl (x_add rfl e14 rfl) ?_
      refine wpR_val (v := (Value.int .i64 (IntKind.i64.wrap (l9.2 + 1)))) (w' := w8) rfl rfl rfl (x_move (v := (Value.int .i64 (IntKind.i64.wrap (l9.2 + 1)))) rfl rfl) ?_
      refine wpR_nil ?_
      exact ⟨((IntKind.i64.wrap (l9.1 + (IntKind.i64.wrap (l17.1 * r30)))).tmod 2147483647, IntKind.i64.wrap (l9.2 + 1)), ⟨e5, rfl, e0, e1, e12, e13, trivial⟩, h⟩
  · replace h := h.2 hc10
    refine wpC_exit ?_
    refine wpC_seq ?_
    refine wpC_cut (fun ρ => ρ 5 = (Value.int .i64 l9.1) ∧ True) ⟨e5, trivial⟩ ?_
    rintro ρ ⟨e5, -⟩
    refine wpC_region ?_
    refine wpR_val (v := (Value.int .i64 l9.1)) (w' := w1) rfl rfl rfl (x_move (v := (Value.int .i64 l9.1)) rfl e5) ?_
    refine wpR_val (v := (Value.int .i64 l9.1)) (w' := w1) rfl rfl rfl (x_assign (v := (Value.int .i64 l9.1)) rfl rfl) ?_
    refine wpR_nil ?_
    refine wpC_ret ?_
    exact ⟨.inl rfl, fun a ha => ⟨_, results_rep1 rfl ha rfl, l9.1, rfl, h⟩⟩

/-- linguaref06.Wrong -/
def F22 (p0 : Sl) (p1 : Int) (w0 : World) (K : Int → World → Prop) : Prop :=
  cnd ((decide (p1 < 1)) || (decide (20 < p1)))
    (
    K 1 w0
    )
    (
    lp (fun (next12 : Int → World → Prop) l12 w1 =>
      cnd (decide (l12 < (p0.len : Int)))
        (
        ix p0 l12 2 fun p14 =>
        ld (Value.int .i64) (p14.add 0) w1 fun x15 =>
        jp (fun J16 => cnd (decide (x15 < 1))
          (
          J16 true
          )
          (
          ix p0 l12 2 fun p18 =>
          ld (Value.int .i64) (p18.add 0) w1 fun x19 =>
          J16 (decide (20 < x19))
          ))
        fun c20 =>
        jp (fun J21 => cnd (c20)
          (
          J21 true
          )
          (
          ix p0 l12 2 fun p23 =>
          ld (Value.int .i64) (p23.add 1) w1 fun x24 =>
          J21 (decide (x24 < 0))
          ))
        fun c25 =>
        jp (fun J26 => cnd (c25)
          (
          J26 true
          )
          (
          ix p0 l12 2 fun p28 =>
          ld (Value.int .i64) (p28.add 1) w1 fun x29 =>
          J26 (decide (2147483647 ≤ x29))
          ))
        fun c30 =>
        cnd (c30)
          (
          K 1 w1
          )
          (
          next12 (IntKind.i64.wrap (l12 + 1)) w1
          )
        )
        (
        lp (fun (next32 : Int → World → Prop) l32 w2 =>
          cnd ((decide (l32 < (p0.len : Int))) && (decide (l32 ≤ 20)))
            (
            lp (fun (next36 : Int → World → Prop) l36 w3 =>
              cnd (decide (l36 < l32))
                (
                jn (fun (J39 : Bool → World → Prop) => tk w3 fun w4 =>
                  ix p0 l32 2 fun p40 =>
                  ld (Value.int .i64) (p40.add 0) w4 fun x41 =>
                  ix p0 l36 2 fun p42 =>
                  ld (Value.int .i64) (p42.add 0) w4 fun x43 =>
                  J39 (decide (x41 = x43)) w4
                )
                fun l44 w5 =>
                cnd (l44)
                  (
                  K 5 w5
                  )
                  (
                  next36 (IntKind.i64.wrap (l36 + 1)) w5
                  )
                )
                (
                next32 (IntKind.i64.wrap (l32 + 1)) w3
                )
            ) 0 w2
            )
            (
            K 0 w2
            )
        ) 0 w1
        )
    ) 0 w0
    )
set_option maxRecDepth 100000 in
theorem D22 (p0 : Sl) (p1 : Int) (w0 : World) (K : Int → World → Prop) (h : F22 p0 p1 w0 K) : callC Try.prog 22 #[(Sl.v p0), (Value.int .i64 p1)] (fun (r : Int) => (Value.int .i64 r)) w0 K := by
  unfold F22 at h
  refine calls_of_wpC Try.func22 rfl 76 rfl (by simp) ?_
  intro ρ hρ
  have e0 : ρ 0 = (Sl.v p0) := hρ 0
  have e1 : ρ 1 = (Value.int .i64 p1) := hρ 1
  clear hρ
  refine wpC_seq ?_
  refine wpC_region ?_
  refine wpR_val (v := (Value.int .i64 0)) (w' := w0) rfl rfl rfl (x_assign (v := (Value.int .i64 0)) rfl rfl) ?_
  refine wpR_nil ?_
  refine wpC_seq ?_
  refine wpC_seq ?_
  refine wpC_cut (fun ρ => ρ 0 = (Sl.v p0) ∧ ρ 1 = (Value.int .i64 p1) ∧ True) ⟨e0, e1, trivial⟩ ?_
  rintro ρ ⟨e0, e1, -⟩
  refine wpC_region ?_
  refine wpR_val (v := (Value.int .i64 p1)) (w' := w0) rfl rfl rfl (x_move (v := (Value.int .i64 p1)) rfl e1) ?_
  refine wpR_val (v := (Value.bool (decide (p1 < 1)))) (w' := w0) rfl rfl rfl (x_lss rfl rfl rfl) ?_
  refine wpR_val (v := (Value.bool (decide (p1 < 1)))) (w' := w0) rfl rfl rfl (x_move (v := (Value.bool (decide (p1 < 1)))) rfl rfl) ?_
  refine wpR_joinJ 3 (fun (_ : Unit) ρ => ρ 13 = Value.bool ((decide (p1 < 1)) || (decide (20 < p1))) ∧ ρ 0 = (Sl.v p0) ∧ True) (fun _ w => w0 = w) ?_ ?_
  · clear h
    rcases Bool.eq_false_or_eq_true (decide (p1 < 1)) with hc10 | hc10
    · skip
      refine wpR_pass (wantN rfl rfl rfl hc10) rfl rfl ?_
      refine wpR_pass (wantN rfl rfl rfl hc10) rfl rfl ?_
      refine wpR_val (v := (Value.bool true)) (w' := w0) rfl rfl rfl (x_pickT (v := (Value.bool true)) rfl rfl hc10 rfl) ?_
      refine wpR_nil ?_
      exact ⟨(), ⟨(by rw [hc10]; rfl), e0, trivial⟩, rfl⟩
    · skip
      refine wpR_val (v := (Value.int .i64 p1)) (w' := w0) (wantG rfl rfl rfl hc10) rfl rfl (x_move (v := (Value.int .i64 p1)) rfl e1) ?_
      refine wpR_val (v := (Value.bool (decide (20 < p1)))) (w' := w0) (wantG rfl rfl rfl hc10) rfl rfl (x_gtr rfl rfl rfl) ?_
      refine wpR_val (v := (Value.bool (decide (20 < p1)))) (w' := w0) rfl rfl rfl (x_pickF (v := (Value.bool (decide (20 < p1)))) rfl rfl hc10 rfl) ?_
      refine wpR_nil ?_
      exact ⟨(), ⟨(by rw [hc10]; rfl), e0, trivial⟩, rfl⟩
  rintro _ ρ wj ⟨e13, e0, -⟩ rfl
  refine wpR_nil ?_
  refine wpC_cond (b := (decide (p1 < 1)) || (decide (20 < p1))) e13 (fun hc11 => ?_) (fun hc11 => ?_)
  · replace h := h.1 hc11
    refine wpC_seq ?_
    refine wpC_region ?_
    refine wpR_val (v := (Value.int .i64 1)) (w' := w0) rfl rfl rfl (x_assign (v := (Value.int .i64 1)) rfl rfl) ?_
    refine wpR_nil ?_
    refine wpC_ret ?_
    exact ⟨.inl rfl, fun a ha => ⟨_, results_rep1 rfl ha rfl, 1, rfl, h⟩⟩
  · replace h := h.2 hc11
    refine wpC_skip ?_
    refine wpC_seq ?_
    refine wpC_seq ?_
    refine wpC_region ?_
    refine wpR_val (v := (Value.int .i64 0)) (w' := w0) rfl rfl rfl (x_assign (v := (Value.int .i64 0)) rfl rfl) ?_
    refine wpR_nil ?_
    refine wpC_block ?_
    obtain ⟨I12, μ12, hI12, hr12⟩ := h
    refine wpC_loop (fun (x : Int) ρ => ρ 5 = (Value.int .i64 x) ∧ ρ 0 = (Sl.v p0) ∧ True) I12 μ12 0 ⟨rfl, e0, trivial⟩ hI12 ?_
    rintro l12 ρ w1 ⟨e5, e0, -⟩ h
    replace h := hr12 l12 w1 h
    clear hr12 hI12
    refine wpC_seq ?_
    refine wpC_seq ?_
    refine wpC_region ?_
    refine wpR_val (v := (Value.int .i64 l12)) (w' := w1) rfl rfl rfl (x_move (v := (Value.int .i64 l12)) rfl e5) ?_
    refine wpR_val (v := (Sl.v p0)) (w' := w1) rfl rfl rfl (x_move (v := (Sl.v p0)) rfl e0) ?_
    refine wpR_val (v := (Value.int .i64 (p0.len : Int))) (w' := w1) rfl rfl rfl (x_lenS (s := p0) rfl rfl isSliceT_22) ?_
    refine wpR_val (v := (Value.bool (decide (l12 < (p0.len : Int))))) (w' := w1) rfl rfl rfl (x_lss rfl rfl rfl) ?_
    refine wpR_nil ?_
    refine wpC_cond (b := decide (l12 < (p0.len : Int))) rfl (fun hc13 => ?_) (fun hc13 => ?_)
    · replace h := h.1 hc13
      refine wpC_skip ?_
      refine wpC_seq ?_
      refine wpC_block ?_
      refine wpC_seq ?_
      refine wpC_cut (fun ρ => ρ 0 = (Sl.v p0) ∧ ρ 5 = (Value.int .i64 l12) ∧ True) ⟨e0, e5, trivial⟩ ?_
      rintro ρ ⟨e0, e5, -⟩
      refine wpC_region ?_
      refine wpR_val (v := (Sl.v p0)) (w' := w1) rfl rfl rfl (x_move (v := (Sl.v p0)) rfl e0) ?_
      refine wpR_val (v := (Value.int .i64 l12)) (w' := w1) rfl rfl rfl (x_move (v := (Value.int .i64 l12)) rfl e5) ?_
      obtain ⟨q14, z14, r14, h⟩ := h
      generalize hp14 : z14.add ((l12 : Int).toNat * 2) = p14 at h
      refine wpR_val (v := (Value.pointer (some p14))) (w' := w1) rfl rfl rfl ((x_indexAddr (s := p0) rfl rfl rfl ES_22 q14 r14).trans (by rw [hp14])) ?_
      refine wpR_val (v := (Value.pointer (some (p14.add 0)))) (w' := w1) rfl rfl rfl (x_fieldAddr rfl rfl FA_39_0) ?_
      obtain ⟨x15, q15, h⟩ := h
      refine wpR_val (v := (Value.int .i64 x15)) (w' := w1) rfl rfl rfl (x_load1 rfl rfl SH_3 q15) ?_
      refine wpR_val (v := (Value.bool (decide (x15 < 1)))) (w' := w1) rfl rfl rfl (x_lss rfl rfl rfl) ?_
      refine wpR_val (v := (Value.bool (decide (x15 < 1)))) (w' := w1) rfl rfl rfl (x_move (v := (Value.bool (decide (x15 < 1)))) rfl rfl) ?_
      obtain ⟨J16, h, hk⟩ := h
      refine wpR_joinJ 7 (fun x ρ => ρ 33 = Value.bool x ∧ ρ 0 = (Sl.v p0) ∧ ρ 5 = (Value.int .i64 l12) ∧ True) (fun x w => J16 x ∧ w1 = w) ?_ ?_
      · clear hk
        rcases Bool.eq_false_or_eq_true (decide (x15 < 1)) with hc17 | hc17
        · replace h := h.1 hc17
          refine wpR_pass (wantN rfl rfl rfl hc17) rfl rfl ?_
          refine wpR_pass (wantN rfl rfl rfl hc17) rfl rfl ?_
          refine wpR_pass (wantN rfl rfl rfl hc17) rfl rfl ?_
          refine wpR_pass (wantN rfl rfl rfl hc17) rfl rfl ?_
          refine wpR_pass (wantN rfl rfl rfl hc17) rfl rfl ?_
          refine wpR_pass (wantN rfl rfl rfl hc17) rfl rfl ?_
          refine wpR_val (v := (Value.bool true)) (w' := w1) rfl rfl rfl (x_pickT (v := (Value.bool true)) rfl rfl hc17 rfl) ?_
          refine wpR_nil ?_
          exact ⟨true, ⟨rfl, e0, e5, trivial⟩, h, rfl⟩
        · replace h := h.2 hc17
          refine wpR_val (v := (Sl.v p0)) (w' := w1) (wantG rfl rfl rfl hc17) rfl rfl (x_move (v := (Sl.v p0)) rfl e0) ?_
          refine wpR_val (v := (Value.int .i64 l12)) (w' := w1) (wantG rfl rfl rfl hc17) rfl rfl (x_move (v := (Value.int .i64 l12)) rfl e5) ?_
          obtain ⟨q18, z18, r18, h⟩ := h
          generalize hp18 : z18.add ((l12 : Int).toNat * 2) = p18 at h
          refine wpR_val (v := (Value.pointer (some p18))) (w' := w1) (wantG rfl rfl rfl hc17) rfl rfl ((x_indexAddr (s := p0) rfl rfl rfl ES_22 q18 r18).trans (by rw [hp18])) ?_
          refine wpR_val (v := (Value.pointer (some (p18.add 0)))) (w' := w1) (wantG rfl rfl rfl hc17) rfl rfl (x_fieldAddr rfl rfl FA_39_0) ?_
          obtain ⟨x19, q19, h⟩ := h
          refine wpR_val (v := (Value.int .i64 x19)) (w' := w1) (wantG rfl rfl rfl hc17) rfl rfl (x_load1 rfl rfl SH_3 q19) ?_
          refine wpR_val (v := (Value.bool (decide (20 < x19)))) (w' := w1) (wantG rfl rfl rfl hc17) rfl rfl (x_gtr rfl rfl rfl) ?_
          refine wpR_val (v := (Value.bool (decide (20 < x19)))) (w' := w1) rfl rfl rfl (x_pickF (v := (Value.bool (decide (20 < x19)))) rfl rfl hc17 rfl) ?_
          refine wpR_nil ?_
          exact ⟨decide (20 < x19), ⟨rfl, e0, e5, trivial⟩, h, rfl⟩
      clear h
      rintro c20 ρ wj ⟨e33, e0, e5, -⟩ ⟨h, rfl⟩
      replace h := hk c20 h
      clear hk
      refine wpR_val (v := (Value.bool c20)) (w' := w1) rfl rfl rfl (x_move (v := (Value.bool c20)) rfl e33) ?_
      obtain ⟨J21, h, hk⟩ := h
      refine wpR_joinJ 7 (fun x ρ => ρ 41 = Value.bool x ∧ ρ 0 = (Sl.v p0) ∧ ρ 5 = (Value.int .i64 l12) ∧ True) (fun x w => J21 x ∧ w1 = w) ?_ ?_
      · clear hk
        rcases Bool.eq_false_or_eq_true (c20) with hc22 | hc22
        · replace h := h.1 hc22
          refine wpR_pass (wantN rfl rfl rfl hc22) rfl rfl ?_
          refine wpR_pass (wantN rfl rfl rfl hc22) rfl rfl ?_
          refine wpR_pass (wantN rfl rfl rfl hc22) rfl rfl ?_
          refine wpR_pass (wantN rfl rfl rfl hc22) rfl rfl ?_
          refine wpR_pass (wantN rfl rfl rfl hc22) rfl rfl ?_
          refine wpR_pass (wantN rfl rfl rfl hc22) rfl rfl ?_
          refine wpR_val (v := (Value.bool true)) (w' := w1) rfl rfl rfl (x_pickT (v := (Value.bool true)) rfl rfl hc22 rfl) ?_
          refine wpR_nil ?_
          exact ⟨true, ⟨rfl, e0, e5, trivial⟩, h, rfl⟩
        · replace h := h.2 hc22
          refine wpR_val (v := (Sl.v p0)) (w' := w1) (wantG rfl rfl rfl hc22) rfl rfl (x_move (v := (Sl.v p0)) rfl e0) ?_
          refine wpR_val (v := (Value.int .i64 l12)) (w' := w1) (wantG rfl rfl rfl hc22) rfl rfl (x_move (v := (Value.int .i64 l12)) rfl e5) ?_
          obtain ⟨q23, z23, r23, h⟩ := h
          generalize hp23 : z23.add ((l12 : Int).toNat * 2) = p23 at h
          refine wpR_val (v := (Value.pointer (some p23))) (w' := w1) (wantG rfl rfl rfl hc22) rfl rfl ((x_indexAddr (s := p0) rfl rfl rfl ES_22 q23 r23).trans (by rw [hp23])) ?_
          refine wpR_val (v := (Value.pointer (some (p23.add 1)))) (w' := w1) (wantG rfl rfl rfl hc22) rfl rfl (x_fieldAddr rfl rfl FA_39_1) ?_
          obtain ⟨x24, q24, h⟩ := h
          refine wpR_val (v := (Value.int .i64 x24)) (w' := w1) (wantG rfl rfl rfl hc22) rfl rfl (x_load1 rfl rfl SH_3 q24) ?_
          refine wpR_val (v := (Value.bool (decide (x24 < 0)))) (w' := w1) (wantG rfl rfl rfl hc22) rfl rfl (x_lss rfl rfl rfl) ?_
          refine wpR_val (v := (Value.bool (decide (x24 < 0)))) (w' := w1) rfl rfl rfl (x_pickF (v := (Value.bool (decide (x24 < 0)))) rfl rfl hc22 rfl) ?_
          refine wpR_nil ?_
          exact ⟨decide (x24 < 0), ⟨rfl, e0, e5, trivial⟩, h, rfl⟩
      clear h
      rintro c25 ρ wj ⟨e41, e0, e5, -⟩ ⟨h, rfl⟩
      replace h := hk c25 h
      clear hk
      refine wpR_val (v := (Value.bool c25)) (w' := w1) rfl rfl rfl (x_move (v := (Value.bool c25)) rfl e41) ?_
      obtain ⟨J26, h, hk⟩ := h
      refine wpR_joinJ 7 (fun x ρ => ρ 49 = Value.bool x ∧ ρ 0 = (Sl.v p0) ∧ ρ 5 = (Value.int .i64 l12) ∧ True) (fun x w => J26 x ∧ w1 = w) ?_ ?_
      · clear hk
        rcases Bool.eq_false_or_eq_true (c25) with hc27 | hc27
        · replace h := h.1 hc27
          refine wpR_pass (wantN rfl rfl rfl hc27) rfl rfl ?_
          refine wpR_pass (wantN rfl rfl rfl hc27) rfl rfl ?_
          refine wpR_pass (wantN rfl rfl rfl hc27) rfl rfl ?_
          refine wpR_pass (wantN rfl rfl rfl hc27) rfl rfl ?_
          refine wpR_pass (wantN rfl rfl rfl hc27) rfl rfl ?_
          refine wpR_pass (wantN rfl rfl rfl hc27) rfl rfl ?_
          refine wpR_val (v := (Value.bool true)) (w' := w1) rfl rfl rfl (x_pickT (v := (Value.bool true)) rfl rfl hc27 rfl) ?_
          refine wpR_nil ?_
          exact ⟨true, ⟨rfl, e0, e5, trivial⟩, h, rfl⟩
        · replace h := h.2 hc27
          refine wpR_val (v := (Sl.v p0)) (w' := w1) (wantG rfl rfl rfl hc27) rfl rfl (x_move (v := (Sl.v p0)) rfl e0) ?_
          refine wpR_val (v := (Value.int .i64 l12)) (w' := w1) (wantG rfl rfl rfl hc27) rfl rfl (x_move (v := (Value.int .i64 l12)) rfl e5) ?_
          obtain ⟨q28, z28, r28, h⟩ := h
          generalize hp28 : z28.add ((l12 : Int).toNat * 2) = p28 at h
          refine wpR_val (v := (Value.pointer (some p28))) (w' := w1) (wantG rfl rfl rfl hc27) rfl rfl ((x_indexAddr (s := p0) rfl rfl rfl ES_22 q28 r28).trans (by rw [hp28])) ?_
          refine wpR_val (v := (Value.pointer (some (p28.add 1)))) (w' := w1) (wantG rfl rfl rfl hc27) rfl rfl (x_fieldAddr rfl rfl FA_39_1) ?_
          obtain ⟨x29, q29, h⟩ := h
          refine wpR_val (v := (Value.int .i64 x29)) (w' := w1) (wantG rfl rfl rfl hc27) rfl rfl (x_load1 rfl rfl SH_3 q29) ?_
          refine wpR_val (v := (Value.bool (decide (2147483647 ≤ x29)))) (w' := w1) (wantG rfl rfl rfl hc27) rfl rfl (x_geq rfl rfl rfl) ?_
          refine wpR_val (v := (Value.bool (decide (2147483647 ≤ x29)))) (w' := w1) rfl rfl rfl (x_pickF (v := (Value.bool (decide (2147483647 ≤ x29)))) rfl rfl hc27 rfl) ?_
          refine wpR_nil ?_
          exact ⟨decide (2147483647 ≤ x29), ⟨rfl, e0, e5, trivial⟩, h, rfl⟩
      clear h
      rintro c30 ρ wj ⟨e49, e0, e5, -⟩ ⟨h, rfl⟩
      replace h := hk c30 h
      clear hk
      refine wpR_nil ?_
      refine wpC_cond (b := c30) e49 (fun hc31 => ?_) (fun hc31 => ?_)
      · replace h := h.1 hc31
        refine wpC_seq ?_
        refine wpC_region ?_
        refine wpR_val (v := (Value.int .i64 1)) (w' := w1) rfl rfl rfl (x_assign (v := (Value.int .i64 1)) rfl rfl) ?_
        refine wpR_nil ?_
        refine wpC_ret ?_
        exact ⟨.inl rfl, fun a ha => ⟨_, results_rep1 rfl ha rfl, 1, rfl, h⟩⟩
      · replace h := h.2 hc31
        refine wpC_skip ?_
        refine wpC_region ?_
        refine wpR_val (v := (Value.int .i64 l12)) (w' := w1) rfl rfl rfl (x_move (v := (Value.int .i64 l12)) rfl e5) ?_
        refine wpR_val (v := (Value.int .i64 (IntKind.i64.wrap (l12 + 1)))) (w' := w1) rfl rfl rfl (x_add rfl rfl rfl) ?_
        refine wpR_val (v := (Value.int .i64 (IntKind.i64.wrap (l12 + 1)))) (w' := w1) rfl rfl rfl (x_assign (v := (Value.int .i64 (IntKind.i64.wrap (l12 + 1)))) rfl rfl) ?_
        refine wpR_nil ?_
        exact ⟨IntKind.i64.wrap (l12 + 1), ⟨rfl, e0, trivial⟩, h⟩
    · replace h := h.2 hc13
      refine wpC_exit ?_
      refine wpC_seq ?_
      refine wpC_seq ?_
      refine wpC_cut (fun ρ => ρ 0 = (Sl.v p0) ∧ True) ⟨e0, trivial⟩ ?_
      rintro ρ ⟨e0, -⟩
      refine wpC_region ?_
      refine wpR_val (v := (Value.int .i64 0)) (w' := w1) rfl rfl rfl (x_assign (v := (Value.int .i64 0)) rfl rfl) ?_
      refine wpR_nil ?_
      refine wpC_block ?_
      obtain ⟨I32, μ32, hI32, hr32⟩ := h
      refine wpC_loop (fun (x : Int) ρ => ρ 6 = (Value.int .i64 x) ∧ ρ 0 = (Sl.v p0) ∧ True) I32 μ32 0 ⟨rfl, e0, trivial⟩ hI32 ?_
      rintro l32 ρ w2 ⟨e6, e0, -⟩ h
      replace h := hr32 l32 w2 h
      clear hr32 hI32
      refine wpC_seq ?_
      refine wpC_seq ?_
      refine wpC_region ?_
      refine wpR_val (v := (Value.int .i64 l32)) (w' := w2) rfl rfl rfl (x_move (v := (Value.int .i64 l32)) rfl e6) ?_
      refine wpR_val (v := (Sl.v p0)) (w' := w2) rfl rfl rfl (x_move (v := (Sl.v p0)) rfl e0) ?_
      refine wpR_val (v := (Value.int .i64 (p0.len : Int))) (w' := w2) rfl rfl rfl (x_lenS (s := p0) rfl rfl isSliceT_22) ?_
      refine wpR_val (v := (Value.bool (decide (l32 < (p0.len : Int))))) (w' := w2) rfl rfl rfl (x_lss rfl rfl rfl) ?_
      refine wpR_val (v := (Value.bool (decide (l32 < (p0.len : Int))))) (w' := w2) rfl rfl rfl (x_move (v := (Value.bool (decide (l32 < (p0.len : Int))))) rfl rfl) ?_
      refine wpR_joinJ 3 (fun (_ : Unit) ρ => ρ 57 = Value.bool ((decide (l32 < (p0.len : Int))) && (decide (l32 ≤ 20))) ∧ ρ 0 = (Sl.v p0) ∧ ρ 6 = (Value.int .i64 l32) ∧ True) (fun _ w => w2 = w) ?_ ?_
      · clear h
        rcases Bool.eq_false_or_eq_true (decide (l32 < (p0.len : Int))) with hc34 | hc34
        · skip
          refine wpR_val (v := (Value.int .i64 l32)) (w' := w2) (wantG rfl rfl rfl hc34) rfl rfl (x_move (v := (Value.int .i64 l32)) rfl e6) ?_
          refine wpR_val (v := (Value.bool (decide (l32 ≤ 20)))) (w' := w2) (wantG rfl rfl rfl hc34) rfl rfl (x_leq rfl rfl rfl) ?_
          refine wpR_val (v := (Value.bool (decide (l32 ≤ 20)))) (w' := w2) rfl rfl rfl (x_pickT (v := (Value.bool (decide (l32 ≤ 20)))) rfl rfl hc34 rfl) ?_
          refine wpR_nil ?_
          exact ⟨(), ⟨(by rw [hc34]; rfl), e0, e6, trivial⟩, rfl⟩
        · skip
          refine wpR_pass (wantN rfl rfl rfl hc34) rfl rfl ?_
          refine wpR_pass (wantN rfl rfl rfl hc34) rfl rfl ?_
          refine wpR_val (v := (Value.bool false)) (w' := w2) rfl rfl rfl (x_pickF (v := (Value.bool false)) rfl rfl hc34 rfl) ?_
          refine wpR_nil ?_
          exact ⟨(), ⟨(by rw [hc34]; rfl), e0, e6, trivial⟩, rfl⟩
      rintro _ ρ wj ⟨e57, e0, e6, -⟩ rfl
      refine wpR_nil ?_
      refine wpC_cond (b := (decide (l32 < (p0.len : Int))) && (decide (l32 ≤ 20))) e57 (fun hc35 => ?_) (fun hc35 => ?_)
      · replace h := h.1 hc35
        refine wpC_skip ?_
        refine wpC_seq ?_
        refine wpC_block ?_
        refine wpC_seq ?_
        refine wpC_region ?_
        refine wpR_val (v := (Value.int .i64 0)) (w' := w2) rfl rfl rfl (x_assign (v := (Value.int .i64 0)) rfl rfl) ?_
        refine wpR_nil ?_
        refine wpC_block ?_
        obtain ⟨I36, μ36, hI36, hr36⟩ := h
        refine wpC_loop (fun (x : Int) ρ => ρ 7 = (Value.int .i64 x) ∧ ρ 0 = (Sl.v p0) ∧ ρ 6 = (Value.int .i64 l32) ∧ True) I36 μ36 0 ⟨rfl, e0, e6, trivial⟩ hI36 ?_
        rintro l36 ρ w3 ⟨e7, e0, e6, -⟩ h
        replace h := hr36 l36 w3 h
        clear hr36 hI36
        refine wpC_seq ?_
        refine wpC_seq ?_
        refine wpC_region ?_
        refine wpR_val (v := (Value.int .i64 l36)) (w' := w3) rfl rfl rfl (x_move (v := (Value.int .i64 l36)) rfl e7) ?_
        refine wpR_val (v := (Value.int .i64 l32)) (w' := w3) rfl rfl rfl (x_move (v := (Value.int .i64 l32)) rfl e6) ?_
        refine wpR_val (v := (Value.bool (decide (l36 < l32)))) (w' := w3) rfl rfl rfl (x_lss rfl rfl rfl) ?_
        refine wpR_nil ?_
        refine wpC_cond (b := decide (l36 < l32)) rfl (fun hc37 => ?_) (fun hc37 => ?_)
        · replace h := h.1 hc37
          refine wpC_skip ?_
          refine wpC_seq ?_
          refine wpC_block ?_
          refine wpC_seq ?_
          refine wpC_cut (fun ρ => ρ 0 = (Sl.v p0) ∧ ρ 6 = (Value.int .i64 l32) ∧ ρ 7 = (Value.int .i64 l36) ∧ True) ⟨e0, e6, e7, trivial⟩ ?_
          rintro ρ ⟨e0, e6, e7, -⟩
          obtain ⟨J39, h, hk⟩ := h
          refine wpC_drawJ (by kernel_rfl) (fun (x : Bool) ρ => ρ 75 = (Value.bool x) ∧ ρ 0 = (Sl.v p0) ∧ ρ 6 = (Value.int .i64 l32) ∧ ρ 7 = (Value.int .i64 l36) ∧ True) J39 ?_ ?_
          · clear hk
            unfold tk at h
            generalize w3.drew = w4 at h ⊢
            refine wpD_take (v := (Sl.v p0)) 0 (fun _ => True) rfl (by kernel_rfl) (by kernel_rfl) (by kernel_rfl) rfl rfl rfl trivial (fun w _ => (x_move (v := (Sl.v p0)) rfl e0)) ?_
            refine wpD_take (v := (Value.int .i64 l32)) 1 (fun _ => True) rfl (by kernel_rfl) (by kernel_rfl) (by kernel_rfl) rfl rfl rfl trivial (fun w _ => (x_move (v := (Value.int .i64 l32)) rfl e6)) ?_
            obtain ⟨q40, z40, r40, h⟩ := h
            generalize hp40 : z40.add ((l32 : Int).toNat * 2) = p40 at h
            refine wpD_take (v := (Value.pointer (some p40))) 2 (fun _ => True) rfl (by kernel_rfl) (by kernel_rfl) (by kernel_rfl) rfl rfl rfl trivial (fun w _ => ((x_indexAddr (s := p0) rfl rfl rfl ES_22 q40 r40).trans (by rw [hp40]))) ?_
            refine wpD_take (v := (Value.pointer (some (p40.add 0)))) 3 (fun _ => True) rfl (by kernel_rfl) (by kernel_rfl) (by kernel_rfl) rfl rfl rfl trivial (fun w _ => (x_fieldAddr rfl rfl FA_39_0)) ?_
            obtain ⟨x41, q41, h⟩ := h
            refine wpD_take (v := (Value.int .i64 x41)) 4 (fun w => w.cell? (p40.add 0) = some (Value.int .i64 x41)) rfl (by kernel_rfl) (by kernel_rfl) (by kernel_rfl) rfl rfl rfl q41 (fun w q41 => (x_load1 rfl rfl SH_3 q41)) ?_
            refine wpD_take (v := (Sl.v p0)) 5 (fun _ => True) rfl (by kernel_rfl) (by kernel_rfl) (by kernel_rfl) rfl rfl rfl trivial (fun w _ => (x_move (v := (Sl.v p0)) rfl e0)) ?_
            refine wpD_take (v := (Value.int .i64 l36)) 6 (fun _ => True) rfl (by kernel_rfl) (by kernel_rfl) (by kernel_rfl) rfl rfl rfl trivial (fun w _ => (x_move (v := (Value.int .i64 l36)) rfl e7)) ?_
            obtain ⟨q42, z42, r42, h⟩ := h
            generalize hp42 : z42.add ((l36 : Int).toNat * 2) = p42 at h
            refine wpD_take (v := (Value.pointer (some p42))) 7 (fun _ => True) rfl (by kernel_rfl) (by kernel_rfl) (by kernel_rfl) rfl rfl rfl trivial (fun w _ => ((x_indexAddr (s := p0) rfl rfl rfl ES_22 q42 r42).trans (by rw [hp42]))) ?_
            refine wpD_take (v := (Value.pointer (some (p42.add 0)))) 8 (fun _ => True) rfl (by kernel_rfl) (by kernel_rfl) (by kernel_rfl) rfl rfl rfl trivial (fun w _ => (x_fieldAddr rfl rfl FA_39_0)) ?_
            obtain ⟨x43, q43, h⟩ := h
            refine wpD_take (v := (Value.int .i64 x43)) 9 (fun w => w.cell? (p42.add 0) = some (Value.int .i64 x43)) rfl (by kernel_rfl) (by kernel_rfl) (by kernel_rfl) rfl rfl rfl q43 (fun w q43 => (x_load1 rfl rfl SH_3 q43)) ?_
            refine wpD_take (v := (Value.bool (decide (x41 = x43)))) 10 (fun _ => True) rfl (by kernel_rfl) (by kernel_rfl) (by kernel_rfl) rfl rfl rfl trivial (fun w _ => (x_eql rfl rfl rfl)) ?_
            exact wpD_done (by kernel_rfl) ⟨decide (x41 = x43), ⟨rfl, e0, e6, e7, trivial⟩, h⟩
          clear h
          rintro l44 ρ w5 ⟨e75, e0, e6, e7, -⟩ h
          replace h := hk l44 w5 h
          clear hk
          refine wpC_cond (b := l44) e75 (fun hc45 => ?_) (fun hc45 => ?_)
          · replace h := h.1 hc45
            refine wpC_seq ?_
            refine wpC_region ?_
            refine wpR_val (v := (Value.int .i64 5)) (w' := w5) rfl rfl rfl (x_assign (v := (Value.int .i64 5)) rfl rfl) ?_
            refine wpR_nil ?_
            refine wpC_ret ?_
            exact ⟨.inl rfl, fun a ha => ⟨_, results_rep1 rfl ha rfl, 5, rfl, h⟩⟩
          · replace h := h.2 hc45
            refine wpC_skip ?_
            refine wpC_region ?_
            refine wpR_val (v := (Value.int .i64 l36)) (w' := w5) rfl rfl rfl (x_move (v := (Value.int .i64 l36)) rfl e7) ?_
            refine wpR_val (v := (Value.int .i64 (IntKind.i64.wrap (l36 + 1)))) (w' := w5) rfl rfl rfl (x_add rfl rfl rfl) ?_
            refine wpR_val (v := (Value.int .i64 (IntKind.i64.wrap (l36 + 1)))) (w' := w5) rfl rfl rfl (x_assign (v := (Value.int .i64 (IntKind.i64.wrap (l36 + 1)))) rfl rfl) ?_
            refine wpR_nil ?_
            exact ⟨IntKind.i64.wrap (l36 + 1), ⟨rfl, e0, e6, trivial⟩, h⟩
        · replace h := h.2 hc37
          refine wpC_exit ?_
          refine wpC_cut (fun ρ => ρ 0 = (Sl.v p0) ∧ ρ 6 = (Value.int .i64 l32) ∧ True) ⟨e0, e6, trivial⟩ ?_
          rintro ρ ⟨e0, e6, -⟩
          refine wpC_region ?_
          refine wpR_val (v := (Value.int .i64 l32)) (w' := w3) rfl rfl rfl (x_move (v := (Value.int .i64 l32)) rfl e6) ?_
          refine wpR_val (v := (Value.int .i64 (IntKind.i64.wrap (l32 + 1)))) (w' := w3) rfl rfl rfl (x_add rfl rfl rfl) ?_
          refine wpR_val (v := (Value.int .i64 (IntKind.i64.wrap (l32 + 1)))) (w' := w3) rfl rfl rfl (x_assign (v := (Value.int .i64 (IntKind.i64.wrap (l32 + 1)))) rfl rfl) ?_
          refine wpR_nil ?_
          exact ⟨IntKind.i64.wrap (l32 + 1), ⟨rfl, e0, trivial⟩, h⟩
      · replace h := h.2 hc35
        refine wpC_exit ?_
        refine wpC_seq ?_
        refine wpC_region ?_
        refine wpR_val (v := (Value.int .i64 0)) (w' := w2) rfl rfl rfl (x_assign (v := (Value.int .i64 0)) rfl rfl) ?_
        refine wpR_nil ?_
        refine wpC_ret ?_
        exact ⟨.inl rfl, fun a ha => ⟨_, results_rep1 rfl ha rfl, 0, rfl, h⟩⟩

/-- linguaref06.On -/
def F23 (p0 : Sl) (p1 : Int) (w0 : World) (K : (Int × Bool) → World → Prop) : Prop :=
  rn Try.prog (Instr.sliceAt 22 (Sl.v p0) none (some (Value.int .i64 (min p1 (p0.len : Int)))) none) (fun (r : Sl) => (Sl.v r)) w0 fun r9 w1 =>
  callC Try.prog 25 #[(Sl.v r9)] (fun (r : Sl) => (Sl.v r)) w1 fun r10 w2 =>
  lp (fun (next11 : Int → World → Prop) l11 w3 =>
    cnd (decide (l11 < (p0.len : Int)))
      (
      jn (fun (J14 : Bool → World → Prop) => tk w3 fun w4 =>
        ix p0 l11 2 fun p15 =>
        ld (Value.int .i64) (p15.add 0) w4 fun x16 =>
        ix p0 l11 2 fun p17 =>
        ld (Value.int .i64) (p17.add 1) w4 fun x18 =>
        callC Try.prog 26 #[(Sl.v r9), (Sl.v r10), (Value.int .i64 x16)] (fun (r : Int) => (Value.int .i64 r)) w4 fun r19 w5 =>
        (w5.cell? (p17.add 1) = some (Value.int .i64 x18)) ∧
        J14 (!decide (r19 = x18)) w5
      )
      fun l20 w6 =>
      cnd (l20)
        (
        K (0, false) w6
        )
        (
        next11 (IntKind.i64.wrap (l11 + 1)) w6
        )
      )
      (
      callC Try.prog 26 #[(Sl.v r9), (Sl.v r10), (Value.int .i64 0)] (fun (r : Int) => (Value.int .i64 r)) w3 fun r22 w7 =>
      K (r22, true) w7
      )
  ) p1 w2
set_option maxRecDepth 100000 in
theorem D23 (p0 : Sl) (p1 : Int) (w0 : World) (K : (Int × Bool) → World → Prop) (h : F23 p0 p1 w0 K) : callC Try.prog 23 #[(Sl.v p0), (Value.int .i64 p1)] (fun (r : Int × Bool) => (Value.tuple #[(Value.int .i64 r.1), (Value.bool r.2)])) w0 K := by
  unfold F23 at h
  refine calls_of_wpC Try.func23 rfl 41 rfl (by simp) ?_
  intro ρ hρ
  have e0 : ρ 0 = (Sl.v p0) := hρ 0
  have e1 : ρ 1 = (Value.int .i64 p1) := hρ 1
  clear hρ
  refine wpC_seq ?_
  refine wpC_region ?_
  refine wpR_val (v := (Value.int .i64 0)) (w' := w0) rfl rfl rfl (x_assign (v := (Value.int .i64 0)) rfl rfl) ?_
  refine wpR_val (v := (Value.bool false)) (w' := w0) rfl rfl rfl (x_assign (v := (Value.bool false)) rfl rfl) ?_
  refine wpR_nil ?_
  refine wpC_seq ?_
  refine wpC_cut (fun ρ => ρ 0 = (Sl.v p0) ∧ ρ 1 = (Value.int .i64 p1) ∧ True) ⟨e0, e1, trivial⟩ ?_
  rintro ρ ⟨e0, e1, -⟩
  refine wpC_region ?_
  refine wpR_val (v := (Sl.v p0)) (w' := w0) rfl rfl rfl (x_move (v := (Sl.v p0)) rfl e0) ?_
  refine wpR_val (v := (Value.int .i64 p1)) (w' := w0) rfl rfl rfl (x_move (v := (Value.int .i64 p1)) rfl e1) ?_
  refine wpR_val (v := (Sl.v p0)) (w' := w0) rfl rfl rfl (x_move (v := (Sl.v p0)) rfl e0) ?_
  refine wpR_val (v := (Value.int .i64 (p0.len : Int))) (w' := w0) rfl rfl rfl (x_lenS (s := p0) rfl rfl isSliceT_22) ?_
  refine wpR_val (v := (Value.int .i64 (min p1 (p0.len : Int)))) (w' := w0) rfl rfl rfl (x_min rfl rfl rfl) ?_
  obtain ⟨r9, w1, q9, h⟩ := h
  refine wpR_val (v := (Sl.v r9)) (w' := w1) rfl rfl rfl (x_sliceAt rfl rfl rfl (congrArg some rfl) rfl q9) ?_
  refine wpR_val (v := (Sl.v r9)) (w' := w1) rfl rfl rfl (x_assign (v := (Sl.v r9)) rfl rfl) ?_
  refine wpR_nil ?_
  refine wpC_seq ?_
  refine wpC_cut (fun ρ => ρ 0 = (Sl.v p0) ∧ ρ 1 = (Value.int .i64 p1) ∧ ρ 6 = (Sl.v r9) ∧ True) ⟨e0, e1, rfl, trivial⟩ ?_
  rintro ρ ⟨e0, e1, e6, -⟩
  refine wpC_region ?_
  refine wpR_val (v := (Sl.v r9)) (w' := w1) rfl rfl rfl (x_move (v := (Sl.v r9)) rfl e6) ?_
  refine wpR_enter rfl rfl rfl (x_call (vs := [(Sl.v r9)]) rfl rfl (mapl_cons rfl mapl_nil) Try.func25 NN_25 NB_25) (Calls.mono h ?_)
  rintro _ w2 ⟨r10, rfl, h⟩
  refine ⟨_, rfl, ?_⟩
  refine wpR_val (v := (Sl.v r10)) (w' := w2) rfl rfl rfl (x_assign (v := (Sl.v r10)) rfl rfl) ?_
  refine wpR_nil ?_
  refine wpC_seq ?_
  refine wpC_seq ?_
  refine wpC_cut (fun ρ => ρ 0 = (Sl.v p0) ∧ ρ 1 = (Value.int .i64 p1) ∧ ρ 6 = (Sl.v r9) ∧ ρ 7 = (Sl.v r10) ∧ True) ⟨e0, e1, e6, rfl, trivial⟩ ?_
  rintro ρ ⟨e0, e1, e6, e7, -⟩
  refine wpC_region ?_
  refine wpR_val (v := (Value.int .i64 p1)) (w' := w2) rfl rfl rfl (x_move (v := (Value.int .i64 p1)) rfl e1) ?_
  refine wpR_val (v := (Value.int .i64 p1)) (w' := w2) rfl rfl rfl (x_assign (v := (Value.int .i64 p1)) rfl rfl) ?_
  refine wpR_nil ?_
  refine wpC_block ?_
  obtain ⟨I11, μ11, hI11, hr11⟩ := h
  refine wpC_loop (fun (x : Int) ρ => ρ 8 = (Value.int .i64 x) ∧ ρ 0 = (Sl.v p0) ∧ ρ 6 = (Sl.v r9) ∧ ρ 7 = (Sl.v r10) ∧ True) I11 μ11 p1 ⟨rfl, e0, e6, e7, trivial⟩ hI11 ?_
  rintro l11 ρ w3 ⟨e8, e0, e6, e7, -⟩ h
  replace h := hr11 l11 w3 h
  clear hr11 hI11
  refine wpC_seq ?_
  refine wpC_seq ?_
  refine wpC_region ?_
  refine wpR_val (v := (Value.int .i64 l11)) (w' := w3) rfl rfl rfl (x_move (v := (Value.int .i64 l11)) rfl e8) ?_
  refine wpR_val (v := (Sl.v p0)) (w' := w3) rfl rfl rfl (x_move (v := (Sl.v p0)) rfl e0) ?_
  refine wpR_val (v := (Value.int .i64 (p0.len : Int))) (w' := w3) rfl rfl rfl (x_lenS (s := p0) rfl rfl isSliceT_22) ?_
  refine wpR_val (v := (Value.bool (decide (l11 < (p0.len : Int))))) (w' := w3) rfl rfl rfl (x_lss rfl rfl rfl) ?_
  refine wpR_nil ?_
  refine wpC_cond (b := decide (l11 < (p0.len : Int))) rfl (fun hc12 => ?_) (fun hc12 => ?_)
  · replace h := h.1 hc12
    refine wpC_skip ?_
    refine wpC_seq ?_
    refine wpC_block ?_
    refine wpC_seq ?_
    refine wpC_cut (fun ρ => ρ 0 = (Sl.v p0) ∧ ρ 6 = (Sl.v r9) ∧ ρ 7 = (Sl.v r10) ∧ ρ 8 = (Value.int .i64 l11) ∧ True) ⟨e0, e6, e7, e8, trivial⟩ ?_
    rintro ρ ⟨e0, e6, e7, e8, -⟩
    obtain ⟨J14, h, hk⟩ := h
    refine wpC_drawJ (by kernel_rfl) (fun (x : Bool) ρ => ρ 37 = (Value.bool x) ∧ ρ 0 = (Sl.v p0) ∧ ρ 6 = (Sl.v r9) ∧ ρ 7 = (Sl.v r10) ∧ ρ 8 = (Value.int .i64 l11) ∧ True) J14 ?_ ?_
    · clear hk
      unfold tk at h
      generalize w3.drew = w4 at h ⊢
      refine wpD_take (v := (Sl.v r9)) 0 (fun _ => True) rfl (by kernel_rfl) (by kernel_rfl) (by kernel_rfl) rfl rfl rfl trivial (fun w _ => (x_move (v := (Sl.v r9)) rfl e6)) ?_
      refine wpD_take (v := (Sl.v r10)) 1 (fun _ => True) rfl (by kernel_rfl) (by kernel_rfl) (by kernel_rfl) rfl rfl rfl trivial (fun w _ => (x_move (v := (Sl.v r10)) rfl e7)) ?_
      refine wpD_take (v := (Sl.v p0)) 2 (fun _ => True) rfl (by kernel_rfl) (by kernel_rfl) (by kernel_rfl) rfl rfl rfl trivial (fun w _ => (x_move (v := (Sl.v p0)) rfl e0)) ?_
      refine wpD_take (v := (Value.int .i64 l11)) 3 (fun _ => True) rfl (by kernel_rfl) (by kernel_rfl) (by kernel_rfl) rfl rfl rfl trivial (fun w _ => (x_move (v := (Value.int .i64 l11)) rfl e8)) ?_
      obtain ⟨q15, z15, r15, h⟩ := h
      generalize hp15 : z15.add ((l11 : Int).toNat * 2) = p15 at h
      refine wpD_take (v := (Value.pointer (some p15))) 4 (fun _ => True) rfl (by kernel_rfl) (by kernel_rfl) (by kernel_rfl) rfl rfl rfl trivial (fun w _ => ((x_indexAddr (s := p0) rfl rfl rfl ES_22 q15 r15).trans (by rw [hp15]))) ?_
      refine wpD_take (v := (Value.pointer (some (p15.add 0)))) 5 (fun _ => True) rfl (by kernel_rfl) (by kernel_rfl) (by kernel_rfl) rfl rfl rfl trivial (fun w _ => (x_fieldAddr rfl rfl FA_39_0)) ?_
      obtain ⟨x16, q16, h⟩ := h
      refine wpD_take (v := (Value.int .i64 x16)) 6 (fun w => w.cell? (p15.add 0) = some (Value.int .i64 x16)) rfl (by kernel_rfl) (by kernel_rfl) (by kernel_rfl) rfl rfl rfl q16 (fun w q16 => (x_load1 rfl rfl SH_3 q16)) ?_
      refine wpD_take (v := (Sl.v p0)) 8 (fun _ => True) rfl (by kernel_rfl) (by kernel_rfl) (by kernel_rfl) rfl rfl rfl trivial (fun w _ => (x_move (v := (Sl.v p0)) rfl e0)) ?_
      refine wpD_take (v := (Value.int .i64 l11)) 9 (fun _ => True) rfl (by kernel_rfl) (by kernel_rfl) (by kernel_rfl) rfl rfl rfl trivial (fun w _ => (x_move (v := (Value.int .i64 l11)) rfl e8)) ?_
      obtain ⟨q17, z17, r17, h⟩ := h
      generalize hp17 : z17.add ((l11 : Int).toNat * 2) = p17 at h
      refine wpD_take (v := (Value.pointer (some p17))) 10 (fun _ => True) rfl (by kernel_rfl) (by kernel_rfl) (by kernel_rfl) rfl rfl rfl trivial (fun w _ => ((x_indexAddr (s := p0) rfl rfl rfl ES_22 q17 r17).trans (by rw [hp17]))) ?_
      refine wpD_take (v := (Value.pointer (some (p17.add 1)))) 11 (fun _ => True) rfl (by kernel_rfl) (by kernel_rfl) (by kernel_rfl) rfl rfl rfl trivial (fun w _ => (x_fieldAddr rfl rfl FA_39_1)) ?_
      obtain ⟨x18, q18, h⟩ := h
      refine wpD_take (v := (Value.int .i64 x18)) 12 (fun w => w.cell? (p17.add 1) = some (Value.int .i64 x18)) rfl (by kernel_rfl) (by kernel_rfl) (by kernel_rfl) rfl rfl rfl q18 (fun w q18 => (x_load1 rfl rfl SH_3 q18)) ?_
      refine wpD_all (rs := [7]) (by kernel_rfl) (by simp) (allD_cons ?_ allD_nil)
      refine stepD_enterL (L' := [(12, fun w => w.cell? (p17.add 1) = some (Value.int .i64 x18)), (11, fun _ => True), (10, fun _ => True), (9, fun _ => True), (8, fun _ => True), (5, fun _ => True), (4, fun _ => True), (3, fun _ => True), (2, fun _ => True)]) rfl rfl rfl rfl (x_call (vs := [(Sl.v r9), (Sl.v r10), (Value.int .i64 x16)]) rfl rfl (mapl_cons rfl (mapl_cons rfl (mapl_cons rfl mapl_nil))) Try.func26 NN_26 NB_26) (by kernel_rfl) (Calls.mono h ?_)
      rintro _ w5 ⟨r19, rfl, h⟩
      obtain ⟨o12, h⟩ := h
      refine ⟨_, rfl, (held_cons o12 (held_cons trivial (held_cons trivial (held_cons trivial (held_cons trivial (held_cons trivial (held_cons trivial (held_cons trivial (held_cons trivial held_nil))))))))), ?_⟩
      refine wpD_take (v := (Value.bool (!decide (r19 = x18)))) 13 (fun _ => True) rfl (by kernel_rfl) (by kernel_rfl) (by kernel_rfl) rfl rfl rfl trivial (fun w _ => (x_neq rfl rfl rfl)) ?_
      exact wpD_done (by kernel_rfl) ⟨!decide (r19 = x18), ⟨rfl, e0, e6, e7, e8, trivial⟩, h⟩
    clear h
    rintro l20 ρ w6 ⟨e37, e0, e6, e7, e8, -⟩ h
    replace h := hk l20 w6 h
    clear hk
    refine wpC_cond (b := l20) e37 (fun hc21 => ?_) (fun hc21 => ?_)
    · replace h := h.1 hc21
      refine wpC_seq ?_
      refine wpC_region ?_
      refine wpR_val (v := (Value.int .i64 0)) (w' := w6) rfl rfl rfl (x_assign (v := (Value.int .i64 0)) rfl rfl) ?_
      refine wpR_val (v := (Value.bool false)) (w' := w6) rfl rfl rfl (x_assign (v := (Value.bool false)) rfl rfl) ?_
      refine wpR_nil ?_
      refine wpC_ret ?_
      exact ⟨.inl rfl, fun a ha => ⟨_, results_rep2 rfl ha rfl rfl, (0, false), rfl, h⟩⟩
    · replace h := h.2 hc21
      refine wpC_skip ?_
      refine wpC_region ?_
      refine wpR_val (v := (Value.int .i64 l11)) (w' := w6) rfl rfl rfl (x_move (v := (Value.int .i64 l11)) rfl e8) ?_
      refine wpR_val (v := (Value.int .i64 (IntKind.i64.wrap (l11 + 1)))) (w' := w6) rfl rfl rfl (x_add rfl rfl rfl) ?_
      refine wpR_val (v := (Value.int .i64 (IntKind.i64.wrap (l11 + 1)))) (w' := w6) rfl rfl rfl (x_assign (v := (Value.int .i64 (IntKind.i64.wrap (l11 + 1)))) rfl rfl) ?_
      refine wpR_nil ?_
      exact ⟨IntKind.i64.wrap (l11 + 1), ⟨rfl, e0, e6, e7, trivial⟩, h⟩
  · replace h := h.2 hc12
    refine wpC_exit ?_
    refine wpC_seq ?_
    refine wpC_cut (fun ρ => ρ 6 = (Sl.v r9) ∧ ρ 7 = (Sl.v r10) ∧ True) ⟨e6, e7, trivial⟩ ?_
    rintro ρ ⟨e6, e7, -⟩
    refine wpC_region ?_
    refine wpR_val (v := (Sl.v r9)) (w' := w3) rfl rfl rfl (x_move (v := (Sl.v r9)) rfl e6) ?_
    refine wpR_val (v := (Sl.v r10)) (w' := w3) rfl rfl rfl (x_move (v := (Sl.v r10)) rfl e7) ?_
    refine wpR_enter rfl rfl rfl (x_call (vs := [(Sl.v r9), (Sl.v r10), (Value.int .i64 0)]) rfl rfl (mapl_cons rfl (mapl_cons rfl (mapl_cons rfl mapl_nil))) Try.func26 NN_26 NB_26) (Calls.mono h ?_)
    rintro _ w7 ⟨r22, rfl, h⟩
    refine ⟨_, rfl, ?_⟩
    refine wpR_val (v := (Value.int .i64 r22)) (w' := w7) rfl rfl rfl (x_assign (v := (Value.int .i64 r22)) rfl rfl) ?_
    refine wpR_val (v := (Value.bool true)) (w' := w7) rfl rfl rfl (x_assign (v := (Value.bool true)) rfl rfl) ?_
    refine wpR_nil ?_
    refine wpC_ret ?_
    exact ⟨.inl rfl, fun a ha => ⟨_, results_rep2 rfl ha rfl rfl, (r22, true), rfl, h⟩⟩

/-- share.power -/
def F24 (p0 : Int) (p1 : Int) (w0 : World) (K : Int → World → Prop) : Prop :=
  lp (fun (next9 : (Int × Int × Int) → World → Prop) l9 w1 =>
    cnd (decide (0 < l9.2.1))
      (
      jn (fun (J11 : Int → World → Prop) =>
        cnd (decide ((andK .i64 l9.2.1 1) = 1))
          (
          J11 ((IntKind.i64.wrap (l9.2.2 * l9.1)).tmod 2147483647) w1
          )
          (
          J11 l9.2.2 w1
          )
      )
      fun l12 w2 =>
      next9 ((IntKind.i64.wrap (l9.1 * l9.1)).tmod 2147483647, shrK .i64 l9.2.1 1, l12) w2
      )
      (
      K l9.2.2 w1
      )
  ) (p0, p1, 1) w0
set_option maxRecDepth 100000 in
theorem D24 (p0 : Int) (p1 : Int) (w0 : World) (K : Int → World → Prop) (h : F24 p0 p1 w0 K) : callC Try.prog 24 #[(Value.int .i64 p0), (Value.int .i64 p1)] (fun (r : Int) => (Value.int .i64 r)) w0 K := by
  unfold F24 at h
  refine calls_of_wpC Try.func24 rfl 22 rfl (by simp) ?_
  intro ρ hρ
  have e0 : ρ 0 = (Value.int .i64 p0) := hρ 0
  have e1 : ρ 1 = (Value.int .i64 p1) := hρ 1
  clear hρ
  refine wpC_seq ?_
  refine wpC_region ?_
  refine wpR_val (v := (Value.int .i64 0)) (w' := w0) rfl rfl rfl (x_assign (v := (Value.int .i64 0)) rfl rfl) ?_
  refine wpR_nil ?_
  refine wpC_seq ?_
  refine wpC_cut (fun ρ => ρ 0 = (Value.int .i64 p0) ∧ ρ 1 = (Value.int .i64 p1) ∧ True) ⟨e0, e1, trivial⟩ ?_
  rintro ρ ⟨e0, e1, -⟩
  refine wpC_region ?_
  refine wpR_val (v := (Value.int .i64 1)) (w' := w0) rfl rfl rfl (x_assign (v := (Value.int .i64 1)) rfl rfl) ?_
  refine wpR_nil ?_
  refine wpC_seq ?_
  refine wpC_block ?_
  obtain ⟨I9, μ9, hI9, hr9⟩ := h
  refine wpC_loop (fun (x : Int × Int × Int) ρ => ρ 0 = (Value.int .i64 x.1) ∧ ρ 1 = (Value.int .i64 x.2.1) ∧ ρ 5 = (Value.int .i64 x.2.2) ∧ True) I9 μ9 (p0, p1, 1) ⟨e0, e1, rfl, trivial⟩ hI9 ?_
  rintro l9 ρ w1 ⟨e0, e1, e5, -⟩ h
  replace h := hr9 l9 w1 h
  clear hr9 hI9
  refine wpC_seq ?_
  refine wpC_seq ?_
  refine wpC_region ?_
  refine wpR_val (v := (Value.int .i64 l9.2.1)) (w' := w1) rfl rfl rfl (x_move (v := (Value.int .i64 l9.2.1)) rfl e1) ?_
  refine wpR_val (v := (Value.bool (decide (0 < l9.2.1)))) (w' := w1) rfl rfl rfl (x_gtr rfl rfl rfl) ?_
  refine wpR_nil ?_
  refine wpC_cond (b := decide (0 < l9.2.1)) rfl (fun hc10 => ?_) (fun hc10 => ?_)
  · replace h := h.1 hc10
    refine wpC_skip ?_
    refine wpC_seq ?_
    refine wpC_block ?_
    obtain ⟨J11, h, hk⟩ := h
    refine wpC_seqJ (fun (x : Int) ρ => ρ 5 = (Value.int .i64 x) ∧ ρ 0 = (Value.int .i64 l9.1) ∧ ρ 1 = (Value.int .i64 l9.2.1) ∧ True) J11 ?_ ?_
    · clear hk
      refine wpC_seq ?_
      refine wpC_cut (fun ρ => ρ 0 = (Value.int .i64 l9.1) ∧ ρ 1 = (Value.int .i64 l9.2.1) ∧ ρ 5 = (Value.int .i64 l9.2.2) ∧ True) ⟨e0, e1, e5, trivial⟩ ?_
      rintro ρ ⟨e0, e1, e5, -⟩
      refine wpC_region ?_
      refine wpR_val (v := (Value.int .i64 l9.2.1)) (w' := w1) rfl rfl rfl (x_move (v := (Value.int .i64 l9.2.1)) rfl e1) ?_
      refine wpR_val (v := (Value.int .i64 (andK .i64 l9.2.1 1))) (w' := w1) rfl rfl rfl (x_and rfl rfl rfl) ?_
      refine wpR_val (v := (Value.bool (decide ((andK .i64 l9.2.1 1) = 1)))) (w' := w1) rfl rfl rfl (x_eql rfl rfl rfl) ?_
      refine wpR_nil ?_
      refine wpC_cond (b := decide ((andK .i64 l9.2.1 1) = 1)) rfl (fun hc13 => ?_) (fun hc13 => ?_)
      · replace h := h.1 hc13
        refine wpC_cut (fun ρ => ρ 0 = (Value.int .i64 l9.1) ∧ ρ 1 = (Value.int .i64 l9.2.1) ∧ ρ 5 = (Value.int .i64 l9.2.2) ∧ True) ⟨e0, e1, e5, trivial⟩ ?_
        rintro ρ ⟨e0, e1, e5, -⟩
        refine wpC_region ?_
        refine wpR_val (v := (Value.int .i64 l9.2.2)) (w' := w1) rfl rfl rfl (x_move (v := (Value.int .i64 l9.2.2)) rfl e5) ?_
        refine wpR_val (v := (Value.int .i64 l9.1)) (w' := w1) rfl rfl rfl (x_move (v := (Value.int .i64 l9.1)) rfl e0) ?_
        refine wpR_val (v := (Value.int .i64 (IntKind.i64.wrap (l9.2.2 * l9.1)))) (w' := w1) rfl rfl rfl (x_mul rfl rfl rfl) ?_
        refine wpR_val (v := (Value.int .i64 ((IntKind.i64.wrap (l9.2.2 * l9.1)).tmod 2147483647))) (w' := w1) rfl rfl rfl (x_rem rfl rfl rfl (by decide)) ?_
        refine wpR_val (v := (Value.int .i64 ((IntKind.i64.wrap (l9.2.2 * l9.1)).tmod 2147483647))) (w' := w1) rfl rfl rfl (x_assign (v := (Value.int .i64 ((IntKind.i64.wrap (l9.2.2 * l9.1)).tmod 2147483647))) rfl rfl) ?_
        refine wpR_nil ?_
        exact ⟨(IntKind.i64.wrap (l9.2.2 * l9.1)).tmod 2147483647, ⟨rfl, e0, e1, trivial⟩, h⟩
      · replace h := h.2 hc13
        refine wpC_skip ?_
        exact ⟨l9.2.2, ⟨e5, e0, e1, trivial⟩, h⟩
    clear h
    rintro l12 ρ w2 ⟨e5, e0, e1, -⟩ h
    replace h := hk l12 w2 h
    clear hk
    refine wpC_region ?_
    refine wpR_val (v := (Value.int .i64 l9.1)) (w' := w2) rfl rfl rfl (x_move (v := (Value.int .i64 l9.1)) rfl e0) ?_
    refine wpR_val (v := (Value.int .i64 l9.1)) (w' := w2) rfl rfl rfl (x_move (v := (Value.int .i64 l9.1)) rfl e0) ?_
    refine wpR_val (v := (Value.int .i64 (IntKind.i64.wrap (l9.1 * l9.1)))) (w' := w2) rfl rfl rfl (x_mul rfl rfl rfl) ?_
    refine wpR_val (v := (Value.int .i64 ((IntKind.i64.wrap (l9.1 * l9.1)).tmod 2147483647))) (w' := w2) rfl rfl rfl (x_rem rfl rfl rfl (by decide)) ?_
    refine wpR_val (v := (Value.int .i64 ((IntKind.i64.wrap (l9.1 * l9.1)).tmod 2147483647))) (w' := w2) rfl rfl rfl (x_assign (v := (Value.int .i64 ((IntKind.i64.wrap (l9.1 * l9.1)).tmod 2147483647))) rfl rfl) ?_
    refine wpR_nil ?_
    refine wpC_cut (fun ρ => ρ 0 = (Value.int .i64 ((IntKind.i64.wrap (l9.1 * l9.1)).tmod 2147483647)) ∧ ρ 1 = (Value.int .i64 l9.2.1) ∧ ρ 5 = (Value.int .i64 l12) ∧ True) ⟨rfl, e1, e5, trivial⟩ ?_
    rintro ρ ⟨e0, e1, e5, -⟩
    refine wpC_region ?_
    refine wpR_val (v := (Value.int .i64 l9.2.1)) (w' := w2) rfl rfl rfl (x_move (v := (Value.int .i64 l9.2.1)) rfl e1) ?_
    refine wpR_val (v := (Value.int .i64 (shrK .i64 l9.2.1 1))) (w' := w2) rfl rfl rfl (x_shr rfl rfl rfl (by decide)) ?_
    refine wpR_val (v := (Value.int .i64 (shrK .i64 l9.2.1 1))) (w' := w2) rfl rfl rfl (x_assign (v := (Value.int .i64 (shrK .i64 l9.2.1 1))) rfl rfl) ?_
    refine wpR_nil ?_
    exact ⟨((IntKind.i64.wrap (l9.1 * l9.1)).tmod 2147483647, shrK .i64 l9.2.1 1, l12), ⟨e0, rfl, e5, trivial⟩, h⟩
  · replace h := h.2 hc10
    refine wpC_exit ?_
    refine wpC_seq ?_
    refine wpC_cut (fun ρ => ρ 5 = (Value.int .i64 l9.2.2) ∧ True) ⟨e5, trivial⟩ ?_
    rintro ρ ⟨e5, -⟩
    refine wpC_region ?_
    refine wpR_val (v := (Value.int .i64 l9.2.2)) (w' := w1) rfl rfl rfl (x_move (v := (Value.int .i64 l9.2.2)) rfl e5) ?_
    refine wpR_val (v := (Value.int .i64 l9.2.2)) (w' := w1) rfl rfl rfl (x_assign (v := (Value.int .i64 l9.2.2)) rfl rfl) ?_
    refine wpR_nil ?_
    refine wpC_ret ?_
    exact ⟨.inl rfl, fun a ha => ⟨_, results_rep1 rfl ha rfl, l9.2.2, rfl, h⟩⟩

/-- linguaref06.poly -/
def F25 (p0 : Sl) (w0 : World) (K : Sl → World → Prop) : Prop :=
  rn Try.prog (Instr.makeSlice 43 (Value.int .i64 (p0.len : Int)) (Value.int .i64 (p0.len : Int))) (fun (r : Sl) => (Sl.v r)) w0 fun r9 w1 =>
  lp (fun (next10 : Int → World → Prop) l10 w2 =>
    cnd (decide (l10 < (p0.len : Int)))
      (
      ix p0 l10 2 fun p12 =>
      ld (Value.int .i64) (p12.add 1) w2 fun x13 =>
      ix r9 l10 1 fun p14 =>
      st p14 [(Value.int .i64 x13)] w2 fun w3 =>
      next10 (IntKind.i64.wrap (l10 + 1)) w3
      )
      (
      lp (fun (next16 : Int → World → Prop) l16 w4 =>
        cnd (decide (l16 < (p0.len : Int)))
          (
          lp (fun (next18 : Int → World → Prop) l18 w5 =>
            cnd (decide (l16 ≤ l18))
              (
              jn (fun (J21 : Unit → World → Prop) => tk w5 fun w6 =>
                ix r9 l18 1 fun p22 =>
                ld (Value.int .i64) p22 w6 fun x23 =>
                ix r9 (IntKind.i64.wrap (l18 - 1)) 1 fun p24 =>
                ld (Value.int .i64) p24 w6 fun x25 =>
                ix p0 l18 2 fun p26 =>
                ld (Value.int .i64) (p26.add 0) w6 fun x27 =>
                ix p0 (IntKind.i64.wrap (l18 - l16)) 2 fun p28 =>
                ld (Value.int .i64) (p28.add 0) w6 fun x29 =>
                callC Try.prog 16 #[(Value.int .i64 (IntKind.i64.wrap (x23 - x25)))] (fun (r : Int) => (Value.int .i64 r)) w6 fun r30 w7 =>
                (w7.cell? (p28.add 0) = some (Value.int .i64 x29)) ∧
                (w7.cell? (p26.add 0) = some (Value.int .i64 x27)) ∧
                (w7.cell? p24 = some (Value.int .i64 x25)) ∧
                (w7.cell? p22 = some (Value.int .i64 x23)) ∧
                callC Try.prog 16 #[(Value.int .i64 (IntKind.i64.wrap (x27 - x29)))] (fun (r : Int) => (Value.int .i64 r)) w7 fun r31 w8 =>
                (w8.cell? (p28.add 0) = some (Value.int .i64 x29)) ∧
                (w8.cell? (p26.add 0) = some (Value.int .i64 x27)) ∧
                (w8.cell? p24 = some (Value.int .i64 x25)) ∧
                (w8.cell? p22 = some (Value.int .i64 x23)) ∧
                callC Try.prog 27 #[(Value.int .i64 r31)] (fun (r : Int) => (Value.int .i64 r)) w8 fun r32 w9 =>
                (w9.cell? (p28.add 0) = some (Value.int .i64 x29)) ∧
                (w9.cell? (p26.add 0) = some (Value.int .i64 x27)) ∧
                (w9.cell? p24 = some (Value.int .i64 x25)) ∧
                (w9.cell? p22 = some (Value.int .i64 x23)) ∧
                ix r9 l18 1 fun p33 =>
                st p33 [(Value.int .i64 ((IntKind.i64.wrap (r30 * r32)).tmod 2147483647))] w9 fun w10 =>
                J21 () w10
              )
              fun _l35 w11 =>
              next18 (IntKind.i64.wrap (l18 - 1)) w11
              )
              (
              next16 (IntKind.i64.wrap (l16 + 1)) w5
              )
          ) (IntKind.i64.wrap ((p0.len : Int) - 1)) w4
          )
          (
          K r9 w4
          )
      ) 1 w2
      )
  ) 0 w1
set_option maxRecDepth 100000 in
theorem D25 (p0 : Sl) (w0 : World) (K : Sl → World → Prop) (h : F25 p0 w0 K) : callC Try.prog 25 #[(Sl.v p0)] (fun (r : Sl) => (Sl.v r)) w0 K := by
  unfold F25 at h
  refine calls_of_wpC Try.func25 rfl 70 rfl (by simp) ?_
  intro ρ hρ
  have e0 : ρ 0 = (Sl.v p0) := hρ 0
  clear hρ
  refine wpC_seq ?_
  refine wpC_region ?_
  refine wpR_val (v := (Sl.v Sl.nil)) (w' := w0) rfl rfl rfl (x_assign (v := (Sl.v Sl.nil)) rfl rfl) ?_
  refine wpR_nil ?_
  refine wpC_seq ?_
  refine wpC_cut (fun ρ => ρ 0 = (Sl.v p0) ∧ True) ⟨e0, trivial⟩ ?_
  rintro ρ ⟨e0, -⟩
  refine wpC_region ?_
  refine wpR_val (v := (Sl.v p0)) (w' := w0) rfl rfl rfl (x_move (v := (Sl.v p0)) rfl e0) ?_
  refine wpR_val (v := (Value.int .i64 (p0.len : Int))) (w' := w0) rfl rfl rfl (x_lenS (s := p0) rfl rfl isSliceT_22) ?_
  obtain ⟨r9, w1, q9, h⟩ := h
  refine wpR_val (v := (Sl.v r9)) (w' := w1) rfl rfl rfl (x_makeSlice rfl rfl rfl q9) ?_
  refine wpR_val (v := (Sl.v r9)) (w' := w1) rfl rfl rfl (x_assign (v := (Sl.v r9)) rfl rfl) ?_
  refine wpR_nil ?_
  refine wpC_seq ?_
  refine wpC_seq ?_
  refine wpC_cut (fun ρ => ρ 0 = (Sl.v p0) ∧ ρ 3 = (Sl.v r9) ∧ True) ⟨e0, rfl, trivial⟩ ?_
  rintro ρ ⟨e0, e3, -⟩
  refine wpC_region ?_
  refine wpR_val (v := (Value.int .i64 0)) (w' := w1) rfl rfl rfl (x_assign (v := (Value.int .i64 0)) rfl rfl) ?_
  refine wpR_nil ?_
  refine wpC_block ?_
  obtain ⟨I10, μ10, hI10, hr10⟩ := h
  refine wpC_loop (fun (x : Int) ρ => ρ 4 = (Value.int .i64 x) ∧ ρ 0 = (Sl.v p0) ∧ ρ 3 = (Sl.v r9) ∧ True) I10 μ10 0 ⟨rfl, e0, e3, trivial⟩ hI10 ?_
  rintro l10 ρ w2 ⟨e4, e0, e3, -⟩ h
  replace h := hr10 l10 w2 h
  clear hr10 hI10
  refine wpC_seq ?_
  refine wpC_seq ?_
  refine wpC_region ?_
  refine wpR_val (v := (Value.int .i64 l10)) (w' := w2) rfl rfl rfl (x_move (v := (Value.int .i64 l10)) rfl e4) ?_
  refine wpR_val (v := (Sl.v p0)) (w' := w2) rfl rfl rfl (x_move (v := (Sl.v p0)) rfl e0) ?_
  refine wpR_val (v := (Value.int .i64 (p0.len : Int))) (w' := w2) rfl rfl rfl (x_lenS (s := p0) rfl rfl isSliceT_22) ?_
  refine wpR_val (v := (Value.bool (decide (l10 < (p0.len : Int))))) (w' := w2) rfl rfl rfl (x_lss rfl rfl rfl) ?_
  refine wpR_nil ?_
  refine wpC_cond (b := decide (l10 < (p0.len : Int))) rfl (fun hc11 => ?_) (fun hc11 => ?_)
  · replace h := h.1 hc11
    refine wpC_skip ?_
    refine wpC_seq ?_
    refine wpC_block ?_
    refine wpC_cut (fun ρ => ρ 0 = (Sl.v p0) ∧ ρ 3 = (Sl.v r9) ∧ ρ 4 = (Value.int .i64 l10) ∧ True) ⟨e0, e3, e4, trivial⟩ ?_
    rintro ρ ⟨e0, e3, e4, -⟩
    refine wpC_region ?_
    refine wpR_val (v := (Sl.v r9)) (w' := w2) rfl rfl rfl (x_move (v := (Sl.v r9)) rfl e3) ?_
    refine wpR_val (v := (Value.int .i64 l10)) (w' := w2) rfl rfl rfl (x_move (v := (Value.int .i64 l10)) rfl e4) ?_
    refine wpR_val (v := (Sl.v p0)) (w' := w2) rfl rfl rfl (x_move (v := (Sl.v p0)) rfl e0) ?_
    refine wpR_val (v := (Value.int .i64 l10)) (w' := w2) rfl rfl rfl (x_move (v := (Value.int .i64 l10)) rfl e4) ?_
    obtain ⟨q12, z12, r12, h⟩ := h
    generalize hp12 : z12.add ((l10 : Int).toNat * 2) = p12 at h
    refine wpR_val (v := (Value.pointer (some p12))) (w' := w2) rfl rfl rfl ((x_indexAddr (s := p0) rfl rfl rfl ES_22 q12 r12).trans (by rw [hp12])) ?_
    refine wpR_val (v := (Value.pointer (some (p12.add 1)))) (w' := w2) rfl rfl rfl (x_fieldAddr rfl rfl FA_39_1) ?_
    obtain ⟨x13, q13, h⟩ := h
    refine wpR_val (v := (Value.int .i64 x13)) (w' := w2) rfl rfl rfl (x_load1 rfl rfl SH_3 q13) ?_
    obtain ⟨q14, z14, r14, h⟩ := h
    generalize hp14 : z14.add ((l10 : Int).toNat * 1) = p14 at h
    refine wpR_val (v := (Value.pointer (some p14))) (w' := w2) rfl rfl rfl ((x_indexAddr (s := r9) rfl rfl rfl ES_43 q14 r14).trans (by rw [hp14])) ?_
    obtain ⟨q15, h⟩ := h
    obtain ⟨w3, hw15⟩ : ∃ u, u = setAll w2 p14 [(Value.int .i64 x13)] 0 := ⟨_, rfl⟩
    replace h := h w3 hw15
    refine wpR_skp (w' := w3) rfl rfl ((x_store (v := (Value.int .i64 x13)) rfl rfl rfl SZ_3 (ones (by rfl)) q15).trans (by rw [hw15]; rfl)) ?_
    refine wpR_nil ?_
    refine wpC_cut (fun ρ => ρ 0 = (Sl.v p0) ∧ ρ 3 = (Sl.v r9) ∧ ρ 4 = (Value.int .i64 l10) ∧ True) ⟨e0, e3, e4, trivial⟩ ?_
    rintro ρ ⟨e0, e3, e4, -⟩
    refine wpC_region ?_
    refine wpR_val (v := (Value.int .i64 l10)) (w' := w3) rfl rfl rfl (x_move (v := (Value.int .i64 l10)) rfl e4) ?_
    refine wpR_val (v := (Value.int .i64 (IntKind.i64.wrap (l10 + 1)))) (w' := w3) rfl rfl rfl (x_add rfl rfl rfl) ?_
    refine wpR_val (v := (Value.int .i64 (IntKind.i64.wrap (l10 + 1)))) (w' := w3) rfl rfl rfl (x_assign (v := (Value.int .i64 (IntKind.i64.wrap (l10 + 1)))) rfl rfl) ?_
    refine wpR_nil ?_
    exact ⟨IntKind.i64.wrap (l10 + 1), ⟨rfl, e0, e3, trivial⟩, h⟩
  · replace h := h.2 hc11
    refine wpC_exit ?_
    refine wpC_seq ?_
    refine wpC_seq ?_
    refine wpC_cut (fun ρ => ρ 0 = (Sl.v p0) ∧ ρ 3 = (Sl.v r9) ∧ True) ⟨e0, e3, trivial⟩ ?_
    rintro ρ ⟨e0, e3, -⟩
    refine wpC_region ?_
    refine wpR_val (v := (Value.int .i64 1)) (w' := w2) rfl rfl rfl (x_assign (v := (Value.int .i64 1)) rfl rfl) ?_
    refine wpR_nil ?_
    refine wpC_block ?_
    obtain ⟨I16, μ16, hI16, hr16⟩ := h
    refine wpC_loop (fun (x : Int) ρ => ρ 5 = (Value.int .i64 x) ∧ ρ 0 = (Sl.v p0) ∧ ρ 3 = (Sl.v r9) ∧ True) I16 μ16 1 ⟨rfl, e0, e3, trivial⟩ hI16 ?_
    rintro l16 ρ w4 ⟨e5, e0, e3, -⟩ h
    replace h := hr16 l16 w4 h
    clear hr16 hI16
    refine wpC_seq ?_
    refine wpC_seq ?_
    refine wpC_region ?_
    refine wpR_val (v := (Value.int .i64 l16)) (w' := w4) rfl rfl rfl (x_move (v := (Value.int .i64 l16)) rfl e5) ?_
    refine wpR_val (v := (Sl.v p0)) (w' := w4) rfl rfl rfl (x_move (v := (Sl.v p0)) rfl e0) ?_
    refine wpR_val (v := (Value.int .i64 (p0.len : Int))) (w' := w4) rfl rfl rfl (x_lenS (s := p0) rfl rfl isSliceT_22) ?_
    refine wpR_val (v := (Value.bool (decide (l16 < (p0.len : Int))))) (w' := w4) rfl rfl rfl (x_lss rfl rfl rfl) ?_
    refine wpR_nil ?_
    refine wpC_cond (b := decide (l16 < (p0.len : Int))) rfl (fun hc17 => ?_) (fun hc17 => ?_)
    · replace h := h.1 hc17
      refine wpC_skip ?_
      refine wpC_seq ?_
      refine wpC_block ?_
      refine wpC_seq ?_
      refine wpC_cut (fun ρ => ρ 0 = (Sl.v p0) ∧ ρ 3 = (Sl.v r9) ∧ ρ 5 = (Value.int .i64 l16) ∧ True) ⟨e0, e3, e5, trivial⟩ ?_
      rintro ρ ⟨e0, e3, e5, -⟩
      refine wpC_region ?_
      refine wpR_val (v := (Sl.v p0)) (w' := w4) rfl rfl rfl (x_move (v := (Sl.v p0)) rfl e0) ?_
      refine wpR_val (v := (Value.int .i64 (p0.len : Int))) (w' := w4) rfl rfl rfl (x_lenS (s := p0) rfl rfl isSliceT_22) ?_
      refine wpR_val (v := (Value.int .i64 (IntKind.i64.wrap ((p0.len : Int) - 1)))) (w' := w4) rfl rfl rfl (x_sub rfl rfl rfl) ?_
      refine wpR_val (v := (Value.int .i64 (IntKind.i64.wrap ((p0.len : Int) - 1)))) (w' := w4) rfl rfl rfl (x_assign (v := (Value.int .i64 (IntKind.i64.wrap ((p0.len : Int) - 1)))) rfl rfl) ?_
      refine wpR_nil ?_
      refine wpC_block ?_
      obtain ⟨I18, μ18, hI18, hr18⟩ := h
      refine wpC_loop (fun (x : Int) ρ => ρ 6 = (Value.int .i64 x) ∧ ρ 0 = (Sl.v p0) ∧ ρ 3 = (Sl.v r9) ∧ ρ 5 = (Value.int .i64 l16) ∧ True) I18 μ18 (IntKind.i64.wrap ((p0.len : Int) - 1)) ⟨rfl, e0, e3, e5, trivial⟩ hI18 ?_
      rintro l18 ρ w5 ⟨e6, e0, e3, e5, -⟩ h
      replace h := hr18 l18 w5 h
      clear hr18 hI18
      refine wpC_seq ?_
      refine wpC_seq ?_
      refine wpC_region ?_
      refine wpR_val (v := (Value.int .i64 l18)) (w' := w5) rfl rfl rfl (x_move (v := (Value.int .i64 l18)) rfl e6) ?_
      refine wpR_val (v := (Value.int .i64 l16)) (w' := w5) rfl rfl rfl (x_move (v := (Value.int .i64 l16)) rfl e5) ?_
      refine wpR_val (v := (Value.bool (decide (l16 ≤ l18)))) (w' := w5) rfl rfl rfl (x_geq rfl rfl rfl) ?_
      refine wpR_nil ?_
      refine wpC_cond (b := decide (l16 ≤ l18)) rfl (fun hc19 => ?_) (fun hc19 => ?_)
      · replace h := h.1 hc19
        refine wpC_skip ?_
        refine wpC_seq ?_
        refine wpC_block ?_
        refine wpC_cut (fun ρ => ρ 0 = (Sl.v p0) ∧ ρ 3 = (Sl.v r9) ∧ ρ 5 = (Value.int .i64 l16) ∧ ρ 6 = (Value.int .i64 l18) ∧ True) ⟨e0, e3, e5, e6, trivial⟩ ?_
        rintro ρ ⟨e0, e3, e5, e6, -⟩
        obtain ⟨J21, h, hk⟩ := h
        refine wpC_drawJ (by kernel_rfl) (fun (x : Unit) ρ => ρ 0 = (Sl.v p0) ∧ ρ 3 = (Sl.v r9) ∧ ρ 5 = (Value.int .i64 l16) ∧ ρ 6 = (Value.int .i64 l18) ∧ True) J21 ?_ ?_
        · clear hk
          unfold tk at h
          generalize w5.drew = w6 at h ⊢
          refine wpD_take (v := (Sl.v r9)) 0 (fun _ => True) rfl (by kernel_rfl) (by kernel_rfl) (by kernel_rfl) rfl rfl rfl trivial (fun w _ => (x_move (v := (Sl.v r9)) rfl e3)) ?_
          refine wpD_take (v := (Value.int .i64 l18)) 1 (fun _ => True) rfl (by kernel_rfl) (by kernel_rfl) (by kernel_rfl) rfl rfl rfl trivial (fun w _ => (x_move (v := (Value.int .i64 l18)) rfl e6)) ?_
          refine wpD_take (v := (Sl.v r9)) 2 (fun _ => True) rfl (by kernel_rfl) (by kernel_rfl) (by kernel_rfl) rfl rfl rfl trivial (fun w _ => (x_move (v := (Sl.v r9)) rfl e3)) ?_
          refine wpD_take (v := (Value.int .i64 l18)) 3 (fun _ => True) rfl (by kernel_rfl) (by kernel_rfl) (by kernel_rfl) rfl rfl rfl trivial (fun w _ => (x_move (v := (Value.int .i64 l18)) rfl e6)) ?_
          obtain ⟨q22, z22, r22, h⟩ := h
          generalize hp22 : z22.add ((l18 : Int).toNat * 1) = p22 at h
          refine wpD_take (v := (Value.pointer (some p22))) 4 (fun _ => True) rfl (by kernel_rfl) (by kernel_rfl) (by kernel_rfl) rfl rfl rfl trivial (fun w _ => ((x_indexAddr (s := r9) rfl rfl rfl ES_43 q22 r22).trans (by rw [hp22]))) ?_
          obtain ⟨x23, q23, h⟩ := h
          refine wpD_take (v := (Value.int .i64 x23)) 5 (fun w => w.cell? p22 = some (Value.int .i64 x23)) rfl (by kernel_rfl) (by kernel_rfl) (by kernel_rfl) rfl rfl rfl q23 (fun w q23 => (x_load1 rfl rfl SH_3 q23)) ?_
          refine wpD_take (v := (Sl.v r9)) 6 (fun _ => True) rfl (by kernel_rfl) (by kernel_rfl) (by kernel_rfl) rfl rfl rfl trivial (fun w _ => (x_move (v := (Sl.v r9)) rfl e3)) ?_
          refine wpD_take (v := (Value.int .i64 l18)) 7 (fun _ => True) rfl (by kernel_rfl) (by kernel_rfl) (by kernel_rfl) rfl rfl rfl trivial (fun w _ => (x_move (v := (Value.int .i64 l18)) rfl e6)) ?_
          refine wpD_take (v := (Value.int .i64 (IntKind.i64.wrap (l18 - 1)))) 8 (fun _ => True) rfl (by kernel_rfl) (by kernel_rfl) (by kernel_rfl) rfl rfl rfl trivial (fun w _ => (x_sub rfl rfl rfl)) ?_
          obtain ⟨q24, z24, r24, h⟩ := h
          generalize hp24 : z24.add ((IntKind.i64.wrap (l18 - 1) : Int).toNat * 1) = p24 at h
          refine wpD_take (v := (Value.pointer (some p24))) 9 (fun _ => True) rfl (by kernel_rfl) (by kernel_rfl) (by kernel_rfl) rfl rfl rfl trivial (fun w _ => ((x_indexAddr (s := r9) rfl rfl rfl ES_43 q24 r24).trans (by rw [hp24]))) ?_
          obtain ⟨x25, q25, h⟩ := h
          refine wpD_take (v := (Value.int .i64 x25)) 10 (fun w => w.cell? p24 = some (Value.int .i64 x25)) rfl (by kernel_rfl) (by kernel_rfl) (by kernel_rfl) rfl rfl rfl q25 (fun w q25 => (x_load1 rfl rfl SH_3 q25)) ?_
          refine wpD_take (v := (Value.int .i64 (IntKind.i64.wrap (x23 - x25)))) 11 (fun _ => True) rfl (by kernel_rfl) (by kernel_rfl) (by kernel_rfl) rfl rfl rfl trivial (fun w _ => (x_sub rfl rfl rfl)) ?_
          refine wpD_take (v := (Sl.v p0)) 13 (fun _ => True) rfl (by kernel_rfl) (by kernel_rfl) (by kernel_rfl) rfl rfl rfl trivial (fun w _ => (x_move (v := (Sl.v p0)) rfl e0)) ?_
          refine wpD_take (v := (Value.int .i64 l18)) 14 (fun _ => True) rfl (by kernel_rfl) (by kernel_rfl) (by kernel_rfl) rfl rfl rfl trivial (fun w _ => (x_move (v := (Value.int .i64 l18)) rfl e6)) ?_
          obtain ⟨q26, z26, r26, h⟩ := h
          generalize hp26 : z26.add ((l18 : Int).toNat * 2) = p26 at h
          refine wpD_take (v := (Value.pointer (some p26))) 15 (fun _ => True) rfl (by kernel_rfl) (by kernel_rfl) (by kernel_rfl) rfl rfl rfl trivial (fun w _ => ((x_indexAddr (s := p0) rfl rfl rfl ES_22 q26 r26).trans (by rw [hp26]))) ?_
          refine wpD_take (v := (Value.pointer (some (p26.add 0)))) 16 (fun _ => True) rfl (by kernel_rfl) (by kernel_rfl) (by kernel_rfl) rfl rfl rfl trivial (fun w _ => (x_fieldAddr rfl rfl FA_39_0)) ?_
          obtain ⟨x27, q27, h⟩ := h
          refine wpD_take (v := (Value.int .i64 x27)) 17 (fun w => w.cell? (p26.add 0) = some (Value.int .i64 x27)) rfl (by kernel_rfl) (by kernel_rfl) (by kernel_rfl) rfl rfl rfl q27 (fun w q27 => (x_load1 rfl rfl SH_3 q27)) ?_
          refine wpD_take (v := (Sl.v p0)) 18 (fun _ => True) rfl (by kernel_rfl) (by kernel_rfl) (by kernel_rfl) rfl rfl rfl trivial (fun w _ => (x_move (v := (Sl.v p0)) rfl e0)) ?_
          refine wpD_take (v := (Value.int .i64 l18)) 19 (fun _ => True) rfl (by kernel_rfl) (by kernel_rfl) (by kernel_rfl) rfl rfl rfl trivial (fun w _ => (x_move (v := (Value.int .i64 l18)) rfl e6)) ?_
          refine wpD_take (v := (Value.int .i64 l16)) 20 (fun _ => True) rfl (by kernel_rfl) (by kernel_rfl) (by kernel_rfl) rfl rfl rfl trivial (fun w _ => (x_move (v := (Value.int .i64 l16)) rfl e5)) ?_
          refine wpD_take (v := (Value.int .i64 (IntKind.i64.wrap (l18 - l16)))) 21 (fun _ => True) rfl (by kernel_rfl) (by kernel_rfl) (by kernel_rfl) rfl rfl rfl trivial (fun w _ => (x_sub rfl rfl rfl)) ?_
          obtain ⟨q28, z28, r28, h⟩ := h
          generalize hp28 : z28.add ((IntKind.i64.wrap (l18 - l16) : Int).toNat * 2) = p28 at h
          refine wpD_take (v := (Value.pointer (some p28))) 22 (fun _ => True) rfl (by kernel_rfl) (by kernel_rfl) (by kernel_rfl) rfl rfl rfl trivial (fun w _ => ((x_indexAddr (s := p0) rfl rfl rfl ES_22 q28 r28).trans (by rw [hp28]))) ?_
          refine wpD_take (v := (Value.pointer (some (p28.add 0)))) 23 (fun _ => True) rfl (by kernel_rfl) (by kernel_rfl) (by kernel_rfl) rfl rfl rfl trivial (fun w _ => (x_fieldAddr rfl rfl FA_39_0)) ?_
          obtain ⟨x29, q29, h⟩ := h
          refine wpD_take (v := (Value.int .i64 x29)) 24 (fun w => w.cell? (p28.add 0) = some (Value.int .i64 x29)) rfl (by kernel_rfl) (by kernel_rfl) (by kernel_rfl) rfl rfl rfl q29 (fun w q29 => (x_load1 rfl rfl SH_3 q29)) ?_
          refine wpD_take (v := (Value.int .i64 (IntKind.i64.wrap (x27 - x29)))) 25 (fun _ => True) rfl (by kernel_rfl) (by kernel_rfl) (by kernel_rfl) rfl rfl rfl trivial (fun w _ => (x_sub rfl rfl rfl)) ?_
          refine wpD_all (rs := [12]) (by kernel_rfl) (by simp) (allD_cons ?_ allD_nil)
          refine stepD_enterL (L' := [(25, fun _ => True), (24, fun w => w.cell? (p28.add 0) = some (Value.int .i64 x29)), (23, fun _ => True), (22, fun _ => True), (21, fun _ => True), (20, fun _ => True), (19, fun _ => True), (18, fun _ => True), (17, fun w => w.cell? (p26.add 0) = some (Value.int .i64 x27)), (16, fun _ => True), (15, fun _ => True), (14, fun _ => True), (13, fun _ => True), (10, fun w => w.cell? p24 = some (Value.int .i64 x25)), (9, fun _ => True), (8, fun _ => True), (7, fun _ => True), (6, fun _ => True), (5, fun w => w.cell? p22 = some (Value.int .i64 x23)), (4, fun _ => True), (3, fun _ => True), (2, fun _ => True), (1, fun _ => True), (0, fun _ => True)]) rfl rfl rfl rfl (x_call (vs := [(Value.int .i64 (IntKind.i64.wrap (x23 - x25)))]) rfl rfl (mapl_cons rfl mapl_nil) Try.func16 NN_16 NB_16) (by kernel_rfl) (Calls.mono h ?_)
          rintro _ w7 ⟨r30, rfl, h⟩
          obtain ⟨o24, h⟩ := h
          obtain ⟨o17, h⟩ := h
          obtain ⟨o10, h⟩ := h
          obtain ⟨o5, h⟩ := h
          refine ⟨_, rfl, (held_cons trivial (held_cons o24 (held_cons trivial (held_cons trivial (held_cons trivial (held_cons trivial (held_cons trivial (held_cons trivial (held_cons o17 (held_cons trivial (held_cons trivial (held_cons trivial (held_cons trivial (held_cons o10 (held_cons trivial (held_cons trivial (held_cons trivial (held_cons trivial (held_cons o5 (held_cons trivial (held_cons trivial (held_cons trivial (held_cons trivial (held_cons trivial held_nil)))))))))))))))))))))))), ?_⟩
          refine wpD_all (rs := [26]) (by kernel_rfl) (by simp) (allD_cons ?_ allD_nil)
          refine stepD_enterL (L' := [(24, fun w => w.cell? (p28.add 0) = some (Value.int .i64 x29)), (23, fun _ => True), (22, fun _ => True), (21, fun _ => True), (20, fun _ => True), (19, fun _ => True), (18, fun _ => True), (17, fun w => w.cell? (p26.add 0) = some (Value.int .i64 x27)), (16, fun _ => True), (15, fun _ => True), (14, fun _ => True), (13, fun _ => True), (10, fun w => w.cell? p24 = some (Value.int .i64 x25)), (9, fun _ => True), (8, fun _ => True), (7, fun _ => True), (6, fun _ => True), (5, fun w => w.cell? p22 = some (Value.int .i64 x23)), (4, fun _ => True), (3, fun _ => True), (2, fun _ => True), (1, fun _ => True), (0, fun _ => True)]) rfl rfl rfl rfl (x_call (vs := [(Value.int .i64 (IntKind.i64.wrap (x27 - x29)))]) rfl rfl (mapl_cons rfl mapl_nil) Try.func16 NN_16 NB_16) (by kernel_rfl) (Calls.mono h ?_)
          rintro _ w8 ⟨r31, rfl, h⟩
          obtain ⟨o24, h⟩ := h
          obtain ⟨o17, h⟩ := h
          obtain ⟨o10, h⟩ := h
          obtain ⟨o5, h⟩ := h
          refine ⟨_, rfl, (held_cons o24 (held_cons trivial (held_cons trivial (held_cons trivial (held_cons trivial (held_cons trivial (held_cons trivial (held_cons o17 (held_cons trivial (held_cons trivial (held_cons trivial (held_cons trivial (held_cons o10 (held_cons trivial (held_cons trivial (held_cons trivial (held_cons trivial (held_cons o5 (held_cons trivial (held_cons trivial (held_cons trivial (held_cons trivial (held_cons trivial held_nil))))))))))))))))))))))), ?_⟩
          refine wpD_all (rs := [27]) (by kernel_rfl) (by simp) (allD_cons ?_ allD_nil)
          refine stepD_enterL (L' := [(24, fun w => w.cell? (p28.add 0) = some (Value.int .i64 x29)), (23, fun _ => True), (22, fun _ => True), (21, fun _ => True), (20, fun _ => True), (19, fun _ => True), (18, fun _ => True), (17, fun w => w.cell? (p26.add 0) = some (Value.int .i64 x27)), (16, fun _ => True), (15, fun _ => True), (14, fun _ => True), (13, fun _ => True), (10, fun w => w.cell? p24 = some (Value.int .i64 x25)), (9, fun _ => True), (8, fun _ => True), (7, fun _ => True), (6, fun _ => True), (5, fun w => w.cell? p22 = some (Value.int .i64 x23)), (4, fun _ => True), (3, fun _ => True), (2, fun _ => True), (1, fun _ => True), (0, fun _ => True)]) rfl rfl rfl rfl (x_call (vs := [(Value.int .i64 r31)]) rfl rfl (mapl_cons rfl mapl_nil) Try.func27 NN_27 NB_27) (by kernel_rfl) (Calls.mono h ?_)
          rintro _ w9 ⟨r32, rfl, h⟩
          obtain ⟨o24, h⟩ := h
          obtain ⟨o17, h⟩ := h
          obtain ⟨o10, h⟩ := h
          obtain ⟨o5, h⟩ := h
          refine ⟨_, rfl, (held_cons o24 (held_cons trivial (held_cons trivial (held_cons trivial (held_cons trivial (held_cons trivial (held_cons trivial (held_cons o17 (held_cons trivial (held_cons trivial (held_cons trivial (held_cons trivial (held_cons o10 (held_cons trivial (held_cons trivial (held_cons trivial (held_cons trivial (held_cons o5 (held_cons trivial (held_cons trivial (held_cons trivial (held_cons trivial (held_cons trivial held_nil))))))))))))))))))))))), ?_⟩
          refine wpD_take (v := (Value.int .i64 (IntKind.i64.wrap (r30 * r32)))) 28 (fun _ => True) rfl (by kernel_rfl) (by kernel_rfl) (by kernel_rfl) rfl rfl rfl trivial (fun w _ => (x_mul rfl rfl rfl)) ?_
          refine wpD_take (v := (Value.int .i64 ((IntKind.i64.wrap (r30 * r32)).tmod 2147483647))) 29 (fun _ => True) rfl (by kernel_rfl) (by kernel_rfl) (by kernel_rfl) rfl rfl rfl trivial (fun w _ => (x_rem rfl rfl rfl (by decide))) ?_
          obtain ⟨q33, z33, r33, h⟩ := h
          generalize hp33 : z33.add ((l18 : Int).toNat * 1) = p33 at h
          refine wpD_take (v := (Value.pointer (some p33))) 30 (fun _ => True) rfl (by kernel_rfl) (by kernel_rfl) (by kernel_rfl) rfl rfl rfl trivial (fun w _ => ((x_indexAddr (s := r9) rfl rfl rfl ES_43 q33 r33).trans (by rw [hp33]))) ?_
          refine wpD_all (rs := [31]) (by kernel_rfl) (by simp) (allD_cons ?_ allD_nil)
          obtain ⟨q34, h⟩ := h
          obtain ⟨w10, hw34⟩ : ∃ u, u = setAll w9 p33 [(Value.int .i64 ((IntKind.i64.wrap (r30 * r32)).tmod 2147483647))] 0 := ⟨_, rfl⟩
          replace h := h w10 hw34
          refine stepD_skpL (L' := []) (w' := w10) rfl rfl rfl ((x_store (v := (Value.int .i64 ((IntKind.i64.wrap (r30 * r32)).tmod 2147483647))) rfl rfl rfl SZ_3 (ones (by rfl)) q34).trans (by rw [hw34]; rfl)) (by kernel_rfl) held_nil ?_
          exact wpD_done (by kernel_rfl) ⟨(), ⟨e0, e3, e5, e6, trivial⟩, h⟩
        clear h
        rintro l35 ρ w11 ⟨e0, e3, e5, e6, -⟩ h
        replace h := hk l35 w11 h
        clear hk
        refine wpC_region ?_
        refine wpR_val (v := (Value.int .i64 l18)) (w' := w11) rfl rfl rfl (x_move (v := (Value.int .i64 l18)) rfl e6) ?_
        refine wpR_val (v := (Value.int .i64 (IntKind.i64.wrap (l18 - 1)))) (w' := w11) rfl rfl rfl (x_sub rfl rfl rfl) ?_
        refine wpR_val (v := (Value.int .i64 (IntKind.i64.wrap (l18 - 1)))) (w' := w11) rfl rfl rfl (x_assign (v := (Value.int .i64 (IntKind.i64.wrap (l18 - 1)))) rfl rfl) ?_
        refine wpR_nil ?_
        exact ⟨IntKind.i64.wrap (l18 - 1), ⟨rfl, e0, e3, e5, trivial⟩, h⟩
      · replace h := h.2 hc19
        refine wpC_exit ?_
        refine wpC_cut (fun ρ => ρ 0 = (Sl.v p0) ∧ ρ 3 = (Sl.v r9) ∧ ρ 5 = (Value.int .i64 l16) ∧ True) ⟨e0, e3, e5, trivial⟩ ?_
        rintro ρ ⟨e0, e3, e5, -⟩
        refine wpC_region ?_
        refine wpR_val (v := (Value.int .i64 l16)) (w' := w5) rfl rfl rfl (x_move (v := (Value.int .i64 l16)) rfl e5) ?_
        refine wpR_val (v := (Value.int .i64 (IntKind.i64.wrap (l16 + 1)))) (w' := w5) rfl rfl rfl (x_add rfl rfl rfl) ?_
        refine wpR_val (v := (Value.int .i64 (IntKind.i64.wrap (l16 + 1)))) (w' := w5) rfl rfl rfl (x_assign (v := (Value.int .i64 (IntKind.i64.wrap (l16 + 1)))) rfl rfl) ?_
        refine wpR_nil ?_
        exact ⟨IntKind.i64.wrap (l16 + 1), ⟨rfl, e0, e3, trivial⟩, h⟩
    · replace h := h.2 hc17
      refine wpC_exit ?_
      refine wpC_seq ?_
      refine wpC_cut (fun ρ => ρ 3 = (Sl.v r9) ∧ True) ⟨e3, trivial⟩ ?_
      rintro ρ ⟨e3, -⟩
      refine wpC_region ?_
      refine wpR_val (v := (Sl.v r9)) (w' := w4) rfl rfl rfl (x_move (v := (Sl.v r9)) rfl e3) ?_
      refine wpR_val (v := (Sl.v r9)) (w' := w4) rfl rfl rfl (x_assign (v := (Sl.v r9)) rfl rfl) ?_
      refine wpR_nil ?_
      refine wpC_ret ?_
      exact ⟨.inl rfl, fun a ha => ⟨_, results_rep1 rfl ha rfl, r9, rfl, h⟩⟩

/-- linguaref06.at -/
def F26 (p0 : Sl) (p1 : Sl) (p2 : Int) (w0 : World) (K : Int → World → Prop) : Prop :=
  lp (fun (next9 : (Int × Int) → World → Prop) l9 w1 =>
    cnd (decide (0 ≤ l9.2))
      (
      jn (fun (J12 : Int → World → Prop) => tk w1 fun w2 =>
        ix p0 l9.2 2 fun p13 =>
        ld (Value.int .i64) (p13.add 0) w2 fun x14 =>
        ix p1 l9.2 1 fun p15 =>
        ld (Value.int .i64) p15 w2 fun x16 =>
        callC Try.prog 16 #[(Value.int .i64 (IntKind.i64.wrap (p2 - x14)))] (fun (r : Int) => (Value.int .i64 r)) w2 fun r17 w3 =>
        (w3.cell? p15 = some (Value.int .i64 x16)) ∧
        (w3.cell? (p13.add 0) = some (Value.int .i64 x14)) ∧
        J12 ((IntKind.i64.wrap ((IntKind.i64.wrap (l9.1 * r17)) + x16)).tmod 2147483647) w3
      )
      fun l18 w4 =>
      next9 (l18, IntKind.i64.wrap (l9.2 - 1)) w4
      )
      (
      K l9.1 w1
      )
  ) (0, IntKind.i64.wrap ((p1.len : Int) - 1)) w0
set_option maxRecDepth 100000 in
theorem D26 (p0 : Sl) (p1 : Sl) (p2 : Int) (w0 : World) (K : Int → World → Prop) (h : F26 p0 p1 p2 w0 K) : callC Try.prog 26 #[(Sl.v p0), (Sl.v p1), (Value.int .i64 p2)] (fun (r : Int) => (Value.int .i64 r)) w0 K := by
  unfold F26 at h
  refine calls_of_wpC Try.func26 rfl 33 rfl (by simp) ?_
  intro ρ hρ
  have e0 : ρ 0 = (Sl.v p0) := hρ 0
  have e1 : ρ 1 = (Sl.v p1) := hρ 1
  have e2 : ρ 2 = (Value.int .i64 p2) := hρ 2
  clear hρ
  refine wpC_seq ?_
  refine wpC_region ?_
  refine wpR_val (v := (Value.int .i64 0)) (w' := w0) rfl rfl rfl (x_assign (v := (Value.int .i64 0)) rfl rfl) ?_
  refine wpR_nil ?_
  refine wpC_seq ?_
  refine wpC_cut (fun ρ => ρ 0 = (Sl.v p0) ∧ ρ 1 = (Sl.v p1) ∧ ρ 2 = (Value.int .i64 p2) ∧ True) ⟨e0, e1, e2, trivial⟩ ?_
  rintro ρ ⟨e0, e1, e2, -⟩
  refine wpC_region ?_
  refine wpR_val (v := (Value.int .i64 0)) (w' := w0) rfl rfl rfl (x_assign (v := (Value.int .i64 0)) rfl rfl) ?_
  refine wpR_nil ?_
  refine wpC_seq ?_
  refine wpC_seq ?_
  refine wpC_cut (fun ρ => ρ 0 = (Sl.v p0) ∧ ρ 1 = (Sl.v p1) ∧ ρ 2 = (Value.int .i64 p2) ∧ ρ 7 = (Value.int .i64 0) ∧ True) ⟨e0, e1, e2, rfl, trivial⟩ ?_
  rintro ρ ⟨e0, e1, e2, e7, -⟩
  refine wpC_region ?_
  refine wpR_val (v := (Sl.v p1)) (w' := w0) rfl rfl rfl (x_move (v := (Sl.v p1)) rfl e1) ?_
  refine wpR_val (v := (Value.int .i64 (p1.len : Int))) (w' := w0) rfl rfl rfl (x_lenS (s := p1) rfl rfl isSliceT_43) ?_
  refine wpR_val (v := (Value.int .i64 (IntKind.i64.wrap ((p1.len : Int) - 1)))) (w' := w0) rfl rfl rfl (x_sub rfl rfl rfl) ?_
  refine wpR_val (v := (Value.int .i64 (IntKind.i64.wrap ((p1.len : Int) - 1)))) (w' := w0) rfl rfl rfl (x_assign (v := (Value.int .i64 (IntKind.i64.wrap ((p1.len : Int) - 1)))) rfl rfl) ?_
  refine wpR_nil ?_
  refine wpC_block ?_
  obtain ⟨I9, μ9, hI9, hr9⟩ := h
  refine wpC_loop (fun (x : Int × Int) ρ => ρ 7 = (Value.int .i64 x.1) ∧ ρ 8 = (Value.int .i64 x.2) ∧ ρ 0 = (Sl.v p0) ∧ ρ 1 = (Sl.v p1) ∧ ρ 2 = (Value.int .i64 p2) ∧ True) I9 μ9 (0, IntKind.i64.wrap ((p1.len : Int) - 1)) ⟨e7, rfl, e0, e1, e2, trivial⟩ hI9 ?_
  rintro l9 ρ w1 ⟨e7, e8, e0, e1, e2, -⟩ h
  replace h := hr9 l9 w1 h
  clear hr9 hI9
  refine wpC_seq ?_
  refine wpC_seq ?_
  refine wpC_region ?_
  refine wpR_val (v := (Value.int .i64 l9.2)) (w' := w1) rfl rfl rfl (x_move (v := (Value.int .i64 l9.2)) rfl e8) ?_
  refine wpR_val (v := (Value.bool (decide (0 ≤ l9.2)))) (w' := w1) rfl rfl rfl (x_geq rfl rfl rfl) ?_
  refine wpR_nil ?_
  refine wpC_cond (b := decide (0 ≤ l9.2)) rfl (fun hc10 => ?_) (fun hc10 => ?_)
  · replace h := h.1 hc10
    refine wpC_skip ?_
    refine wpC_seq ?_
    refine wpC_block ?_
    refine wpC_cut (fun ρ => ρ 0 = (Sl.v p0) ∧ ρ 1 = (Sl.v p1) ∧ ρ 2 = (Value.int .i64 p2) ∧ ρ 7 = (Value.int .i64 l9.1) ∧ ρ 8 = (Value.int .i64 l9.2) ∧ True) ⟨e0, e1, e2, e7, e8, trivial⟩ ?_
    rintro ρ ⟨e0, e1, e2, e7, e8, -⟩
    obtain ⟨J12, h, hk⟩ := h
    refine wpC_drawJ (by kernel_rfl) (fun (x : Int) ρ => ρ 7 = (Value.int .i64 x) ∧ ρ 0 = (Sl.v p0) ∧ ρ 1 = (Sl.v p1) ∧ ρ 2 = (Value.int .i64 p2) ∧ ρ 8 = (Value.int .i64 l9.2) ∧ True) J12 ?_ ?_
    · clear hk
      unfold tk at h
      generalize w1.drew = w2 at h ⊢
      refine wpD_take (v := (Value.int .i64 l9.1)) 0 (fun _ => True) rfl (by kernel_rfl) (by kernel_rfl) (by kernel_rfl) rfl rfl rfl trivial (fun w _ => (x_move (v := (Value.int .i64 l9.1)) rfl e7)) ?_
      refine wpD_take (v := (Value.int .i64 p2)) 1 (fun _ => True) rfl (by kernel_rfl) (by kernel_rfl) (by kernel_rfl) rfl rfl rfl trivial (fun w _ => (x_move (v := (Value.int .i64 p2)) rfl e2)) ?_
      refine wpD_take (v := (Sl.v p0)) 2 (fun _ => True) rfl (by kernel_rfl) (by kernel_rfl) (by kernel_rfl) rfl rfl rfl trivial (fun w _ => (x_move (v := (Sl.v p0)) rfl e0)) ?_
      refine wpD_take (v := (Value.int .i64 l9.2)) 3 (fun _ => True) rfl (by kernel_rfl) (by kernel_rfl) (by kernel_rfl) rfl rfl rfl trivial (fun w _ => (x_move (v := (Value.int .i64 l9.2)) rfl e8)) ?_
      obtain ⟨q13, z13, r13, h⟩ := h
      generalize hp13 : z13.add ((l9.2 : Int).toNat * 2) = p13 at h
      refine wpD_take (v := (Value.pointer (some p13))) 4 (fun _ => True) rfl (by kernel_rfl) (by kernel_rfl) (by kernel_rfl) rfl rfl rfl trivial (fun w _ => ((x_indexAddr (s := p0) rfl rfl rfl ES_22 q13 r13).trans (by rw [hp13]))) ?_
      refine wpD_take (v := (Value.pointer (some (p13.add 0)))) 5 (fun _ => True) rfl (by kernel_rfl) (by kernel_rfl) (by kernel_rfl) rfl rfl rfl trivial (fun w _ => (x_fieldAddr rfl rfl FA_39_0)) ?_
      obtain ⟨x14, q14, h⟩ := h
      refine wpD_take (v := (Value.int .i64 x14)) 6 (fun w => w.cell? (p13.add 0) = some (Value.int .i64 x14)) rfl (by kernel_rfl) (by kernel_rfl) (by kernel_rfl) rfl rfl rfl q14 (fun w q14 => (x_load1 rfl rfl SH_3 q14)) ?_
      refine wpD_take (v := (Value.int .i64 (IntKind.i64.wrap (p2 - x14)))) 7 (fun _ => True) rfl (by kernel_rfl) (by kernel_rfl) (by kernel_rfl) rfl rfl rfl trivial (fun w _ => (x_sub rfl rfl rfl)) ?_
      refine wpD_take (v := (Sl.v p1)) 10 (fun _ => True) rfl (by kernel_rfl) (by kernel_rfl) (by kernel_rfl) rfl rfl rfl trivial (fun w _ => (x_move (v := (Sl.v p1)) rfl e1)) ?_
      refine wpD_take (v := (Value.int .i64 l9.2)) 11 (fun _ => True) rfl (by kernel_rfl) (by kernel_rfl) (by kernel_rfl) rfl rfl rfl trivial (fun w _ => (x_move (v := (Value.int .i64 l9.2)) rfl e8)) ?_
      obtain ⟨q15, z15, r15, h⟩ := h
      generalize hp15 : z15.add ((l9.2 : Int).toNat * 1) = p15 at h
      refine wpD_take (v := (Value.pointer (some p15))) 12 (fun _ => True) rfl (by kernel_rfl) (by kernel_rfl) (by kernel_rfl) rfl rfl rfl trivial (fun w _ => ((x_indexAddr (s := p1) rfl rfl rfl ES_43 q15 r15).trans (by rw [hp15]))) ?_
      obtain ⟨x16, q16, h⟩ := h
      refine wpD_take (v := (Value.int .i64 x16)) 13 (fun w => w.cell? p15 = some (Value.int .i64 x16)) rfl (by kernel_rfl) (by kernel_rfl) (by kernel_rfl) rfl rfl rfl q16 (fun w q16 => (x_load1 rfl rfl SH_3 q16)) ?_
      refine wpD_all (rs := [8]) (by kernel_rfl) (by simp) (allD_cons ?_ allD_nil)
      refine stepD_enterL (L' := [(13, fun w => w.cell? p15 = some (Value.int .i64 x16)), (12, fun _ => True), (11, fun _ => True), (10, fun _ => True), (6, fun w => w.cell? (p13.add 0) = some (Value.int .i64 x14)), (5, fun _ => True), (4, fun _ => True), (3, fun _ => True), (2, fun _ => True), (1, fun _ => True), (0, fun _ => True)]) rfl rfl rfl rfl (x_call (vs := [(Value.int .i64 (IntKind.i64.wrap (p2 - x14)))]) rfl rfl (mapl_cons rfl mapl_nil) Try.func16 NN_16 NB_16) (by kernel_rfl) (Calls.mono h ?_)
      rintro _ w3 ⟨r17, rfl, h⟩
      obtain ⟨o13, h⟩ := h
      obtain ⟨o6, h⟩ := h
      refine ⟨_, rfl, (held_cons o13 (held_cons trivial (held_cons trivial (held_cons trivial (held_cons o6 (held_cons trivial (held_cons trivial (held_cons trivial (held_cons trivial (held_cons trivial (held_cons trivial held_nil))))))))))), ?_⟩
      refine wpD_take (v := (Value.int .i64 (IntKind.i64.wrap (l9.1 * r17)))) 9 (fun _ => True) rfl (by kernel_rfl) (by kernel_rfl) (by kernel_rfl) rfl rfl rfl trivial (fun w _ => (x_mul rfl rfl rfl)) ?_
      refine wpD_take (v := (Value.int .i64 (IntKind.i64.wrap ((IntKind.i64.wrap (l9.1 * r17)) + x16)))) 14 (fun _ => True) rfl (by kernel_rfl) (by kernel_rfl) (by kernel_rfl) rfl rfl rfl trivial (fun w _ => (x_add rfl rfl rfl)) ?_
      refine wpD_take (v := (Value.int .i64 ((IntKind.i64.wrap ((IntKind.i64.wrap (l9.1 * r17)) + x16)).tmod 2147483647))) 15 (fun _ => True) rfl (by kernel_rfl) (by kernel_rfl) (by kernel_rfl) rfl rfl rfl trivial (fun w _ => (x_rem rfl rfl rfl (by decide))) ?_
      refine wpD_take (v := (Value.int .i64 ((IntKind.i64.wrap ((IntKind.i64.wrap (l9.1 * r17)) + x16)).tmod 2147483647))) 16 (fun _ => True) rfl (by kernel_rfl) (by kernel_rfl) (by kernel_rfl) rfl rfl rfl trivial (fun w _ => (x_assign (v := (Value.int .i64 ((IntKind.i64.wrap ((IntKind.i64.wrap (l9.1 * r17)) + x16)).tmod 2147483647))) rfl rfl)) ?_
      exact wpD_done (by kernel_rfl) ⟨(IntKind.i64.wrap ((IntKind.i64.wrap (l9.1 * r17)) + x16)).tmod 2147483647, ⟨rfl, e0, e1, e2, e8, trivial⟩, h⟩
    clear h
    rintro l18 ρ w4 ⟨e7, e0, e1, e2, e8, -⟩ h
    replace h := hk l18 w4 h
    clear hk
    refine wpC_region ?_
    refine wpR_val (v := (Value.int .i64 l9.2)) (w' := w4) rfl rfl rfl (x_move (v := (Value.int .i64 l9.2)) rfl e8) ?_
    refine wpR_val (v := (Value.int .i64 (IntKind.i64.wrap (l9.2 - 1)))) (w' := w4) rfl rfl rfl (x_sub rfl rfl rfl) ?_
    refine wpR_val (v := (Value.int .i64 (IntKind.i64.wrap (l9.2 - 1)))) (w' := w4) rfl rfl rfl (x_assign (v := (Value.int .i64 (IntKind.i64.wrap (l9.2 - 1)))) rfl rfl) ?_
    refine wpR_nil ?_
    exact ⟨(l18, IntKind.i64.wrap (l9.2 - 1)), ⟨e7, rfl, e0, e1, e2, trivial⟩, h⟩
  · replace h := h.2 hc10
    refine wpC_exit ?_
    refine wpC_seq ?_
    refine wpC_cut (fun ρ => ρ 7 = (Value.int .i64 l9.1) ∧ True) ⟨e7, trivial⟩ ?_
    rintro ρ ⟨e7, -⟩
    refine wpC_region ?_
    refine wpR_val (v := (Value.int .i64 l9.1)) (w' := w1) rfl rfl rfl (x_move (v := (Value.int .i64 l9.1)) rfl e7) ?_
    refine wpR_val (v := (Value.int .i64 l9.1)) (w' := w1) rfl rfl rfl (x_assign (v := (Value.int .i64 l9.1)) rfl rfl) ?_
    refine wpR_nil ?_
    refine wpC_ret ?_
    exact ⟨.inl rfl, fun a ha => ⟨_, results_rep1 rfl ha rfl, l9.1, rfl, h⟩⟩

/-- linguaref06.Inverse -/
def F27 (p0 : Int) (w0 : World) (K : Int → World → Prop) : Prop :=
  lp (fun (next9 : (Int × Int × Int × Int) → World → Prop) l9 w1 =>
    cnd (decide (0 < l9.2.1))
      (
      l9.2.1 ≠ 0 ∧
      callC Try.prog 16 #[(Value.int .i64 (IntKind.i64.wrap (l9.2.2.1 - ((IntKind.i64.wrap ((IntKind.i64.wrap (l9.1.tdiv l9.2.1)) * l9.2.2.2)).tmod 2147483647))))] (fun (r : Int) => (Value.int .i64 r)) w1 fun r12 w2 =>
      next9 (l9.2.1, IntKind.i64.wrap (l9.1 - (IntKind.i64.wrap ((IntKind.i64.wrap (l9.1.tdiv l9.2.1)) * l9.2.1))), l9.2.2.2, r12) w2
      )
      (
      K l9.2.2.1 w1
      )
  ) (2147483647, p0, 0, 1) w0
set_option maxRecDepth 100000 in
theorem D27 (p0 : Int) (w0 : World) (K : Int → World → Prop) (h : F27 p0 w0 K) : callC Try.prog 27 #[(Value.int .i64 p0)] (fun (r : Int) => (Value.int .i64 r)) w0 K := by
  unfold F27 at h
  refine calls_of_wpC Try.func27 rfl 33 rfl (by simp) ?_
  intro ρ hρ
  have e0 : ρ 0 = (Value.int .i64 p0) := hρ 0
  clear hρ
  refine wpC_seq ?_
  refine wpC_region ?_
  refine wpR_val (v := (Value.int .i64 0)) (w' := w0) rfl rfl rfl (x_assign (v := (Value.int .i64 0)) rfl rfl) ?_
  refine wpR_nil ?_
  refine wpC_seq ?_
  refine wpC_cut (fun ρ => ρ 0 = (Value.int .i64 p0) ∧ True) ⟨e0, trivial⟩ ?_
  rintro ρ ⟨e0, -⟩
  refine wpC_region ?_
  refine wpR_val (v := (Value.int .i64 2147483647)) (w' := w0) rfl rfl rfl (x_assign (v := (Value.int .i64 2147483647)) rfl rfl) ?_
  refine wpR_nil ?_
  refine wpC_seq ?_
  refine wpC_cut (fun ρ => ρ 0 = (Value.int .i64 p0) ∧ ρ 3 = (Value.int .i64 2147483647) ∧ True) ⟨e0, rfl, trivial⟩ ?_
  rintro ρ ⟨e0, e3, -⟩
  refine wpC_region ?_
  refine wpR_val (v := (Value.int .i64 p0)) (w' := w0) rfl rfl rfl (x_move (v := (Value.int .i64 p0)) rfl e0) ?_
  refine wpR_val (v := (Value.int .i64 p0)) (w' := w0) rfl rfl rfl (x_assign (v := (Value.int .i64 p0)) rfl rfl) ?_
  refine wpR_nil ?_
  refine wpC_seq ?_
  refine wpC_cut (fun ρ => ρ 3 = (Value.int .i64 2147483647) ∧ ρ 4 = (Value.int .i64 p0) ∧ True) ⟨e3, rfl, trivial⟩ ?_
  rintro ρ ⟨e3, e4, -⟩
  refine wpC_region ?_
  refine wpR_val (v := (Value.int .i64 0)) (w' := w0) rfl rfl rfl (x_assign (v := (Value.int .i64 0)) rfl rfl) ?_
  refine wpR_nil ?_
  refine wpC_seq ?_
  refine wpC_cut (fun ρ => ρ 3 = (Value.int .i64 2147483647) ∧ ρ 4 = (Value.int .i64 p0) ∧ ρ 5 = (Value.int .i64 0) ∧ True) ⟨e3, e4, rfl, trivial⟩ ?_
  rintro ρ ⟨e3, e4, e5, -⟩
  refine wpC_region ?_
  refine wpR_val (v := (Value.int .i64 1)) (w' := w0) rfl rfl rfl (x_assign (v := (Value.int .i64 1)) rfl rfl) ?_
  refine wpR_nil ?_
  refine wpC_seq ?_
  refine wpC_block ?_
  obtain ⟨I9, μ9, hI9, hr9⟩ := h
  refine wpC_loop (fun (x : Int × Int × Int × Int) ρ => ρ 3 = (Value.int .i64 x.1) ∧ ρ 4 = (Value.int .i64 x.2.1) ∧ ρ 5 = (Value.int .i64 x.2.2.1) ∧ ρ 6 = (Value.int .i64 x.2.2.2) ∧ True) I9 μ9 (2147483647, p0, 0, 1) ⟨e3, e4, e5, rfl, trivial⟩ hI9 ?_
  rintro l9 ρ w1 ⟨e3, e4, e5, e6, -⟩ h
  replace h := hr9 l9 w1 h
  clear hr9 hI9
  refine wpC_seq ?_
  refine wpC_seq ?_
  refine wpC_region ?_
  refine wpR_val (v := (Value.int .i64 l9.2.1)) (w' := w1) rfl rfl rfl (x_move (v := (Value.int .i64 l9.2.1)) rfl e4) ?_
  refine wpR_val (v := (Value.bool (decide (0 < l9.2.1)))) (w' := w1) rfl rfl rfl (x_gtr rfl rfl rfl) ?_
  refine wpR_nil ?_
  refine wpC_cond (b := decide (0 < l9.2.1)) rfl (fun hc10 => ?_) (fun hc10 => ?_)
  · replace h := h.1 hc10
    refine wpC_skip ?_
    refine wpC_block ?_
    refine wpC_seq ?_
    refine wpC_cut (fun ρ => ρ 3 = (Value.int .i64 l9.1) ∧ ρ 4 = (Value.int .i64 l9.2.1) ∧ ρ 5 = (Value.int .i64 l9.2.2.1) ∧ ρ 6 = (Value.int .i64 l9.2.2.2) ∧ True) ⟨e3, e4, e5, e6, trivial⟩ ?_
    rintro ρ ⟨e3, e4, e5, e6, -⟩
    refine wpC_region ?_
    refine wpR_val (v := (Value.int .i64 l9.1)) (w' := w1) rfl rfl rfl (x_move (v := (Value.int .i64 l9.1)) rfl e3) ?_
    refine wpR_val (v := (Value.int .i64 l9.2.1)) (w' := w1) rfl rfl rfl (x_move (v := (Value.int .i64 l9.2.1)) rfl e4) ?_
    obtain ⟨q11, h⟩ := h
    refine wpR_val (v := (Value.int .i64 (IntKind.i64.wrap (l9.1.tdiv l9.2.1)))) (w' := w1) rfl rfl rfl (x_quo rfl rfl rfl q11) ?_
    refine wpR_val (v := (Value.int .i64 (IntKind.i64.wrap (l9.1.tdiv l9.2.1)))) (w' := w1) rfl rfl rfl (x_assign (v := (Value.int .i64 (IntKind.i64.wrap (l9.1.tdiv l9.2.1)))) rfl rfl) ?_
    refine wpR_nil ?_
    refine wpC_seq ?_
    refine wpC_cut (fun ρ => ρ 3 = (Value.int .i64 l9.1) ∧ ρ 4 = (Value.int .i64 l9.2.1) ∧ ρ 5 = (Value.int .i64 l9.2.2.1) ∧ ρ 6 = (Value.int .i64 l9.2.2.2) ∧ ρ 7 = (Value.int .i64 (IntKind.i64.wrap (l9.1.tdiv l9.2.1))) ∧ True) ⟨e3, e4, e5, e6, rfl, trivial⟩ ?_
    rintro ρ ⟨e3, e4, e5, e6, e7, -⟩
    refine wpC_region ?_
    refine wpR_val (v := (Value.int .i64 l9.1)) (w' := w1) rfl rfl rfl (x_move (v := (Value.int .i64 l9.1)) rfl e3) ?_
    refine wpR_val (v := (Value.int .i64 (IntKind.i64.wrap (l9.1.tdiv l9.2.1)))) (w' := w1) rfl rfl rfl (x_move (v := (Value.int .i64 (IntKind.i64.wrap (l9.1.tdiv l9.2.1)))) rfl e7) ?_
    refine wpR_val (v := (Value.int .i64 l9.2.1)) (w' := w1) rfl rfl rfl (x_move (v := (Value.int .i64 l9.2.1)) rfl e4) ?_
    refine wpR_val (v := (Value.int .i64 (IntKind.i64.wrap ((IntKind.i64.wrap (l9.1.tdiv l9.2.1)) * l9.2.1)))) (w' := w1) rfl rfl rfl (x_mul rfl rfl rfl) ?_
    refine wpR_val (v := (Value.int .i64 (IntKind.i64.wrap (l9.1 - (IntKind.i64.wrap ((IntKind.i64.wrap (l9.1.tdiv l9.2.1)) * l9.2.1)))))) (w' := w1) rfl rfl rfl (x_sub rfl rfl rfl) ?_
    refine wpR_val (v := (Value.int .i64 (IntKind.i64.wrap (l9.1 - (IntKind.i64.wrap ((IntKind.i64.wrap (l9.1.tdiv l9.2.1)) * l9.2.1)))))) (w' := w1) rfl rfl rfl (x_assign (v := (Value.int .i64 (IntKind.i64.wrap (l9.1 - (IntKind.i64.wrap ((IntKind.i64.wrap (l9.1.tdiv l9.2.1)) * l9.2.1)))))) rfl rfl) ?_
    refine wpR_nil ?_
    refine wpC_seq ?_
    refine wpC_cut (fun ρ => ρ 4 = (Value.int .i64 l9.2.1) ∧ ρ 5 = (Value.int .i64 l9.2.2.1) ∧ ρ 6 = (Value.int .i64 l9.2.2.2) ∧ ρ 7 = (Value.int .i64 (IntKind.i64.wrap (l9.1.tdiv l9.2.1))) ∧ ρ 8 = (Value.int .i64 (IntKind.i64.wrap (l9.1 - (IntKind.i64.wrap ((IntKind.i64.wrap (l9.1.tdiv l9.2.1)) * l9.2.1))))) ∧ True) ⟨e4, e5, e6, e7, rfl, trivial⟩ ?_
    rintro ρ ⟨e4, e5, e6, e7, e8, -⟩
    refine wpC_region ?_
    refine wpR_val (v := (Value.int .i64 l9.2.1)) (w' := w1) rfl rfl rfl (x_move (v := (Value.int .i64 l9.2.1)) rfl e4) ?_
    refine wpR_val (v := (Value.int .i64 l9.2.1)) (w' := w1) rfl rfl rfl (x_assign (v := (Value.int .i64 l9.2.1)) rfl rfl) ?_
    refine wpR_nil ?_
    refine wpC_seq ?_
    refine wpC_cut (fun ρ => ρ 3 = (Value.int .i64 l9.2.1) ∧ ρ 5 = (Value.int .i64 l9.2.2.1) ∧ ρ 6 = (Value.int .i64 l9.2.2.2) ∧ ρ 7 = (Value.int .i64 (IntKind.i64.wrap (l9.1.tdiv l9.2.1))) ∧ ρ 8 = (Value.int .i64 (IntKind.i64.wrap (l9.1 - (IntKind.i64.wrap ((IntKind.i64.wrap (l9.1.tdiv l9.2.1)) * l9.2.1))))) ∧ True) ⟨rfl, e5, e6, e7, e8, trivial⟩ ?_
    rintro ρ ⟨e3, e5, e6, e7, e8, -⟩
    refine wpC_region ?_
    refine wpR_val (v := (Value.int .i64 (IntKind.i64.wrap (l9.1 - (IntKind.i64.wrap ((IntKind.i64.wrap (l9.1.tdiv l9.2.1)) * l9.2.1)))))) (w' := w1) rfl rfl rfl (x_move (v := (Value.int .i64 (IntKind.i64.wrap (l9.1 - (IntKind.i64.wrap ((IntKind.i64.wrap (l9.1.tdiv l9.2.1)) * l9.2.1)))))) rfl e8) ?_
    refine wpR_val (v := (Value.int .i64 (IntKind.i64.wrap (l9.1 - (IntKind.i64.wrap ((IntKind.i64.wrap (l9.1.tdiv l9.2.1)) * l9.2.1)))))) (w' := w1) rfl rfl rfl (x_assign (v := (Value.int .i64 (IntKind.i64.wrap (l9.1 - (IntKind.i64.wrap ((IntKind.i64.wrap (l9.1.tdiv l9.2.1)) * l9.2.1)))))) rfl rfl) ?_
    refine wpR_nil ?_
    refine wpC_seq ?_
    refine wpC_cut (fun ρ => ρ 3 = (Value.int .i64 l9.2.1) ∧ ρ 4 = (Value.int .i64 (IntKind.i64.wrap (l9.1 - (IntKind.i64.wrap ((IntKind.i64.wrap (l9.1.tdiv l9.2.1)) * l9.2.1))))) ∧ ρ 5 = (Value.int .i64 l9.2.2.1) ∧ ρ 6 = (Value.int .i64 l9.2.2.2) ∧ ρ 7 = (Value.int .i64 (IntKind.i64.wrap (l9.1.tdiv l9.2.1))) ∧ True) ⟨e3, rfl, e5, e6, e7, trivial⟩ ?_
    rintro ρ ⟨e3, e4, e5, e6, e7, -⟩
    refine wpC_region ?_
    refine wpR_val (v := (Value.int .i64 l9.2.2.1)) (w' := w1) rfl rfl rfl (x_move (v := (Value.int .i64 l9.2.2.1)) rfl e5) ?_
    refine wpR_val (v := (Value.int .i64 (IntKind.i64.wrap (l9.1.tdiv l9.2.1)))) (w' := w1) rfl rfl rfl (x_move (v := (Value.int .i64 (IntKind.i64.wrap (l9.1.tdiv l9.2.1)))) rfl e7) ?_
    refine wpR_val (v := (Value.int .i64 l9.2.2.2)) (w' := w1) rfl rfl rfl (x_move (v := (Value.int .i64 l9.2.2.2)) rfl e6) ?_
    refine wpR_val (v := (Value.int .i64 (IntKind.i64.wrap ((IntKind.i64.wrap (l9.1.tdiv l9.2.1)) * l9.2.2.2)))) (w' := w1) rfl rfl rfl (x_mul rfl rfl rfl) ?_
    refine wpR_val (v := (Value.int .i64 ((IntKind.i64.wrap ((IntKind.i64.wrap (l9.1.tdiv l9.2.1)) * l9.2.2.2)).tmod 2147483647))) (w' := w1) rfl rfl rfl (x_rem rfl rfl rfl (by decide)) ?_
    refine wpR_val (v := (Value.int .i64 (IntKind.i64.wrap (l9.2.2.1 - ((IntKind.i64.wrap ((IntKind.i64.wrap (l9.1.tdiv l9.2.1)) * l9.2.2.2)).tmod 2147483647))))) (w' := w1) rfl rfl rfl (x_sub rfl rfl rfl) ?_
    refine wpR_enter rfl rfl rfl (x_call (vs := [(Value.int .i64 (IntKind.i64.wrap (l9.2.2.1 - ((IntKind.i64.wrap ((IntKind.i64.wrap (l9.1.tdiv l9.2.1)) * l9.2.2.2)).tmod 2147483647))))]) rfl rfl (mapl_cons rfl mapl_nil) Try.func16 NN_16 NB_16) (Calls.mono h ?_)
    rintro _ w2 ⟨r12, rfl, h⟩
    refine ⟨_, rfl, ?_⟩
    refine wpR_val (v := (Value.int .i64 r12)) (w' := w2) rfl rfl rfl (x_assign (v := (Value.int .i64 r12)) rfl rfl) ?_
    refine wpR_nil ?_
    refine wpC_seq ?_
    refine wpC_cut (fun ρ => ρ 3 = (Value.int .i64 l9.2.1) ∧ ρ 4 = (Value.int .i64 (IntKind.i64.wrap (l9.1 - (IntKind.i64.wrap ((IntKind.i64.wrap (l9.1.tdiv l9.2.1)) * l9.2.1))))) ∧ ρ 6 = (Value.int .i64 l9.2.2.2) ∧ ρ 9 = (Value.int .i64 r12) ∧ True) ⟨e3, e4, e6, rfl, trivial⟩ ?_
    rintro ρ ⟨e3, e4, e6, e9, -⟩
    refine wpC_region ?_
    refine wpR_val (v := (Value.int .i64 l9.2.2.2)) (w' := w2) rfl rfl rfl (x_move (v := (Value.int .i64 l9.2.2.2)) rfl e6) ?_
    refine wpR_val (v := (Value.int .i64 l9.2.2.2)) (w' := w2) rfl rfl rfl (x_assign (v := (Value.int .i64 l9.2.2.2)) rfl rfl) ?_
    refine wpR_nil ?_
    refine wpC_cut (fun ρ => ρ 3 = (Value.int .i64 l9.2.1) ∧ ρ 4 = (Value.int .i64 (IntKind.i64.wrap (l9.1 - (IntKind.i64.wrap ((IntKind.i64.wrap (l9.1.tdiv l9.2.1)) * l9.2.1))))) ∧ ρ 5 = (Value.int .i64 l9.2.2.2) ∧ ρ 9 = (Value.int .i64 r12) ∧ True) ⟨e3, e4, rfl, e9, trivial⟩ ?_
    rintro ρ ⟨e3, e4, e5, e9, -⟩
    refine wpC_region ?_
    refine wpR_val (v := (Value.int .i64 r12)) (w' := w2) rfl rfl rfl (x_move (v := (Value.int .i64 r12)) rfl e9) ?_
    refine wpR_val (v := (Value.int .i64 r12)) (w' := w2) rfl rfl rfl (x_assign (v := (Value.int .i64 r12)) rfl rfl) ?_
    refine wpR_nil ?_
    exact ⟨(l9.2.1, IntKind.i64.wrap (l9.1 - (IntKind.i64.wrap ((IntKind.i64.wrap (l9.1.tdiv l9.2.1)) * l9.2.1))), l9.2.2.2, r12), ⟨e3, e4, e5, rfl, trivial⟩, h⟩
  · replace h := h.2 hc10
    refine wpC_exit ?_
    refine wpC_seq ?_
    refine wpC_cut (fun ρ => ρ 5 = (Value.int .i64 l9.2.2.1) ∧ True) ⟨e5, trivial⟩ ?_
    rintro ρ ⟨e5, -⟩
    refine wpC_region ?_
    refine wpR_val (v := (Value.int .i64 l9.2.2.1)) (w' := w1) rfl rfl rfl (x_move (v := (Value.int .i64 l9.2.2.1)) rfl e5) ?_
    refine wpR_val (v := (Value.int .i64 l9.2.2.1)) (w' := w1) rfl rfl rfl (x_assign (v := (Value.int .i64 l9.2.2.1)) rfl rfl) ?_
    refine wpR_nil ?_
    refine wpC_ret ?_
    exact ⟨.inl rfl, fun a ha => ⟨_, results_rep1 rfl ha rfl, l9.2.2.1, rfl, h⟩⟩


end Go.Proofs.Ytdcbmadmcmjopaa
