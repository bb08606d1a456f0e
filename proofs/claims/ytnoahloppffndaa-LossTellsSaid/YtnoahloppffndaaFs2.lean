import Derived.Test.YtnoahloppffndaaRows
import Derived.Test.YtnoahloppffndaaFs1
import Derived.Test.YtnoahloppffndaaDecRaw
namespace Go.Proofs.Ytnoahloppffndaa
open Go.Dec
set_option maxHeartbeats 400000
set_option maxRecDepth 100000

/-- linguaref20.Same -/
def F12 (p0 : Sl) (p1 : Sl) (w0 : World) (K : Bool → World → Prop) : Prop :=
  cnd (!decide ((p0.len : Int) = (p1.len : Int)))
    (
    K false w0
    )
    (
    lp (fun (next10 : Int → World → Prop) l10 w1 =>
      cnd (decide (l10 < (p0.len : Int)))
        (
        jn (fun (J13 : Bool → World → Prop) => tk w1 fun w2 =>
          ix p0 l10 3 fun p14 =>
          ld (Value.int .i64) (p14.add 0) w2 fun x15 =>
          ld (Value.int .i64) (p14.add 1) w2 fun x16 =>
          ld (Value.int .i64) (p14.add 2) w2 fun x17 =>
          ix p1 l10 3 fun p18 =>
          ld (Value.int .i64) (p18.add 0) w2 fun x19 =>
          ld (Value.int .i64) (p18.add 1) w2 fun x20 =>
          ld (Value.int .i64) (p18.add 2) w2 fun x21 =>
          J13 (!(decide (x15 = x19) && (decide (x16 = x20) && (decide (x17 = x21) && true)))) w2
        )
        fun l22 w3 =>
        cnd (l22)
          (
          K false w3
          )
          (
          next10 (IntKind.i64.wrap (l10 + 1)) w3
          )
        )
        (
        K true w1
        )
    ) 0 w0
    )
set_option maxRecDepth 100000 in
theorem D12 (p0 : Sl) (p1 : Sl) (w0 : World) (K : Bool → World → Prop) (h : F12 p0 p1 w0 K) : callC Try.prog 12 #[(Sl.v p0), (Sl.v p1)] (fun (r : Bool) => (Value.bool r)) w0 K := by
  unfold F12 at h
  refine calls_of_wpC Try.func12 rfl 26 rfl (by simp) ?_
  intro ρ hρ
  have e0 : ρ 0 = (Sl.v p0) := hρ 0
  have e1 : ρ 1 = (Sl.v p1) := hρ 1
  clear hρ
  refine wpC_seq ?_
  refine wpC_region ?_
  refine wpR_val (v := (Value.bool false)) (w' := w0) rfl rfl rfl (x_assign (v := (Value.bool false)) rfl rfl) ?_
  refine wpR_nil ?_
  refine wpC_seq ?_
  refine wpC_seq ?_
  refine wpC_cut (fun ρ => ρ 0 = (Sl.v p0) ∧ ρ 1 = (Sl.v p1) ∧ True) ⟨e0, e1, trivial⟩ ?_
  rintro ρ ⟨e0, e1, -⟩
  refine wpC_region ?_
  refine wpR_val (v := (Sl.v p0)) (w' := w0) rfl rfl rfl (x_move (v := (Sl.v p0)) rfl e0) ?_
  refine wpR_val (v := (Value.int .i64 (p0.len : Int))) (w' := w0) rfl rfl rfl (x_lenS (s := p0) rfl rfl isSliceT_26) ?_
  refine wpR_val (v := (Sl.v p1)) (w' := w0) rfl rfl rfl (x_move (v := (Sl.v p1)) rfl e1) ?_
  refine wpR_val (v := (Value.int .i64 (p1.len : Int))) (w' := w0) rfl rfl rfl (x_lenS (s := p1) rfl rfl isSliceT_26) ?_
  refine wpR_val (v := (Value.bool (!decide ((p0.len : Int) = (p1.len : Int))))) (w' := w0) rfl rfl rfl (x_neq rfl rfl rfl) ?_
  refine wpR_nil ?_
  refine wpC_cond (b := !decide ((p0.len : Int) = (p1.len : Int))) rfl (fun hc9 => ?_) (fun hc9 => ?_)
  · replace h := h.1 hc9
    refine wpC_seq ?_
    refine wpC_cut (fun ρ => True) trivial ?_
    rintro ρ -
    refine wpC_region ?_
    refine wpR_val (v := (Value.bool false)) (w' := w0) rfl rfl rfl (x_assign (v := (Value.bool false)) rfl rfl) ?_
    refine wpR_nil ?_
    refine wpC_ret ?_
    exact ⟨.inl rfl, fun a ha => ⟨_, results_rep1 rfl ha rfl, false, rfl, h⟩⟩
  · replace h := h.2 hc9
    refine wpC_skip ?_
    refine wpC_seq ?_
    refine wpC_seq ?_
    refine wpC_cut (fun ρ => ρ 0 = (Sl.v p0) ∧ ρ 1 = (Sl.v p1) ∧ True) ⟨e0, e1, trivial⟩ ?_
    rintro ρ ⟨e0, e1, -⟩
    refine wpC_region ?_
    refine wpR_val (v := (Value.int .i64 0)) (w' := w0) rfl rfl rfl (x_assign (v := (Value.int .i64 0)) rfl rfl) ?_
    refine wpR_nil ?_
    refine wpC_block ?_
    obtain ⟨I10, μ10, hI10, hr10⟩ := h
    refine wpC_loop (fun (x : Int) ρ => ρ 5 = (Value.int .i64 x) ∧ ρ 0 = (Sl.v p0) ∧ ρ 1 = (Sl.v p1) ∧ True) I10 μ10 0 ⟨rfl, e0, e1, trivial⟩ hI10 ?_
    rintro l10 ρ w1 ⟨e5, e0, e1, -⟩ h
    replace h := hr10 l10 w1 h
    clear hr10 hI10
    refine wpC_seq ?_
    refine wpC_seq ?_
    refine wpC_region ?_
    refine wpR_val (v := (Value.int .i64 l10)) (w' := w1) rfl rfl rfl (x_move (v := (Value.int .i64 l10)) rfl e5) ?_
    refine wpR_val (v := (Sl.v p0)) (w' := w1) rfl rfl rfl (x_move (v := (Sl.v p0)) rfl e0) ?_
    refine wpR_val (v := (Value.int .i64 (p0.len : Int))) (w' := w1) rfl rfl rfl (x_lenS (s := p0) rfl rfl isSliceT_26) ?_
    refine wpR_val (v := (Value.bool (decide (l10 < (p0.len : Int))))) (w' := w1) rfl rfl rfl (x_lss rfl rfl rfl) ?_
    refine wpR_nil ?_
    refine wpC_cond (b := decide (l10 < (p0.len : Int))) rfl (fun hc11 => ?_) (fun hc11 => ?_)
    · replace h := h.1 hc11
      refine wpC_skip ?_
      refine wpC_seq ?_
      refine wpC_block ?_
      refine wpC_seq ?_
      refine wpC_cut (fun ρ => ρ 0 = (Sl.v p0) ∧ ρ 1 = (Sl.v p1) ∧ ρ 5 = (Value.int .i64 l10) ∧ True) ⟨e0, e1, e5, trivial⟩ ?_
      rintro ρ ⟨e0, e1, e5, -⟩
      obtain ⟨J13, h, hk⟩ := h
      refine wpC_drawJ (by kernel_rfl) (fun (x : Bool) ρ => ρ 25 = (Value.bool x) ∧ ρ 0 = (Sl.v p0) ∧ ρ 1 = (Sl.v p1) ∧ ρ 5 = (Value.int .i64 l10) ∧ True) J13 ?_ ?_
      · clear hk
        unfold tk at h
        generalize w1.drew = w2 at h ⊢
        refine wpD_take (v := (Sl.v p0)) 0 (fun _ => True) rfl (by kernel_rfl) (by kernel_rfl) (by kernel_rfl) rfl rfl rfl trivial (fun w _ => (x_move (v := (Sl.v p0)) rfl e0)) ?_
        refine wpD_take (v := (Value.int .i64 l10)) 1 (fun _ => True) rfl (by kernel_rfl) (by kernel_rfl) (by kernel_rfl) rfl rfl rfl trivial (fun w _ => (x_move (v := (Value.int .i64 l10)) rfl e5)) ?_
        obtain ⟨q14, z14, r14, h⟩ := h
        generalize hp14 : z14.add ((l10 : Int).toNat * 3) = p14 at h
        refine wpD_take (v := (Value.pointer (some p14))) 2 (fun _ => True) rfl (by kernel_rfl) (by kernel_rfl) (by kernel_rfl) rfl rfl rfl trivial (fun w _ => ((x_indexAddr (s := p0) rfl rfl rfl ES_26 q14 r14).trans (by rw [hp14]))) ?_
        obtain ⟨x15, q15, x16, q16, x17, q17, h⟩ := h
        refine wpD_take (v := (Value.agg #[(Value.int .i64 x15), (Value.int .i64 x16), (Value.int .i64 x17)])) 3 (fun w => w.cell? (p14.add 0) = some (Value.int .i64 x15) ∧ w.cell? (p14.add 1) = some (Value.int .i64 x16) ∧ w.cell? (p14.add 2) = some (Value.int .i64 x17)) rfl (by kernel_rfl) (by kernel_rfl) (by kernel_rfl) rfl rfl rfl ⟨q15, q16, q17⟩ (fun w ⟨q15, q16, q17⟩ => (x_loadN [(Value.int .i64 x15), (Value.int .i64 x16), (Value.int .i64 x17)] rfl rfl SH_44 (CellsAt.out (CellsAt.cons q15 (CellsAt.cons q16 (CellsAt.cons q17 CellsAt.nil)))))) ?_
        refine wpD_take (v := (Sl.v p1)) 4 (fun _ => True) rfl (by kernel_rfl) (by kernel_rfl) (by kernel_rfl) rfl rfl rfl trivial (fun w _ => (x_move (v := (Sl.v p1)) rfl e1)) ?_
        refine wpD_take (v := (Value.int .i64 l10)) 5 (fun _ => True) rfl (by kernel_rfl) (by kernel_rfl) (by kernel_rfl) rfl rfl rfl trivial (fun w _ => (x_move (v := (Value.int .i64 l10)) rfl e5)) ?_
        obtain ⟨q18, z18, r18, h⟩ := h
        generalize hp18 : z18.add ((l10 : Int).toNat * 3) = p18 at h
        refine wpD_take (v := (Value.pointer (some p18))) 6 (fun _ => True) rfl (by kernel_rfl) (by kernel_rfl) (by kernel_rfl) rfl rfl rfl trivial (fun w _ => ((x_indexAddr (s := p1) rfl rfl rfl ES_26 q18 r18).trans (by rw [hp18]))) ?_
        obtain ⟨x19, q19, x20, q20, x21, q21, h⟩ := h
        refine wpD_take (v := (Value.agg #[(Value.int .i64 x19), (Value.int .i64 x20), (Value.int .i64 x21)])) 7 (fun w => w.cell? (p18.add 0) = some (Value.int .i64 x19) ∧ w.cell? (p18.add 1) = some (Value.int .i64 x20) ∧ w.cell? (p18.add 2) = some (Value.int .i64 x21)) rfl (by kernel_rfl) (by kernel_rfl) (by kernel_rfl) rfl rfl rfl ⟨q19, q20, q21⟩ (fun w ⟨q19, q20, q21⟩ => (x_loadN [(Value.int .i64 x19), (Value.int .i64 x20), (Value.int .i64 x21)] rfl rfl SH_44 (CellsAt.out (CellsAt.cons q19 (CellsAt.cons q20 (CellsAt.cons q21 CellsAt.nil)))))) ?_
        refine wpD_take (v := (Value.bool (!(decide (x15 = x19) && (decide (x16 = x20) && (decide (x17 = x21) && true)))))) 8 (fun _ => True) rfl (by kernel_rfl) (by kernel_rfl) (by kernel_rfl) rfl rfl rfl trivial (fun w _ => (x_neqA rfl rfl rfl EQ1_44 EQ2_44 EQ3_44 (EQ_44 x15 x16 x17 x19 x20 x21))) ?_
        exact wpD_done (by kernel_rfl) ⟨!(decide (x15 = x19) && (decide (x16 = x20) && (decide (x17 = x21) && true))), ⟨rfl, e0, e1, e5, trivial⟩, h⟩
      clear h
      rintro l22 ρ w3 ⟨e25, e0, e1, e5, -⟩ h
      replace h := hk l22 w3 h
      clear hk
      refine wpC_cond (b := l22) e25 (fun hc23 => ?_) (fun hc23 => ?_)
      · replace h := h.1 hc23
        refine wpC_seq ?_
        refine wpC_region ?_
        refine wpR_val (v := (Value.bool false)) (w' := w3) rfl rfl rfl (x_assign (v := (Value.bool false)) rfl rfl) ?_
        refine wpR_nil ?_
        refine wpC_ret ?_
        exact ⟨.inl rfl, fun a ha => ⟨_, results_rep1 rfl ha rfl, false, rfl, h⟩⟩
      · replace h := h.2 hc23
        refine wpC_skip ?_
        refine wpC_region ?_
        refine wpR_val (v := (Value.int .i64 l10)) (w' := w3) rfl rfl rfl (x_move (v := (Value.int .i64 l10)) rfl e5) ?_
        refine wpR_val (v := (Value.int .i64 (IntKind.i64.wrap (l10 + 1)))) (w' := w3) rfl rfl rfl (x_add rfl rfl rfl) ?_
        refine wpR_val (v := (Value.int .i64 (IntKind.i64.wrap (l10 + 1)))) (w' := w3) rfl rfl rfl (x_assign (v := (Value.int .i64 (IntKind.i64.wrap (l10 + 1)))) rfl rfl) ?_
        refine wpR_nil ?_
        exact ⟨IntKind.i64.wrap (l10 + 1), ⟨rfl, e0, e1, trivial⟩, h⟩
    · replace h := h.2 hc11
      refine wpC_exit ?_
      refine wpC_seq ?_
      refine wpC_cut (fun ρ => True) trivial ?_
      rintro ρ -
      refine wpC_region ?_
      refine wpR_val (v := (Value.bool true)) (w' := w1) rfl rfl rfl (x_assign (v := (Value.bool true)) rfl rfl) ?_
      refine wpR_nil ?_
      refine wpC_ret ?_
      exact ⟨.inl rfl, fun a ha => ⟨_, results_rep1 rfl ha rfl, true, rfl, h⟩⟩

/-- loss.Check -/
def F13 (p0_0 : ByteArray) (p0_1 : Int) (p0_2 : Int) (p0_3 : Int) (p0_4 : Bool) (p0_5 : Int) (p0_6 : Bool) (p0_7 : Bool) (p0_8 : Int) (p0_9 : Int) (p0_10 : Int) (p0_11 : Int) (p0_12 : Sl) (p0_13 : Int) (p0_14 : Int) (p0_15 : Int) (p0_16 : Int) (p0_17 : Bool) (p0_18 : Int) (p0_19 : Int) (p0_20 : Int) (p0_21 : Int) (p1 : Sl) (p2 : Sl) (w0 : World) (K : Int → World → Prop) : Prop :=
  nw 24 (A23 p0_0 p0_1 p0_2 p0_3 p0_4 p0_5 p0_6 p0_7 p0_8 p0_9 p0_10 p0_11 p0_12 p0_13 p0_14 p0_15 p0_16 p0_17 p0_18 p0_19 p0_20 p0_21) w0 fun b9 w1 =>
  L23 (Addr.mk b9 0 none) w1 fun x10 x11 x12 x13 x14 x15 x16 x17 x18 x19 x20 x21 x22 x23 x24 x25 x26 x27 x28 x29 x30 x31 =>
  callC Try.prog 10 #[(V23 x10 x11 x12 x13 x14 x15 x16 x17 x18 x19 x20 x21 x22 x23 x24 x25 x26 x27 x28 x29 x30 x31), (Sl.v p1)] (fun (r : Sl × Int) => (Value.tuple #[(Sl.v r.1), (Value.int .i64 r.2)])) w1 fun r32 w2 =>
  cnd (!decide (r32.2 = 0))
    (
    K r32.2 w2
    )
    (
    lp (fun (next34 : (Bool × Int) → World → Prop) l34 w3 =>
      cnd (decide (l34.2 < (p1.len : Int)))
        (
        ix p1 l34.2 2 fun p36 =>
        ld (Value.int .i64) (p36.add 0) w3 fun x37 =>
        ld (Value.int .i64) (p36.add 1) w3 fun x38 =>
        nw 46 #[(Value.int .i64 0), (Value.int .i64 0)] w3 fun b39 w4 =>
        st (Addr.mk b39 0 none) [(Value.int .i64 x37), (Value.int .i64 x38)] w4 fun w5 =>
        L23 (Addr.mk b9 0 none) w5 fun x41 x42 x43 x44 x45 x46 x47 x48 x49 x50 x51 x52 x53 x54 x55 x56 x57 x58 x59 x60 x61 x62 =>
        callC Try.prog 29 #[(V23 x41 x42 x43 x44 x45 x46 x47 x48 x49 x50 x51 x52 x53 x54 x55 x56 x57 x58 x59 x60 x61 x62), (Value.int .i64 l34.2)] (fun (r : Sl) => (Sl.v r)) w5 fun r63 w6 =>
        ld (Value.int .i64) ((Addr.mk b39 0 none).add 0) w6 fun x64 =>
        ld (Value.int .i64) ((Addr.mk b39 0 none).add 1) w6 fun x65 =>
        callC Try.prog 30 #[(Sl.v r63), (Value.agg #[(Value.int .i64 x64), (Value.int .i64 x65), (Value.bool true)])] (fun (r : Bool) => (Value.bool r)) w6 fun r66 w7 =>
        cnd (!r66)
          (
          K 7 w7
          )
          (
          callC Try.prog 31 #[(Sl.v r63), (Value.func (.func 32) #[] #[])] (fun (r : Int) => (Value.int .i64 r)) w7 fun r68 w8 =>
          jn (fun (J70 : Bool → World → Prop) => tk w8 fun w9 =>
            cnd (l34.1)
              (
              ix r63 r68 3 fun p72 =>
              ld (Value.int .i64) ((p72.add 0).add 0) w9 fun x73 =>
              ld (Value.int .i64) ((p72.add 0).add 1) w9 fun x74 =>
              ld (Value.int .i64) ((Addr.mk b39 0 none).add 0) w9 fun x75 =>
              ld (Value.int .i64) ((Addr.mk b39 0 none).add 1) w9 fun x76 =>
              J70 (decide (x73 = x75) && (decide (x74 = x76) && true)) w9
              )
              (
              J70 false w9
              )
          )
          fun l77 w10 =>
          next34 (l77, IntKind.i64.wrap (l34.2 + 1)) w10
          )
        )
        (
        jn (fun J78 => cnd (!l34.1)
          (
          J78 true w3
          )
          (
          callC Try.prog 33 #[(Sl.v r32.1), (Sl.v p2)] (fun (r : Bool) => (Value.bool r)) w3 fun r80 w11 =>
          J78 (!r80) w11
          ))
        fun c81 w12 =>
        cnd (c81)
          (
          K 18 w12
          )
          (
          K 0 w12
          )
        )
    ) (true, 0) w2
    )
set_option maxRecDepth 100000 in
theorem D13 (p0_0 : ByteArray) (p0_1 : Int) (p0_2 : Int) (p0_3 : Int) (p0_4 : Bool) (p0_5 : Int) (p0_6 : Bool) (p0_7 : Bool) (p0_8 : Int) (p0_9 : Int) (p0_10 : Int) (p0_11 : Int) (p0_12 : Sl) (p0_13 : Int) (p0_14 : Int) (p0_15 : Int) (p0_16 : Int) (p0_17 : Bool) (p0_18 : Int) (p0_19 : Int) (p0_20 : Int) (p0_21 : Int) (p1 : Sl) (p2 : Sl) (w0 : World) (K : Int → World → Prop) (h : F13 p0_0 p0_1 p0_2 p0_3 p0_4 p0_5 p0_6 p0_7 p0_8 p0_9 p0_10 p0_11 p0_12 p0_13 p0_14 p0_15 p0_16 p0_17 p0_18 p0_19 p0_20 p0_21 p1 p2 w0 K) : callC Try.prog 13 #[(V23 p0_0 p0_1 p0_2 p0_3 p0_4 p0_5 p0_6 p0_7 p0_8 p0_9 p0_10 p0_11 p0_12 p0_13 p0_14 p0_15 p0_16 p0_17 p0_18 p0_19 p0_20 p0_21), (Sl.v p1), (Sl.v p2)] (fun (r : Int) => (Value.int .i64 r)) w0 K := by
  unfold F13 at h
  refine calls_of_wpC Try.func13 rfl 59 rfl (by simp) ?_
  intro ρ hρ
  have e0 : ρ 0 = (V23 p0_0 p0_1 p0_2 p0_3 p0_4 p0_5 p0_6 p0_7 p0_8 p0_9 p0_10 p0_11 p0_12 p0_13 p0_14 p0_15 p0_16 p0_17 p0_18 p0_19 p0_20 p0_21) := hρ 0
  have e1 : ρ 1 = (Sl.v p1) := hρ 1
  have e2 : ρ 2 = (Sl.v p2) := hρ 2
  clear hρ
  refine wpC_seq ?_
  refine wpC_region ?_
  obtain ⟨b9, hb9⟩ : ∃ u, u = w0.heap.size := ⟨_, rfl⟩
  obtain ⟨w1, hw9⟩ : ∃ u, u = w0.alloc (.cells (A23 p0_0 p0_1 p0_2 p0_3 p0_4 p0_5 p0_6 p0_7 p0_8 p0_9 p0_10 p0_11 p0_12 p0_13 p0_14 p0_15 p0_16 p0_17 p0_18 p0_19 p0_20 p0_21) 24) := ⟨_, rfl⟩
  replace h := h b9 w1 hb9 hw9
  refine wpR_val (v := (Value.pointer (some (Addr.mk b9 0 none)))) (w' := w1) rfl rfl rfl ((x_box (v := (V23 p0_0 p0_1 p0_2 p0_3 p0_4 p0_5 p0_6 p0_7 p0_8 p0_9 p0_10 p0_11 p0_12 p0_13 p0_14 p0_15 p0_16 p0_17 p0_18 p0_19 p0_20 p0_21)) rfl e0).trans (by rw [hb9, hw9]; rfl)) ?_
  refine wpR_val (v := (Value.int .i64 0)) (w' := w1) rfl rfl rfl (x_assign (v := (Value.int .i64 0)) rfl rfl) ?_
  refine wpR_nil ?_
  refine wpC_seq ?_
  refine wpC_cut (fun ρ => ρ 1 = (Sl.v p1) ∧ ρ 2 = (Sl.v p2) ∧ ρ 3 = (Value.pointer (some (Addr.mk b9 0 none))) ∧ True) ⟨e1, e2, rfl, trivial⟩ ?_
  rintro ρ ⟨e1, e2, e3, -⟩
  refine wpC_region ?_
  obtain ⟨x10, q10, x11, q11, x12, q12, x13, q13, x14, q14, x15, q15, x16, q16, x17, q17, x18, q18, x19, q19, x20, q20, x21, q21, x22, q22, x23, q23, x24, q24, x25, q25, x26, q26, x27, q27, x28, q28, x29, q29, x30, q30, x31, q31, h⟩ := h
  refine wpR_val (v := (V23 x10 x11 x12 x13 x14 x15 x16 x17 x18 x19 x20 x21 x22 x23 x24 x25 x26 x27 x28 x29 x30 x31)) (w' := w1) rfl rfl rfl (x_loadN (S23 x10 x11 x12 x13 x14 x15 x16 x17 x18 x19 x20 x21 x22 x23 x24 x25 x26 x27 x28 x29 x30 x31) rfl e3 SH_24 (K23 ⟨q10, q11, q12, q13, q14, q15, q16, q17, q18, q19, q20, q21, q22, q23, q24, q25, q26, q27, q28, q29, q30, q31⟩)) ?_
  refine wpR_val (v := (Sl.v p1)) (w' := w1) rfl rfl rfl (x_move (v := (Sl.v p1)) rfl e1) ?_
  refine wpR_enter rfl rfl rfl (x_call (vs := [(V23 x10 x11 x12 x13 x14 x15 x16 x17 x18 x19 x20 x21 x22 x23 x24 x25 x26 x27 x28 x29 x30 x31), (Sl.v p1)]) rfl rfl (mapl_cons rfl (mapl_cons rfl mapl_nil)) Try.func10 NN_10 NB_10) (Calls.mono h ?_)
  rintro _ w2 ⟨r32, rfl, h⟩
  refine ⟨_, rfl, ?_⟩
  refine wpR_val (v := (Value.tuple #[(Sl.v r32.1), (Value.int .i64 r32.2)])) (w' := w2) rfl rfl rfl (x_move (v := (Value.tuple #[(Sl.v r32.1), (Value.int .i64 r32.2)])) rfl rfl) ?_
  refine wpR_val (v := (Sl.v r32.1)) (w' := w2) rfl rfl rfl (x_extract rfl rfl rfl) ?_
  refine wpR_val (v := (Value.int .i64 r32.2)) (w' := w2) rfl rfl rfl (x_extract rfl rfl rfl) ?_
  refine wpR_val (v := (Sl.v r32.1)) (w' := w2) rfl rfl rfl (x_assign (v := (Sl.v r32.1)) rfl rfl) ?_
  refine wpR_val (v := (Value.int .i64 r32.2)) (w' := w2) rfl rfl rfl (x_assign (v := (Value.int .i64 r32.2)) rfl rfl) ?_
  refine wpR_nil ?_
  refine wpC_seq ?_
  refine wpC_seq ?_
  refine wpC_cut (fun ρ => ρ 1 = (Sl.v p1) ∧ ρ 2 = (Sl.v p2) ∧ ρ 3 = (Value.pointer (some (Addr.mk b9 0 none))) ∧ ρ 7 = (Sl.v r32.1) ∧ ρ 8 = (Value.int .i64 r32.2) ∧ True) ⟨e1, e2, e3, rfl, rfl, trivial⟩ ?_
  rintro ρ ⟨e1, e2, e3, e7, e8, -⟩
  refine wpC_region ?_
  refine wpR_val (v := (Value.int .i64 r32.2)) (w' := w2) rfl rfl rfl (x_move (v := (Value.int .i64 r32.2)) rfl e8) ?_
  refine wpR_val (v := (Value.bool (!decide (r32.2 = 0)))) (w' := w2) rfl rfl rfl (x_neq rfl rfl rfl) ?_
  refine wpR_nil ?_
  refine wpC_cond (b := !decide (r32.2 = 0)) rfl (fun hc33 => ?_) (fun hc33 => ?_)
  · replace h := h.1 hc33
    refine wpC_seq ?_
    refine wpC_cut (fun ρ => ρ 8 = (Value.int .i64 r32.2) ∧ True) ⟨e8, trivial⟩ ?_
    rintro ρ ⟨e8, -⟩
    refine wpC_region ?_
    refine wpR_val (v := (Value.int .i64 r32.2)) (w' := w2) rfl rfl rfl (x_move (v := (Value.int .i64 r32.2)) rfl e8) ?_
    refine wpR_val (v := (Value.int .i64 r32.2)) (w' := w2) rfl rfl rfl (x_assign (v := (Value.int .i64 r32.2)) rfl rfl) ?_
    refine wpR_nil ?_
    refine wpC_ret ?_
    exact ⟨.inl rfl, fun a ha => ⟨_, results_rep1 rfl ha rfl, r32.2, rfl, h⟩⟩
  · replace h := h.2 hc33
    refine wpC_skip ?_
    refine wpC_seq ?_
    refine wpC_cut (fun ρ => ρ 1 = (Sl.v p1) ∧ ρ 2 = (Sl.v p2) ∧ ρ 3 = (Value.pointer (some (Addr.mk b9 0 none))) ∧ ρ 7 = (Sl.v r32.1) ∧ True) ⟨e1, e2, e3, e7, trivial⟩ ?_
    rintro ρ ⟨e1, e2, e3, e7, -⟩
    refine wpC_region ?_
    refine wpR_val (v := (Value.bool true)) (w' := w2) rfl rfl rfl (x_assign (v := (Value.bool true)) rfl rfl) ?_
    refine wpR_nil ?_
    refine wpC_seq ?_
    refine wpC_seq ?_
    refine wpC_cut (fun ρ => ρ 1 = (Sl.v p1) ∧ ρ 2 = (Sl.v p2) ∧ ρ 3 = (Value.pointer (some (Addr.mk b9 0 none))) ∧ ρ 7 = (Sl.v r32.1) ∧ ρ 9 = (Value.bool true) ∧ True) ⟨e1, e2, e3, e7, rfl, trivial⟩ ?_
    rintro ρ ⟨e1, e2, e3, e7, e9, -⟩
    refine wpC_region ?_
    refine wpR_val (v := (Sl.v p1)) (w' := w2) rfl rfl rfl (x_move (v := (Sl.v p1)) rfl e1) ?_
    refine wpR_val (v := (Value.int .i64 (p1.len : Int))) (w' := w2) rfl rfl rfl (x_lenS (s := p1) rfl rfl isSliceT_25) ?_
    refine wpR_val (v := (Value.int .i64 0)) (w' := w2) rfl rfl rfl (x_move (v := (Value.int .i64 0)) rfl rfl) ?_
    refine wpR_nil ?_
    refine wpC_block ?_
    obtain ⟨I34, μ34, hI34, hr34⟩ := h
    refine wpC_loop (fun (x : Bool × Int) ρ => ρ 9 = (Value.bool x.1) ∧ ρ 25 = (Value.int .i64 x.2) ∧ ρ 2 = (Sl.v p2) ∧ ρ 3 = (Value.pointer (some (Addr.mk b9 0 none))) ∧ ρ 7 = (Sl.v r32.1) ∧ ρ 23 = (Sl.v p1) ∧ ρ 24 = (Value.int .i64 (p1.len : Int)) ∧ True) I34 μ34 (true, 0) ⟨e9, rfl, e2, e3, e7, rfl, rfl, trivial⟩ hI34 ?_
    rintro l34 ρ w3 ⟨e9, e25, e2, e3, e7, e23, e24, -⟩ h
    replace h := hr34 l34 w3 h
    clear hr34 hI34
    refine wpC_seq ?_
    refine wpC_region ?_
    refine wpR_val (v := (Value.bool (decide (l34.2 < (p1.len : Int))))) (w' := w3) rfl rfl rfl (x_lss rfl e25 e24) ?_
    refine wpR_nil ?_
    refine wpC_seq ?_
    refine wpC_cond (b := decide (l34.2 < (p1.len : Int))) rfl (fun hc35 => ?_) (fun hc35 => ?_)
    · replace h := h.1 hc35
      refine wpC_skip ?_
      refine wpC_seq ?_
      refine wpC_block ?_
      refine wpC_seq ?_
      refine wpC_cut (fun ρ => ρ 2 = (Sl.v p2) ∧ ρ 3 = (Value.pointer (some (Addr.mk b9 0 none))) ∧ ρ 7 = (Sl.v r32.1) ∧ ρ 9 = (Value.bool l34.1) ∧ ρ 23 = (Sl.v p1) ∧ ρ 24 = (Value.int .i64 (p1.len : Int)) ∧ ρ 25 = (Value.int .i64 l34.2) ∧ True) ⟨e2, e3, e7, e9, e23, e24, e25, trivial⟩ ?_
      rintro ρ ⟨e2, e3, e7, e9, e23, e24, e25, -⟩
      refine wpC_region ?_
      refine wpR_val (v := (Value.int .i64 l34.2)) (w' := w3) rfl rfl rfl (x_move (v := (Value.int .i64 l34.2)) rfl e25) ?_
      obtain ⟨q36, z36, r36, h⟩ := h
      generalize hp36 : z36.add ((l34.2 : Int).toNat * 2) = p36 at h
      refine wpR_val (v := (Value.pointer (some p36))) (w' := w3) rfl rfl rfl ((x_indexAddr (s := p1) rfl e23 e25 ES_25 q36 r36).trans (by rw [hp36])) ?_
      obtain ⟨x37, q37, x38, q38, h⟩ := h
      refine wpR_val (v := (Value.agg #[(Value.int .i64 x37), (Value.int .i64 x38)])) (w' := w3) rfl rfl rfl (x_loadN [(Value.int .i64 x37), (Value.int .i64 x38)] rfl rfl SH_46 (CellsAt.out (CellsAt.cons q37 (CellsAt.cons q38 CellsAt.nil)))) ?_
      obtain ⟨b39, hb39⟩ : ∃ u, u = w3.heap.size := ⟨_, rfl⟩
      obtain ⟨w4, hw39⟩ : ∃ u, u = w3.alloc (.cells #[(Value.int .i64 0), (Value.int .i64 0)] 46) := ⟨_, rfl⟩
      replace h := h b39 w4 hb39 hw39
      refine wpR_val (v := (Value.pointer (some (Addr.mk b39 0 none)))) (w' := w4) rfl rfl rfl ((x_alloc rfl ZV_46).trans (by rw [hb39, hw39]; rfl)) ?_
      refine wpR_val (v := (Value.int .i64 l34.2)) (w' := w4) rfl rfl rfl (x_assign (v := (Value.int .i64 l34.2)) rfl rfl) ?_
      obtain ⟨q40, h⟩ := h
      obtain ⟨w5, hw40⟩ : ∃ u, u = setAll w4 (Addr.mk b39 0 none) [(Value.int .i64 x37), (Value.int .i64 x38)] 0 := ⟨_, rfl⟩
      replace h := h w5 hw40
      refine wpR_skp (w' := w5) rfl rfl ((x_store (v := (Value.agg #[(Value.int .i64 x37), (Value.int .i64 x38)])) rfl rfl rfl SZ_46 (ones (by rfl)) q40).trans (by rw [hw40]; rfl)) ?_
      refine wpR_nil ?_
      refine wpC_seq ?_
      refine wpC_cut (fun ρ => ρ 2 = (Sl.v p2) ∧ ρ 3 = (Value.pointer (some (Addr.mk b9 0 none))) ∧ ρ 7 = (Sl.v r32.1) ∧ ρ 9 = (Value.bool l34.1) ∧ ρ 10 = (Value.int .i64 l34.2) ∧ ρ 11 = (Value.pointer (some (Addr.mk b39 0 none))) ∧ ρ 23 = (Sl.v p1) ∧ ρ 24 = (Value.int .i64 (p1.len : Int)) ∧ ρ 25 = (Value.int .i64 l34.2) ∧ True) ⟨e2, e3, e7, e9, rfl, rfl, e23, e24, e25, trivial⟩ ?_
      rintro ρ ⟨e2, e3, e7, e9, e10, e11, e23, e24, e25, -⟩
      refine wpC_region ?_
      obtain ⟨x41, q41, x42, q42, x43, q43, x44, q44, x45, q45, x46, q46, x47, q47, x48, q48, x49, q49, x50, q50, x51, q51, x52, q52, x53, q53, x54, q54, x55, q55, x56, q56, x57, q57, x58, q58, x59, q59, x60, q60, x61, q61, x62, q62, h⟩ := h
      refine wpR_val (v := (V23 x41 x42 x43 x44 x45 x46 x47 x48 x49 x50 x51 x52 x53 x54 x55 x56 x57 x58 x59 x60 x61 x62)) (w' := w5) rfl rfl rfl (x_loadN (S23 x41 x42 x43 x44 x45 x46 x47 x48 x49 x50 x51 x52 x53 x54 x55 x56 x57 x58 x59 x60 x61 x62) rfl e3 SH_24 (K23 ⟨q41, q42, q43, q44, q45, q46, q47, q48, q49, q50, q51, q52, q53, q54, q55, q56, q57, q58, q59, q60, q61, q62⟩)) ?_
      refine wpR_val (v := (Value.int .i64 l34.2)) (w' := w5) rfl rfl rfl (x_move (v := (Value.int .i64 l34.2)) rfl e10) ?_
      refine wpR_enter rfl rfl rfl (x_call (vs := [(V23 x41 x42 x43 x44 x45 x46 x47 x48 x49 x50 x51 x52 x53 x54 x55 x56 x57 x58 x59 x60 x61 x62), (Value.int .i64 l34.2)]) rfl rfl (mapl_cons rfl (mapl_cons rfl mapl_nil)) Try.func29 NN_29 NB_29) (Calls.mono h ?_)
      rintro _ w6 ⟨r63, rfl, h⟩
      refine ⟨_, rfl, ?_⟩
      refine wpR_val (v := (Sl.v r63)) (w' := w6) rfl rfl rfl (x_assign (v := (Sl.v r63)) rfl rfl) ?_
      refine wpR_nil ?_
      refine wpC_seq ?_
      refine wpC_seq ?_
      refine wpC_cut (fun ρ => ρ 2 = (Sl.v p2) ∧ ρ 3 = (Value.pointer (some (Addr.mk b9 0 none))) ∧ ρ 7 = (Sl.v r32.1) ∧ ρ 9 = (Value.bool l34.1) ∧ ρ 11 = (Value.pointer (some (Addr.mk b39 0 none))) ∧ ρ 12 = (Sl.v r63) ∧ ρ 23 = (Sl.v p1) ∧ ρ 24 = (Value.int .i64 (p1.len : Int)) ∧ ρ 25 = (Value.int .i64 l34.2) ∧ True) ⟨e2, e3, e7, e9, e11, rfl, e23, e24, e25, trivial⟩ ?_
      rintro ρ ⟨e2, e3, e7, e9, e11, e12, e23, e24, e25, -⟩
      refine wpC_region ?_
      refine wpR_val (v := (Sl.v r63)) (w' := w6) rfl rfl rfl (x_move (v := (Sl.v r63)) rfl e12) ?_
      obtain ⟨x64, q64, x65, q65, h⟩ := h
      refine wpR_val (v := (Value.agg #[(Value.int .i64 x64), (Value.int .i64 x65)])) (w' := w6) rfl rfl rfl (x_loadN [(Value.int .i64 x64), (Value.int .i64 x65)] rfl e11 SH_46 (CellsAt.out (CellsAt.cons q64 (CellsAt.cons q65 CellsAt.nil)))) ?_
      refine wpR_val (v := (Value.agg #[(Value.int .i64 x64), (Value.int .i64 x65), (Value.bool true)])) (w' := w6) rfl rfl rfl (x_build (qs := [(0, (Value.agg #[(Value.int .i64 x64), (Value.int .i64 x65)])), (1, (Value.bool true))]) rfl (by rfl) (BD_55_0_1 x64 x65 true _)) ?_
      refine wpR_enter rfl rfl rfl (x_call (vs := [(Sl.v r63), (Value.agg #[(Value.int .i64 x64), (Value.int .i64 x65), (Value.bool true)])]) rfl rfl (mapl_cons rfl (mapl_cons rfl mapl_nil)) Try.func30 NN_30 NB_30) (Calls.mono h ?_)
      rintro _ w7 ⟨r66, rfl, h⟩
      refine ⟨_, rfl, ?_⟩
      refine wpR_val (v := (Value.bool (!r66))) (w' := w7) rfl rfl rfl (x_not rfl rfl) ?_
      refine wpR_nil ?_
      refine wpC_cond (b := !r66) rfl (fun hc67 => ?_) (fun hc67 => ?_)
      · replace h := h.1 hc67
        refine wpC_seq ?_
        refine wpC_cut (fun ρ => True) trivial ?_
        rintro ρ -
        refine wpC_region ?_
        refine wpR_val (v := (Value.int .i64 7)) (w' := w7) rfl rfl rfl (x_assign (v := (Value.int .i64 7)) rfl rfl) ?_
        refine wpR_nil ?_
        refine wpC_ret ?_
        exact ⟨.inl rfl, fun a ha => ⟨_, results_rep1 rfl ha rfl, 7, rfl, h⟩⟩
      · replace h := h.2 hc67
        refine wpC_skip ?_
        refine wpC_seq ?_
        refine wpC_cut (fun ρ => ρ 2 = (Sl.v p2) ∧ ρ 3 = (Value.pointer (some (Addr.mk b9 0 none))) ∧ ρ 7 = (Sl.v r32.1) ∧ ρ 9 = (Value.bool l34.1) ∧ ρ 11 = (Value.pointer (some (Addr.mk b39 0 none))) ∧ ρ 12 = (Sl.v r63) ∧ ρ 23 = (Sl.v p1) ∧ ρ 24 = (Value.int .i64 (p1.len : Int)) ∧ ρ 25 = (Value.int .i64 l34.2) ∧ True) ⟨e2, e3, e7, e9, e11, e12, e23, e24, e25, trivial⟩ ?_
        rintro ρ ⟨e2, e3, e7, e9, e11, e12, e23, e24, e25, -⟩
        refine wpC_region ?_
        refine wpR_val (v := (Sl.v r63)) (w' := w7) rfl rfl rfl (x_move (v := (Sl.v r63)) rfl e12) ?_
        refine wpR_enter rfl rfl rfl (x_call (vs := [(Sl.v r63), (Value.func (.func 32) #[] #[])]) rfl rfl (mapl_cons rfl (mapl_cons rfl mapl_nil)) Try.func31 NN_31 NB_31) (Calls.mono h ?_)
        rintro _ w8 ⟨r68, rfl, h⟩
        refine ⟨_, rfl, ?_⟩
        refine wpR_val (v := (Value.int .i64 r68)) (w' := w8) rfl rfl rfl (x_assign (v := (Value.int .i64 r68)) rfl rfl) ?_
        refine wpR_nil ?_
        refine wpC_cut (fun ρ => ρ 2 = (Sl.v p2) ∧ ρ 3 = (Value.pointer (some (Addr.mk b9 0 none))) ∧ ρ 7 = (Sl.v r32.1) ∧ ρ 9 = (Value.bool l34.1) ∧ ρ 11 = (Value.pointer (some (Addr.mk b39 0 none))) ∧ ρ 12 = (Sl.v r63) ∧ ρ 13 = (Value.int .i64 r68) ∧ ρ 23 = (Sl.v p1) ∧ ρ 24 = (Value.int .i64 (p1.len : Int)) ∧ ρ 25 = (Value.int .i64 l34.2) ∧ True) ⟨e2, e3, e7, e9, e11, e12, rfl, e23, e24, e25, trivial⟩ ?_
        rintro ρ ⟨e2, e3, e7, e9, e11, e12, e13, e23, e24, e25, -⟩
        obtain ⟨J70, h, hk⟩ := h
        refine wpC_drawJ (by kernel_rfl) (fun (x : Bool) ρ => ρ 9 = (Value.bool x) ∧ ρ 2 = (Sl.v p2) ∧ ρ 3 = (Value.pointer (some (Addr.mk b9 0 none))) ∧ ρ 7 = (Sl.v r32.1) ∧ ρ 23 = (Sl.v p1) ∧ ρ 24 = (Value.int .i64 (p1.len : Int)) ∧ ρ 25 = (Value.int .i64 l34.2) ∧ True) J70 ?_ ?_
        · clear hk
          unfold tk at h
          generalize w8.drew = w9 at h ⊢
          refine wpD_take (v := (Value.bool l34.1)) 0 (fun _ => True) rfl (by kernel_rfl) (by kernel_rfl) (by kernel_rfl) rfl rfl rfl trivial (fun w _ => (x_move (v := (Value.bool l34.1)) rfl e9)) ?_
          refine wpD_take (v := (Value.bool l34.1)) 1 (fun _ => True) rfl (by kernel_rfl) (by kernel_rfl) (by kernel_rfl) rfl rfl rfl trivial (fun w _ => (x_move (v := (Value.bool l34.1)) rfl rfl)) ?_
          rcases Bool.eq_false_or_eq_true (l34.1) with hc71 | hc71
          · replace h := h.1 hc71
            refine wpD_take (v := (Sl.v r63)) 2 (fun _ => True) rfl (by kernel_rfl) (by kernel_rfl) (by kernel_rfl) (wantG rfl rfl rfl hc71) rfl rfl trivial (fun w _ => (x_move (v := (Sl.v r63)) rfl e12)) ?_
            refine wpD_take (v := (Value.int .i64 r68)) 3 (fun _ => True) rfl (by kernel_rfl) (by kernel_rfl) (by kernel_rfl) (wantG rfl rfl rfl hc71) rfl rfl trivial (fun w _ => (x_move (v := (Value.int .i64 r68)) rfl e13)) ?_
            obtain ⟨q72, z72, r72, h⟩ := h
            generalize hp72 : z72.add ((r68 : Int).toNat * 3) = p72 at h
            refine wpD_take (v := (Value.pointer (some p72))) 4 (fun _ => True) rfl (by kernel_rfl) (by kernel_rfl) (by kernel_rfl) (wantG rfl rfl rfl hc71) rfl rfl trivial (fun w _ => ((x_indexAddr (s := r63) rfl rfl rfl ES_51 q72 r72).trans (by rw [hp72]))) ?_
            refine wpD_take (v := (Value.pointer (some (p72.add 0)))) 5 (fun _ => True) rfl (by kernel_rfl) (by kernel_rfl) (by kernel_rfl) (wantG rfl rfl rfl hc71) rfl rfl trivial (fun w _ => (x_fieldAddr rfl rfl FA_55_0)) ?_
            obtain ⟨x73, q73, x74, q74, h⟩ := h
            refine wpD_take (v := (Value.agg #[(Value.int .i64 x73), (Value.int .i64 x74)])) 6 (fun w => w.cell? ((p72.add 0).add 0) = some (Value.int .i64 x73) ∧ w.cell? ((p72.add 0).add 1) = some (Value.int .i64 x74)) rfl (by kernel_rfl) (by kernel_rfl) (by kernel_rfl) (wantG rfl rfl rfl hc71) rfl rfl ⟨q73, q74⟩ (fun w ⟨q73, q74⟩ => (x_loadN [(Value.int .i64 x73), (Value.int .i64 x74)] rfl rfl SH_46 (CellsAt.out (CellsAt.cons q73 (CellsAt.cons q74 CellsAt.nil))))) ?_
            obtain ⟨x75, q75, x76, q76, h⟩ := h
            refine wpD_take (v := (Value.agg #[(Value.int .i64 x75), (Value.int .i64 x76)])) 7 (fun w => w.cell? ((Addr.mk b39 0 none).add 0) = some (Value.int .i64 x75) ∧ w.cell? ((Addr.mk b39 0 none).add 1) = some (Value.int .i64 x76)) rfl (by kernel_rfl) (by kernel_rfl) (by kernel_rfl) (wantG rfl rfl rfl hc71) rfl rfl ⟨q75, q76⟩ (fun w ⟨q75, q76⟩ => (x_loadN [(Value.int .i64 x75), (Value.int .i64 x76)] rfl e11 SH_46 (CellsAt.out (CellsAt.cons q75 (CellsAt.cons q76 CellsAt.nil))))) ?_
            refine wpD_take (v := (Value.bool (decide (x73 = x75) && (decide (x74 = x76) && true)))) 8 (fun _ => True) rfl (by kernel_rfl) (by kernel_rfl) (by kernel_rfl) (wantG rfl rfl rfl hc71) rfl rfl trivial (fun w _ => (x_eqlA rfl rfl rfl EQ1_46 EQ2_46 EQ3_46 (EQ_46 x73 x74 x75 x76))) ?_
            refine wpD_take (v := (Value.bool (decide (x73 = x75) && (decide (x74 = x76) && true)))) 9 (fun _ => True) rfl (by kernel_rfl) (by kernel_rfl) (by kernel_rfl) rfl rfl rfl trivial (fun w _ => (x_pickT (v := (Value.bool (decide (x73 = x75) && (decide (x74 = x76) && true)))) rfl rfl hc71 rfl)) ?_
            refine wpD_take (v := (Value.bool (decide (x73 = x75) && (decide (x74 = x76) && true)))) 10 (fun _ => True) rfl (by kernel_rfl) (by kernel_rfl) (by kernel_rfl) rfl rfl rfl trivial (fun w _ => (x_assign (v := (Value.bool (decide (x73 = x75) && (decide (x74 = x76) && true)))) rfl rfl)) ?_
            exact wpD_done (by kernel_rfl) ⟨(decide (x73 = x75) && (decide (x74 = x76) && true)), ⟨rfl, e2, e3, e7, e23, e24, e25, trivial⟩, h⟩
          · replace h := h.2 hc71
            refine wpD_pass 2 rfl (by kernel_rfl) (by kernel_rfl) (by kernel_rfl) (wantN rfl rfl rfl hc71) rfl rfl ?_
            refine wpD_pass 3 rfl (by kernel_rfl) (by kernel_rfl) (by kernel_rfl) (wantN rfl rfl rfl hc71) rfl rfl ?_
            refine wpD_pass 4 rfl (by kernel_rfl) (by kernel_rfl) (by kernel_rfl) (wantN rfl rfl rfl hc71) rfl rfl ?_
            refine wpD_pass 5 rfl (by kernel_rfl) (by kernel_rfl) (by kernel_rfl) (wantN rfl rfl rfl hc71) rfl rfl ?_
            refine wpD_pass 6 rfl (by kernel_rfl) (by kernel_rfl) (by kernel_rfl) (wantN rfl rfl rfl hc71) rfl rfl ?_
            refine wpD_pass 7 rfl (by kernel_rfl) (by kernel_rfl) (by kernel_rfl) (wantN rfl rfl rfl hc71) rfl rfl ?_
            refine wpD_pass 8 rfl (by kernel_rfl) (by kernel_rfl) (by kernel_rfl) (wantN rfl rfl rfl hc71) rfl rfl ?_
            refine wpD_take (v := (Value.bool false)) 9 (fun _ => True) rfl (by kernel_rfl) (by kernel_rfl) (by kernel_rfl) rfl rfl rfl trivial (fun w _ => (x_pickF (v := (Value.bool false)) rfl rfl hc71 rfl)) ?_
            refine wpD_take (v := (Value.bool false)) 10 (fun _ => True) rfl (by kernel_rfl) (by kernel_rfl) (by kernel_rfl) rfl rfl rfl trivial (fun w _ => (x_assign (v := (Value.bool false)) rfl rfl)) ?_
            exact wpD_done (by kernel_rfl) ⟨false, ⟨rfl, e2, e3, e7, e23, e24, e25, trivial⟩, h⟩
        clear h
        rintro l77 ρ w10 ⟨e9, e2, e3, e7, e23, e24, e25, -⟩ h
        replace h := hk l77 w10 h
        clear hk
        refine wpC_region ?_
        refine wpR_val (v := (Value.int .i64 (IntKind.i64.wrap (l34.2 + 1)))) (w' := w10) rfl rfl rfl (x_add rfl e25 rfl) ?_
        refine wpR_val (v := (Value.int .i64 (IntKind.i64.wrap (l34.2 + 1)))) (w' := w10) rfl rfl rfl (x_move (v := (Value.int .i64 (IntKind.i64.wrap (l34.2 + 1)))) rfl rfl) ?_
        refine wpR_nil ?_
        exact ⟨(l77, IntKind.i64.wrap (l34.2 + 1)), ⟨e9, rfl, e2, e3, e7, e23, e24, trivial⟩, h⟩
    · replace h := h.2 hc35
      refine wpC_exit ?_
      refine wpC_seq ?_
      refine wpC_seq ?_
      refine wpC_cut (fun ρ => ρ 2 = (Sl.v p2) ∧ ρ 7 = (Sl.v r32.1) ∧ ρ 9 = (Value.bool l34.1) ∧ True) ⟨e2, e7, e9, trivial⟩ ?_
      rintro ρ ⟨e2, e7, e9, -⟩
      refine wpC_region ?_
      refine wpR_val (v := (Value.bool l34.1)) (w' := w3) rfl rfl rfl (x_move (v := (Value.bool l34.1)) rfl e9) ?_
      refine wpR_val (v := (Value.bool (!l34.1))) (w' := w3) rfl rfl rfl (x_not rfl rfl) ?_
      refine wpR_val (v := (Value.bool (!l34.1))) (w' := w3) rfl rfl rfl (x_move (v := (Value.bool (!l34.1))) rfl rfl) ?_
      obtain ⟨J78, h, hk⟩ := h
      refine wpR_joinJ 5 (fun x ρ => ρ 58 = Value.bool x ∧ True) (J78) ?_ ?_
      · clear hk
        rcases Bool.eq_false_or_eq_true (!l34.1) with hc79 | hc79
        · replace h := h.1 hc79
          refine wpR_pass (wantN rfl rfl rfl hc79) rfl rfl ?_
          refine wpR_pass (wantN rfl rfl rfl hc79) rfl rfl ?_
          refine wpR_pass (wantN rfl rfl rfl hc79) rfl rfl ?_
          refine wpR_pass (wantN rfl rfl rfl hc79) rfl rfl ?_
          refine wpR_val (v := (Value.bool true)) (w' := w3) rfl rfl rfl (x_pickT (v := (Value.bool true)) rfl rfl hc79 rfl) ?_
          refine wpR_nil ?_
          exact ⟨true, ⟨rfl, trivial⟩, h⟩
        · replace h := h.2 hc79
          refine wpR_val (v := (Sl.v r32.1)) (w' := w3) (wantG rfl rfl rfl hc79) rfl rfl (x_move (v := (Sl.v r32.1)) rfl e7) ?_
          refine wpR_val (v := (Sl.v p2)) (w' := w3) (wantG rfl rfl rfl hc79) rfl rfl (x_move (v := (Sl.v p2)) rfl e2) ?_
          refine wpR_enter (wantG rfl rfl rfl hc79) rfl rfl (x_call (vs := [(Sl.v r32.1), (Sl.v p2)]) rfl rfl (mapl_cons rfl (mapl_cons rfl mapl_nil)) Try.func33 NN_33 NB_33) (Calls.mono h ?_)
          rintro _ w11 ⟨r80, rfl, h⟩
          refine ⟨_, rfl, ?_⟩
          refine wpR_val (v := (Value.bool (!r80))) (w' := w11) (wantG rfl rfl rfl hc79) rfl rfl (x_not rfl rfl) ?_
          refine wpR_val (v := (Value.bool (!r80))) (w' := w11) rfl rfl rfl (x_pickF (v := (Value.bool (!r80))) rfl rfl hc79 rfl) ?_
          refine wpR_nil ?_
          exact ⟨!r80, ⟨rfl, trivial⟩, h⟩
      clear h
      rintro c81 ρ w12 ⟨e58, -⟩ h
      replace h := hk c81 w12 h
      clear hk
      refine wpR_nil ?_
      refine wpC_cond (b := c81) e58 (fun hc82 => ?_) (fun hc82 => ?_)
      · replace h := h.1 hc82
        refine wpC_seq ?_
        refine wpC_region ?_
        refine wpR_val (v := (Value.int .i64 18)) (w' := w12) rfl rfl rfl (x_assign (v := (Value.int .i64 18)) rfl rfl) ?_
        refine wpR_nil ?_
        refine wpC_ret ?_
        exact ⟨.inl rfl, fun a ha => ⟨_, results_rep1 rfl ha rfl, 18, rfl, h⟩⟩
      · replace h := h.2 hc82
        refine wpC_skip ?_
        refine wpC_seq ?_
        refine wpC_region ?_
        refine wpR_val (v := (Value.int .i64 0)) (w' := w12) rfl rfl rfl (x_assign (v := (Value.int .i64 0)) rfl rfl) ?_
        refine wpR_nil ?_
        refine wpC_ret ?_
        exact ⟨.inl rfl, fun a ha => ⟨_, results_rep1 rfl ha rfl, 0, rfl, h⟩⟩

/-- linguaref20.Check -/
def F14 (p0_0 : ByteArray) (p0_1 : Int) (p0_2 : Int) (p0_3 : Int) (p0_4 : Bool) (p0_5 : Int) (p0_6 : Bool) (p0_7 : Bool) (p0_8 : Int) (p0_9 : Int) (p0_10 : Int) (p0_11 : Int) (p0_12 : Sl) (p0_13 : Int) (p0_14 : Int) (p0_15 : Int) (p0_16 : Int) (p0_17 : Bool) (p0_18 : Int) (p0_19 : Int) (p0_20 : Int) (p0_21 : Int) (p1 : Sl) (p2 : Sl) (w0 : World) (K : Int → World → Prop) : Prop :=
  nw 24 (A23 p0_0 p0_1 p0_2 p0_3 p0_4 p0_5 p0_6 p0_7 p0_8 p0_9 p0_10 p0_11 p0_12 p0_13 p0_14 p0_15 p0_16 p0_17 p0_18 p0_19 p0_20 p0_21) w0 fun b9 w1 =>
  L23 (Addr.mk b9 0 none) w1 fun x10 x11 x12 x13 x14 x15 x16 x17 x18 x19 x20 x21 x22 x23 x24 x25 x26 x27 x28 x29 x30 x31 =>
  callC Try.prog 11 #[(V23 x10 x11 x12 x13 x14 x15 x16 x17 x18 x19 x20 x21 x22 x23 x24 x25 x26 x27 x28 x29 x30 x31), (Sl.v p1)] (fun (r : Sl × Int) => (Value.tuple #[(Sl.v r.1), (Value.int .i64 r.2)])) w1 fun r32 w2 =>
  cnd (!decide (r32.2 = 0))
    (
    K r32.2 w2
    )
    (
    L23 (Addr.mk b9 0 none) w2 fun x34 x35 x36 x37 x38 x39 x40 x41 x42 x43 x44 x45 x46 x47 x48 x49 x50 x51 x52 x53 x54 x55 =>
    callC Try.prog 34 #[(V23 x34 x35 x36 x37 x38 x39 x40 x41 x42 x43 x44 x45 x46 x47 x48 x49 x50 x51 x52 x53 x54 x55)] (fun (r : Sl) => (Sl.v r)) w2 fun r56 w3 =>
    lp (fun (next57 : Int → World → Prop) l57 w4 =>
      cnd (decide (l57 < (p1.len : Int)))
        (
        lp (fun (next59 : (Bool × Int) → World → Prop) l59 w5 =>
          cnd (decide (l59.2 < (r56.len : Int)))
            (
            jn (fun (J62 : Bool → World → Prop) => tk w5 fun w6 =>
              cnd (l59.1)
                (
                J62 true w6
                )
                (
                ix r56 l59.2 5 fun p64 =>
                ld Value.bool (p64.add 4) w6 fun x65 =>
                cnd (x65)
                  (
                  ix r56 l59.2 5 fun p67 =>
                  ld (Value.int .i64) (p67.add 0) w6 fun x68 =>
                  cnd (decide (x68 = l57))
                    (
                    ix r56 l59.2 5 fun p70 =>
                    ld (Value.int .i64) (p70.add 1) w6 fun x71 =>
                    ix p1 l57 2 fun p72 =>
                    ld (Value.int .i64) (p72.add 0) w6 fun x73 =>
                    cnd (decide (x71 = x73))
                      (
                      ix r56 l59.2 5 fun p75 =>
                      ld (Value.int .i64) (p75.add 2) w6 fun x76 =>
                      ix p1 l57 2 fun p77 =>
                      ld (Value.int .i64) (p77.add 1) w6 fun x78 =>
                      J62 (decide (x76 = x78)) w6
                      )
                      (
                      J62 false w6
                      )
                    )
                    (
                    J62 false w6
                    )
                  )
                  (
                  J62 false w6
                  )
                )
            )
            fun l79 w7 =>
            next59 (l79, IntKind.i64.wrap (l59.2 + 1)) w7
            )
            (
            cnd (!l59.1)
              (
              K 7 w5
              )
              (
              next57 (IntKind.i64.wrap (l57 + 1)) w5
              )
            )
        ) (false, 0) w4
        )
        (
        L23 (Addr.mk b9 0 none) w4 fun x81 x82 x83 x84 x85 x86 x87 x88 x89 x90 x91 x92 x93 x94 x95 x96 x97 x98 x99 x100 x101 x102 =>
        callC Try.prog 35 #[(V23 x81 x82 x83 x84 x85 x86 x87 x88 x89 x90 x91 x92 x93 x94 x95 x96 x97 x98 x99 x100 x101 x102)] (fun (r : Sl) => (Sl.v r)) w4 fun r103 w8 =>
        lp (fun (next104 : Int → World → Prop) l104 w9 =>
          cnd (decide (l104 < (p1.len : Int)))
            (
            jn (fun (J107 : Bool → World → Prop) => tk w9 fun w10 =>
              ix p1 l104 2 fun p108 =>
              ld (Value.int .i64) (p108.add 0) w10 fun x109 =>
              ld (Value.int .i64) (p108.add 1) w10 fun x110 =>
              ix r103 l104 2 fun p111 =>
              ld (Value.int .i64) (p111.add 0) w10 fun x112 =>
              ld (Value.int .i64) (p111.add 1) w10 fun x113 =>
              J107 (!(decide (x109 = x112) && (decide (x110 = x113) && true))) w10
            )
            fun l114 w11 =>
            cnd (l114)
              (
              K 18 w11
              )
              (
              next104 (IntKind.i64.wrap (l104 + 1)) w11
              )
            )
            (
            callC Try.prog 12 #[(Sl.v r32.1), (Sl.v p2)] (fun (r : Bool) => (Value.bool r)) w9 fun r116 w12 =>
            cnd (!r116)
              (
              K 18 w12
              )
              (
              K 0 w12
              )
            )
        ) 0 w8
        )
    ) 0 w3
    )
set_option maxRecDepth 100000 in
theorem D14 (p0_0 : ByteArray) (p0_1 : Int) (p0_2 : Int) (p0_3 : Int) (p0_4 : Bool) (p0_5 : Int) (p0_6 : Bool) (p0_7 : Bool) (p0_8 : Int) (p0_9 : Int) (p0_10 : Int) (p0_11 : Int) (p0_12 : Sl) (p0_13 : Int) (p0_14 : Int) (p0_15 : Int) (p0_16 : Int) (p0_17 : Bool) (p0_18 : Int) (p0_19 : Int) (p0_20 : Int) (p0_21 : Int) (p1 : Sl) (p2 : Sl) (w0 : World) (K : Int → World → Prop) (h : F14 p0_0 p0_1 p0_2 p0_3 p0_4 p0_5 p0_6 p0_7 p0_8 p0_9 p0_10 p0_11 p0_12 p0_13 p0_14 p0_15 p0_16 p0_17 p0_18 p0_19 p0_20 p0_21 p1 p2 w0 K) : callC Try.prog 14 #[(V23 p0_0 p0_1 p0_2 p0_3 p0_4 p0_5 p0_6 p0_7 p0_8 p0_9 p0_10 p0_11 p0_12 p0_13 p0_14 p0_15 p0_16 p0_17 p0_18 p0_19 p0_20 p0_21), (Sl.v p1), (Sl.v p2)] (fun (r : Int) => (Value.int .i64 r)) w0 K := by
  unfold F14 at h
  refine calls_of_wpC Try.func14 rfl 104 rfl (by simp) ?_
  intro ρ hρ
  have e0 : ρ 0 = (V23 p0_0 p0_1 p0_2 p0_3 p0_4 p0_5 p0_6 p0_7 p0_8 p0_9 p0_10 p0_11 p0_12 p0_13 p0_14 p0_15 p0_16 p0_17 p0_18 p0_19 p0_20 p0_21) := hρ 0
  have e1 : ρ 1 = (Sl.v p1) := hρ 1
  have e2 : ρ 2 = (Sl.v p2) := hρ 2
  clear hρ
  refine wpC_seq ?_
  refine wpC_region ?_
  obtain ⟨b9, hb9⟩ : ∃ u, u = w0.heap.size := ⟨_, rfl⟩
  obtain ⟨w1, hw9⟩ : ∃ u, u = w0.alloc (.cells (A23 p0_0 p0_1 p0_2 p0_3 p0_4 p0_5 p0_6 p0_7 p0_8 p0_9 p0_10 p0_11 p0_12 p0_13 p0_14 p0_15 p0_16 p0_17 p0_18 p0_19 p0_20 p0_21) 24) := ⟨_, rfl⟩
  replace h := h b9 w1 hb9 hw9
  refine wpR_val (v := (Value.pointer (some (Addr.mk b9 0 none)))) (w' := w1) rfl rfl rfl ((x_box (v := (V23 p0_0 p0_1 p0_2 p0_3 p0_4 p0_5 p0_6 p0_7 p0_8 p0_9 p0_10 p0_11 p0_12 p0_13 p0_14 p0_15 p0_16 p0_17 p0_18 p0_19 p0_20 p0_21)) rfl e0).trans (by rw [hb9, hw9]; rfl)) ?_
  refine wpR_val (v := (Value.int .i64 0)) (w' := w1) rfl rfl rfl (x_assign (v := (Value.int .i64 0)) rfl rfl) ?_
  refine wpR_nil ?_
  refine wpC_seq ?_
  refine wpC_cut (fun ρ => ρ 1 = (Sl.v p1) ∧ ρ 2 = (Sl.v p2) ∧ ρ 3 = (Value.pointer (some (Addr.mk b9 0 none))) ∧ True) ⟨e1, e2, rfl, trivial⟩ ?_
  rintro ρ ⟨e1, e2, e3, -⟩
  refine wpC_region ?_
  obtain ⟨x10, q10, x11, q11, x12, q12, x13, q13, x14, q14, x15, q15, x16, q16, x17, q17, x18, q18, x19, q19, x20, q20, x21, q21, x22, q22, x23, q23, x24, q24, x25, q25, x26, q26, x27, q27, x28, q28, x29, q29, x30, q30, x31, q31, h⟩ := h
  refine wpR_val (v := (V23 x10 x11 x12 x13 x14 x15 x16 x17 x18 x19 x20 x21 x22 x23 x24 x25 x26 x27 x28 x29 x30 x31)) (w' := w1) rfl rfl rfl (x_loadN (S23 x10 x11 x12 x13 x14 x15 x16 x17 x18 x19 x20 x21 x22 x23 x24 x25 x26 x27 x28 x29 x30 x31) rfl e3 SH_24 (K23 ⟨q10, q11, q12, q13, q14, q15, q16, q17, q18, q19, q20, q21, q22, q23, q24, q25, q26, q27, q28, q29, q30, q31⟩)) ?_
  refine wpR_val (v := (Sl.v p1)) (w' := w1) rfl rfl rfl (x_move (v := (Sl.v p1)) rfl e1) ?_
  refine wpR_enter rfl rfl rfl (x_call (vs := [(V23 x10 x11 x12 x13 x14 x15 x16 x17 x18 x19 x20 x21 x22 x23 x24 x25 x26 x27 x28 x29 x30 x31), (Sl.v p1)]) rfl rfl (mapl_cons rfl (mapl_cons rfl mapl_nil)) Try.func11 NN_11 NB_11) (Calls.mono h ?_)
  rintro _ w2 ⟨r32, rfl, h⟩
  refine ⟨_, rfl, ?_⟩
  refine wpR_val (v := (Value.tuple #[(Sl.v r32.1), (Value.int .i64 r32.2)])) (w' := w2) rfl rfl rfl (x_move (v := (Value.tuple #[(Sl.v r32.1), (Value.int .i64 r32.2)])) rfl rfl) ?_
  refine wpR_val (v := (Sl.v r32.1)) (w' := w2) rfl rfl rfl (x_extract rfl rfl rfl) ?_
  refine wpR_val (v := (Value.int .i64 r32.2)) (w' := w2) rfl rfl rfl (x_extract rfl rfl rfl) ?_
  refine wpR_val (v := (Sl.v r32.1)) (w' := w2) rfl rfl rfl (x_assign (v := (Sl.v r32.1)) rfl rfl) ?_
  refine wpR_val (v := (Value.int .i64 r32.2)) (w' := w2) rfl rfl rfl (x_assign (v := (Value.int .i64 r32.2)) rfl rfl) ?_
  refine wpR_nil ?_
  refine wpC_seq ?_
  refine wpC_seq ?_
  refine wpC_cut (fun ρ => ρ 1 = (Sl.v p1) ∧ ρ 2 = (Sl.v p2) ∧ ρ 3 = (Value.pointer (some (Addr.mk b9 0 none))) ∧ ρ 7 = (Sl.v r32.1) ∧ ρ 8 = (Value.int .i64 r32.2) ∧ True) ⟨e1, e2, e3, rfl, rfl, trivial⟩ ?_
  rintro ρ ⟨e1, e2, e3, e7, e8, -⟩
  refine wpC_region ?_
  refine wpR_val (v := (Value.int .i64 r32.2)) (w' := w2) rfl rfl rfl (x_move (v := (Value.int .i64 r32.2)) rfl e8) ?_
  refine wpR_val (v := (Value.bool (!decide (r32.2 = 0)))) (w' := w2) rfl rfl rfl (x_neq rfl rfl rfl) ?_
  refine wpR_nil ?_
  refine wpC_cond (b := !decide (r32.2 = 0)) rfl (fun hc33 => ?_) (fun hc33 => ?_)
  · replace h := h.1 hc33
    refine wpC_seq ?_
    refine wpC_cut (fun ρ => ρ 8 = (Value.int .i64 r32.2) ∧ True) ⟨e8, trivial⟩ ?_
    rintro ρ ⟨e8, -⟩
    refine wpC_region ?_
    refine wpR_val (v := (Value.int .i64 r32.2)) (w' := w2) rfl rfl rfl (x_move (v := (Value.int .i64 r32.2)) rfl e8) ?_
    refine wpR_val (v := (Value.int .i64 r32.2)) (w' := w2) rfl rfl rfl (x_assign (v := (Value.int .i64 r32.2)) rfl rfl) ?_
    refine wpR_nil ?_
    refine wpC_ret ?_
    exact ⟨.inl rfl, fun a ha => ⟨_, results_rep1 rfl ha rfl, r32.2, rfl, h⟩⟩
  · replace h := h.2 hc33
    refine wpC_skip ?_
    refine wpC_seq ?_
    refine wpC_cut (fun ρ => ρ 1 = (Sl.v p1) ∧ ρ 2 = (Sl.v p2) ∧ ρ 3 = (Value.pointer (some (Addr.mk b9 0 none))) ∧ ρ 7 = (Sl.v r32.1) ∧ True) ⟨e1, e2, e3, e7, trivial⟩ ?_
    rintro ρ ⟨e1, e2, e3, e7, -⟩
    refine wpC_region ?_
    obtain ⟨x34, q34, x35, q35, x36, q36, x37, q37, x38, q38, x39, q39, x40, q40, x41, q41, x42, q42, x43, q43, x44, q44, x45, q45, x46, q46, x47, q47, x48, q48, x49, q49, x50, q50, x51, q51, x52, q52, x53, q53, x54, q54, x55, q55, h⟩ := h
    refine wpR_val (v := (V23 x34 x35 x36 x37 x38 x39 x40 x41 x42 x43 x44 x45 x46 x47 x48 x49 x50 x51 x52 x53 x54 x55)) (w' := w2) rfl rfl rfl (x_loadN (S23 x34 x35 x36 x37 x38 x39 x40 x41 x42 x43 x44 x45 x46 x47 x48 x49 x50 x51 x52 x53 x54 x55) rfl e3 SH_24 (K23 ⟨q34, q35, q36, q37, q38, q39, q40, q41, q42, q43, q44, q45, q46, q47, q48, q49, q50, q51, q52, q53, q54, q55⟩)) ?_
    refine wpR_enter rfl rfl rfl (x_call (vs := [(V23 x34 x35 x36 x37 x38 x39 x40 x41 x42 x43 x44 x45 x46 x47 x48 x49 x50 x51 x52 x53 x54 x55)]) rfl rfl (mapl_cons rfl mapl_nil) Try.func34 NN_34 NB_34) (Calls.mono h ?_)
    rintro _ w3 ⟨r56, rfl, h⟩
    refine ⟨_, rfl, ?_⟩
    refine wpR_val (v := (Sl.v r56)) (w' := w3) rfl rfl rfl (x_assign (v := (Sl.v r56)) rfl rfl) ?_
    refine wpR_nil ?_
    refine wpC_seq ?_
    refine wpC_seq ?_
    refine wpC_cut (fun ρ => ρ 1 = (Sl.v p1) ∧ ρ 2 = (Sl.v p2) ∧ ρ 3 = (Value.pointer (some (Addr.mk b9 0 none))) ∧ ρ 7 = (Sl.v r32.1) ∧ ρ 9 = (Sl.v r56) ∧ True) ⟨e1, e2, e3, e7, rfl, trivial⟩ ?_
    rintro ρ ⟨e1, e2, e3, e7, e9, -⟩
    refine wpC_region ?_
    refine wpR_val (v := (Value.int .i64 0)) (w' := w3) rfl rfl rfl (x_assign (v := (Value.int .i64 0)) rfl rfl) ?_
    refine wpR_nil ?_
    refine wpC_block ?_
    obtain ⟨I57, μ57, hI57, hr57⟩ := h
    refine wpC_loop (fun (x : Int) ρ => ρ 10 = (Value.int .i64 x) ∧ ρ 1 = (Sl.v p1) ∧ ρ 2 = (Sl.v p2) ∧ ρ 3 = (Value.pointer (some (Addr.mk b9 0 none))) ∧ ρ 7 = (Sl.v r32.1) ∧ ρ 9 = (Sl.v r56) ∧ True) I57 μ57 0 ⟨rfl, e1, e2, e3, e7, e9, trivial⟩ hI57 ?_
    rintro l57 ρ w4 ⟨e10, e1, e2, e3, e7, e9, -⟩ h
    replace h := hr57 l57 w4 h
    clear hr57 hI57
    refine wpC_seq ?_
    refine wpC_seq ?_
    refine wpC_region ?_
    refine wpR_val (v := (Value.int .i64 l57)) (w' := w4) rfl rfl rfl (x_move (v := (Value.int .i64 l57)) rfl e10) ?_
    refine wpR_val (v := (Sl.v p1)) (w' := w4) rfl rfl rfl (x_move (v := (Sl.v p1)) rfl e1) ?_
    refine wpR_val (v := (Value.int .i64 (p1.len : Int))) (w' := w4) rfl rfl rfl (x_lenS (s := p1) rfl rfl isSliceT_25) ?_
    refine wpR_val (v := (Value.bool (decide (l57 < (p1.len : Int))))) (w' := w4) rfl rfl rfl (x_lss rfl rfl rfl) ?_
    refine wpR_nil ?_
    refine wpC_cond (b := decide (l57 < (p1.len : Int))) rfl (fun hc58 => ?_) (fun hc58 => ?_)
    · replace h := h.1 hc58
      refine wpC_skip ?_
      refine wpC_seq ?_
      refine wpC_block ?_
      refine wpC_seq ?_
      refine wpC_cut (fun ρ => ρ 1 = (Sl.v p1) ∧ ρ 2 = (Sl.v p2) ∧ ρ 3 = (Value.pointer (some (Addr.mk b9 0 none))) ∧ ρ 7 = (Sl.v r32.1) ∧ ρ 9 = (Sl.v r56) ∧ ρ 10 = (Value.int .i64 l57) ∧ True) ⟨e1, e2, e3, e7, e9, e10, trivial⟩ ?_
      rintro ρ ⟨e1, e2, e3, e7, e9, e10, -⟩
      refine wpC_region ?_
      refine wpR_val (v := (Value.bool false)) (w' := w4) rfl rfl rfl (x_assign (v := (Value.bool false)) rfl rfl) ?_
      refine wpR_nil ?_
      refine wpC_seq ?_
      refine wpC_seq ?_
      refine wpC_cut (fun ρ => ρ 1 = (Sl.v p1) ∧ ρ 2 = (Sl.v p2) ∧ ρ 3 = (Value.pointer (some (Addr.mk b9 0 none))) ∧ ρ 7 = (Sl.v r32.1) ∧ ρ 9 = (Sl.v r56) ∧ ρ 10 = (Value.int .i64 l57) ∧ ρ 11 = (Value.bool false) ∧ True) ⟨e1, e2, e3, e7, e9, e10, rfl, trivial⟩ ?_
      rintro ρ ⟨e1, e2, e3, e7, e9, e10, e11, -⟩
      refine wpC_region ?_
      refine wpR_val (v := (Value.int .i64 0)) (w' := w4) rfl rfl rfl (x_assign (v := (Value.int .i64 0)) rfl rfl) ?_
      refine wpR_nil ?_
      refine wpC_block ?_
      obtain ⟨I59, μ59, hI59, hr59⟩ := h
      refine wpC_loop (fun (x : Bool × Int) ρ => ρ 11 = (Value.bool x.1) ∧ ρ 12 = (Value.int .i64 x.2) ∧ ρ 1 = (Sl.v p1) ∧ ρ 2 = (Sl.v p2) ∧ ρ 3 = (Value.pointer (some (Addr.mk b9 0 none))) ∧ ρ 7 = (Sl.v r32.1) ∧ ρ 9 = (Sl.v r56) ∧ ρ 10 = (Value.int .i64 l57) ∧ True) I59 μ59 (false, 0) ⟨e11, rfl, e1, e2, e3, e7, e9, e10, trivial⟩ hI59 ?_
      rintro l59 ρ w5 ⟨e11, e12, e1, e2, e3, e7, e9, e10, -⟩ h
      replace h := hr59 l59 w5 h
      clear hr59 hI59
      refine wpC_seq ?_
      refine wpC_seq ?_
      refine wpC_region ?_
      refine wpR_val (v := (Value.int .i64 l59.2)) (w' := w5) rfl rfl rfl (x_move (v := (Value.int .i64 l59.2)) rfl e12) ?_
      refine wpR_val (v := (Sl.v r56)) (w' := w5) rfl rfl rfl (x_move (v := (Sl.v r56)) rfl e9) ?_
      refine wpR_val (v := (Value.int .i64 (r56.len : Int))) (w' := w5) rfl rfl rfl (x_lenS (s := r56) rfl rfl isSliceT_58) ?_
      refine wpR_val (v := (Value.bool (decide (l59.2 < (r56.len : Int))))) (w' := w5) rfl rfl rfl (x_lss rfl rfl rfl) ?_
      refine wpR_nil ?_
      refine wpC_cond (b := decide (l59.2 < (r56.len : Int))) rfl (fun hc60 => ?_) (fun hc60 => ?_)
      · replace h := h.1 hc60
        refine wpC_skip ?_
        refine wpC_seq ?_
        refine wpC_block ?_
        refine wpC_cut (fun ρ => ρ 1 = (Sl.v p1) ∧ ρ 2 = (Sl.v p2) ∧ ρ 3 = (Value.pointer (some (Addr.mk b9 0 none))) ∧ ρ 7 = (Sl.v r32.1) ∧ ρ 9 = (Sl.v r56) ∧ ρ 10 = (Value.int .i64 l57) ∧ ρ 11 = (Value.bool l59.1) ∧ ρ 12 = (Value.int .i64 l59.2) ∧ True) ⟨e1, e2, e3, e7, e9, e10, e11, e12, trivial⟩ ?_
        rintro ρ ⟨e1, e2, e3, e7, e9, e10, e11, e12, -⟩
        obtain ⟨J62, h, hk⟩ := h
        refine wpC_drawJ (by kernel_rfl) (fun (x : Bool) ρ => ρ 11 = (Value.bool x) ∧ ρ 1 = (Sl.v p1) ∧ ρ 2 = (Sl.v p2) ∧ ρ 3 = (Value.pointer (some (Addr.mk b9 0 none))) ∧ ρ 7 = (Sl.v r32.1) ∧ ρ 9 = (Sl.v r56) ∧ ρ 10 = (Value.int .i64 l57) ∧ ρ 12 = (Value.int .i64 l59.2) ∧ True) J62 ?_ ?_
        · clear hk
          unfold tk at h
          generalize w5.drew = w6 at h ⊢
          refine wpD_take (v := (Value.bool l59.1)) 0 (fun _ => True) rfl (by kernel_rfl) (by kernel_rfl) (by kernel_rfl) rfl rfl rfl trivial (fun w _ => (x_move (v := (Value.bool l59.1)) rfl e11)) ?_
          refine wpD_take (v := (Value.bool l59.1)) 1 (fun _ => True) rfl (by kernel_rfl) (by kernel_rfl) (by kernel_rfl) rfl rfl rfl trivial (fun w _ => (x_move (v := (Value.bool l59.1)) rfl rfl)) ?_
          rcases Bool.eq_false_or_eq_true (l59.1) with hc63 | hc63
          · replace h := h.1 hc63
            refine wpD_pass 2 rfl (by kernel_rfl) (by kernel_rfl) (by kernel_rfl) (wantN rfl rfl rfl hc63) rfl rfl ?_
            refine wpD_pass 3 rfl (by kernel_rfl) (by kernel_rfl) (by kernel_rfl) (wantN rfl rfl rfl hc63) rfl rfl ?_
            refine wpD_pass 4 rfl (by kernel_rfl) (by kernel_rfl) (by kernel_rfl) (wantN rfl rfl rfl hc63) rfl rfl ?_
            refine wpD_pass 5 rfl (by kernel_rfl) (by kernel_rfl) (by kernel_rfl) (wantN rfl rfl rfl hc63) rfl rfl ?_
            refine wpD_pass 6 rfl (by kernel_rfl) (by kernel_rfl) (by kernel_rfl) (wantN rfl rfl rfl hc63) rfl rfl ?_
            refine wpD_pass 7 rfl (by kernel_rfl) (by kernel_rfl) (by kernel_rfl) (wantN rfl rfl rfl hc63) rfl rfl ?_
            refine wpD_pass 8 rfl (by kernel_rfl) (by kernel_rfl) (by kernel_rfl) (wantU rfl rfl rfl) rfl rfl ?_
            refine wpD_pass 9 rfl (by kernel_rfl) (by kernel_rfl) (by kernel_rfl) (wantU rfl rfl rfl) rfl rfl ?_
            refine wpD_pass 10 rfl (by kernel_rfl) (by kernel_rfl) (by kernel_rfl) (wantU rfl rfl rfl) rfl rfl ?_
            refine wpD_pass 11 rfl (by kernel_rfl) (by kernel_rfl) (by kernel_rfl) (wantU rfl rfl rfl) rfl rfl ?_
            refine wpD_pass 12 rfl (by kernel_rfl) (by kernel_rfl) (by kernel_rfl) (wantU rfl rfl rfl) rfl rfl ?_
            refine wpD_pass 13 rfl (by kernel_rfl) (by kernel_rfl) (by kernel_rfl) (wantU rfl rfl rfl) rfl rfl ?_
            refine wpD_pass 14 rfl (by kernel_rfl) (by kernel_rfl) (by kernel_rfl) (wantU rfl rfl rfl) rfl rfl ?_
            refine wpD_pass 15 rfl (by kernel_rfl) (by kernel_rfl) (by kernel_rfl) (wantN rfl rfl rfl hc63) rfl rfl ?_
            refine wpD_pass 16 rfl (by kernel_rfl) (by kernel_rfl) (by kernel_rfl) (wantN rfl rfl rfl hc63) rfl rfl ?_
            refine wpD_pass 17 rfl (by kernel_rfl) (by kernel_rfl) (by kernel_rfl) (wantU rfl rfl rfl) rfl rfl ?_
            refine wpD_pass 18 rfl (by kernel_rfl) (by kernel_rfl) (by kernel_rfl) (wantU rfl rfl rfl) rfl rfl ?_
            refine wpD_pass 19 rfl (by kernel_rfl) (by kernel_rfl) (by kernel_rfl) (wantU rfl rfl rfl) rfl rfl ?_
            refine wpD_pass 20 rfl (by kernel_rfl) (by kernel_rfl) (by kernel_rfl) (wantU rfl rfl rfl) rfl rfl ?_
            refine wpD_pass 21 rfl (by kernel_rfl) (by kernel_rfl) (by kernel_rfl) (wantU rfl rfl rfl) rfl rfl ?_
            refine wpD_pass 22 rfl (by kernel_rfl) (by kernel_rfl) (by kernel_rfl) (wantU rfl rfl rfl) rfl rfl ?_
            refine wpD_pass 23 rfl (by kernel_rfl) (by kernel_rfl) (by kernel_rfl) (wantU rfl rfl rfl) rfl rfl ?_
            refine wpD_pass 24 rfl (by kernel_rfl) (by kernel_rfl) (by kernel_rfl) (wantU rfl rfl rfl) rfl rfl ?_
            refine wpD_pass 25 rfl (by kernel_rfl) (by kernel_rfl) (by kernel_rfl) (wantU rfl rfl rfl) rfl rfl ?_
            refine wpD_pass 26 rfl (by kernel_rfl) (by kernel_rfl) (by kernel_rfl) (wantU rfl rfl rfl) rfl rfl ?_
            refine wpD_pass 27 rfl (by kernel_rfl) (by kernel_rfl) (by kernel_rfl) (wantU rfl rfl rfl) rfl rfl ?_
            refine wpD_pass 28 rfl (by kernel_rfl) (by kernel_rfl) (by kernel_rfl) (wantN rfl rfl rfl hc63) rfl rfl ?_
            refine wpD_pass 29 rfl (by kernel_rfl) (by kernel_rfl) (by kernel_rfl) (wantN rfl rfl rfl hc63) rfl rfl ?_
            refine wpD_pass 30 rfl (by kernel_rfl) (by kernel_rfl) (by kernel_rfl) (wantU rfl rfl rfl) rfl rfl ?_
            refine wpD_pass 31 rfl (by kernel_rfl) (by kernel_rfl) (by kernel_rfl) (wantU rfl rfl rfl) rfl rfl ?_
            refine wpD_pass 32 rfl (by kernel_rfl) (by kernel_rfl) (by kernel_rfl) (wantU rfl rfl rfl) rfl rfl ?_
            refine wpD_pass 33 rfl (by kernel_rfl) (by kernel_rfl) (by kernel_rfl) (wantU rfl rfl rfl) rfl rfl ?_
            refine wpD_pass 34 rfl (by kernel_rfl) (by kernel_rfl) (by kernel_rfl) (wantU rfl rfl rfl) rfl rfl ?_
            refine wpD_pass 35 rfl (by kernel_rfl) (by kernel_rfl) (by kernel_rfl) (wantU rfl rfl rfl) rfl rfl ?_
            refine wpD_pass 36 rfl (by kernel_rfl) (by kernel_rfl) (by kernel_rfl) (wantU rfl rfl rfl) rfl rfl ?_
            refine wpD_pass 37 rfl (by kernel_rfl) (by kernel_rfl) (by kernel_rfl) (wantU rfl rfl rfl) rfl rfl ?_
            refine wpD_pass 38 rfl (by kernel_rfl) (by kernel_rfl) (by kernel_rfl) (wantU rfl rfl rfl) rfl rfl ?_
            refine wpD_pass 39 rfl (by kernel_rfl) (by kernel_rfl) (by kernel_rfl) (wantU rfl rfl rfl) rfl rfl ?_
            refine wpD_pass 40 rfl (by kernel_rfl) (by kernel_rfl) (by kernel_rfl) (wantU rfl rfl rfl) rfl rfl ?_
            refine wpD_pass 41 rfl (by kernel_rfl) (by kernel_rfl) (by kernel_rfl) (wantN rfl rfl rfl hc63) rfl rfl ?_
            refine wpD_take (v := (Value.bool true)) 42 (fun _ => True) rfl (by kernel_rfl) (by kernel_rfl) (by kernel_rfl) rfl rfl rfl trivial (fun w _ => (x_pickT (v := (Value.bool true)) rfl rfl hc63 rfl)) ?_
            refine wpD_take (v := (Value.bool true)) 43 (fun _ => True) rfl (by kernel_rfl) (by kernel_rfl) (by kernel_rfl) rfl rfl rfl trivial (fun w _ => (x_assign (v := (Value.bool true)) rfl rfl)) ?_
            exact wpD_done (by kernel_rfl) ⟨true, ⟨rfl, e1, e2, e3, e7, e9, e10, e12, trivial⟩, h⟩
          · replace h := h.2 hc63
            refine wpD_take (v := (Sl.v r56)) 2 (fun _ => True) rfl (by kernel_rfl) (by kernel_rfl) (by kernel_rfl) (wantG rfl rfl rfl hc63) rfl rfl trivial (fun w _ => (x_move (v := (Sl.v r56)) rfl e9)) ?_
            refine wpD_take (v := (Value.int .i64 l59.2)) 3 (fun _ => True) rfl (by kernel_rfl) (by kernel_rfl) (by kernel_rfl) (wantG rfl rfl rfl hc63) rfl rfl trivial (fun w _ => (x_move (v := (Value.int .i64 l59.2)) rfl e12)) ?_
            obtain ⟨q64, z64, r64, h⟩ := h
            generalize hp64 : z64.add ((l59.2 : Int).toNat * 5) = p64 at h
            refine wpD_take (v := (Value.pointer (some p64))) 4 (fun _ => True) rfl (by kernel_rfl) (by kernel_rfl) (by kernel_rfl) (wantG rfl rfl rfl hc63) rfl rfl trivial (fun w _ => ((x_indexAddr (s := r56) rfl rfl rfl ES_58 q64 r64).trans (by rw [hp64]))) ?_
            refine wpD_take (v := (Value.pointer (some (p64.add 4)))) 5 (fun _ => True) rfl (by kernel_rfl) (by kernel_rfl) (by kernel_rfl) (wantG rfl rfl rfl hc63) rfl rfl trivial (fun w _ => (x_fieldAddr rfl rfl FA_61_4)) ?_
            obtain ⟨x65, q65, h⟩ := h
            refine wpD_take (v := (Value.bool x65)) 6 (fun w => w.cell? (p64.add 4) = some (Value.bool x65)) rfl (by kernel_rfl) (by kernel_rfl) (by kernel_rfl) (wantG rfl rfl rfl hc63) rfl rfl q65 (fun w q65 => (x_load1 rfl rfl SH_4 q65)) ?_
            refine wpD_take (v := (Value.bool x65)) 7 (fun _ => True) rfl (by kernel_rfl) (by kernel_rfl) (by kernel_rfl) (wantG rfl rfl rfl hc63) rfl rfl trivial (fun w _ => (x_move (v := (Value.bool x65)) rfl rfl)) ?_
            rcases Bool.eq_false_or_eq_true (x65) with hc66 | hc66
            · replace h := h.1 hc66
              refine wpD_take (v := (Sl.v r56)) 8 (fun _ => True) rfl (by kernel_rfl) (by kernel_rfl) (by kernel_rfl) (wantG rfl rfl rfl hc66) rfl rfl trivial (fun w _ => (x_move (v := (Sl.v r56)) rfl e9)) ?_
              refine wpD_take (v := (Value.int .i64 l59.2)) 9 (fun _ => True) rfl (by kernel_rfl) (by kernel_rfl) (by kernel_rfl) (wantG rfl rfl rfl hc66) rfl rfl trivial (fun w _ => (x_move (v := (Value.int .i64 l59.2)) rfl e12)) ?_
              obtain ⟨q67, z67, r67, h⟩ := h
              generalize hp67 : z67.add ((l59.2 : Int).toNat * 5) = p67 at h
              refine wpD_take (v := (Value.pointer (some p67))) 10 (fun _ => True) rfl (by kernel_rfl) (by kernel_rfl) (by kernel_rfl) (wantG rfl rfl rfl hc66) rfl rfl trivial (fun w _ => ((x_indexAddr (s := r56) rfl rfl rfl ES_58 q67 r67).trans (by rw [hp67]))) ?_
              refine wpD_take (v := (Value.pointer (some (p67.add 0)))) 11 (fun _ => True) rfl (by kernel_rfl) (by kernel_rfl) (by kernel_rfl) (wantG rfl rfl rfl hc66) rfl rfl trivial (fun w _ => (x_fieldAddr rfl rfl FA_61_0)) ?_
              obtain ⟨x68, q68, h⟩ := h
              refine wpD_take (v := (Value.int .i64 x68)) 12 (fun w => w.cell? (p67.add 0) = some (Value.int .i64 x68)) rfl (by kernel_rfl) (by kernel_rfl) (by kernel_rfl) (wantG rfl rfl rfl hc66) rfl rfl q68 (fun w q68 => (x_load1 rfl rfl SH_3 q68)) ?_
              refine wpD_take (v := (Value.int .i64 l57)) 13 (fun _ => True) rfl (by kernel_rfl) (by kernel_rfl) (by kernel_rfl) (wantG rfl rfl rfl hc66) rfl rfl trivial (fun w _ => (x_move (v := (Value.int .i64 l57)) rfl e10)) ?_
              refine wpD_take (v := (Value.bool (decide (x68 = l57)))) 14 (fun _ => True) rfl (by kernel_rfl) (by kernel_rfl) (by kernel_rfl) (wantG rfl rfl rfl hc66) rfl rfl trivial (fun w _ => (x_eql rfl rfl rfl)) ?_
              refine wpD_take (v := (Value.bool (decide (x68 = l57)))) 15 (fun _ => True) rfl (by kernel_rfl) (by kernel_rfl) (by kernel_rfl) (wantG rfl rfl rfl hc63) rfl rfl trivial (fun w _ => (x_pickT (v := (Value.bool (decide (x68 = l57)))) rfl rfl hc66 rfl)) ?_
              refine wpD_take (v := (Value.bool (decide (x68 = l57)))) 16 (fun _ => True) rfl (by kernel_rfl) (by kernel_rfl) (by kernel_rfl) (wantG rfl rfl rfl hc63) rfl rfl trivial (fun w _ => (x_move (v := (Value.bool (decide (x68 = l57)))) rfl rfl)) ?_
              rcases Bool.eq_false_or_eq_true (decide (x68 = l57)) with hc69 | hc69
              · replace h := h.1 hc69
                refine wpD_take (v := (Sl.v r56)) 17 (fun _ => True) rfl (by kernel_rfl) (by kernel_rfl) (by kernel_rfl) (wantG rfl rfl rfl hc69) rfl rfl trivial (fun w _ => (x_move (v := (Sl.v r56)) rfl e9)) ?_
                refine wpD_take (v := (Value.int .i64 l59.2)) 18 (fun _ => True) rfl (by kernel_rfl) (by kernel_rfl) (by kernel_rfl) (wantG rfl rfl rfl hc69) rfl rfl trivial (fun w _ => (x_move (v := (Value.int .i64 l59.2)) rfl e12)) ?_
                obtain ⟨q70, z70, r70, h⟩ := h
                generalize hp70 : z70.add ((l59.2 : Int).toNat * 5) = p70 at h
                refine wpD_take (v := (Value.pointer (some p70))) 19 (fun _ => True) rfl (by kernel_rfl) (by kernel_rfl) (by kernel_rfl) (wantG rfl rfl rfl hc69) rfl rfl trivial (fun w _ => ((x_indexAddr (s := r56) rfl rfl rfl ES_58 q70 r70).trans (by rw [hp70]))) ?_
                refine wpD_take (v := (Value.pointer (some (p70.add 1)))) 20 (fun _ => True) rfl (by kernel_rfl) (by kernel_rfl) (by kernel_rfl) (wantG rfl rfl rfl hc69) rfl rfl trivial (fun w _ => (x_fieldAddr rfl rfl FA_61_1)) ?_
                obtain ⟨x71, q71, h⟩ := h
                refine wpD_take (v := (Value.int .i64 x71)) 21 (fun w => w.cell? (p70.add 1) = some (Value.int .i64 x71)) rfl (by kernel_rfl) (by kernel_rfl) (by kernel_rfl) (wantG rfl rfl rfl hc69) rfl rfl q71 (fun w q71 => (x_load1 rfl rfl SH_3 q71)) ?_
                refine wpD_take (v := (Sl.v p1)) 22 (fun _ => True) rfl (by kernel_rfl) (by kernel_rfl) (by kernel_rfl) (wantG rfl rfl rfl hc69) rfl rfl trivial (fun w _ => (x_move (v := (Sl.v p1)) rfl e1)) ?_
                refine wpD_take (v := (Value.int .i64 l57)) 23 (fun _ => True) rfl (by kernel_rfl) (by kernel_rfl) (by kernel_rfl) (wantG rfl rfl rfl hc69) rfl rfl trivial (fun w _ => (x_move (v := (Value.int .i64 l57)) rfl e10)) ?_
                obtain ⟨q72, z72, r72, h⟩ := h
                generalize hp72 : z72.add ((l57 : Int).toNat * 2) = p72 at h
                refine wpD_take (v := (Value.pointer (some p72))) 24 (fun _ => True) rfl (by kernel_rfl) (by kernel_rfl) (by kernel_rfl) (wantG rfl rfl rfl hc69) rfl rfl trivial (fun w _ => ((x_indexAddr (s := p1) rfl rfl rfl ES_25 q72 r72).trans (by rw [hp72]))) ?_
                refine wpD_take (v := (Value.pointer (some (p72.add 0)))) 25 (fun _ => True) rfl (by kernel_rfl) (by kernel_rfl) (by kernel_rfl) (wantG rfl rfl rfl hc69) rfl rfl trivial (fun w _ => (x_fieldAddr rfl rfl FA_46_0)) ?_
                obtain ⟨x73, q73, h⟩ := h
                refine wpD_take (v := (Value.int .i64 x73)) 26 (fun w => w.cell? (p72.add 0) = some (Value.int .i64 x73)) rfl (by kernel_rfl) (by kernel_rfl) (by kernel_rfl) (wantG rfl rfl rfl hc69) rfl rfl q73 (fun w q73 => (x_load1 rfl rfl SH_3 q73)) ?_
                refine wpD_take (v := (Value.bool (decide (x71 = x73)))) 27 (fun _ => True) rfl (by kernel_rfl) (by kernel_rfl) (by kernel_rfl) (wantG rfl rfl rfl hc69) rfl rfl trivial (fun w _ => (x_eql rfl rfl rfl)) ?_
                refine wpD_take (v := (Value.bool (decide (x71 = x73)))) 28 (fun _ => True) rfl (by kernel_rfl) (by kernel_rfl) (by kernel_rfl) (wantG rfl rfl rfl hc63) rfl rfl trivial (fun w _ => (x_pickT (v := (Value.bool (decide (x71 = x73)))) rfl rfl hc69 rfl)) ?_
                refine wpD_take (v := (Value.bool (decide (x71 = x73)))) 29 (fun _ => True) rfl (by kernel_rfl) (by kernel_rfl) (by kernel_rfl) (wantG rfl rfl rfl hc63) rfl rfl trivial (fun w _ => (x_move (v := (Value.bool (decide (x71 = x73)))) rfl rfl)) ?_
                rcases Bool.eq_false_or_eq_true (decide (x71 = x73)) with hc74 | hc74
                · replace h := h.1 hc74
                  refine wpD_take (v := (Sl.v r56)) 30 (fun _ => True) rfl (by kernel_rfl) (by kernel_rfl) (by kernel_rfl) (wantG rfl rfl rfl hc74) rfl rfl trivial (fun w _ => (x_move (v := (Sl.v r56)) rfl e9)) ?_
                  refine wpD_take (v := (Value.int .i64 l59.2)) 31 (fun _ => True) rfl (by kernel_rfl) (by kernel_rfl) (by kernel_rfl) (wantG rfl rfl rfl hc74) rfl rfl trivial (fun w _ => (x_move (v := (Value.int .i64 l59.2)) rfl e12)) ?_
                  obtain ⟨q75, z75, r75, h⟩ := h
                  generalize hp75 : z75.add ((l59.2 : Int).toNat * 5) = p75 at h
                  refine wpD_take (v := (Value.pointer (some p75))) 32 (fun _ => True) rfl (by kernel_rfl) (by kernel_rfl) (by kernel_rfl) (wantG rfl rfl rfl hc74) rfl rfl trivial (fun w _ => ((x_indexAddr (s := r56) rfl rfl rfl ES_58 q75 r75).trans (by rw [hp75]))) ?_
                  refine wpD_take (v := (Value.pointer (some (p75.add 2)))) 33 (fun _ => True) rfl (by kernel_rfl) (by kernel_rfl) (by kernel_rfl) (wantG rfl rfl rfl hc74) rfl rfl trivial (fun w _ => (x_fieldAddr rfl rfl FA_61_2)) ?_
                  obtain ⟨x76, q76, h⟩ := h
                  refine wpD_take (v := (Value.int .i64 x76)) 34 (fun w => w.cell? (p75.add 2) = some (Value.int .i64 x76)) rfl (by kernel_rfl) (by kernel_rfl) (by kernel_rfl) (wantG rfl rfl rfl hc74) rfl rfl q76 (fun w q76 => (x_load1 rfl rfl SH_3 q76)) ?_
                  refine wpD_take (v := (Sl.v p1)) 35 (fun _ => True) rfl (by kernel_rfl) (by kernel_rfl) (by kernel_rfl) (wantG rfl rfl rfl hc74) rfl rfl trivial (fun w _ => (x_move (v := (Sl.v p1)) rfl e1)) ?_
                  refine wpD_take (v := (Value.int .i64 l57)) 36 (fun _ => True) rfl (by kernel_rfl) (by kernel_rfl) (by kernel_rfl) (wantG rfl rfl rfl hc74) rfl rfl trivial (fun w _ => (x_move (v := (Value.int .i64 l57)) rfl e10)) ?_
                  obtain ⟨q77, z77, r77, h⟩ := h
                  generalize hp77 : z77.add ((l57 : Int).toNat * 2) = p77 at h
                  refine wpD_take (v := (Value.pointer (some p77))) 37 (fun _ => True) rfl (by kernel_rfl) (by kernel_rfl) (by kernel_rfl) (wantG rfl rfl rfl hc74) rfl rfl trivial (fun w _ => ((x_indexAddr (s := p1) rfl rfl rfl ES_25 q77 r77).trans (by rw [hp77]))) ?_
                  refine wpD_take (v := (Value.pointer (some (p77.add 1)))) 38 (fun _ => True) rfl (by kernel_rfl) (by kernel_rfl) (by kernel_rfl) (wantG rfl rfl rfl hc74) rfl rfl trivial (fun w _ => (x_fieldAddr rfl rfl FA_46_1)) ?_
                  obtain ⟨x78, q78, h⟩ := h
                  refine wpD_take (v := (Value.int .i64 x78)) 39 (fun w => w.cell? (p77.add 1) = some (Value.int .i64 x78)) rfl (by kernel_rfl) (by kernel_rfl) (by kernel_rfl) (wantG rfl rfl rfl hc74) rfl rfl q78 (fun w q78 => (x_load1 rfl rfl SH_3 q78)) ?_
                  refine wpD_take (v := (Value.bool (decide (x76 = x78)))) 40 (fun _ => True) rfl (by kernel_rfl) (by kernel_rfl) (by kernel_rfl) (wantG rfl rfl rfl hc74) rfl rfl trivial (fun w _ => (x_eql rfl rfl rfl)) ?_
                  refine wpD_take (v := (Value.bool (decide (x76 = x78)))) 41 (fun _ => True) rfl (by kernel_rfl) (by kernel_rfl) (by kernel_rfl) (wantG rfl rfl rfl hc63) rfl rfl trivial (fun w _ => (x_pickT (v := (Value.bool (decide (x76 = x78)))) rfl rfl hc74 rfl)) ?_
                  refine wpD_take (v := (Value.bool (decide (x76 = x78)))) 42 (fun _ => True) rfl (by kernel_rfl) (by kernel_rfl) (by kernel_rfl) rfl rfl rfl trivial (fun w _ => (x_pickF (v := (Value.bool (decide (x76 = x78)))) rfl rfl hc63 rfl)) ?_
                  refine wpD_take (v := (Value.bool (decide (x76 = x78)))) 43 (fun _ => True) rfl (by kernel_rfl) (by kernel_rfl) (by kernel_rfl) rfl rfl rfl trivial (fun w _ => (x_assign (v := (Value.bool (decide (x76 = x78)))) rfl rfl)) ?_
                  exact wpD_done (by kernel_rfl) ⟨decide (x76 = x78), ⟨rfl, e1, e2, e3, e7, e9, e10, e12, trivial⟩, h⟩
                · replace h := h.2 hc74
                  refine wpD_pass 30 rfl (by kernel_rfl) (by kernel_rfl) (by kernel_rfl) (wantN rfl rfl rfl hc74) rfl rfl ?_
                  refine wpD_pass 31 rfl (by kernel_rfl) (by kernel_rfl) (by kernel_rfl) (wantN rfl rfl rfl hc74) rfl rfl ?_
                  refine wpD_pass 32 rfl (by kernel_rfl) (by kernel_rfl) (by kernel_rfl) (wantN rfl rfl rfl hc74) rfl rfl ?_
                  refine wpD_pass 33 rfl (by kernel_rfl) (by kernel_rfl) (by kernel_rfl) (wantN rfl rfl rfl hc74) rfl rfl ?_
                  refine wpD_pass 34 rfl (by kernel_rfl) (by kernel_rfl) (by kernel_rfl) (wantN rfl rfl rfl hc74) rfl rfl ?_
                  refine wpD_pass 35 rfl (by kernel_rfl) (by kernel_rfl) (by kernel_rfl) (wantN rfl rfl rfl hc74) rfl rfl ?_
                  refine wpD_pass 36 rfl (by kernel_rfl) (by kernel_rfl) (by kernel_rfl) (wantN rfl rfl rfl hc74) rfl rfl ?_
                  refine wpD_pass 37 rfl (by kernel_rfl) (by kernel_rfl) (by kernel_rfl) (wantN rfl rfl rfl hc74) rfl rfl ?_
                  refine wpD_pass 38 rfl (by kernel_rfl) (by kernel_rfl) (by kernel_rfl) (wantN rfl rfl rfl hc74) rfl rfl ?_
                  refine wpD_pass 39 rfl (by kernel_rfl) (by kernel_rfl) (by kernel_rfl) (wantN rfl rfl rfl hc74) rfl rfl ?_
                  refine wpD_pass 40 rfl (by kernel_rfl) (by kernel_rfl) (by kernel_rfl) (wantN rfl rfl rfl hc74) rfl rfl ?_
                  refine wpD_take (v := (Value.bool false)) 41 (fun _ => True) rfl (by kernel_rfl) (by kernel_rfl) (by kernel_rfl) (wantG rfl rfl rfl hc63) rfl rfl trivial (fun w _ => (x_pickF (v := (Value.bool false)) rfl rfl hc74 rfl)) ?_
                  refine wpD_take (v := (Value.bool false)) 42 (fun _ => True) rfl (by kernel_rfl) (by kernel_rfl) (by kernel_rfl) rfl rfl rfl trivial (fun w _ => (x_pickF (v := (Value.bool false)) rfl rfl hc63 rfl)) ?_
                  refine wpD_take (v := (Value.bool false)) 43 (fun _ => True) rfl (by kernel_rfl) (by kernel_rfl) (by kernel_rfl) rfl rfl rfl trivial (fun w _ => (x_assign (v := (Value.bool false)) rfl rfl)) ?_
                  exact wpD_done (by kernel_rfl) ⟨false, ⟨rfl, e1, e2, e3, e7, e9, e10, e12, trivial⟩, h⟩
              · replace h := h.2 hc69
                refine wpD_pass 17 rfl (by kernel_rfl) (by kernel_rfl) (by kernel_rfl) (wantN rfl rfl rfl hc69) rfl rfl ?_
                refine wpD_pass 18 rfl (by kernel_rfl) (by kernel_rfl) (by kernel_rfl) (wantN rfl rfl rfl hc69) rfl rfl ?_
                refine wpD_pass 19 rfl (by kernel_rfl) (by kernel_rfl) (by kernel_rfl) (wantN rfl rfl rfl hc69) rfl rfl ?_
                refine wpD_pass 20 rfl (by kernel_rfl) (by kernel_rfl) (by kernel_rfl) (wantN rfl rfl rfl hc69) rfl rfl ?_
                refine wpD_pass 21 rfl (by kernel_rfl) (by kernel_rfl) (by kernel_rfl) (wantN rfl rfl rfl hc69) rfl rfl ?_
                refine wpD_pass 22 rfl (by kernel_rfl) (by kernel_rfl) (by kernel_rfl) (wantN rfl rfl rfl hc69) rfl rfl ?_
                refine wpD_pass 23 rfl (by kernel_rfl) (by kernel_rfl) (by kernel_rfl) (wantN rfl rfl rfl hc69) rfl rfl ?_
                refine wpD_pass 24 rfl (by kernel_rfl) (by kernel_rfl) (by kernel_rfl) (wantN rfl rfl rfl hc69) rfl rfl ?_
                refine wpD_pass 25 rfl (by kernel_rfl) (by kernel_rfl) (by kernel_rfl) (wantN rfl rfl rfl hc69) rfl rfl ?_
                refine wpD_pass 26 rfl (by kernel_rfl) (by kernel_rfl) (by kernel_rfl) (wantN rfl rfl rfl hc69) rfl rfl ?_
                refine wpD_pass 27 rfl (by kernel_rfl) (by kernel_rfl) (by kernel_rfl) (wantN rfl rfl rfl hc69) rfl rfl ?_
                refine wpD_take (v := (Value.bool false)) 28 (fun _ => True) rfl (by kernel_rfl) (by kernel_rfl) (by kernel_rfl) (wantG rfl rfl rfl hc63) rfl rfl trivial (fun w _ => (x_pickF (v := (Value.bool false)) rfl rfl hc69 rfl)) ?_
                refine wpD_take (v := (Value.bool false)) 29 (fun _ => True) rfl (by kernel_rfl) (by kernel_rfl) (by kernel_rfl) (wantG rfl rfl rfl hc63) rfl rfl trivial (fun w _ => (x_move (v := (Value.bool false)) rfl rfl)) ?_
                refine wpD_pass 30 rfl (by kernel_rfl) (by kernel_rfl) (by kernel_rfl) (wantN rfl rfl rfl rfl) rfl rfl ?_
                refine wpD_pass 31 rfl (by kernel_rfl) (by kernel_rfl) (by kernel_rfl) (wantN rfl rfl rfl rfl) rfl rfl ?_
                refine wpD_pass 32 rfl (by kernel_rfl) (by kernel_rfl) (by kernel_rfl) (wantN rfl rfl rfl rfl) rfl rfl ?_
                refine wpD_pass 33 rfl (by kernel_rfl) (by kernel_rfl) (by kernel_rfl) (wantN rfl rfl rfl rfl) rfl rfl ?_
                refine wpD_pass 34 rfl (by kernel_rfl) (by kernel_rfl) (by kernel_rfl) (wantN rfl rfl rfl rfl) rfl rfl ?_
                refine wpD_pass 35 rfl (by kernel_rfl) (by kernel_rfl) (by kernel_rfl) (wantN rfl rfl rfl rfl) rfl rfl ?_
                refine wpD_pass 36 rfl (by kernel_rfl) (by kernel_rfl) (by kernel_rfl) (wantN rfl rfl rfl rfl) rfl rfl ?_
                refine wpD_pass 37 rfl (by kernel_rfl) (by kernel_rfl) (by kernel_rfl) (wantN rfl rfl rfl rfl) rfl rfl ?_
                refine wpD_pass 38 rfl (by kernel_rfl) (by kernel_rfl) (by kernel_rfl) (wantN rfl rfl rfl rfl) rfl rfl ?_
                refine wpD_pass 39 rfl (by kernel_rfl) (by kernel_rfl) (by kernel_rfl) (wantN rfl rfl rfl rfl) rfl rfl ?_
                refine wpD_pass 40 rfl (by kernel_rfl) (by kernel_rfl) (by kernel_rfl) (wantN rfl rfl rfl rfl) rfl rfl ?_
                refine wpD_take (v := (Value.bool false)) 41 (fun _ => True) rfl (by kernel_rfl) (by kernel_rfl) (by kernel_rfl) (wantG rfl rfl rfl hc63) rfl rfl trivial (fun w _ => (x_pickF (v := (Value.bool false)) rfl rfl rfl rfl)) ?_
                refine wpD_take (v := (Value.bool false)) 42 (fun _ => True) rfl (by kernel_rfl) (by kernel_rfl) (by kernel_rfl) rfl rfl rfl trivial (fun w _ => (x_pickF (v := (Value.bool false)) rfl rfl hc63 rfl)) ?_
                refine wpD_take (v := (Value.bool false)) 43 (fun _ => True) rfl (by kernel_rfl) (by kernel_rfl) (by kernel_rfl) rfl rfl rfl trivial (fun w _ => (x_assign (v := (Value.bool false)) rfl rfl)) ?_
                exact wpD_done (by kernel_rfl) ⟨false, ⟨rfl, e1, e2, e3, e7, e9, e10, e12, trivial⟩, h⟩
            · replace h := h.2 hc66
              refine wpD_pass 8 rfl (by kernel_rfl) (by kernel_rfl) (by kernel_rfl) (wantN rfl rfl rfl hc66) rfl rfl ?_
              refine wpD_pass 9 rfl (by kernel_rfl) (by kernel_rfl) (by kernel_rfl) (wantN rfl rfl rfl hc66) rfl rfl ?_
              refine wpD_pass 10 rfl (by kernel_rfl) (by kernel_rfl) (by kernel_rfl) (wantN rfl rfl rfl hc66) rfl rfl ?_
              refine wpD_pass 11 rfl (by kernel_rfl) (by kernel_rfl) (by kernel_rfl) (wantN rfl rfl rfl hc66) rfl rfl ?_
              refine wpD_pass 12 rfl (by kernel_rfl) (by kernel_rfl) (by kernel_rfl) (wantN rfl rfl rfl hc66) rfl rfl ?_
              refine wpD_pass 13 rfl (by kernel_rfl) (by kernel_rfl) (by kernel_rfl) (wantN rfl rfl rfl hc66) rfl rfl ?_
              refine wpD_pass 14 rfl (by kernel_rfl) (by kernel_rfl) (by kernel_rfl) (wantN rfl rfl rfl hc66) rfl rfl ?_
              refine wpD_take (v := (Value.bool false)) 15 (fun _ => True) rfl (by kernel_rfl) (by kernel_rfl) (by kernel_rfl) (wantG rfl rfl rfl hc63) rfl rfl trivial (fun w _ => (x_pickF (v := (Value.bool false)) rfl rfl hc66 rfl)) ?_
              refine wpD_take (v := (Value.bool false)) 16 (fun _ => True) rfl (by kernel_rfl) (by kernel_rfl) (by kernel_rfl) (wantG rfl rfl rfl hc63) rfl rfl trivial (fun w _ => (x_move (v := (Value.bool false)) rfl rfl)) ?_
              refine wpD_pass 17 rfl (by kernel_rfl) (by kernel_rfl) (by kernel_rfl) (wantN rfl rfl rfl rfl) rfl rfl ?_
              refine wpD_pass 18 rfl (by kernel_rfl) (by kernel_rfl) (by kernel_rfl) (wantN rfl rfl rfl rfl) rfl rfl ?_
              refine wpD_pass 19 rfl (by kernel_rfl) (by kernel_rfl) (by kernel_rfl) (wantN rfl rfl rfl rfl) rfl rfl ?_
              refine wpD_pass 20 rfl (by kernel_rfl) (by kernel_rfl) (by kernel_rfl) (wantN rfl rfl rfl rfl) rfl rfl ?_
              refine wpD_pass 21 rfl (by kernel_rfl) (by kernel_rfl) (by kernel_rfl) (wantN rfl rfl rfl rfl) rfl rfl ?_
              refine wpD_pass 22 rfl (by kernel_rfl) (by kernel_rfl) (by kernel_rfl) (wantN rfl rfl rfl rfl) rfl rfl ?_
              refine wpD_pass 23 rfl (by kernel_rfl) (by kernel_rfl) (by kernel_rfl) (wantN rfl rfl rfl rfl) rfl rfl ?_
              refine wpD_pass 24 rfl (by kernel_rfl) (by kernel_rfl) (by kernel_rfl) (wantN rfl rfl rfl rfl) rfl rfl ?_
              refine wpD_pass 25 rfl (by kernel_rfl) (by kernel_rfl) (by kernel_rfl) (wantN rfl rfl rfl rfl) rfl rfl ?_
              refine wpD_pass 26 rfl (by kernel_rfl) (by kernel_rfl) (by kernel_rfl) (wantN rfl rfl rfl rfl) rfl rfl ?_
              refine wpD_pass 27 rfl (by kernel_rfl) (by kernel_rfl) (by kernel_rfl) (wantN rfl rfl rfl rfl) rfl rfl ?_
              refine wpD_take (v := (Value.bool false)) 28 (fun _ => True) rfl (by kernel_rfl) (by kernel_rfl) (by kernel_rfl) (wantG rfl rfl rfl hc63) rfl rfl trivial (fun w _ => (x_pickF (v := (Value.bool false)) rfl rfl rfl rfl)) ?_
              refine wpD_take (v := (Value.bool false)) 29 (fun _ => True) rfl (by kernel_rfl) (by kernel_rfl) (by kernel_rfl) (wantG rfl rfl rfl hc63) rfl rfl trivial (fun w _ => (x_move (v := (Value.bool false)) rfl rfl)) ?_
              refine wpD_pass 30 rfl (by kernel_rfl) (by kernel_rfl) (by kernel_rfl) (wantN rfl rfl rfl rfl) rfl rfl ?_
              refine wpD_pass 31 rfl (by kernel_rfl) (by kernel_rfl) (by kernel_rfl) (wantN rfl rfl rfl rfl) rfl rfl ?_
              refine wpD_pass 32 rfl (by kernel_rfl) (by kernel_rfl) (by kernel_rfl) (wantN rfl rfl rfl rfl) rfl rfl ?_
              refine wpD_pass 33 rfl (by kernel_rfl) (by kernel_rfl) (by kernel_rfl) (wantN rfl rfl rfl rfl) rfl rfl ?_
              refine wpD_pass 34 rfl (by kernel_rfl) (by kernel_rfl) (by kernel_rfl) (wantN rfl rfl rfl rfl) rfl rfl ?_
              refine wpD_pass 35 rfl (by kernel_rfl) (by kernel_rfl) (by kernel_rfl) (wantN rfl rfl rfl rfl) rfl rfl ?_
              refine wpD_pass 36 rfl (by kernel_rfl) (by kernel_rfl) (by kernel_rfl) (wantN rfl rfl rfl rfl) rfl rfl ?_
              refine wpD_pass 37 rfl (by kernel_rfl) (by kernel_rfl) (by kernel_rfl) (wantN rfl rfl rfl rfl) rfl rfl ?_
              refine wpD_pass 38 rfl (by kernel_rfl) (by kernel_rfl) (by kernel_rfl) (wantN rfl rfl rfl rfl) rfl rfl ?_
              refine wpD_pass 39 rfl (by kernel_rfl) (by kernel_rfl) (by kernel_rfl) (wantN rfl rfl rfl rfl) rfl rfl ?_
              refine wpD_pass 40 rfl (by kernel_rfl) (by kernel_rfl) (by kernel_rfl) (wantN rfl rfl rfl rfl) rfl rfl ?_
              refine wpD_take (v := (Value.bool false)) 41 (fun _ => True) rfl (by kernel_rfl) (by kernel_rfl) (by kernel_rfl) (wantG rfl rfl rfl hc63) rfl rfl trivial (fun w _ => (x_pickF (v := (Value.bool false)) rfl rfl rfl rfl)) ?_
              refine wpD_take (v := (Value.bool false)) 42 (fun _ => True) rfl (by kernel_rfl) (by kernel_rfl) (by kernel_rfl) rfl rfl rfl trivial (fun w _ => (x_pickF (v := (Value.bool false)) rfl rfl hc63 rfl)) ?_
              refine wpD_take (v := (Value.bool false)) 43 (fun _ => True) rfl (by kernel_rfl) (by kernel_rfl) (by kernel_rfl) rfl rfl rfl trivial (fun w _ => (x_assign (v := (Value.bool false)) rfl rfl)) ?_
              exact wpD_done (by kernel_rfl) ⟨false, ⟨rfl, e1, e2, e3, e7, e9, e10, e12, trivial⟩, h⟩
        clear h
        rintro l79 ρ w7 ⟨e11, e1, e2, e3, e7, e9, e10, e12, -⟩ h
        replace h := hk l79 w7 h
        clear hk
        refine wpC_region ?_
        refine wpR_val (v := (Value.int .i64 l59.2)) (w' := w7) rfl rfl rfl (x_move (v := (Value.int .i64 l59.2)) rfl e12) ?_
        refine wpR_val (v := (Value.int .i64 (IntKind.i64.wrap (l59.2 + 1)))) (w' := w7) rfl rfl rfl (x_add rfl rfl rfl) ?_
        refine wpR_val (v := (Value.int .i64 (IntKind.i64.wrap (l59.2 + 1)))) (w' := w7) rfl rfl rfl (x_assign (v := (Value.int .i64 (IntKind.i64.wrap (l59.2 + 1)))) rfl rfl) ?_
        refine wpR_nil ?_
        exact ⟨(l79, IntKind.i64.wrap (l59.2 + 1)), ⟨e11, rfl, e1, e2, e3, e7, e9, e10, trivial⟩, h⟩
      · replace h := h.2 hc60
        refine wpC_exit ?_
        refine wpC_seq ?_
        refine wpC_cut (fun ρ => ρ 1 = (Sl.v p1) ∧ ρ 2 = (Sl.v p2) ∧ ρ 3 = (Value.pointer (some (Addr.mk b9 0 none))) ∧ ρ 7 = (Sl.v r32.1) ∧ ρ 9 = (Sl.v r56) ∧ ρ 10 = (Value.int .i64 l57) ∧ ρ 11 = (Value.bool l59.1) ∧ True) ⟨e1, e2, e3, e7, e9, e10, e11, trivial⟩ ?_
        rintro ρ ⟨e1, e2, e3, e7, e9, e10, e11, -⟩
        refine wpC_region ?_
        refine wpR_val (v := (Value.bool l59.1)) (w' := w5) rfl rfl rfl (x_move (v := (Value.bool l59.1)) rfl e11) ?_
        refine wpR_val (v := (Value.bool (!l59.1))) (w' := w5) rfl rfl rfl (x_not rfl rfl) ?_
        refine wpR_nil ?_
        refine wpC_cond (b := !l59.1) rfl (fun hc80 => ?_) (fun hc80 => ?_)
        · replace h := h.1 hc80
          refine wpC_seq ?_
          refine wpC_cut (fun ρ => True) trivial ?_
          rintro ρ -
          refine wpC_region ?_
          refine wpR_val (v := (Value.int .i64 7)) (w' := w5) rfl rfl rfl (x_assign (v := (Value.int .i64 7)) rfl rfl) ?_
          refine wpR_nil ?_
          refine wpC_ret ?_
          exact ⟨.inl rfl, fun a ha => ⟨_, results_rep1 rfl ha rfl, 7, rfl, h⟩⟩
        · replace h := h.2 hc80
          refine wpC_skip ?_
          refine wpC_cut (fun ρ => ρ 1 = (Sl.v p1) ∧ ρ 2 = (Sl.v p2) ∧ ρ 3 = (Value.pointer (some (Addr.mk b9 0 none))) ∧ ρ 7 = (Sl.v r32.1) ∧ ρ 9 = (Sl.v r56) ∧ ρ 10 = (Value.int .i64 l57) ∧ True) ⟨e1, e2, e3, e7, e9, e10, trivial⟩ ?_
          rintro ρ ⟨e1, e2, e3, e7, e9, e10, -⟩
          refine wpC_region ?_
          refine wpR_val (v := (Value.int .i64 l57)) (w' := w5) rfl rfl rfl (x_move (v := (Value.int .i64 l57)) rfl e10) ?_
          refine wpR_val (v := (Value.int .i64 (IntKind.i64.wrap (l57 + 1)))) (w' := w5) rfl rfl rfl (x_add rfl rfl rfl) ?_
          refine wpR_val (v := (Value.int .i64 (IntKind.i64.wrap (l57 + 1)))) (w' := w5) rfl rfl rfl (x_assign (v := (Value.int .i64 (IntKind.i64.wrap (l57 + 1)))) rfl rfl) ?_
          refine wpR_nil ?_
          exact ⟨IntKind.i64.wrap (l57 + 1), ⟨rfl, e1, e2, e3, e7, e9, trivial⟩, h⟩
    · replace h := h.2 hc58
      refine wpC_exit ?_
      refine wpC_seq ?_
      refine wpC_cut (fun ρ => ρ 1 = (Sl.v p1) ∧ ρ 2 = (Sl.v p2) ∧ ρ 3 = (Value.pointer (some (Addr.mk b9 0 none))) ∧ ρ 7 = (Sl.v r32.1) ∧ True) ⟨e1, e2, e3, e7, trivial⟩ ?_
      rintro ρ ⟨e1, e2, e3, e7, -⟩
      refine wpC_region ?_
      obtain ⟨x81, q81, x82, q82, x83, q83, x84, q84, x85, q85, x86, q86, x87, q87, x88, q88, x89, q89, x90, q90, x91, q91, x92, q92, x93, q93, x94, q94, x95, q95, x96, q96, x97, q97, x98, q98, x99, q99, x100, q100, x101, q101, x102, q102, h⟩ := h
      refine wpR_val (v := (V23 x81 x82 x83 x84 x85 x86 x87 x88 x89 x90 x91 x92 x93 x94 x95 x96 x97 x98 x99 x100 x101 x102)) (w' := w4) rfl rfl rfl (x_loadN (S23 x81 x82 x83 x84 x85 x86 x87 x88 x89 x90 x91 x92 x93 x94 x95 x96 x97 x98 x99 x100 x101 x102) rfl e3 SH_24 (K23 ⟨q81, q82, q83, q84, q85, q86, q87, q88, q89, q90, q91, q92, q93, q94, q95, q96, q97, q98, q99, q100, q101, q102⟩)) ?_
      refine wpR_enter rfl rfl rfl (x_call (vs := [(V23 x81 x82 x83 x84 x85 x86 x87 x88 x89 x90 x91 x92 x93 x94 x95 x96 x97 x98 x99 x100 x101 x102)]) rfl rfl (mapl_cons rfl mapl_nil) Try.func35 NN_35 NB_35) (Calls.mono h ?_)
      rintro _ w8 ⟨r103, rfl, h⟩
      refine ⟨_, rfl, ?_⟩
      refine wpR_val (v := (Sl.v r103)) (w' := w8) rfl rfl rfl (x_assign (v := (Sl.v r103)) rfl rfl) ?_
      refine wpR_nil ?_
      refine wpC_seq ?_
      refine wpC_seq ?_
      refine wpC_cut (fun ρ => ρ 1 = (Sl.v p1) ∧ ρ 2 = (Sl.v p2) ∧ ρ 7 = (Sl.v r32.1) ∧ ρ 13 = (Sl.v r103) ∧ True) ⟨e1, e2, e7, rfl, trivial⟩ ?_
      rintro ρ ⟨e1, e2, e7, e13, -⟩
      refine wpC_region ?_
      refine wpR_val (v := (Value.int .i64 0)) (w' := w8) rfl rfl rfl (x_assign (v := (Value.int .i64 0)) rfl rfl) ?_
      refine wpR_nil ?_
      refine wpC_block ?_
      obtain ⟨I104, μ104, hI104, hr104⟩ := h
      refine wpC_loop (fun (x : Int) ρ => ρ 14 = (Value.int .i64 x) ∧ ρ 1 = (Sl.v p1) ∧ ρ 2 = (Sl.v p2) ∧ ρ 7 = (Sl.v r32.1) ∧ ρ 13 = (Sl.v r103) ∧ True) I104 μ104 0 ⟨rfl, e1, e2, e7, e13, trivial⟩ hI104 ?_
      rintro l104 ρ w9 ⟨e14, e1, e2, e7, e13, -⟩ h
      replace h := hr104 l104 w9 h
      clear hr104 hI104
      refine wpC_seq ?_
      refine wpC_seq ?_
      refine wpC_region ?_
      refine wpR_val (v := (Value.int .i64 l104)) (w' := w9) rfl rfl rfl (x_move (v := (Value.int .i64 l104)) rfl e14) ?_
      refine wpR_val (v := (Sl.v p1)) (w' := w9) rfl rfl rfl (x_move (v := (Sl.v p1)) rfl e1) ?_
      refine wpR_val (v := (Value.int .i64 (p1.len : Int))) (w' := w9) rfl rfl rfl (x_lenS (s := p1) rfl rfl isSliceT_25) ?_
      refine wpR_val (v := (Value.bool (decide (l104 < (p1.len : Int))))) (w' := w9) rfl rfl rfl (x_lss rfl rfl rfl) ?_
      refine wpR_nil ?_
      refine wpC_cond (b := decide (l104 < (p1.len : Int))) rfl (fun hc105 => ?_) (fun hc105 => ?_)
      · replace h := h.1 hc105
        refine wpC_skip ?_
        refine wpC_seq ?_
        refine wpC_block ?_
        refine wpC_seq ?_
        refine wpC_cut (fun ρ => ρ 1 = (Sl.v p1) ∧ ρ 2 = (Sl.v p2) ∧ ρ 7 = (Sl.v r32.1) ∧ ρ 13 = (Sl.v r103) ∧ ρ 14 = (Value.int .i64 l104) ∧ True) ⟨e1, e2, e7, e13, e14, trivial⟩ ?_
        rintro ρ ⟨e1, e2, e7, e13, e14, -⟩
        obtain ⟨J107, h, hk⟩ := h
        refine wpC_drawJ (by kernel_rfl) (fun (x : Bool) ρ => ρ 99 = (Value.bool x) ∧ ρ 1 = (Sl.v p1) ∧ ρ 2 = (Sl.v p2) ∧ ρ 7 = (Sl.v r32.1) ∧ ρ 13 = (Sl.v r103) ∧ ρ 14 = (Value.int .i64 l104) ∧ True) J107 ?_ ?_
        · clear hk
          unfold tk at h
          generalize w9.drew = w10 at h ⊢
          refine wpD_take (v := (Sl.v p1)) 0 (fun _ => True) rfl (by kernel_rfl) (by kernel_rfl) (by kernel_rfl) rfl rfl rfl trivial (fun w _ => (x_move (v := (Sl.v p1)) rfl e1)) ?_
          refine wpD_take (v := (Value.int .i64 l104)) 1 (fun _ => True) rfl (by kernel_rfl) (by kernel_rfl) (by kernel_rfl) rfl rfl rfl trivial (fun w _ => (x_move (v := (Value.int .i64 l104)) rfl e14)) ?_
          obtain ⟨q108, z108, r108, h⟩ := h
          generalize hp108 : z108.add ((l104 : Int).toNat * 2) = p108 at h
          refine wpD_take (v := (Value.pointer (some p108))) 2 (fun _ => True) rfl (by kernel_rfl) (by kernel_rfl) (by kernel_rfl) rfl rfl rfl trivial (fun w _ => ((x_indexAddr (s := p1) rfl rfl rfl ES_25 q108 r108).trans (by rw [hp108]))) ?_
          obtain ⟨x109, q109, x110, q110, h⟩ := h
          refine wpD_take (v := (Value.agg #[(Value.int .i64 x109), (Value.int .i64 x110)])) 3 (fun w => w.cell? (p108.add 0) = some (Value.int .i64 x109) ∧ w.cell? (p108.add 1) = some (Value.int .i64 x110)) rfl (by kernel_rfl) (by kernel_rfl) (by kernel_rfl) rfl rfl rfl ⟨q109, q110⟩ (fun w ⟨q109, q110⟩ => (x_loadN [(Value.int .i64 x109), (Value.int .i64 x110)] rfl rfl SH_46 (CellsAt.out (CellsAt.cons q109 (CellsAt.cons q110 CellsAt.nil))))) ?_
          refine wpD_take (v := (Sl.v r103)) 4 (fun _ => True) rfl (by kernel_rfl) (by kernel_rfl) (by kernel_rfl) rfl rfl rfl trivial (fun w _ => (x_move (v := (Sl.v r103)) rfl e13)) ?_
          refine wpD_take (v := (Value.int .i64 l104)) 5 (fun _ => True) rfl (by kernel_rfl) (by kernel_rfl) (by kernel_rfl) rfl rfl rfl trivial (fun w _ => (x_move (v := (Value.int .i64 l104)) rfl e14)) ?_
          obtain ⟨q111, z111, r111, h⟩ := h
          generalize hp111 : z111.add ((l104 : Int).toNat * 2) = p111 at h
          refine wpD_take (v := (Value.pointer (some p111))) 6 (fun _ => True) rfl (by kernel_rfl) (by kernel_rfl) (by kernel_rfl) rfl rfl rfl trivial (fun w _ => ((x_indexAddr (s := r103) rfl rfl rfl ES_25 q111 r111).trans (by rw [hp111]))) ?_
          obtain ⟨x112, q112, x113, q113, h⟩ := h
          refine wpD_take (v := (Value.agg #[(Value.int .i64 x112), (Value.int .i64 x113)])) 7 (fun w => w.cell? (p111.add 0) = some (Value.int .i64 x112) ∧ w.cell? (p111.add 1) = some (Value.int .i64 x113)) rfl (by kernel_rfl) (by kernel_rfl) (by kernel_rfl) rfl rfl rfl ⟨q112, q113⟩ (fun w ⟨q112, q113⟩ => (x_loadN [(Value.int .i64 x112), (Value.int .i64 x113)] rfl rfl SH_46 (CellsAt.out (CellsAt.cons q112 (CellsAt.cons q113 CellsAt.nil))))) ?_
          refine wpD_take (v := (Value.bool (!(decide (x109 = x112) && (decide (x110 = x113) && true))))) 8 (fun _ => True) rfl (by kernel_rfl) (by kernel_rfl) (by kernel_rfl) rfl rfl rfl trivial (fun w _ => (x_neqA rfl rfl rfl EQ1_46 EQ2_46 EQ3_46 (EQ_46 x109 x110 x112 x113))) ?_
          exact wpD_done (by kernel_rfl) ⟨!(decide (x109 = x112) && (decide (x110 = x113) && true)), ⟨rfl, e1, e2, e7, e13, e14, trivial⟩, h⟩
        clear h
        rintro l114 ρ w11 ⟨e99, e1, e2, e7, e13, e14, -⟩ h
        replace h := hk l114 w11 h
        clear hk
        refine wpC_cond (b := l114) e99 (fun hc115 => ?_) (fun hc115 => ?_)
        · replace h := h.1 hc115
          refine wpC_seq ?_
          refine wpC_region ?_
          refine wpR_val (v := (Value.int .i64 18)) (w' := w11) rfl rfl rfl (x_assign (v := (Value.int .i64 18)) rfl rfl) ?_
          refine wpR_nil ?_
          refine wpC_ret ?_
          exact ⟨.inl rfl, fun a ha => ⟨_, results_rep1 rfl ha rfl, 18, rfl, h⟩⟩
        · replace h := h.2 hc115
          refine wpC_skip ?_
          refine wpC_region ?_
          refine wpR_val (v := (Value.int .i64 l104)) (w' := w11) rfl rfl rfl (x_move (v := (Value.int .i64 l104)) rfl e14) ?_
          refine wpR_val (v := (Value.int .i64 (IntKind.i64.wrap (l104 + 1)))) (w' := w11) rfl rfl rfl (x_add rfl rfl rfl) ?_
          refine wpR_val (v := (Value.int .i64 (IntKind.i64.wrap (l104 + 1)))) (w' := w11) rfl rfl rfl (x_assign (v := (Value.int .i64 (IntKind.i64.wrap (l104 + 1)))) rfl rfl) ?_
          refine wpR_nil ?_
          exact ⟨IntKind.i64.wrap (l104 + 1), ⟨rfl, e1, e2, e7, e13, trivial⟩, h⟩
      · replace h := h.2 hc105
        refine wpC_exit ?_
        refine wpC_seq ?_
        refine wpC_seq ?_
        refine wpC_cut (fun ρ => ρ 2 = (Sl.v p2) ∧ ρ 7 = (Sl.v r32.1) ∧ True) ⟨e2, e7, trivial⟩ ?_
        rintro ρ ⟨e2, e7, -⟩
        refine wpC_region ?_
        refine wpR_val (v := (Sl.v r32.1)) (w' := w9) rfl rfl rfl (x_move (v := (Sl.v r32.1)) rfl e7) ?_
        refine wpR_val (v := (Sl.v p2)) (w' := w9) rfl rfl rfl (x_move (v := (Sl.v p2)) rfl e2) ?_
        refine wpR_enter rfl rfl rfl (x_call (vs := [(Sl.v r32.1), (Sl.v p2)]) rfl rfl (mapl_cons rfl (mapl_cons rfl mapl_nil)) Try.func12 NN_12 NB_12) (Calls.mono h ?_)
        rintro _ w12 ⟨r116, rfl, h⟩
        refine ⟨_, rfl, ?_⟩
        refine wpR_val (v := (Value.bool (!r116))) (w' := w12) rfl rfl rfl (x_not rfl rfl) ?_
        refine wpR_nil ?_
        refine wpC_cond (b := !r116) rfl (fun hc117 => ?_) (fun hc117 => ?_)
        · replace h := h.1 hc117
          refine wpC_seq ?_
          refine wpC_cut (fun ρ => True) trivial ?_
          rintro ρ -
          refine wpC_region ?_
          refine wpR_val (v := (Value.int .i64 18)) (w' := w12) rfl rfl rfl (x_assign (v := (Value.int .i64 18)) rfl rfl) ?_
          refine wpR_nil ?_
          refine wpC_ret ?_
          exact ⟨.inl rfl, fun a ha => ⟨_, results_rep1 rfl ha rfl, 18, rfl, h⟩⟩
        · replace h := h.2 hc117
          refine wpC_skip ?_
          refine wpC_seq ?_
          refine wpC_cut (fun ρ => True) trivial ?_
          rintro ρ -
          refine wpC_region ?_
          refine wpR_val (v := (Value.int .i64 0)) (w' := w12) rfl rfl rfl (x_assign (v := (Value.int .i64 0)) rfl rfl) ?_
          refine wpR_nil ?_
          refine wpC_ret ?_
          exact ⟨.inl rfl, fun a ha => ⟨_, results_rep1 rfl ha rfl, 0, rfl, h⟩⟩

/-- loss.Worse -/
def F15 (p0 : Sl) (p1 : Sl) (w0 : World) (K : Bool → World → Prop) : Prop :=
  callC Try.prog 36 #[(Sl.v p0)] (fun (r : Sl × Bool) => (Value.tuple #[(Sl.v r.1), (Value.bool r.2)])) w0 fun r9 w1 =>
  callC Try.prog 36 #[(Sl.v p1)] (fun (r : Sl × Bool) => (Value.tuple #[(Sl.v r.1), (Value.bool r.2)])) w1 fun r10 w2 =>
  cnd ((!r9.2) || (!r10.2))
    (
    K false w2
    )
    (
    lp (fun (next14 : (Bool × Int) → World → Prop) l14 w3 =>
      cnd (decide (l14.2 < (r9.1.len : Int)))
        (
        jn (fun (J17 : Bool → World → Prop) => tk w3 fun w4 =>
          ix r9.1 l14.2 1 fun p18 =>
          ld (Value.int .i64) p18 w4 fun x19 =>
          ix r10.1 l14.2 1 fun p20 =>
          ld (Value.int .i64) p20 w4 fun x21 =>
          J17 (decide (x19 < x21)) w4
        )
        fun l22 w5 =>
        cnd (l22)
          (
          K false w5
          )
          (
          jn (fun (J25 : Bool → World → Prop) => tk w5 fun w6 =>
            cnd (l14.1)
              (
              J25 true w6
              )
              (
              ix r9.1 l14.2 1 fun p27 =>
              ld (Value.int .i64) p27 w6 fun x28 =>
              ix r10.1 l14.2 1 fun p29 =>
              ld (Value.int .i64) p29 w6 fun x30 =>
              J25 (decide (x30 < x28)) w6
              )
          )
          fun l31 w7 =>
          next14 (l31, IntKind.i64.wrap (l14.2 + 1)) w7
          )
        )
        (
        K l14.1 w3
        )
    ) (false, 0) w2
    )
set_option maxRecDepth 100000 in
theorem D15 (p0 : Sl) (p1 : Sl) (w0 : World) (K : Bool → World → Prop) (h : F15 p0 p1 w0 K) : callC Try.prog 15 #[(Sl.v p0), (Sl.v p1)] (fun (r : Bool) => (Value.bool r)) w0 K := by
  unfold F15 at h
  refine calls_of_wpC Try.func15 rfl 55 rfl (by simp) ?_
  intro ρ hρ
  have e0 : ρ 0 = (Sl.v p0) := hρ 0
  have e1 : ρ 1 = (Sl.v p1) := hρ 1
  clear hρ
  refine wpC_seq ?_
  refine wpC_region ?_
  refine wpR_val (v := (Value.bool false)) (w' := w0) rfl rfl rfl (x_assign (v := (Value.bool false)) rfl rfl) ?_
  refine wpR_nil ?_
  refine wpC_seq ?_
  refine wpC_cut (fun ρ => ρ 0 = (Sl.v p0) ∧ ρ 1 = (Sl.v p1) ∧ True) ⟨e0, e1, trivial⟩ ?_
  rintro ρ ⟨e0, e1, -⟩
  refine wpC_region ?_
  refine wpR_val (v := (Sl.v p0)) (w' := w0) rfl rfl rfl (x_move (v := (Sl.v p0)) rfl e0) ?_
  refine wpR_enter rfl rfl rfl (x_call (vs := [(Sl.v p0)]) rfl rfl (mapl_cons rfl mapl_nil) Try.func36 NN_36 NB_36) (Calls.mono h ?_)
  rintro _ w1 ⟨r9, rfl, h⟩
  refine ⟨_, rfl, ?_⟩
  refine wpR_val (v := (Value.tuple #[(Sl.v r9.1), (Value.bool r9.2)])) (w' := w1) rfl rfl rfl (x_move (v := (Value.tuple #[(Sl.v r9.1), (Value.bool r9.2)])) rfl rfl) ?_
  refine wpR_val (v := (Sl.v r9.1)) (w' := w1) rfl rfl rfl (x_extract rfl rfl rfl) ?_
  refine wpR_val (v := (Value.bool r9.2)) (w' := w1) rfl rfl rfl (x_extract rfl rfl rfl) ?_
  refine wpR_val (v := (Sl.v r9.1)) (w' := w1) rfl rfl rfl (x_assign (v := (Sl.v r9.1)) rfl rfl) ?_
  refine wpR_val (v := (Value.bool r9.2)) (w' := w1) rfl rfl rfl (x_assign (v := (Value.bool r9.2)) rfl rfl) ?_
  refine wpR_nil ?_
  refine wpC_seq ?_
  refine wpC_cut (fun ρ => ρ 1 = (Sl.v p1) ∧ ρ 5 = (Sl.v r9.1) ∧ ρ 6 = (Value.bool r9.2) ∧ True) ⟨e1, rfl, rfl, trivial⟩ ?_
  rintro ρ ⟨e1, e5, e6, -⟩
  refine wpC_region ?_
  refine wpR_val (v := (Sl.v p1)) (w' := w1) rfl rfl rfl (x_move (v := (Sl.v p1)) rfl e1) ?_
  refine wpR_enter rfl rfl rfl (x_call (vs := [(Sl.v p1)]) rfl rfl (mapl_cons rfl mapl_nil) Try.func36 NN_36 NB_36) (Calls.mono h ?_)
  rintro _ w2 ⟨r10, rfl, h⟩
  refine ⟨_, rfl, ?_⟩
  refine wpR_val (v := (Value.tuple #[(Sl.v r10.1), (Value.bool r10.2)])) (w' := w2) rfl rfl rfl (x_move (v := (Value.tuple #[(Sl.v r10.1), (Value.bool r10.2)])) rfl rfl) ?_
  refine wpR_val (v := (Sl.v r10.1)) (w' := w2) rfl rfl rfl (x_extract rfl rfl rfl) ?_
  refine wpR_val (v := (Value.bool r10.2)) (w' := w2) rfl rfl rfl (x_extract rfl rfl rfl) ?_
  refine wpR_val (v := (Sl.v r10.1)) (w' := w2) rfl rfl rfl (x_assign (v := (Sl.v r10.1)) rfl rfl) ?_
  refine wpR_val (v := (Value.bool r10.2)) (w' := w2) rfl rfl rfl (x_assign (v := (Value.bool r10.2)) rfl rfl) ?_
  refine wpR_nil ?_
  refine wpC_seq ?_
  refine wpC_seq ?_
  refine wpC_cut (fun ρ => ρ 5 = (Sl.v r9.1) ∧ ρ 6 = (Value.bool r9.2) ∧ ρ 7 = (Sl.v r10.1) ∧ ρ 8 = (Value.bool r10.2) ∧ True) ⟨e5, e6, rfl, rfl, trivial⟩ ?_
  rintro ρ ⟨e5, e6, e7, e8, -⟩
  refine wpC_region ?_
  refine wpR_val (v := (Value.bool r9.2)) (w' := w2) rfl rfl rfl (x_move (v := (Value.bool r9.2)) rfl e6) ?_
  refine wpR_val (v := (Value.bool (!r9.2))) (w' := w2) rfl rfl rfl (x_not rfl rfl) ?_
  refine wpR_val (v := (Value.bool (!r9.2))) (w' := w2) rfl rfl rfl (x_move (v := (Value.bool (!r9.2))) rfl rfl) ?_
  refine wpR_joinJ 3 (fun (_ : Unit) ρ => ρ 26 = Value.bool ((!r9.2) || (!r10.2)) ∧ ρ 5 = (Sl.v r9.1) ∧ ρ 7 = (Sl.v r10.1) ∧ True) (fun _ w => w2 = w) ?_ ?_
  · clear h
    rcases Bool.eq_false_or_eq_true (!r9.2) with hc12 | hc12
    · skip
      refine wpR_pass (wantN rfl rfl rfl hc12) rfl rfl ?_
      refine wpR_pass (wantN rfl rfl rfl hc12) rfl rfl ?_
      refine wpR_val (v := (Value.bool true)) (w' := w2) rfl rfl rfl (x_pickT (v := (Value.bool true)) rfl rfl hc12 rfl) ?_
      refine wpR_nil ?_
      exact ⟨(), ⟨(by rw [hc12]; rfl), e5, e7, trivial⟩, rfl⟩
    · skip
      refine wpR_val (v := (Value.bool r10.2)) (w' := w2) (wantG rfl rfl rfl hc12) rfl rfl (x_move (v := (Value.bool r10.2)) rfl e8) ?_
      refine wpR_val (v := (Value.bool (!r10.2))) (w' := w2) (wantG rfl rfl rfl hc12) rfl rfl (x_not rfl rfl) ?_
      refine wpR_val (v := (Value.bool (!r10.2))) (w' := w2) rfl rfl rfl (x_pickF (v := (Value.bool (!r10.2))) rfl rfl hc12 rfl) ?_
      refine wpR_nil ?_
      exact ⟨(), ⟨(by rw [hc12]; rfl), e5, e7, trivial⟩, rfl⟩
  rintro _ ρ wj ⟨e26, e5, e7, -⟩ rfl
  refine wpR_nil ?_
  refine wpC_cond (b := (!r9.2) || (!r10.2)) e26 (fun hc13 => ?_) (fun hc13 => ?_)
  · replace h := h.1 hc13
    refine wpC_seq ?_
    refine wpC_region ?_
    refine wpR_val (v := (Value.bool false)) (w' := w2) rfl rfl rfl (x_assign (v := (Value.bool false)) rfl rfl) ?_
    refine wpR_nil ?_
    refine wpC_ret ?_
    exact ⟨.inl rfl, fun a ha => ⟨_, results_rep1 rfl ha rfl, false, rfl, h⟩⟩
  · replace h := h.2 hc13
    refine wpC_skip ?_
    refine wpC_seq ?_
    refine wpC_region ?_
    refine wpR_val (v := (Value.bool false)) (w' := w2) rfl rfl rfl (x_assign (v := (Value.bool false)) rfl rfl) ?_
    refine wpR_nil ?_
    refine wpC_seq ?_
    refine wpC_seq ?_
    refine wpC_cut (fun ρ => ρ 5 = (Sl.v r9.1) ∧ ρ 7 = (Sl.v r10.1) ∧ ρ 9 = (Value.bool false) ∧ True) ⟨e5, e7, rfl, trivial⟩ ?_
    rintro ρ ⟨e5, e7, e9, -⟩
    refine wpC_region ?_
    refine wpR_val (v := (Sl.v r9.1)) (w' := w2) rfl rfl rfl (x_move (v := (Sl.v r9.1)) rfl e5) ?_
    refine wpR_val (v := (Value.int .i64 (r9.1.len : Int))) (w' := w2) rfl rfl rfl (x_lenS (s := r9.1) rfl rfl isSliceT_63) ?_
    refine wpR_val (v := (Value.int .i64 0)) (w' := w2) rfl rfl rfl (x_move (v := (Value.int .i64 0)) rfl rfl) ?_
    refine wpR_nil ?_
    refine wpC_block ?_
    obtain ⟨I14, μ14, hI14, hr14⟩ := h
    refine wpC_loop (fun (x : Bool × Int) ρ => ρ 9 = (Value.bool x.1) ∧ ρ 29 = (Value.int .i64 x.2) ∧ ρ 5 = (Sl.v r9.1) ∧ ρ 7 = (Sl.v r10.1) ∧ ρ 28 = (Value.int .i64 (r9.1.len : Int)) ∧ True) I14 μ14 (false, 0) ⟨e9, rfl, e5, e7, rfl, trivial⟩ hI14 ?_
    rintro l14 ρ w3 ⟨e9, e29, e5, e7, e28, -⟩ h
    replace h := hr14 l14 w3 h
    clear hr14 hI14
    refine wpC_seq ?_
    refine wpC_region ?_
    refine wpR_val (v := (Value.bool (decide (l14.2 < (r9.1.len : Int))))) (w' := w3) rfl rfl rfl (x_lss rfl e29 e28) ?_
    refine wpR_nil ?_
    refine wpC_seq ?_
    refine wpC_cond (b := decide (l14.2 < (r9.1.len : Int))) rfl (fun hc15 => ?_) (fun hc15 => ?_)
    · replace h := h.1 hc15
      refine wpC_skip ?_
      refine wpC_seq ?_
      refine wpC_block ?_
      refine wpC_seq ?_
      refine wpC_cut (fun ρ => ρ 5 = (Sl.v r9.1) ∧ ρ 7 = (Sl.v r10.1) ∧ ρ 9 = (Value.bool l14.1) ∧ ρ 28 = (Value.int .i64 (r9.1.len : Int)) ∧ ρ 29 = (Value.int .i64 l14.2) ∧ True) ⟨e5, e7, e9, e28, e29, trivial⟩ ?_
      rintro ρ ⟨e5, e7, e9, e28, e29, -⟩
      refine wpC_region ?_
      refine wpR_val (v := (Value.int .i64 l14.2)) (w' := w3) rfl rfl rfl (x_move (v := (Value.int .i64 l14.2)) rfl e29) ?_
      refine wpR_val (v := (Value.int .i64 l14.2)) (w' := w3) rfl rfl rfl (x_assign (v := (Value.int .i64 l14.2)) rfl rfl) ?_
      refine wpR_nil ?_
      refine wpC_seq ?_
      refine wpC_seq ?_
      refine wpC_cut (fun ρ => ρ 5 = (Sl.v r9.1) ∧ ρ 7 = (Sl.v r10.1) ∧ ρ 9 = (Value.bool l14.1) ∧ ρ 10 = (Value.int .i64 l14.2) ∧ ρ 28 = (Value.int .i64 (r9.1.len : Int)) ∧ ρ 29 = (Value.int .i64 l14.2) ∧ True) ⟨e5, e7, e9, rfl, e28, e29, trivial⟩ ?_
      rintro ρ ⟨e5, e7, e9, e10, e28, e29, -⟩
      obtain ⟨J17, h, hk⟩ := h
      refine wpC_drawJ (by kernel_rfl) (fun (x : Bool) ρ => ρ 40 = (Value.bool x) ∧ ρ 5 = (Sl.v r9.1) ∧ ρ 7 = (Sl.v r10.1) ∧ ρ 9 = (Value.bool l14.1) ∧ ρ 10 = (Value.int .i64 l14.2) ∧ ρ 28 = (Value.int .i64 (r9.1.len : Int)) ∧ ρ 29 = (Value.int .i64 l14.2) ∧ True) J17 ?_ ?_
      · clear hk
        unfold tk at h
        generalize w3.drew = w4 at h ⊢
        refine wpD_take (v := (Sl.v r9.1)) 0 (fun _ => True) rfl (by kernel_rfl) (by kernel_rfl) (by kernel_rfl) rfl rfl rfl trivial (fun w _ => (x_move (v := (Sl.v r9.1)) rfl e5)) ?_
        refine wpD_take (v := (Value.int .i64 l14.2)) 1 (fun _ => True) rfl (by kernel_rfl) (by kernel_rfl) (by kernel_rfl) rfl rfl rfl trivial (fun w _ => (x_move (v := (Value.int .i64 l14.2)) rfl e10)) ?_
        obtain ⟨q18, z18, r18, h⟩ := h
        generalize hp18 : z18.add ((l14.2 : Int).toNat * 1) = p18 at h
        refine wpD_take (v := (Value.pointer (some p18))) 2 (fun _ => True) rfl (by kernel_rfl) (by kernel_rfl) (by kernel_rfl) rfl rfl rfl trivial (fun w _ => ((x_indexAddr (s := r9.1) rfl rfl rfl ES_63 q18 r18).trans (by rw [hp18]))) ?_
        obtain ⟨x19, q19, h⟩ := h
        refine wpD_take (v := (Value.int .i64 x19)) 3 (fun w => w.cell? p18 = some (Value.int .i64 x19)) rfl (by kernel_rfl) (by kernel_rfl) (by kernel_rfl) rfl rfl rfl q19 (fun w q19 => (x_load1 rfl rfl SH_3 q19)) ?_
        refine wpD_take (v := (Sl.v r10.1)) 4 (fun _ => True) rfl (by kernel_rfl) (by kernel_rfl) (by kernel_rfl) rfl rfl rfl trivial (fun w _ => (x_move (v := (Sl.v r10.1)) rfl e7)) ?_
        refine wpD_take (v := (Value.int .i64 l14.2)) 5 (fun _ => True) rfl (by kernel_rfl) (by kernel_rfl) (by kernel_rfl) rfl rfl rfl trivial (fun w _ => (x_move (v := (Value.int .i64 l14.2)) rfl e10)) ?_
        obtain ⟨q20, z20, r20, h⟩ := h
        generalize hp20 : z20.add ((l14.2 : Int).toNat * 1) = p20 at h
        refine wpD_take (v := (Value.pointer (some p20))) 6 (fun _ => True) rfl (by kernel_rfl) (by kernel_rfl) (by kernel_rfl) rfl rfl rfl trivial (fun w _ => ((x_indexAddr (s := r10.1) rfl rfl rfl ES_63 q20 r20).trans (by rw [hp20]))) ?_
        obtain ⟨x21, q21, h⟩ := h
        refine wpD_take (v := (Value.int .i64 x21)) 7 (fun w => w.cell? p20 = some (Value.int .i64 x21)) rfl (by kernel_rfl) (by kernel_rfl) (by kernel_rfl) rfl rfl rfl q21 (fun w q21 => (x_load1 rfl rfl SH_3 q21)) ?_
        refine wpD_take (v := (Value.bool (decide (x19 < x21)))) 8 (fun _ => True) rfl (by kernel_rfl) (by kernel_rfl) (by kernel_rfl) rfl rfl rfl trivial (fun w _ => (x_lss rfl rfl rfl)) ?_
        exact wpD_done (by kernel_rfl) ⟨decide (x19 < x21), ⟨rfl, e5, e7, e9, e10, e28, e29, trivial⟩, h⟩
      clear h
      rintro l22 ρ w5 ⟨e40, e5, e7, e9, e10, e28, e29, -⟩ h
      replace h := hk l22 w5 h
      clear hk
      refine wpC_cond (b := l22) e40 (fun hc23 => ?_) (fun hc23 => ?_)
      · replace h := h.1 hc23
        refine wpC_seq ?_
        refine wpC_region ?_
        refine wpR_val (v := (Value.bool false)) (w' := w5) rfl rfl rfl (x_assign (v := (Value.bool false)) rfl rfl) ?_
        refine wpR_nil ?_
        refine wpC_ret ?_
        exact ⟨.inl rfl, fun a ha => ⟨_, results_rep1 rfl ha rfl, false, rfl, h⟩⟩
      · replace h := h.2 hc23
        refine wpC_skip ?_
        obtain ⟨J25, h, hk⟩ := h
        refine wpC_drawJ (by kernel_rfl) (fun (x : Bool) ρ => ρ 9 = (Value.bool x) ∧ ρ 5 = (Sl.v r9.1) ∧ ρ 7 = (Sl.v r10.1) ∧ ρ 28 = (Value.int .i64 (r9.1.len : Int)) ∧ ρ 29 = (Value.int .i64 l14.2) ∧ True) J25 ?_ ?_
        · clear hk
          unfold tk at h
          generalize w5.drew = w6 at h ⊢
          refine wpD_take (v := (Value.bool l14.1)) 0 (fun _ => True) rfl (by kernel_rfl) (by kernel_rfl) (by kernel_rfl) rfl rfl rfl trivial (fun w _ => (x_move (v := (Value.bool l14.1)) rfl e9)) ?_
          refine wpD_take (v := (Value.bool l14.1)) 1 (fun _ => True) rfl (by kernel_rfl) (by kernel_rfl) (by kernel_rfl) rfl rfl rfl trivial (fun w _ => (x_move (v := (Value.bool l14.1)) rfl rfl)) ?_
          rcases Bool.eq_false_or_eq_true (l14.1) with hc26 | hc26
          · replace h := h.1 hc26
            refine wpD_pass 2 rfl (by kernel_rfl) (by kernel_rfl) (by kernel_rfl) (wantN rfl rfl rfl hc26) rfl rfl ?_
            refine wpD_pass 3 rfl (by kernel_rfl) (by kernel_rfl) (by kernel_rfl) (wantN rfl rfl rfl hc26) rfl rfl ?_
            refine wpD_pass 4 rfl (by kernel_rfl) (by kernel_rfl) (by kernel_rfl) (wantN rfl rfl rfl hc26) rfl rfl ?_
            refine wpD_pass 5 rfl (by kernel_rfl) (by kernel_rfl) (by kernel_rfl) (wantN rfl rfl rfl hc26) rfl rfl ?_
            refine wpD_pass 6 rfl (by kernel_rfl) (by kernel_rfl) (by kernel_rfl) (wantN rfl rfl rfl hc26) rfl rfl ?_
            refine wpD_pass 7 rfl (by kernel_rfl) (by kernel_rfl) (by kernel_rfl) (wantN rfl rfl rfl hc26) rfl rfl ?_
            refine wpD_pass 8 rfl (by kernel_rfl) (by kernel_rfl) (by kernel_rfl) (wantN rfl rfl rfl hc26) rfl rfl ?_
            refine wpD_pass 9 rfl (by kernel_rfl) (by kernel_rfl) (by kernel_rfl) (wantN rfl rfl rfl hc26) rfl rfl ?_
            refine wpD_pass 10 rfl (by kernel_rfl) (by kernel_rfl) (by kernel_rfl) (wantN rfl rfl rfl hc26) rfl rfl ?_
            refine wpD_take (v := (Value.bool true)) 11 (fun _ => True) rfl (by kernel_rfl) (by kernel_rfl) (by kernel_rfl) rfl rfl rfl trivial (fun w _ => (x_pickT (v := (Value.bool true)) rfl rfl hc26 rfl)) ?_
            refine wpD_take (v := (Value.bool true)) 12 (fun _ => True) rfl (by kernel_rfl) (by kernel_rfl) (by kernel_rfl) rfl rfl rfl trivial (fun w _ => (x_assign (v := (Value.bool true)) rfl rfl)) ?_
            exact wpD_done (by kernel_rfl) ⟨true, ⟨rfl, e5, e7, e28, e29, trivial⟩, h⟩
          · replace h := h.2 hc26
            refine wpD_take (v := (Sl.v r9.1)) 2 (fun _ => True) rfl (by kernel_rfl) (by kernel_rfl) (by kernel_rfl) (wantG rfl rfl rfl hc26) rfl rfl trivial (fun w _ => (x_move (v := (Sl.v r9.1)) rfl e5)) ?_
            refine wpD_take (v := (Value.int .i64 l14.2)) 3 (fun _ => True) rfl (by kernel_rfl) (by kernel_rfl) (by kernel_rfl) (wantG rfl rfl rfl hc26) rfl rfl trivial (fun w _ => (x_move (v := (Value.int .i64 l14.2)) rfl e10)) ?_
            obtain ⟨q27, z27, r27, h⟩ := h
            generalize hp27 : z27.add ((l14.2 : Int).toNat * 1) = p27 at h
            refine wpD_take (v := (Value.pointer (some p27))) 4 (fun _ => True) rfl (by kernel_rfl) (by kernel_rfl) (by kernel_rfl) (wantG rfl rfl rfl hc26) rfl rfl trivial (fun w _ => ((x_indexAddr (s := r9.1) rfl rfl rfl ES_63 q27 r27).trans (by rw [hp27]))) ?_
            obtain ⟨x28, q28, h⟩ := h
            refine wpD_take (v := (Value.int .i64 x28)) 5 (fun w => w.cell? p27 = some (Value.int .i64 x28)) rfl (by kernel_rfl) (by kernel_rfl) (by kernel_rfl) (wantG rfl rfl rfl hc26) rfl rfl q28 (fun w q28 => (x_load1 rfl rfl SH_3 q28)) ?_
            refine wpD_take (v := (Sl.v r10.1)) 6 (fun _ => True) rfl (by kernel_rfl) (by kernel_rfl) (by kernel_rfl) (wantG rfl rfl rfl hc26) rfl rfl trivial (fun w _ => (x_move (v := (Sl.v r10.1)) rfl e7)) ?_
            refine wpD_take (v := (Value.int .i64 l14.2)) 7 (fun _ => True) rfl (by kernel_rfl) (by kernel_rfl) (by kernel_rfl) (wantG rfl rfl rfl hc26) rfl rfl trivial (fun w _ => (x_move (v := (Value.int .i64 l14.2)) rfl e10)) ?_
            obtain ⟨q29, z29, r29, h⟩ := h
            generalize hp29 : z29.add ((l14.2 : Int).toNat * 1) = p29 at h
            refine wpD_take (v := (Value.pointer (some p29))) 8 (fun _ => True) rfl (by kernel_rfl) (by kernel_rfl) (by kernel_rfl) (wantG rfl rfl rfl hc26) rfl rfl trivial (fun w _ => ((x_indexAddr (s := r10.1) rfl rfl rfl ES_63 q29 r29).trans (by rw [hp29]))) ?_
            obtain ⟨x30, q30, h⟩ := h
            refine wpD_take (v := (Value.int .i64 x30)) 9 (fun w => w.cell? p29 = some (Value.int .i64 x30)) rfl (by kernel_rfl) (by kernel_rfl) (by kernel_rfl) (wantG rfl rfl rfl hc26) rfl rfl q30 (fun w q30 => (x_load1 rfl rfl SH_3 q30)) ?_
            refine wpD_take (v := (Value.bool (decide (x30 < x28)))) 10 (fun _ => True) rfl (by kernel_rfl) (by kernel_rfl) (by kernel_rfl) (wantG rfl rfl rfl hc26) rfl rfl trivial (fun w _ => (x_gtr rfl rfl rfl)) ?_
            refine wpD_take (v := (Value.bool (decide (x30 < x28)))) 11 (fun _ => True) rfl (by kernel_rfl) (by kernel_rfl) (by kernel_rfl) rfl rfl rfl trivial (fun w _ => (x_pickF (v := (Value.bool (decide (x30 < x28)))) rfl rfl hc26 rfl)) ?_
            refine wpD_take (v := (Value.bool (decide (x30 < x28)))) 12 (fun _ => True) rfl (by kernel_rfl) (by kernel_rfl) (by kernel_rfl) rfl rfl rfl trivial (fun w _ => (x_assign (v := (Value.bool (decide (x30 < x28)))) rfl rfl)) ?_
            exact wpD_done (by kernel_rfl) ⟨decide (x30 < x28), ⟨rfl, e5, e7, e28, e29, trivial⟩, h⟩
        clear h
        rintro l31 ρ w7 ⟨e9, e5, e7, e28, e29, -⟩ h
        replace h := hk l31 w7 h
        clear hk
        refine wpC_region ?_
        refine wpR_val (v := (Value.int .i64 (IntKind.i64.wrap (l14.2 + 1)))) (w' := w7) rfl rfl rfl (x_add rfl e29 rfl) ?_
        refine wpR_val (v := (Value.int .i64 (IntKind.i64.wrap (l14.2 + 1)))) (w' := w7) rfl rfl rfl (x_move (v := (Value.int .i64 (IntKind.i64.wrap (l14.2 + 1)))) rfl rfl) ?_
        refine wpR_nil ?_
        exact ⟨(l31, IntKind.i64.wrap (l14.2 + 1)), ⟨e9, rfl, e5, e7, e28, trivial⟩, h⟩
    · replace h := h.2 hc15
      refine wpC_exit ?_
      refine wpC_seq ?_
      refine wpC_cut (fun ρ => ρ 9 = (Value.bool l14.1) ∧ True) ⟨e9, trivial⟩ ?_
      rintro ρ ⟨e9, -⟩
      refine wpC_region ?_
      refine wpR_val (v := (Value.bool l14.1)) (w' := w3) rfl rfl rfl (x_move (v := (Value.bool l14.1)) rfl e9) ?_
      refine wpR_val (v := (Value.bool l14.1)) (w' := w3) rfl rfl rfl (x_assign (v := (Value.bool l14.1)) rfl rfl) ?_
      refine wpR_nil ?_
      refine wpC_ret ?_
      exact ⟨.inl rfl, fun a ha => ⟨_, results_rep1 rfl ha rfl, l14.1, rfl, h⟩⟩

/-- linguaref20.Worse -/
def F16 (p0 : Sl) (p1 : Sl) (w0 : World) (K : Bool → World → Prop) : Prop :=
  callC Try.prog 37 #[(Sl.v p0)] (fun (r : Bool) => (Value.bool r)) w0 fun r9 w1 =>
  jn (fun J10 => cnd (!r9)
    (
    J10 true w1
    )
    (
    callC Try.prog 37 #[(Sl.v p1)] (fun (r : Bool) => (Value.bool r)) w1 fun r12 w2 =>
    J10 (!r12) w2
    ))
  fun c13 w3 =>
  cnd (c13)
    (
    K false w3
    )
    (
    lp (fun (next15 : (Bool × Int) → World → Prop) l15 w4 =>
      cnd (decide (l15.2 < 9))
        (
        callC Try.prog 38 #[(Sl.v p0), (Value.int .i64 l15.2)] (fun (r : Int) => (Value.int .i64 r)) w4 fun r17 w5 =>
        callC Try.prog 38 #[(Sl.v p1), (Value.int .i64 l15.2)] (fun (r : Int) => (Value.int .i64 r)) w5 fun r18 w6 =>
        cnd (decide (r17 < r18))
          (
          K false w6
          )
          (
          jn (fun J20 => cnd (l15.1)
            (
            J20 true w6
            )
            (
            callC Try.prog 38 #[(Sl.v p0), (Value.int .i64 l15.2)] (fun (r : Int) => (Value.int .i64 r)) w6 fun r22 w7 =>
            callC Try.prog 38 #[(Sl.v p1), (Value.int .i64 l15.2)] (fun (r : Int) => (Value.int .i64 r)) w7 fun r23 w8 =>
            J20 (decide (r23 < r22)) w8
            ))
          fun c24 w9 =>
          next15 (c24, IntKind.i64.wrap (l15.2 + 1)) w9
          )
        )
        (
        K l15.1 w4
        )
    ) (false, 0) w3
    )
set_option maxRecDepth 100000 in
theorem D16 (p0 : Sl) (p1 : Sl) (w0 : World) (K : Bool → World → Prop) (h : F16 p0 p1 w0 K) : callC Try.prog 16 #[(Sl.v p0), (Sl.v p1)] (fun (r : Bool) => (Value.bool r)) w0 K := by
  unfold F16 at h
  refine calls_of_wpC Try.func16 rfl 37 rfl (by simp) ?_
  intro ρ hρ
  have e0 : ρ 0 = (Sl.v p0) := hρ 0
  have e1 : ρ 1 = (Sl.v p1) := hρ 1
  clear hρ
  refine wpC_seq ?_
  refine wpC_region ?_
  refine wpR_val (v := (Value.bool false)) (w' := w0) rfl rfl rfl (x_assign (v := (Value.bool false)) rfl rfl) ?_
  refine wpR_nil ?_
  refine wpC_seq ?_
  refine wpC_seq ?_
  refine wpC_cut (fun ρ => ρ 0 = (Sl.v p0) ∧ ρ 1 = (Sl.v p1) ∧ True) ⟨e0, e1, trivial⟩ ?_
  rintro ρ ⟨e0, e1, -⟩
  refine wpC_region ?_
  refine wpR_val (v := (Sl.v p0)) (w' := w0) rfl rfl rfl (x_move (v := (Sl.v p0)) rfl e0) ?_
  refine wpR_enter rfl rfl rfl (x_call (vs := [(Sl.v p0)]) rfl rfl (mapl_cons rfl mapl_nil) Try.func37 NN_37 NB_37) (Calls.mono h ?_)
  rintro _ w1 ⟨r9, rfl, h⟩
  refine ⟨_, rfl, ?_⟩
  refine wpR_val (v := (Value.bool (!r9))) (w' := w1) rfl rfl rfl (x_not rfl rfl) ?_
  refine wpR_val (v := (Value.bool (!r9))) (w' := w1) rfl rfl rfl (x_move (v := (Value.bool (!r9))) rfl rfl) ?_
  obtain ⟨J10, h, hk⟩ := h
  refine wpR_joinJ 4 (fun x ρ => ρ 14 = Value.bool x ∧ ρ 0 = (Sl.v p0) ∧ ρ 1 = (Sl.v p1) ∧ True) (J10) ?_ ?_
  · clear hk
    rcases Bool.eq_false_or_eq_true (!r9) with hc11 | hc11
    · replace h := h.1 hc11
      refine wpR_pass (wantN rfl rfl rfl hc11) rfl rfl ?_
      refine wpR_pass (wantN rfl rfl rfl hc11) rfl rfl ?_
      refine wpR_pass (wantN rfl rfl rfl hc11) rfl rfl ?_
      refine wpR_val (v := (Value.bool true)) (w' := w1) rfl rfl rfl (x_pickT (v := (Value.bool true)) rfl rfl hc11 rfl) ?_
      refine wpR_nil ?_
      exact ⟨true, ⟨rfl, e0, e1, trivial⟩, h⟩
    · replace h := h.2 hc11
      refine wpR_val (v := (Sl.v p1)) (w' := w1) (wantG rfl rfl rfl hc11) rfl rfl (x_move (v := (Sl.v p1)) rfl e1) ?_
      refine wpR_enter (wantG rfl rfl rfl hc11) rfl rfl (x_call (vs := [(Sl.v p1)]) rfl rfl (mapl_cons rfl mapl_nil) Try.func37 NN_37 NB_37) (Calls.mono h ?_)
      rintro _ w2 ⟨r12, rfl, h⟩
      refine ⟨_, rfl, ?_⟩
      refine wpR_val (v := (Value.bool (!r12))) (w' := w2) (wantG rfl rfl rfl hc11) rfl rfl (x_not rfl rfl) ?_
      refine wpR_val (v := (Value.bool (!r12))) (w' := w2) rfl rfl rfl (x_pickF (v := (Value.bool (!r12))) rfl rfl hc11 rfl) ?_
      refine wpR_nil ?_
      exact ⟨!r12, ⟨rfl, e0, e1, trivial⟩, h⟩
  clear h
  rintro c13 ρ w3 ⟨e14, e0, e1, -⟩ h
  replace h := hk c13 w3 h
  clear hk
  refine wpR_nil ?_
  refine wpC_cond (b := c13) e14 (fun hc14 => ?_) (fun hc14 => ?_)
  · replace h := h.1 hc14
    refine wpC_seq ?_
    refine wpC_region ?_
    refine wpR_val (v := (Value.bool false)) (w' := w3) rfl rfl rfl (x_assign (v := (Value.bool false)) rfl rfl) ?_
    refine wpR_nil ?_
    refine wpC_ret ?_
    exact ⟨.inl rfl, fun a ha => ⟨_, results_rep1 rfl ha rfl, false, rfl, h⟩⟩
  · replace h := h.2 hc14
    refine wpC_skip ?_
    refine wpC_seq ?_
    refine wpC_region ?_
    refine wpR_val (v := (Value.bool false)) (w' := w3) rfl rfl rfl (x_assign (v := (Value.bool false)) rfl rfl) ?_
    refine wpR_nil ?_
    refine wpC_seq ?_
    refine wpC_seq ?_
    refine wpC_cut (fun ρ => ρ 0 = (Sl.v p0) ∧ ρ 1 = (Sl.v p1) ∧ ρ 5 = (Value.bool false) ∧ True) ⟨e0, e1, rfl, trivial⟩ ?_
    rintro ρ ⟨e0, e1, e5, -⟩
    refine wpC_region ?_
    refine wpR_val (v := (Value.int .i64 0)) (w' := w3) rfl rfl rfl (x_assign (v := (Value.int .i64 0)) rfl rfl) ?_
    refine wpR_nil ?_
    refine wpC_block ?_
    obtain ⟨I15, μ15, hI15, hr15⟩ := h
    refine wpC_loop (fun (x : Bool × Int) ρ => ρ 5 = (Value.bool x.1) ∧ ρ 6 = (Value.int .i64 x.2) ∧ ρ 0 = (Sl.v p0) ∧ ρ 1 = (Sl.v p1) ∧ True) I15 μ15 (false, 0) ⟨e5, rfl, e0, e1, trivial⟩ hI15 ?_
    rintro l15 ρ w4 ⟨e5, e6, e0, e1, -⟩ h
    replace h := hr15 l15 w4 h
    clear hr15 hI15
    refine wpC_seq ?_
    refine wpC_seq ?_
    refine wpC_region ?_
    refine wpR_val (v := (Value.int .i64 l15.2)) (w' := w4) rfl rfl rfl (x_move (v := (Value.int .i64 l15.2)) rfl e6) ?_
    refine wpR_val (v := (Value.bool (decide (l15.2 < 9)))) (w' := w4) rfl rfl rfl (x_lss rfl rfl rfl) ?_
    refine wpR_nil ?_
    refine wpC_cond (b := decide (l15.2 < 9)) rfl (fun hc16 => ?_) (fun hc16 => ?_)
    · replace h := h.1 hc16
      refine wpC_skip ?_
      refine wpC_seq ?_
      refine wpC_block ?_
      refine wpC_seq ?_
      refine wpC_seq ?_
      refine wpC_cut (fun ρ => ρ 0 = (Sl.v p0) ∧ ρ 1 = (Sl.v p1) ∧ ρ 5 = (Value.bool l15.1) ∧ ρ 6 = (Value.int .i64 l15.2) ∧ True) ⟨e0, e1, e5, e6, trivial⟩ ?_
      rintro ρ ⟨e0, e1, e5, e6, -⟩
      refine wpC_region ?_
      refine wpR_val (v := (Sl.v p0)) (w' := w4) rfl rfl rfl (x_move (v := (Sl.v p0)) rfl e0) ?_
      refine wpR_val (v := (Value.int .i64 l15.2)) (w' := w4) rfl rfl rfl (x_move (v := (Value.int .i64 l15.2)) rfl e6) ?_
      refine wpR_enter rfl rfl rfl (x_call (vs := [(Sl.v p0), (Value.int .i64 l15.2)]) rfl rfl (mapl_cons rfl (mapl_cons rfl mapl_nil)) Try.func38 NN_38 NB_38) (Calls.mono h ?_)
      rintro _ w5 ⟨r17, rfl, h⟩
      refine ⟨_, rfl, ?_⟩
      refine wpR_val (v := (Sl.v p1)) (w' := w5) rfl rfl rfl (x_move (v := (Sl.v p1)) rfl e1) ?_
      refine wpR_val (v := (Value.int .i64 l15.2)) (w' := w5) rfl rfl rfl (x_move (v := (Value.int .i64 l15.2)) rfl e6) ?_
      refine wpR_enter rfl rfl rfl (x_call (vs := [(Sl.v p1), (Value.int .i64 l15.2)]) rfl rfl (mapl_cons rfl (mapl_cons rfl mapl_nil)) Try.func38 NN_38 NB_38) (Calls.mono h ?_)
      rintro _ w6 ⟨r18, rfl, h⟩
      refine ⟨_, rfl, ?_⟩
      refine wpR_val (v := (Value.bool (decide (r17 < r18)))) (w' := w6) rfl rfl rfl (x_lss rfl rfl rfl) ?_
      refine wpR_nil ?_
      refine wpC_cond (b := decide (r17 < r18)) rfl (fun hc19 => ?_) (fun hc19 => ?_)
      · replace h := h.1 hc19
        refine wpC_seq ?_
        refine wpC_cut (fun ρ => True) trivial ?_
        rintro ρ -
        refine wpC_region ?_
        refine wpR_val (v := (Value.bool false)) (w' := w6) rfl rfl rfl (x_assign (v := (Value.bool false)) rfl rfl) ?_
        refine wpR_nil ?_
        refine wpC_ret ?_
        exact ⟨.inl rfl, fun a ha => ⟨_, results_rep1 rfl ha rfl, false, rfl, h⟩⟩
      · replace h := h.2 hc19
        refine wpC_skip ?_
        refine wpC_cut (fun ρ => ρ 0 = (Sl.v p0) ∧ ρ 1 = (Sl.v p1) ∧ ρ 5 = (Value.bool l15.1) ∧ ρ 6 = (Value.int .i64 l15.2) ∧ True) ⟨e0, e1, e5, e6, trivial⟩ ?_
        rintro ρ ⟨e0, e1, e5, e6, -⟩
        refine wpC_region ?_
        refine wpR_val (v := (Value.bool l15.1)) (w' := w6) rfl rfl rfl (x_move (v := (Value.bool l15.1)) rfl e5) ?_
        refine wpR_val (v := (Value.bool l15.1)) (w' := w6) rfl rfl rfl (x_move (v := (Value.bool l15.1)) rfl rfl) ?_
        obtain ⟨J20, h, hk⟩ := h
        refine wpR_joinJ 8 (fun x ρ => ρ 35 = Value.bool x ∧ ρ 0 = (Sl.v p0) ∧ ρ 1 = (Sl.v p1) ∧ ρ 6 = (Value.int .i64 l15.2) ∧ True) (J20) ?_ ?_
        · clear hk
          rcases Bool.eq_false_or_eq_true (l15.1) with hc21 | hc21
          · replace h := h.1 hc21
            refine wpR_pass (wantN rfl rfl rfl hc21) rfl rfl ?_
            refine wpR_pass (wantN rfl rfl rfl hc21) rfl rfl ?_
            refine wpR_pass (wantN rfl rfl rfl hc21) rfl rfl ?_
            refine wpR_pass (wantN rfl rfl rfl hc21) rfl rfl ?_
            refine wpR_pass (wantN rfl rfl rfl hc21) rfl rfl ?_
            refine wpR_pass (wantN rfl rfl rfl hc21) rfl rfl ?_
            refine wpR_pass (wantN rfl rfl rfl hc21) rfl rfl ?_
            refine wpR_val (v := (Value.bool true)) (w' := w6) rfl rfl rfl (x_pickT (v := (Value.bool true)) rfl rfl hc21 rfl) ?_
            refine wpR_nil ?_
            exact ⟨true, ⟨rfl, e0, e1, e6, trivial⟩, h⟩
          · replace h := h.2 hc21
            refine wpR_val (v := (Sl.v p0)) (w' := w6) (wantG rfl rfl rfl hc21) rfl rfl (x_move (v := (Sl.v p0)) rfl e0) ?_
            refine wpR_val (v := (Value.int .i64 l15.2)) (w' := w6) (wantG rfl rfl rfl hc21) rfl rfl (x_move (v := (Value.int .i64 l15.2)) rfl e6) ?_
            refine wpR_enter (wantG rfl rfl rfl hc21) rfl rfl (x_call (vs := [(Sl.v p0), (Value.int .i64 l15.2)]) rfl rfl (mapl_cons rfl (mapl_cons rfl mapl_nil)) Try.func38 NN_38 NB_38) (Calls.mono h ?_)
            rintro _ w7 ⟨r22, rfl, h⟩
            refine ⟨_, rfl, ?_⟩
            refine wpR_val (v := (Sl.v p1)) (w' := w7) (wantG rfl rfl rfl hc21) rfl rfl (x_move (v := (Sl.v p1)) rfl e1) ?_
            refine wpR_val (v := (Value.int .i64 l15.2)) (w' := w7) (wantG rfl rfl rfl hc21) rfl rfl (x_move (v := (Value.int .i64 l15.2)) rfl e6) ?_
            refine wpR_enter (wantG rfl rfl rfl hc21) rfl rfl (x_call (vs := [(Sl.v p1), (Value.int .i64 l15.2)]) rfl rfl (mapl_cons rfl (mapl_cons rfl mapl_nil)) Try.func38 NN_38 NB_38) (Calls.mono h ?_)
            rintro _ w8 ⟨r23, rfl, h⟩
            refine ⟨_, rfl, ?_⟩
            refine wpR_val (v := (Value.bool (decide (r23 < r22)))) (w' := w8) (wantG rfl rfl rfl hc21) rfl rfl (x_gtr rfl rfl rfl) ?_
            refine wpR_val (v := (Value.bool (decide (r23 < r22)))) (w' := w8) rfl rfl rfl (x_pickF (v := (Value.bool (decide (r23 < r22)))) rfl rfl hc21 rfl) ?_
            refine wpR_nil ?_
            exact ⟨decide (r23 < r22), ⟨rfl, e0, e1, e6, trivial⟩, h⟩
        clear h
        rintro c24 ρ w9 ⟨e35, e0, e1, e6, -⟩ h
        replace h := hk c24 w9 h
        clear hk
        refine wpR_val (v := (Value.bool c24)) (w' := w9) rfl rfl rfl (x_assign (v := (Value.bool c24)) rfl e35) ?_
        refine wpR_nil ?_
        refine wpC_cut (fun ρ => ρ 0 = (Sl.v p0) ∧ ρ 1 = (Sl.v p1) ∧ ρ 5 = (Value.bool c24) ∧ ρ 6 = (Value.int .i64 l15.2) ∧ True) ⟨e0, e1, rfl, e6, trivial⟩ ?_
        rintro ρ ⟨e0, e1, e5, e6, -⟩
        refine wpC_region ?_
        refine wpR_val (v := (Value.int .i64 l15.2)) (w' := w9) rfl rfl rfl (x_move (v := (Value.int .i64 l15.2)) rfl e6) ?_
        refine wpR_val (v := (Value.int .i64 (IntKind.i64.wrap (l15.2 + 1)))) (w' := w9) rfl rfl rfl (x_add rfl rfl rfl) ?_
        refine wpR_val (v := (Value.int .i64 (IntKind.i64.wrap (l15.2 + 1)))) (w' := w9) rfl rfl rfl (x_assign (v := (Value.int .i64 (IntKind.i64.wrap (l15.2 + 1)))) rfl rfl) ?_
        refine wpR_nil ?_
        exact ⟨(c24, IntKind.i64.wrap (l15.2 + 1)), ⟨e5, rfl, e0, e1, trivial⟩, h⟩
    · replace h := h.2 hc16
      refine wpC_exit ?_
      refine wpC_seq ?_
      refine wpC_cut (fun ρ => ρ 5 = (Value.bool l15.1) ∧ True) ⟨e5, trivial⟩ ?_
      rintro ρ ⟨e5, -⟩
      refine wpC_region ?_
      refine wpR_val (v := (Value.bool l15.1)) (w' := w4) rfl rfl rfl (x_move (v := (Value.bool l15.1)) rfl e5) ?_
      refine wpR_val (v := (Value.bool l15.1)) (w' := w4) rfl rfl rfl (x_assign (v := (Value.bool l15.1)) rfl rfl) ?_
      refine wpR_nil ?_
      refine wpC_ret ?_
      exact ⟨.inl rfl, fun a ha => ⟨_, results_rep1 rfl ha rfl, l15.1, rfl, h⟩⟩

/-- profile.Check -/
def F17 (p0_0 : ByteArray) (p0_1 : Int) (p0_2 : Int) (p0_3 : Int) (p0_4 : Bool) (p0_5 : Int) (p0_6 : Bool) (p0_7 : Bool) (p0_8 : Int) (p0_9 : Int) (p0_10 : Int) (p0_11 : Int) (p0_12 : Sl) (p0_13 : Int) (p0_14 : Int) (p0_15 : Int) (p0_16 : Int) (p0_17 : Bool) (p0_18 : Int) (p0_19 : Int) (p0_20 : Int) (p0_21 : Int) (w0 : World) (K : Int → World → Prop) : Prop :=
  nw 24 (A23 p0_0 p0_1 p0_2 p0_3 p0_4 p0_5 p0_6 p0_7 p0_8 p0_9 p0_10 p0_11 p0_12 p0_13 p0_14 p0_15 p0_16 p0_17 p0_18 p0_19 p0_20 p0_21) w0 fun b9 w1 =>
  L23 (Addr.mk b9 0 none) w1 fun x10 x11 x12 x13 x14 x15 x16 x17 x18 x19 x20 x21 x22 x23 x24 x25 x26 x27 x28 x29 x30 x31 =>
  callC Try.prog 39 #[(V23 x10 x11 x12 x13 x14 x15 x16 x17 x18 x19 x20 x21 x22 x23 x24 x25 x26 x27 x28 x29 x30 x31)] (fun (r : Bool) => (Value.bool r)) w1 fun r32 w2 =>
  cnd (!r32)
    (
    K 1 w2
    )
    (
    ld (Value.int .i64) ((Addr.mk b9 0 none).add 8) w2 fun x34 =>
    callC Try.prog 40 #[(Value.int .i64 x34), (Value.int .i64 40), (Value.int .i64 4000)] (fun (r : Bool) => (Value.bool r)) w2 fun r35 w3 =>
    jn (fun J36 => cnd (!r35)
      (
      J36 true w3
      )
      (
      ld (Value.int .i64) ((Addr.mk b9 0 none).add 9) w3 fun x38 =>
      callC Try.prog 40 #[(Value.int .i64 x38), (Value.int .i64 1), (Value.int .i64 20)] (fun (r : Bool) => (Value.bool r)) w3 fun r39 w4 =>
      J36 (!r39) w4
      ))
    fun c40 w5 =>
    jp (fun J41 => cnd (c40)
      (
      J41 true
      )
      (
      ld (Value.int .i64) ((Addr.mk b9 0 none).add 10) w5 fun x43 =>
      J41 (decide (4 < x43))
      ))
    fun c44 =>
    jp (fun J45 => cnd (c44)
      (
      J45 true
      )
      (
      ld (Value.int .i64) ((Addr.mk b9 0 none).add 11) w5 fun x47 =>
      J45 (decide (65536 < x47))
      ))
    fun c48 =>
    jp (fun J49 => cnd (c48)
      (
      J49 true
      )
      (
      ld (Value.int .i64) ((Addr.mk b9 0 none).add 18) w5 fun x51 =>
      J49 (decide (x51 < 1))
      ))
    fun c52 =>
    jp (fun J53 => cnd (c52)
      (
      J53 true
      )
      (
      ld (Value.int .i64) ((Addr.mk b9 0 none).add 19) w5 fun x55 =>
      jp (fun J56 => cnd (!decide (x55 = 0))
        (
        ld (Value.int .i64) ((Addr.mk b9 0 none).add 19) w5 fun x58 =>
        ld (Value.int .i64) ((Addr.mk b9 0 none).add 20) w5 fun x59 =>
        J56 (decide (x59 ≤ x58))
        )
        (
        J56 false
        ))
      fun c60 =>
      J53 c60
      ))
    fun c61 =>
    jn (fun J62 => cnd (c61)
      (
      J62 true w5
      )
      (
      L23 (Addr.mk b9 0 none) w5 fun x64 x65 x66 x67 x68 x69 x70 x71 x72 x73 x74 x75 x76 x77 x78 x79 x80 x81 x82 x83 x84 x85 =>
      callC Try.prog 41 #[(V23 x64 x65 x66 x67 x68 x69 x70 x71 x72 x73 x74 x75 x76 x77 x78 x79 x80 x81 x82 x83 x84 x85)] (fun (r : Bool) => (Value.bool r)) w5 fun r86 w6 =>
      J62 (!r86) w6
      ))
    fun c87 w7 =>
    cnd (c87)
      (
      K 3 w7
      )
      (
      ld Sl.v ((Addr.mk b9 0 none).add 12) w7 fun x89 =>
      lp (fun (next90 : Int → World → Prop) l90 w8 =>
        cnd (decide (l90 < (x89.len : Int)))
          (
          ix x89 l90 1 fun p92 =>
          ld Value.string p92 w8 fun x93 =>
          ld Sl.v ((Addr.mk b9 0 none).add 12) w8 fun x94 =>
          rn Try.prog (Instr.sliceAt 22 (Sl.v x94) none (some (Value.int .i64 l90)) none) (fun (r : Sl) => (Sl.v r)) w8 fun r95 w9 =>
          callC Try.prog 42 #[(Sl.v r95), (Value.string x93)] (fun (r : Bool) => (Value.bool r)) w9 fun r96 w10 =>
          cnd (r96)
            (
            K 5 w10
            )
            (
            next90 (IntKind.i64.wrap (l90 + 1)) w10
            )
          )
          (
          K 0 w8
          )
      ) 0 w7
      )
    )
set_option maxRecDepth 100000 in
theorem D17 (p0_0 : ByteArray) (p0_1 : Int) (p0_2 : Int) (p0_3 : Int) (p0_4 : Bool) (p0_5 : Int) (p0_6 : Bool) (p0_7 : Bool) (p0_8 : Int) (p0_9 : Int) (p0_10 : Int) (p0_11 : Int) (p0_12 : Sl) (p0_13 : Int) (p0_14 : Int) (p0_15 : Int) (p0_16 : Int) (p0_17 : Bool) (p0_18 : Int) (p0_19 : Int) (p0_20 : Int) (p0_21 : Int) (w0 : World) (K : Int → World → Prop) (h : F17 p0_0 p0_1 p0_2 p0_3 p0_4 p0_5 p0_6 p0_7 p0_8 p0_9 p0_10 p0_11 p0_12 p0_13 p0_14 p0_15 p0_16 p0_17 p0_18 p0_19 p0_20 p0_21 w0 K) : callC Try.prog 17 #[(V23 p0_0 p0_1 p0_2 p0_3 p0_4 p0_5 p0_6 p0_7 p0_8 p0_9 p0_10 p0_11 p0_12 p0_13 p0_14 p0_15 p0_16 p0_17 p0_18 p0_19 p0_20 p0_21)] (fun (r : Int) => (Value.int .i64 r)) w0 K := by
  unfold F17 at h
  refine calls_of_wpC Try.func17 rfl 65 rfl (by simp) ?_
  intro ρ hρ
  have e0 : ρ 0 = (V23 p0_0 p0_1 p0_2 p0_3 p0_4 p0_5 p0_6 p0_7 p0_8 p0_9 p0_10 p0_11 p0_12 p0_13 p0_14 p0_15 p0_16 p0_17 p0_18 p0_19 p0_20 p0_21) := hρ 0
  clear hρ
  refine wpC_seq ?_
  refine wpC_region ?_
  obtain ⟨b9, hb9⟩ : ∃ u, u = w0.heap.size := ⟨_, rfl⟩
  obtain ⟨w1, hw9⟩ : ∃ u, u = w0.alloc (.cells (A23 p0_0 p0_1 p0_2 p0_3 p0_4 p0_5 p0_6 p0_7 p0_8 p0_9 p0_10 p0_11 p0_12 p0_13 p0_14 p0_15 p0_16 p0_17 p0_18 p0_19 p0_20 p0_21) 24) := ⟨_, rfl⟩
  replace h := h b9 w1 hb9 hw9
  refine wpR_val (v := (Value.pointer (some (Addr.mk b9 0 none)))) (w' := w1) rfl rfl rfl ((x_box (v := (V23 p0_0 p0_1 p0_2 p0_3 p0_4 p0_5 p0_6 p0_7 p0_8 p0_9 p0_10 p0_11 p0_12 p0_13 p0_14 p0_15 p0_16 p0_17 p0_18 p0_19 p0_20 p0_21)) rfl e0).trans (by rw [hb9, hw9]; rfl)) ?_
  refine wpR_val (v := (Value.int .i64 0)) (w' := w1) rfl rfl rfl (x_assign (v := (Value.int .i64 0)) rfl rfl) ?_
  refine wpR_nil ?_
  refine wpC_seq ?_
  refine wpC_seq ?_
  refine wpC_cut (fun ρ => ρ 1 = (Value.pointer (some (Addr.mk b9 0 none))) ∧ True) ⟨rfl, trivial⟩ ?_
  rintro ρ ⟨e1, -⟩
  refine wpC_region ?_
  obtain ⟨x10, q10, x11, q11, x12, q12, x13, q13, x14, q14, x15, q15, x16, q16, x17, q17, x18, q18, x19, q19, x20, q20, x21, q21, x22, q22, x23, q23, x24, q24, x25, q25, x26, q26, x27, q27, x28, q28, x29, q29, x30, q30, x31, q31, h⟩ := h
  refine wpR_val (v := (V23 x10 x11 x12 x13 x14 x15 x16 x17 x18 x19 x20 x21 x22 x23 x24 x25 x26 x27 x28 x29 x30 x31)) (w' := w1) rfl rfl rfl (x_loadN (S23 x10 x11 x12 x13 x14 x15 x16 x17 x18 x19 x20 x21 x22 x23 x24 x25 x26 x27 x28 x29 x30 x31) rfl e1 SH_24 (K23 ⟨q10, q11, q12, q13, q14, q15, q16, q17, q18, q19, q20, q21, q22, q23, q24, q25, q26, q27, q28, q29, q30, q31⟩)) ?_
  refine wpR_enter rfl rfl rfl (x_call (vs := [(V23 x10 x11 x12 x13 x14 x15 x16 x17 x18 x19 x20 x21 x22 x23 x24 x25 x26 x27 x28 x29 x30 x31)]) rfl rfl (mapl_cons rfl mapl_nil) Try.func39 NN_39 NB_39) (Calls.mono h ?_)
  rintro _ w2 ⟨r32, rfl, h⟩
  refine ⟨_, rfl, ?_⟩
  refine wpR_val (v := (Value.bool (!r32))) (w' := w2) rfl rfl rfl (x_not rfl rfl) ?_
  refine wpR_nil ?_
  refine wpC_cond (b := !r32) rfl (fun hc33 => ?_) (fun hc33 => ?_)
  · replace h := h.1 hc33
    refine wpC_seq ?_
    refine wpC_cut (fun ρ => True) trivial ?_
    rintro ρ -
    refine wpC_region ?_
    refine wpR_val (v := (Value.int .i64 1)) (w' := w2) rfl rfl rfl (x_assign (v := (Value.int .i64 1)) rfl rfl) ?_
    refine wpR_nil ?_
    refine wpC_ret ?_
    exact ⟨.inl rfl, fun a ha => ⟨_, results_rep1 rfl ha rfl, 1, rfl, h⟩⟩
  · replace h := h.2 hc33
    refine wpC_skip ?_
    refine wpC_seq ?_
    refine wpC_seq ?_
    refine wpC_cut (fun ρ => ρ 1 = (Value.pointer (some (Addr.mk b9 0 none))) ∧ True) ⟨e1, trivial⟩ ?_
    rintro ρ ⟨e1, -⟩
    refine wpC_region ?_
    refine wpR_val (v := (Value.pointer (some ((Addr.mk b9 0 none).add 8)))) (w' := w2) rfl rfl rfl (x_fieldAddr rfl e1 FA_24_8) ?_
    obtain ⟨x34, q34, h⟩ := h
    refine wpR_val (v := (Value.int .i64 x34)) (w' := w2) rfl rfl rfl (x_load1 rfl rfl SH_3 q34) ?_
    refine wpR_enter rfl rfl rfl (x_call (vs := [(Value.int .i64 x34), (Value.int .i64 40), (Value.int .i64 4000)]) rfl rfl (mapl_cons rfl (mapl_cons rfl (mapl_cons rfl mapl_nil))) Try.func40 NN_40 NB_40) (Calls.mono h ?_)
    rintro _ w3 ⟨r35, rfl, h⟩
    refine ⟨_, rfl, ?_⟩
    refine wpR_val (v := (Value.bool (!r35))) (w' := w3) rfl rfl rfl (x_not rfl rfl) ?_
    refine wpR_val (v := (Value.bool (!r35))) (w' := w3) rfl rfl rfl (x_move (v := (Value.bool (!r35))) rfl rfl) ?_
    obtain ⟨J36, h, hk⟩ := h
    refine wpR_joinJ 5 (fun x ρ => ρ 17 = Value.bool x ∧ ρ 1 = (Value.pointer (some (Addr.mk b9 0 none))) ∧ True) (J36) ?_ ?_
    · clear hk
      rcases Bool.eq_false_or_eq_true (!r35) with hc37 | hc37
      · replace h := h.1 hc37
        refine wpR_pass (wantN rfl rfl rfl hc37) rfl rfl ?_
        refine wpR_pass (wantN rfl rfl rfl hc37) rfl rfl ?_
        refine wpR_pass (wantN rfl rfl rfl hc37) rfl rfl ?_
        refine wpR_pass (wantN rfl rfl rfl hc37) rfl rfl ?_
        refine wpR_val (v := (Value.bool true)) (w' := w3) rfl rfl rfl (x_pickT (v := (Value.bool true)) rfl rfl hc37 rfl) ?_
        refine wpR_nil ?_
        exact ⟨true, ⟨rfl, e1, trivial⟩, h⟩
      · replace h := h.2 hc37
        refine wpR_val (v := (Value.pointer (some ((Addr.mk b9 0 none).add 9)))) (w' := w3) (wantG rfl rfl rfl hc37) rfl rfl (x_fieldAddr rfl e1 FA_24_9) ?_
        obtain ⟨x38, q38, h⟩ := h
        refine wpR_val (v := (Value.int .i64 x38)) (w' := w3) (wantG rfl rfl rfl hc37) rfl rfl (x_load1 rfl rfl SH_3 q38) ?_
        refine wpR_enter (wantG rfl rfl rfl hc37) rfl rfl (x_call (vs := [(Value.int .i64 x38), (Value.int .i64 1), (Value.int .i64 20)]) rfl rfl (mapl_cons rfl (mapl_cons rfl (mapl_cons rfl mapl_nil))) Try.func40 NN_40 NB_40) (Calls.mono h ?_)
        rintro _ w4 ⟨r39, rfl, h⟩
        refine ⟨_, rfl, ?_⟩
        refine wpR_val (v := (Value.bool (!r39))) (w' := w4) (wantG rfl rfl rfl hc37) rfl rfl (x_not rfl rfl) ?_
        refine wpR_val (v := (Value.bool (!r39))) (w' := w4) rfl rfl rfl (x_pickF (v := (Value.bool (!r39))) rfl rfl hc37 rfl) ?_
        refine wpR_nil ?_
        exact ⟨!r39, ⟨rfl, e1, trivial⟩, h⟩
    clear h
    rintro c40 ρ w5 ⟨e17, e1, -⟩ h
    replace h := hk c40 w5 h
    clear hk
    refine wpR_val (v := (Value.bool c40)) (w' := w5) rfl rfl rfl (x_move (v := (Value.bool c40)) rfl e17) ?_
    obtain ⟨J41, h, hk⟩ := h
    refine wpR_joinJ 4 (fun x ρ => ρ 22 = Value.bool x ∧ ρ 1 = (Value.pointer (some (Addr.mk b9 0 none))) ∧ True) (fun x w => J41 x ∧ w5 = w) ?_ ?_
    · clear hk
      rcases Bool.eq_false_or_eq_true (c40) with hc42 | hc42
      · replace h := h.1 hc42
        refine wpR_pass (wantN rfl rfl rfl hc42) rfl rfl ?_
        refine wpR_pass (wantN rfl rfl rfl hc42) rfl rfl ?_
        refine wpR_pass (wantN rfl rfl rfl hc42) rfl rfl ?_
        refine wpR_val (v := (Value.bool true)) (w' := w5) rfl rfl rfl (x_pickT (v := (Value.bool true)) rfl rfl hc42 rfl) ?_
        refine wpR_nil ?_
        exact ⟨true, ⟨rfl, e1, trivial⟩, h, rfl⟩
      · replace h := h.2 hc42
        refine wpR_val (v := (Value.pointer (some ((Addr.mk b9 0 none).add 10)))) (w' := w5) (wantG rfl rfl rfl hc42) rfl rfl (x_fieldAddr rfl e1 FA_24_10) ?_
        obtain ⟨x43, q43, h⟩ := h
        refine wpR_val (v := (Value.int .i64 x43)) (w' := w5) (wantG rfl rfl rfl hc42) rfl rfl (x_load1 rfl rfl SH_3 q43) ?_
        refine wpR_val (v := (Value.bool (decide (4 < x43)))) (w' := w5) (wantG rfl rfl rfl hc42) rfl rfl (x_gtr rfl rfl rfl) ?_
        refine wpR_val (v := (Value.bool (decide (4 < x43)))) (w' := w5) rfl rfl rfl (x_pickF (v := (Value.bool (decide (4 < x43)))) rfl rfl hc42 rfl) ?_
        refine wpR_nil ?_
        exact ⟨decide (4 < x43), ⟨rfl, e1, trivial⟩, h, rfl⟩
    clear h
    rintro c44 ρ wj ⟨e22, e1, -⟩ ⟨h, rfl⟩
    replace h := hk c44 h
    clear hk
    refine wpR_val (v := (Value.bool c44)) (w' := w5) rfl rfl rfl (x_move (v := (Value.bool c44)) rfl e22) ?_
    obtain ⟨J45, h, hk⟩ := h
    refine wpR_joinJ 4 (fun x ρ => ρ 27 = Value.bool x ∧ ρ 1 = (Value.pointer (some (Addr.mk b9 0 none))) ∧ True) (fun x w => J45 x ∧ w5 = w) ?_ ?_
    · clear hk
      rcases Bool.eq_false_or_eq_true (c44) with hc46 | hc46
      · replace h := h.1 hc46
        refine wpR_pass (wantN rfl rfl rfl hc46) rfl rfl ?_
        refine wpR_pass (wantN rfl rfl rfl hc46) rfl rfl ?_
        refine wpR_pass (wantN rfl rfl rfl hc46) rfl rfl ?_
        refine wpR_val (v := (Value.bool true)) (w' := w5) rfl rfl rfl (x_pickT (v := (Value.bool true)) rfl rfl hc46 rfl) ?_
        refine wpR_nil ?_
        exact ⟨true, ⟨rfl, e1, trivial⟩, h, rfl⟩
      · replace h := h.2 hc46
        refine wpR_val (v := (Value.pointer (some ((Addr.mk b9 0 none).add 11)))) (w' := w5) (wantG rfl rfl rfl hc46) rfl rfl (x_fieldAddr rfl e1 FA_24_11) ?_
        obtain ⟨x47, q47, h⟩ := h
        refine wpR_val (v := (Value.int .i64 x47)) (w' := w5) (wantG rfl rfl rfl hc46) rfl rfl (x_load1 rfl rfl SH_3 q47) ?_
        refine wpR_val (v := (Value.bool (decide (65536 < x47)))) (w' := w5) (wantG rfl rfl rfl hc46) rfl rfl (x_gtr rfl rfl rfl) ?_
        refine wpR_val (v := (Value.bool (decide (65536 < x47)))) (w' := w5) rfl rfl rfl (x_pickF (v := (Value.bool (decide (65536 < x47)))) rfl rfl hc46 rfl) ?_
        refine wpR_nil ?_
        exact ⟨decide (65536 < x47), ⟨rfl, e1, trivial⟩, h, rfl⟩
    clear h
    rintro c48 ρ wj ⟨e27, e1, -⟩ ⟨h, rfl⟩
    replace h := hk c48 h
    clear hk
    refine wpR_val (v := (Value.bool c48)) (w' := w5) rfl rfl rfl (x_move (v := (Value.bool c48)) rfl e27) ?_
    obtain ⟨J49, h, hk⟩ := h
    refine wpR_joinJ 4 (fun x ρ => ρ 32 = Value.bool x ∧ ρ 1 = (Value.pointer (some (Addr.mk b9 0 none))) ∧ True) (fun x w => J49 x ∧ w5 = w) ?_ ?_
    · clear hk
      rcases Bool.eq_false_or_eq_true (c48) with hc50 | hc50
      · replace h := h.1 hc50
        refine wpR_pass (wantN rfl rfl rfl hc50) rfl rfl ?_
        refine wpR_pass (wantN rfl rfl rfl hc50) rfl rfl ?_
        refine wpR_pass (wantN rfl rfl rfl hc50) rfl rfl ?_
        refine wpR_val (v := (Value.bool true)) (w' := w5) rfl rfl rfl (x_pickT (v := (Value.bool true)) rfl rfl hc50 rfl) ?_
        refine wpR_nil ?_
        exact ⟨true, ⟨rfl, e1, trivial⟩, h, rfl⟩
      · replace h := h.2 hc50
        refine wpR_val (v := (Value.pointer (some ((Addr.mk b9 0 none).add 18)))) (w' := w5) (wantG rfl rfl rfl hc50) rfl rfl (x_fieldAddr rfl e1 FA_24_18) ?_
        obtain ⟨x51, q51, h⟩ := h
        refine wpR_val (v := (Value.int .i64 x51)) (w' := w5) (wantG rfl rfl rfl hc50) rfl rfl (x_load1 rfl rfl SH_3 q51) ?_
        refine wpR_val (v := (Value.bool (decide (x51 < 1)))) (w' := w5) (wantG rfl rfl rfl hc50) rfl rfl (x_lss rfl rfl rfl) ?_
        refine wpR_val (v := (Value.bool (decide (x51 < 1)))) (w' := w5) rfl rfl rfl (x_pickF (v := (Value.bool (decide (x51 < 1)))) rfl rfl hc50 rfl) ?_
        refine wpR_nil ?_
        exact ⟨decide (x51 < 1), ⟨rfl, e1, trivial⟩, h, rfl⟩
    clear h
    rintro c52 ρ wj ⟨e32, e1, -⟩ ⟨h, rfl⟩
    replace h := hk c52 h
    clear hk
    refine wpR_val (v := (Value.bool c52)) (w' := w5) rfl rfl rfl (x_move (v := (Value.bool c52)) rfl e32) ?_
    obtain ⟨J53, h, hk⟩ := h
    refine wpR_joinJ 11 (fun x ρ => ρ 44 = Value.bool x ∧ ρ 1 = (Value.pointer (some (Addr.mk b9 0 none))) ∧ True) (fun x w => J53 x ∧ w5 = w) ?_ ?_
    · clear hk
      rcases Bool.eq_false_or_eq_true (c52) with hc54 | hc54
      · replace h := h.1 hc54
        refine wpR_pass (wantN rfl rfl rfl hc54) rfl rfl ?_
        refine wpR_pass (wantN rfl rfl rfl hc54) rfl rfl ?_
        refine wpR_pass (wantN rfl rfl rfl hc54) rfl rfl ?_
        refine wpR_pass (wantN rfl rfl rfl hc54) rfl rfl ?_
        refine wpR_pass (wantU rfl rfl rfl) rfl rfl ?_
        refine wpR_pass (wantU rfl rfl rfl) rfl rfl ?_
        refine wpR_pass (wantU rfl rfl rfl) rfl rfl ?_
        refine wpR_pass (wantU rfl rfl rfl) rfl rfl ?_
        refine wpR_pass (wantU rfl rfl rfl) rfl rfl ?_
        refine wpR_pass (wantN rfl rfl rfl hc54) rfl rfl ?_
        refine wpR_val (v := (Value.bool true)) (w' := w5) rfl rfl rfl (x_pickT (v := (Value.bool true)) rfl rfl hc54 rfl) ?_
        refine wpR_nil ?_
        exact ⟨true, ⟨rfl, e1, trivial⟩, h, rfl⟩
      · replace h := h.2 hc54
        refine wpR_val (v := (Value.pointer (some ((Addr.mk b9 0 none).add 19)))) (w' := w5) (wantG rfl rfl rfl hc54) rfl rfl (x_fieldAddr rfl e1 FA_24_19) ?_
        obtain ⟨x55, q55, h⟩ := h
        refine wpR_val (v := (Value.int .i64 x55)) (w' := w5) (wantG rfl rfl rfl hc54) rfl rfl (x_load1 rfl rfl SH_3 q55) ?_
        refine wpR_val (v := (Value.bool (!decide (x55 = 0)))) (w' := w5) (wantG rfl rfl rfl hc54) rfl rfl (x_neq rfl rfl rfl) ?_
        refine wpR_val (v := (Value.bool (!decide (x55 = 0)))) (w' := w5) (wantG rfl rfl rfl hc54) rfl rfl (x_move (v := (Value.bool (!decide (x55 = 0)))) rfl rfl) ?_
        obtain ⟨J56, h, hk⟩ := h
        refine wpR_joinJ 6 (fun x ρ => ρ 43 = Value.bool x ∧ ρ 1 = (Value.pointer (some (Addr.mk b9 0 none))) ∧ ρ 33 = (Value.bool c52) ∧ True) (fun x w => J56 x ∧ w5 = w) ?_ ?_
        · clear hk
          rcases Bool.eq_false_or_eq_true (!decide (x55 = 0)) with hc57 | hc57
          · replace h := h.1 hc57
            refine wpR_val (v := (Value.pointer (some ((Addr.mk b9 0 none).add 19)))) (w' := w5) (wantG rfl rfl rfl hc57) rfl rfl (x_fieldAddr rfl e1 FA_24_19) ?_
            obtain ⟨x58, q58, h⟩ := h
            refine wpR_val (v := (Value.int .i64 x58)) (w' := w5) (wantG rfl rfl rfl hc57) rfl rfl (x_load1 rfl rfl SH_3 q58) ?_
            refine wpR_val (v := (Value.pointer (some ((Addr.mk b9 0 none).add 20)))) (w' := w5) (wantG rfl rfl rfl hc57) rfl rfl (x_fieldAddr rfl e1 FA_24_20) ?_
            obtain ⟨x59, q59, h⟩ := h
            refine wpR_val (v := (Value.int .i64 x59)) (w' := w5) (wantG rfl rfl rfl hc57) rfl rfl (x_load1 rfl rfl SH_3 q59) ?_
            refine wpR_val (v := (Value.bool (decide (x59 ≤ x58)))) (w' := w5) (wantG rfl rfl rfl hc57) rfl rfl (x_geq rfl rfl rfl) ?_
            refine wpR_val (v := (Value.bool (decide (x59 ≤ x58)))) (w' := w5) (wantG rfl rfl rfl hc54) rfl rfl (x_pickT (v := (Value.bool (decide (x59 ≤ x58)))) rfl rfl hc57 rfl) ?_
            refine wpR_nil ?_
            exact ⟨decide (x59 ≤ x58), ⟨rfl, e1, rfl, trivial⟩, h, rfl⟩
          · replace h := h.2 hc57
            refine wpR_pass (wantN rfl rfl rfl hc57) rfl rfl ?_
            refine wpR_pass (wantN rfl rfl rfl hc57) rfl rfl ?_
            refine wpR_pass (wantN rfl rfl rfl hc57) rfl rfl ?_
            refine wpR_pass (wantN rfl rfl rfl hc57) rfl rfl ?_
            refine wpR_pass (wantN rfl rfl rfl hc57) rfl rfl ?_
            refine wpR_val (v := (Value.bool false)) (w' := w5) (wantG rfl rfl rfl hc54) rfl rfl (x_pickF (v := (Value.bool false)) rfl rfl hc57 rfl) ?_
            refine wpR_nil ?_
            exact ⟨false, ⟨rfl, e1, rfl, trivial⟩, h, rfl⟩
        clear h
        rintro c60 ρ wj ⟨e43, e1, e33, -⟩ ⟨h, rfl⟩
        replace h := hk c60 h
        clear hk
        refine wpR_val (v := (Value.bool c60)) (w' := w5) rfl rfl rfl (x_pickF (v := (Value.bool c60)) rfl e33 hc54 e43) ?_
        refine wpR_nil ?_
        exact ⟨c60, ⟨rfl, e1, trivial⟩, h, rfl⟩
    clear h
    rintro c61 ρ wj ⟨e44, e1, -⟩ ⟨h, rfl⟩
    replace h := hk c61 h
    clear hk
    refine wpR_val (v := (Value.bool c61)) (w' := w5) rfl rfl rfl (x_move (v := (Value.bool c61)) rfl e44) ?_
    obtain ⟨J62, h, hk⟩ := h
    refine wpR_joinJ 4 (fun x ρ => ρ 49 = Value.bool x ∧ ρ 1 = (Value.pointer (some (Addr.mk b9 0 none))) ∧ True) (J62) ?_ ?_
    · clear hk
      rcases Bool.eq_false_or_eq_true (c61) with hc63 | hc63
      · replace h := h.1 hc63
        refine wpR_pass (wantN rfl rfl rfl hc63) rfl rfl ?_
        refine wpR_pass (wantN rfl rfl rfl hc63) rfl rfl ?_
        refine wpR_pass (wantN rfl rfl rfl hc63) rfl rfl ?_
        refine wpR_val (v := (Value.bool true)) (w' := w5) rfl rfl rfl (x_pickT (v := (Value.bool true)) rfl rfl hc63 rfl) ?_
        refine wpR_nil ?_
        exact ⟨true, ⟨rfl, e1, trivial⟩, h⟩
      · replace h := h.2 hc63
        obtain ⟨x64, q64, x65, q65, x66, q66, x67, q67, x68, q68, x69, q69, x70, q70, x71, q71, x72, q72, x73, q73, x74, q74, x75, q75, x76, q76, x77, q77, x78, q78, x79, q79, x80, q80, x81, q81, x82, q82, x83, q83, x84, q84, x85, q85, h⟩ := h
        refine wpR_val (v := (V23 x64 x65 x66 x67 x68 x69 x70 x71 x72 x73 x74 x75 x76 x77 x78 x79 x80 x81 x82 x83 x84 x85)) (w' := w5) (wantG rfl rfl rfl hc63) rfl rfl (x_loadN (S23 x64 x65 x66 x67 x68 x69 x70 x71 x72 x73 x74 x75 x76 x77 x78 x79 x80 x81 x82 x83 x84 x85) rfl e1 SH_24 (K23 ⟨q64, q65, q66, q67, q68, q69, q70, q71, q72, q73, q74, q75, q76, q77, q78, q79, q80, q81, q82, q83, q84, q85⟩)) ?_
        refine wpR_enter (wantG rfl rfl rfl hc63) rfl rfl (x_call (vs := [(V23 x64 x65 x66 x67 x68 x69 x70 x71 x72 x73 x74 x75 x76 x77 x78 x79 x80 x81 x82 x83 x84 x85)]) rfl rfl (mapl_cons rfl mapl_nil) Try.func41 NN_41 NB_41) (Calls.mono h ?_)
        rintro _ w6 ⟨r86, rfl, h⟩
        refine ⟨_, rfl, ?_⟩
        refine wpR_val (v := (Value.bool (!r86))) (w' := w6) (wantG rfl rfl rfl hc63) rfl rfl (x_not rfl rfl) ?_
        refine wpR_val (v := (Value.bool (!r86))) (w' := w6) rfl rfl rfl (x_pickF (v := (Value.bool (!r86))) rfl rfl hc63 rfl) ?_
        refine wpR_nil ?_
        exact ⟨!r86, ⟨rfl, e1, trivial⟩, h⟩
    clear h
    rintro c87 ρ w7 ⟨e49, e1, -⟩ h
    replace h := hk c87 w7 h
    clear hk
    refine wpR_nil ?_
    refine wpC_cond (b := c87) e49 (fun hc88 => ?_) (fun hc88 => ?_)
    · replace h := h.1 hc88
      refine wpC_seq ?_
      refine wpC_region ?_
      refine wpR_val (v := (Value.int .i64 3)) (w' := w7) rfl rfl rfl (x_assign (v := (Value.int .i64 3)) rfl rfl) ?_
      refine wpR_nil ?_
      refine wpC_ret ?_
      exact ⟨.inl rfl, fun a ha => ⟨_, results_rep1 rfl ha rfl, 3, rfl, h⟩⟩
    · replace h := h.2 hc88
      refine wpC_skip ?_
      refine wpC_seq ?_
      refine wpC_seq ?_
      refine wpC_region ?_
      refine wpR_val (v := (Value.pointer (some ((Addr.mk b9 0 none).add 12)))) (w' := w7) rfl rfl rfl (x_fieldAddr rfl e1 FA_24_12) ?_
      obtain ⟨x89, q89, h⟩ := h
      refine wpR_val (v := (Sl.v x89)) (w' := w7) rfl rfl rfl (x_load1 rfl rfl SH_22 q89) ?_
      refine wpR_val (v := (Value.int .i64 (x89.len : Int))) (w' := w7) rfl rfl rfl (x_lenS (s := x89) rfl rfl isSliceT_22) ?_
      refine wpR_val (v := (Value.int .i64 0)) (w' := w7) rfl rfl rfl (x_move (v := (Value.int .i64 0)) rfl rfl) ?_
      refine wpR_nil ?_
      refine wpC_block ?_
      obtain ⟨I90, μ90, hI90, hr90⟩ := h
      refine wpC_loop (fun (x : Int) ρ => ρ 53 = (Value.int .i64 x) ∧ ρ 1 = (Value.pointer (some (Addr.mk b9 0 none))) ∧ ρ 51 = (Sl.v x89) ∧ ρ 52 = (Value.int .i64 (x89.len : Int)) ∧ True) I90 μ90 0 ⟨rfl, e1, rfl, rfl, trivial⟩ hI90 ?_
      rintro l90 ρ w8 ⟨e53, e1, e51, e52, -⟩ h
      replace h := hr90 l90 w8 h
      clear hr90 hI90
      refine wpC_seq ?_
      refine wpC_region ?_
      refine wpR_val (v := (Value.bool (decide (l90 < (x89.len : Int))))) (w' := w8) rfl rfl rfl (x_lss rfl e53 e52) ?_
      refine wpR_nil ?_
      refine wpC_seq ?_
      refine wpC_cond (b := decide (l90 < (x89.len : Int))) rfl (fun hc91 => ?_) (fun hc91 => ?_)
      · replace h := h.1 hc91
        refine wpC_skip ?_
        refine wpC_seq ?_
        refine wpC_block ?_
        refine wpC_seq ?_
        refine wpC_cut (fun ρ => ρ 1 = (Value.pointer (some (Addr.mk b9 0 none))) ∧ ρ 51 = (Sl.v x89) ∧ ρ 52 = (Value.int .i64 (x89.len : Int)) ∧ ρ 53 = (Value.int .i64 l90) ∧ True) ⟨e1, e51, e52, e53, trivial⟩ ?_
        rintro ρ ⟨e1, e51, e52, e53, -⟩
        refine wpC_region ?_
        refine wpR_val (v := (Value.int .i64 l90)) (w' := w8) rfl rfl rfl (x_move (v := (Value.int .i64 l90)) rfl e53) ?_
        obtain ⟨q92, z92, r92, h⟩ := h
        generalize hp92 : z92.add ((l90 : Int).toNat * 1) = p92 at h
        refine wpR_val (v := (Value.pointer (some p92))) (w' := w8) rfl rfl rfl ((x_indexAddr (s := x89) rfl e51 e53 ES_22 q92 r92).trans (by rw [hp92])) ?_
        obtain ⟨x93, q93, h⟩ := h
        refine wpR_val (v := (Value.string x93)) (w' := w8) rfl rfl rfl (x_load1 rfl rfl SH_9 q93) ?_
        refine wpR_val (v := (Value.int .i64 l90)) (w' := w8) rfl rfl rfl (x_assign (v := (Value.int .i64 l90)) rfl rfl) ?_
        refine wpR_val (v := (Value.string x93)) (w' := w8) rfl rfl rfl (x_assign (v := (Value.string x93)) rfl rfl) ?_
        refine wpR_nil ?_
        refine wpC_seq ?_
        refine wpC_cut (fun ρ => ρ 1 = (Value.pointer (some (Addr.mk b9 0 none))) ∧ ρ 3 = (Value.int .i64 l90) ∧ ρ 4 = (Value.string x93) ∧ ρ 51 = (Sl.v x89) ∧ ρ 52 = (Value.int .i64 (x89.len : Int)) ∧ ρ 53 = (Value.int .i64 l90) ∧ True) ⟨e1, rfl, rfl, e51, e52, e53, trivial⟩ ?_
        rintro ρ ⟨e1, e3, e4, e51, e52, e53, -⟩
        refine wpC_region ?_
        refine wpR_val (v := (Value.pointer (some ((Addr.mk b9 0 none).add 12)))) (w' := w8) rfl rfl rfl (x_fieldAddr rfl e1 FA_24_12) ?_
        obtain ⟨x94, q94, h⟩ := h
        refine wpR_val (v := (Sl.v x94)) (w' := w8) rfl rfl rfl (x_load1 rfl rfl SH_22 q94) ?_
        refine wpR_val (v := (Value.int .i64 l90)) (w' := w8) rfl rfl rfl (x_move (v := (Value.int .i64 l90)) rfl e3) ?_
        obtain ⟨r95, w9, q95, h⟩ := h
        refine wpR_val (v := (Sl.v r95)) (w' := w9) rfl rfl rfl (x_sliceAt rfl rfl rfl (congrArg some rfl) rfl q95) ?_
        refine wpR_val (v := (Value.string x93)) (w' := w9) rfl rfl rfl (x_move (v := (Value.string x93)) rfl e4) ?_
        refine wpR_enter rfl rfl rfl (x_call (vs := [(Sl.v r95), (Value.string x93)]) rfl rfl (mapl_cons rfl (mapl_cons rfl mapl_nil)) Try.func42 NN_42 NB_42) (Calls.mono h ?_)
        rintro _ w10 ⟨r96, rfl, h⟩
        refine ⟨_, rfl, ?_⟩
        refine wpR_nil ?_
        refine wpC_cond (b := r96) rfl (fun hc97 => ?_) (fun hc97 => ?_)
        · replace h := h.1 hc97
          refine wpC_seq ?_
          refine wpC_cut (fun ρ => True) trivial ?_
          rintro ρ -
          refine wpC_region ?_
          refine wpR_val (v := (Value.int .i64 5)) (w' := w10) rfl rfl rfl (x_assign (v := (Value.int .i64 5)) rfl rfl) ?_
          refine wpR_nil ?_
          refine wpC_ret ?_
          exact ⟨.inl rfl, fun a ha => ⟨_, results_rep1 rfl ha rfl, 5, rfl, h⟩⟩
        · replace h := h.2 hc97
          refine wpC_skip ?_
          refine wpC_cut (fun ρ => ρ 1 = (Value.pointer (some (Addr.mk b9 0 none))) ∧ ρ 51 = (Sl.v x89) ∧ ρ 52 = (Value.int .i64 (x89.len : Int)) ∧ ρ 53 = (Value.int .i64 l90) ∧ True) ⟨e1, e51, e52, e53, trivial⟩ ?_
          rintro ρ ⟨e1, e51, e52, e53, -⟩
          refine wpC_region ?_
          refine wpR_val (v := (Value.int .i64 (IntKind.i64.wrap (l90 + 1)))) (w' := w10) rfl rfl rfl (x_add rfl e53 rfl) ?_
          refine wpR_val (v := (Value.int .i64 (IntKind.i64.wrap (l90 + 1)))) (w' := w10) rfl rfl rfl (x_move (v := (Value.int .i64 (IntKind.i64.wrap (l90 + 1)))) rfl rfl) ?_
          refine wpR_nil ?_
          exact ⟨IntKind.i64.wrap (l90 + 1), ⟨rfl, e1, e51, e52, trivial⟩, h⟩
      · replace h := h.2 hc91
        refine wpC_exit ?_
        refine wpC_seq ?_
        refine wpC_cut (fun ρ => True) trivial ?_
        rintro ρ -
        refine wpC_region ?_
        refine wpR_val (v := (Value.int .i64 0)) (w' := w8) rfl rfl rfl (x_assign (v := (Value.int .i64 0)) rfl rfl) ?_
        refine wpR_nil ?_
        refine wpC_ret ?_
        exact ⟨.inl rfl, fun a ha => ⟨_, results_rep1 rfl ha rfl, 0, rfl, h⟩⟩


end Go.Proofs.Ytnoahloppffndaa
