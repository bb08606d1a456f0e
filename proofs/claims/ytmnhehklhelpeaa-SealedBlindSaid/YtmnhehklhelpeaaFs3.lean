import Derived.Test.YtmnhehklhelpeaaRows
import Derived.Test.YtmnhehklhelpeaaFs1
import Derived.Test.YtmnhehklhelpeaaDecRaw
namespace Go.Proofs.Ytmnhehklhelpeaa
open Go.Dec
set_option maxHeartbeats 400000
set_option maxRecDepth 100000

/-- (*sealed.Safe).Open -/
def F10 (p0 : Option Addr) (p1 : Int) (p2 : Sl) (w0 : World) (K : (ByteArray × Int) → World → Prop) : Prop :=
  jp (fun J9 => cnd (decide (p1 < 0))
    (
    J9 true
    )
    (
    nn p0 fun a11 =>
    ld Sl.v (a11.add 1) w0 fun x12 =>
    J9 (decide ((x12.len : Int) ≤ p1))
    ))
  fun c13 =>
  cnd (c13)
    (
    K (ByteArray.mk #[], 4) w0
    )
    (
    nn p0 fun a15 =>
    ld Sl.v (a15.add 1) w0 fun x16 =>
    ix x16 p1 3 fun p17 =>
    ld (Value.int .i64) (p17.add 0) w0 fun x18 =>
    ld (Value.int .i64) (p17.add 1) w0 fun x19 =>
    ld (Value.int .i64) (p17.add 2) w0 fun x20 =>
    nw 69 #[(Value.int .i64 0), (Value.int .i64 0), (Value.int .i64 0)] w0 fun b21 w1 =>
    st (Addr.mk b21 0 none) [(Value.int .i64 x18), (Value.int .i64 x19), (Value.int .i64 x20)] w1 fun w2 =>
    ld (Value.int .i64) ((Addr.mk b21 0 none).add 2) w2 fun x23 =>
    callC Try.prog 28 #[(Sl.v p2), (Value.int .i64 x23)] (fun (r : Int × Int) => (Value.tuple #[(Value.int .i64 r.1), (Value.int .i64 r.2)])) w2 fun r24 w3 =>
    cnd (!decide (r24.2 = 0))
      (
      K (ByteArray.mk #[], r24.2) w3
      )
      (
      jn (fun (J27 : (ByteArray × Int) → World → Prop) => tk w3 fun w4 =>
        nn p0 fun a28 =>
        ld Value.pointer ((a28.add 0).add 0) w4 fun x29 =>
        ld (Value.int .i64) ((Addr.mk b21 0 none).add 1) w4 fun x30 =>
        callC Try.prog 29 #[(Value.pointer x29), (Value.int .i64 r24.1), (Value.int .i64 x30)] (fun (r : ByteArray × Int) => (Value.tuple #[(Value.string r.1), (Value.int .i64 r.2)])) w4 fun r31 w5 =>
        J27 (r31.1, r31.2) w5
      )
      fun l32 w6 =>
      K (l32.1, l32.2) w6
      )
    )
set_option maxRecDepth 100000 in
theorem D10 (p0 : Option Addr) (p1 : Int) (p2 : Sl) (w0 : World) (K : (ByteArray × Int) → World → Prop) (h : F10 p0 p1 p2 w0 K) : callC Try.prog 10 #[(Value.pointer p0), (Value.int .i64 p1), (Sl.v p2)] (fun (r : ByteArray × Int) => (Value.tuple #[(Value.string r.1), (Value.int .i64 r.2)])) w0 K := by
  unfold F10 at h
  refine calls_of_wpC Try.func10 rfl 50 rfl (by simp) ?_
  intro ρ hρ
  have e0 : ρ 0 = (Value.pointer p0) := hρ 0
  have e1 : ρ 1 = (Value.int .i64 p1) := hρ 1
  have e2 : ρ 2 = (Sl.v p2) := hρ 2
  clear hρ
  refine wpC_seq ?_
  refine wpC_region ?_
  refine wpR_val (v := (Value.string (ByteArray.mk #[]))) (w' := w0) rfl rfl rfl (x_assign (v := (Value.string (ByteArray.mk #[]))) rfl rfl) ?_
  refine wpR_val (v := (Value.int .i64 0)) (w' := w0) rfl rfl rfl (x_assign (v := (Value.int .i64 0)) rfl rfl) ?_
  refine wpR_nil ?_
  refine wpC_seq ?_
  refine wpC_seq ?_
  refine wpC_cut (fun ρ => ρ 0 = (Value.pointer p0) ∧ ρ 1 = (Value.int .i64 p1) ∧ ρ 2 = (Sl.v p2) ∧ True) ⟨e0, e1, e2, trivial⟩ ?_
  rintro ρ ⟨e0, e1, e2, -⟩
  refine wpC_region ?_
  refine wpR_val (v := (Value.int .i64 p1)) (w' := w0) rfl rfl rfl (x_move (v := (Value.int .i64 p1)) rfl e1) ?_
  refine wpR_val (v := (Value.bool (decide (p1 < 0)))) (w' := w0) rfl rfl rfl (x_lss rfl rfl rfl) ?_
  refine wpR_val (v := (Value.bool (decide (p1 < 0)))) (w' := w0) rfl rfl rfl (x_move (v := (Value.bool (decide (p1 < 0)))) rfl rfl) ?_
  obtain ⟨J9, h, hk⟩ := h
  refine wpR_joinJ 8 (fun x ρ => ρ 21 = Value.bool x ∧ ρ 0 = (Value.pointer p0) ∧ ρ 1 = (Value.int .i64 p1) ∧ ρ 2 = (Sl.v p2) ∧ True) (fun x w => J9 x ∧ w0 = w) ?_ ?_
  · clear hk
    rcases Bool.eq_false_or_eq_true (decide (p1 < 0)) with hc10 | hc10
    · replace h := h.1 hc10
      refine wpR_pass (wantN rfl rfl rfl hc10) rfl rfl ?_
      refine wpR_pass (wantN rfl rfl rfl hc10) rfl rfl ?_
      refine wpR_pass (wantN rfl rfl rfl hc10) rfl rfl ?_
      refine wpR_pass (wantN rfl rfl rfl hc10) rfl rfl ?_
      refine wpR_pass (wantN rfl rfl rfl hc10) rfl rfl ?_
      refine wpR_pass (wantN rfl rfl rfl hc10) rfl rfl ?_
      refine wpR_pass (wantN rfl rfl rfl hc10) rfl rfl ?_
      refine wpR_val (v := (Value.bool true)) (w' := w0) rfl rfl rfl (x_pickT (v := (Value.bool true)) rfl rfl hc10 rfl) ?_
      refine wpR_nil ?_
      exact ⟨true, ⟨rfl, e0, e1, e2, trivial⟩, h, rfl⟩
    · replace h := h.2 hc10
      refine wpR_val (v := (Value.int .i64 p1)) (w' := w0) (wantG rfl rfl rfl hc10) rfl rfl (x_move (v := (Value.int .i64 p1)) rfl e1) ?_
      refine wpR_val (v := (Value.pointer p0)) (w' := w0) (wantG rfl rfl rfl hc10) rfl rfl (x_move (v := (Value.pointer p0)) rfl e0) ?_
      obtain ⟨a11, q11, h⟩ := h
      refine wpR_val (v := (Value.pointer (some a11))) (w' := w0) (wantG rfl rfl rfl hc10) rfl rfl (x_nilCheck rfl rfl q11) ?_
      refine wpR_val (v := (Value.pointer (some (a11.add 1)))) (w' := w0) (wantG rfl rfl rfl hc10) rfl rfl (x_fieldAddr rfl rfl FA_63_1) ?_
      obtain ⟨x12, q12, h⟩ := h
      refine wpR_val (v := (Sl.v x12)) (w' := w0) (wantG rfl rfl rfl hc10) rfl rfl (x_load1 rfl rfl SH_61 q12) ?_
      refine wpR_val (v := (Value.int .i64 (x12.len : Int))) (w' := w0) (wantG rfl rfl rfl hc10) rfl rfl (x_lenS (s := x12) rfl rfl isSliceT_61) ?_
      refine wpR_val (v := (Value.bool (decide ((x12.len : Int) ≤ p1)))) (w' := w0) (wantG rfl rfl rfl hc10) rfl rfl (x_geq rfl rfl rfl) ?_
      refine wpR_val (v := (Value.bool (decide ((x12.len : Int) ≤ p1)))) (w' := w0) rfl rfl rfl (x_pickF (v := (Value.bool (decide ((x12.len : Int) ≤ p1)))) rfl rfl hc10 rfl) ?_
      refine wpR_nil ?_
      exact ⟨decide ((x12.len : Int) ≤ p1), ⟨rfl, e0, e1, e2, trivial⟩, h, rfl⟩
  clear h
  rintro c13 ρ wj ⟨e21, e0, e1, e2, -⟩ ⟨h, rfl⟩
  replace h := hk c13 h
  clear hk
  refine wpR_nil ?_
  refine wpC_cond (b := c13) e21 (fun hc14 => ?_) (fun hc14 => ?_)
  · replace h := h.1 hc14
    refine wpC_seq ?_
    refine wpC_region ?_
    refine wpR_val (v := (Value.string (ByteArray.mk #[]))) (w' := w0) rfl rfl rfl (x_assign (v := (Value.string (ByteArray.mk #[]))) rfl rfl) ?_
    refine wpR_val (v := (Value.int .i64 4)) (w' := w0) rfl rfl rfl (x_assign (v := (Value.int .i64 4)) rfl rfl) ?_
    refine wpR_nil ?_
    refine wpC_ret ?_
    exact ⟨.inl rfl, fun a ha => ⟨_, results_rep2 rfl ha rfl rfl, (ByteArray.mk #[], 4), rfl, h⟩⟩
  · replace h := h.2 hc14
    refine wpC_skip ?_
    refine wpC_seq ?_
    refine wpC_region ?_
    refine wpR_val (v := (Value.pointer p0)) (w' := w0) rfl rfl rfl (x_move (v := (Value.pointer p0)) rfl e0) ?_
    obtain ⟨a15, q15, h⟩ := h
    refine wpR_val (v := (Value.pointer (some a15))) (w' := w0) rfl rfl rfl (x_nilCheck rfl rfl q15) ?_
    refine wpR_val (v := (Value.pointer (some (a15.add 1)))) (w' := w0) rfl rfl rfl (x_fieldAddr rfl rfl FA_63_1) ?_
    obtain ⟨x16, q16, h⟩ := h
    refine wpR_val (v := (Sl.v x16)) (w' := w0) rfl rfl rfl (x_load1 rfl rfl SH_61 q16) ?_
    refine wpR_val (v := (Value.int .i64 p1)) (w' := w0) rfl rfl rfl (x_move (v := (Value.int .i64 p1)) rfl e1) ?_
    obtain ⟨q17, z17, r17, h⟩ := h
    generalize hp17 : z17.add ((p1 : Int).toNat * 3) = p17 at h
    refine wpR_val (v := (Value.pointer (some p17))) (w' := w0) rfl rfl rfl ((x_indexAddr (s := x16) rfl rfl rfl ES_61 q17 r17).trans (by rw [hp17])) ?_
    obtain ⟨x18, q18, x19, q19, x20, q20, h⟩ := h
    refine wpR_val (v := (Value.agg #[(Value.int .i64 x18), (Value.int .i64 x19), (Value.int .i64 x20)])) (w' := w0) rfl rfl rfl (x_loadN [(Value.int .i64 x18), (Value.int .i64 x19), (Value.int .i64 x20)] rfl rfl SH_69 (CellsAt.out (CellsAt.cons q18 (CellsAt.cons q19 (CellsAt.cons q20 CellsAt.nil))))) ?_
    obtain ⟨b21, hb21⟩ : ∃ u, u = w0.heap.size := ⟨_, rfl⟩
    obtain ⟨w1, hw21⟩ : ∃ u, u = w0.alloc (.cells #[(Value.int .i64 0), (Value.int .i64 0), (Value.int .i64 0)] 69) := ⟨_, rfl⟩
    replace h := h b21 w1 hb21 hw21
    refine wpR_val (v := (Value.pointer (some (Addr.mk b21 0 none)))) (w' := w1) rfl rfl rfl ((x_alloc rfl ZV_69).trans (by rw [hb21, hw21]; rfl)) ?_
    obtain ⟨q22, h⟩ := h
    obtain ⟨w2, hw22⟩ : ∃ u, u = setAll w1 (Addr.mk b21 0 none) [(Value.int .i64 x18), (Value.int .i64 x19), (Value.int .i64 x20)] 0 := ⟨_, rfl⟩
    replace h := h w2 hw22
    refine wpR_skp (w' := w2) rfl rfl ((x_store (v := (Value.agg #[(Value.int .i64 x18), (Value.int .i64 x19), (Value.int .i64 x20)])) rfl rfl rfl SZ_69 (ones (by rfl)) q22).trans (by rw [hw22]; rfl)) ?_
    refine wpR_nil ?_
    refine wpC_seq ?_
    refine wpC_cut (fun ρ => ρ 0 = (Value.pointer p0) ∧ ρ 2 = (Sl.v p2) ∧ ρ 8 = (Value.pointer (some (Addr.mk b21 0 none))) ∧ True) ⟨e0, e2, rfl, trivial⟩ ?_
    rintro ρ ⟨e0, e2, e8, -⟩
    refine wpC_region ?_
    refine wpR_val (v := (Sl.v p2)) (w' := w2) rfl rfl rfl (x_move (v := (Sl.v p2)) rfl e2) ?_
    refine wpR_val (v := (Value.pointer (some ((Addr.mk b21 0 none).add 2)))) (w' := w2) rfl rfl rfl (x_fieldAddr rfl e8 FA_69_2) ?_
    obtain ⟨x23, q23, h⟩ := h
    refine wpR_val (v := (Value.int .i64 x23)) (w' := w2) rfl rfl rfl (x_load1 rfl rfl SH_3 q23) ?_
    refine wpR_enter rfl rfl rfl (x_call (vs := [(Sl.v p2), (Value.int .i64 x23)]) rfl rfl (mapl_cons rfl (mapl_cons rfl mapl_nil)) Try.func28 NN_28 NB_28) (Calls.mono h ?_)
    rintro _ w3 ⟨r24, rfl, h⟩
    refine ⟨_, rfl, ?_⟩
    refine wpR_val (v := (Value.tuple #[(Value.int .i64 r24.1), (Value.int .i64 r24.2)])) (w' := w3) rfl rfl rfl (x_move (v := (Value.tuple #[(Value.int .i64 r24.1), (Value.int .i64 r24.2)])) rfl rfl) ?_
    refine wpR_val (v := (Value.int .i64 r24.1)) (w' := w3) rfl rfl rfl (x_extract rfl rfl rfl) ?_
    refine wpR_val (v := (Value.int .i64 r24.2)) (w' := w3) rfl rfl rfl (x_extract rfl rfl rfl) ?_
    refine wpR_val (v := (Value.int .i64 r24.1)) (w' := w3) rfl rfl rfl (x_assign (v := (Value.int .i64 r24.1)) rfl rfl) ?_
    refine wpR_val (v := (Value.int .i64 r24.2)) (w' := w3) rfl rfl rfl (x_assign (v := (Value.int .i64 r24.2)) rfl rfl) ?_
    refine wpR_nil ?_
    refine wpC_seq ?_
    refine wpC_seq ?_
    refine wpC_cut (fun ρ => ρ 0 = (Value.pointer p0) ∧ ρ 8 = (Value.pointer (some (Addr.mk b21 0 none))) ∧ ρ 9 = (Value.int .i64 r24.1) ∧ ρ 10 = (Value.int .i64 r24.2) ∧ True) ⟨e0, e8, rfl, rfl, trivial⟩ ?_
    rintro ρ ⟨e0, e8, e9, e10, -⟩
    refine wpC_region ?_
    refine wpR_val (v := (Value.int .i64 r24.2)) (w' := w3) rfl rfl rfl (x_move (v := (Value.int .i64 r24.2)) rfl e10) ?_
    refine wpR_val (v := (Value.bool (!decide (r24.2 = 0)))) (w' := w3) rfl rfl rfl (x_neq rfl rfl rfl) ?_
    refine wpR_nil ?_
    refine wpC_cond (b := !decide (r24.2 = 0)) rfl (fun hc25 => ?_) (fun hc25 => ?_)
    · replace h := h.1 hc25
      refine wpC_seq ?_
      refine wpC_cut (fun ρ => ρ 10 = (Value.int .i64 r24.2) ∧ True) ⟨e10, trivial⟩ ?_
      rintro ρ ⟨e10, -⟩
      refine wpC_region ?_
      refine wpR_val (v := (Value.int .i64 r24.2)) (w' := w3) rfl rfl rfl (x_move (v := (Value.int .i64 r24.2)) rfl e10) ?_
      refine wpR_val (v := (Value.string (ByteArray.mk #[]))) (w' := w3) rfl rfl rfl (x_assign (v := (Value.string (ByteArray.mk #[]))) rfl rfl) ?_
      refine wpR_val (v := (Value.int .i64 r24.2)) (w' := w3) rfl rfl rfl (x_assign (v := (Value.int .i64 r24.2)) rfl rfl) ?_
      refine wpR_nil ?_
      refine wpC_ret ?_
      exact ⟨.inl rfl, fun a ha => ⟨_, results_rep2 rfl ha rfl rfl, (ByteArray.mk #[], r24.2), rfl, h⟩⟩
    · replace h := h.2 hc25
      refine wpC_skip ?_
      refine wpC_seq ?_
      refine wpC_cut (fun ρ => ρ 0 = (Value.pointer p0) ∧ ρ 8 = (Value.pointer (some (Addr.mk b21 0 none))) ∧ ρ 9 = (Value.int .i64 r24.1) ∧ True) ⟨e0, e8, e9, trivial⟩ ?_
      rintro ρ ⟨e0, e8, e9, -⟩
      obtain ⟨J27, h, hk⟩ := h
      refine wpC_drawJ (by kernel_rfl) (fun (x : ByteArray × Int) ρ => ρ 6 = (Value.string x.1) ∧ ρ 7 = (Value.int .i64 x.2) ∧ True) J27 ?_ ?_
      · clear hk
        unfold tk at h
        generalize w3.drew = w4 at h ⊢
        refine wpD_take (v := (Value.pointer p0)) 0 (fun _ => True) rfl (by kernel_rfl) (by kernel_rfl) (by kernel_rfl) rfl rfl rfl trivial (fun w _ => (x_move (v := (Value.pointer p0)) rfl e0)) ?_
        obtain ⟨a28, q28, h⟩ := h
        refine wpD_take (v := (Value.pointer (some a28))) 1 (fun _ => True) rfl (by kernel_rfl) (by kernel_rfl) (by kernel_rfl) rfl rfl rfl trivial (fun w _ => (x_nilCheck rfl rfl q28)) ?_
        refine wpD_take (v := (Value.pointer (some (a28.add 0)))) 2 (fun _ => True) rfl (by kernel_rfl) (by kernel_rfl) (by kernel_rfl) rfl rfl rfl trivial (fun w _ => (x_fieldAddr rfl rfl FA_63_0)) ?_
        refine wpD_take (v := (Value.pointer (some ((a28.add 0).add 0)))) 3 (fun _ => True) rfl (by kernel_rfl) (by kernel_rfl) (by kernel_rfl) rfl rfl rfl trivial (fun w _ => (x_fieldAddr rfl rfl FA_60_0)) ?_
        obtain ⟨x29, q29, h⟩ := h
        refine wpD_take (v := (Value.pointer x29)) 4 (fun w => w.cell? ((a28.add 0).add 0) = some (Value.pointer x29)) rfl (by kernel_rfl) (by kernel_rfl) (by kernel_rfl) rfl rfl rfl q29 (fun w q29 => (x_load1 rfl rfl SH_57 q29)) ?_
        refine wpD_take (v := (Value.int .i64 r24.1)) 5 (fun _ => True) rfl (by kernel_rfl) (by kernel_rfl) (by kernel_rfl) rfl rfl rfl trivial (fun w _ => (x_move (v := (Value.int .i64 r24.1)) rfl e9)) ?_
        refine wpD_take (v := (Value.pointer (some ((Addr.mk b21 0 none).add 1)))) 6 (fun _ => True) rfl (by kernel_rfl) (by kernel_rfl) (by kernel_rfl) rfl rfl rfl trivial (fun w _ => (x_fieldAddr rfl e8 FA_69_1)) ?_
        obtain ⟨x30, q30, h⟩ := h
        refine wpD_take (v := (Value.int .i64 x30)) 7 (fun w => w.cell? ((Addr.mk b21 0 none).add 1) = some (Value.int .i64 x30)) rfl (by kernel_rfl) (by kernel_rfl) (by kernel_rfl) rfl rfl rfl q30 (fun w q30 => (x_load1 rfl rfl SH_3 q30)) ?_
        refine wpD_all (rs := [8]) (by kernel_rfl) (by simp) (allD_cons ?_ allD_nil)
        refine stepD_enterL (L' := [(6, fun _ => True), (3, fun _ => True), (2, fun _ => True), (1, fun _ => True), (0, fun _ => True)]) rfl rfl rfl rfl (x_call (vs := [(Value.pointer x29), (Value.int .i64 r24.1), (Value.int .i64 x30)]) rfl rfl (mapl_cons rfl (mapl_cons rfl (mapl_cons rfl mapl_nil))) Try.func29 NN_29 NB_29) (by kernel_rfl) (Calls.mono h ?_)
        rintro _ w5 ⟨r31, rfl, h⟩
        refine ⟨_, rfl, (held_cons trivial (held_cons trivial (held_cons trivial (held_cons trivial (held_cons trivial held_nil))))), ?_⟩
        refine wpD_take (v := (Value.string r31.1)) 9 (fun _ => True) rfl (by kernel_rfl) (by kernel_rfl) (by kernel_rfl) rfl rfl rfl trivial (fun w _ => (x_extract rfl rfl rfl)) ?_
        refine wpD_take (v := (Value.int .i64 r31.2)) 10 (fun _ => True) rfl (by kernel_rfl) (by kernel_rfl) (by kernel_rfl) rfl rfl rfl trivial (fun w _ => (x_extract rfl rfl rfl)) ?_
        refine wpD_take (v := (Value.string r31.1)) 11 (fun _ => True) rfl (by kernel_rfl) (by kernel_rfl) (by kernel_rfl) rfl rfl rfl trivial (fun w _ => (x_assign (v := (Value.string r31.1)) rfl rfl)) ?_
        refine wpD_take (v := (Value.int .i64 r31.2)) 12 (fun _ => True) rfl (by kernel_rfl) (by kernel_rfl) (by kernel_rfl) rfl rfl rfl trivial (fun w _ => (x_assign (v := (Value.int .i64 r31.2)) rfl rfl)) ?_
        exact wpD_done (by kernel_rfl) ⟨(r31.1, r31.2), ⟨rfl, rfl, trivial⟩, h⟩
      clear h
      rintro l32 ρ w6 ⟨e6, e7, -⟩ h
      replace h := hk l32 w6 h
      clear hk
      refine wpC_ret ?_
      exact ⟨.inl rfl, fun a ha => ⟨_, results_rep2 rfl ha e6 e7, (l32.1, l32.2), rfl, h⟩⟩

/-- linguaref45.Few -/
def F11 (p0 : Sl) (w0 : World) (K : Bool → World → Prop) : Prop :=
  lp (fun (next9 : Int → World → Prop) l9 w1 =>
    cnd ((decide (l9 < (p0.len : Int))) && (decide (l9 < 21)))
      (
      ix p0 l9 9 fun p13 =>
      ld Value.string (p13.add 7) w1 fun x14 =>
      jp (fun J15 => cnd (decide (200 < (x14.size : Int)))
        (
        J15 true
        )
        (
        ix p0 l9 9 fun p17 =>
        ld Sl.v (p17.add 8) w1 fun x18 =>
        J15 (decide (24 < (x18.len : Int)))
        ))
      fun c19 =>
      cnd (c19)
        (
        K false w1
        )
        (
        next9 (IntKind.i64.wrap (l9 + 1)) w1
        )
      )
      (
      K (decide ((p0.len : Int) ≤ 20)) w1
      )
  ) 0 w0
set_option maxRecDepth 100000 in
theorem D11 (p0 : Sl) (w0 : World) (K : Bool → World → Prop) (h : F11 p0 w0 K) : callC Try.prog 11 #[(Sl.v p0)] (fun (r : Bool) => (Value.bool r)) w0 K := by
  unfold F11 at h
  refine calls_of_wpC Try.func11 rfl 33 rfl (by simp) ?_
  intro ρ hρ
  have e0 : ρ 0 = (Sl.v p0) := hρ 0
  clear hρ
  refine wpC_seq ?_
  refine wpC_region ?_
  refine wpR_val (v := (Value.bool false)) (w' := w0) rfl rfl rfl (x_assign (v := (Value.bool false)) rfl rfl) ?_
  refine wpR_nil ?_
  refine wpC_seq ?_
  refine wpC_seq ?_
  refine wpC_cut (fun ρ => ρ 0 = (Sl.v p0) ∧ True) ⟨e0, trivial⟩ ?_
  rintro ρ ⟨e0, -⟩
  refine wpC_region ?_
  refine wpR_val (v := (Value.int .i64 0)) (w' := w0) rfl rfl rfl (x_assign (v := (Value.int .i64 0)) rfl rfl) ?_
  refine wpR_nil ?_
  refine wpC_block ?_
  obtain ⟨I9, μ9, hI9, hr9⟩ := h
  refine wpC_loop (fun (x : Int) ρ => ρ 3 = (Value.int .i64 x) ∧ ρ 0 = (Sl.v p0) ∧ True) I9 μ9 0 ⟨rfl, e0, trivial⟩ hI9 ?_
  rintro l9 ρ w1 ⟨e3, e0, -⟩ h
  replace h := hr9 l9 w1 h
  clear hr9 hI9
  refine wpC_seq ?_
  refine wpC_seq ?_
  refine wpC_region ?_
  refine wpR_val (v := (Value.int .i64 l9)) (w' := w1) rfl rfl rfl (x_move (v := (Value.int .i64 l9)) rfl e3) ?_
  refine wpR_val (v := (Sl.v p0)) (w' := w1) rfl rfl rfl (x_move (v := (Sl.v p0)) rfl e0) ?_
  refine wpR_val (v := (Value.int .i64 (p0.len : Int))) (w' := w1) rfl rfl rfl (x_lenS (s := p0) rfl rfl isSliceT_32) ?_
  refine wpR_val (v := (Value.bool (decide (l9 < (p0.len : Int))))) (w' := w1) rfl rfl rfl (x_lss rfl rfl rfl) ?_
  refine wpR_val (v := (Value.bool (decide (l9 < (p0.len : Int))))) (w' := w1) rfl rfl rfl (x_move (v := (Value.bool (decide (l9 < (p0.len : Int))))) rfl rfl) ?_
  refine wpR_joinJ 3 (fun (_ : Unit) ρ => ρ 11 = Value.bool ((decide (l9 < (p0.len : Int))) && (decide (l9 < 21))) ∧ ρ 0 = (Sl.v p0) ∧ ρ 3 = (Value.int .i64 l9) ∧ True) (fun _ w => w1 = w) ?_ ?_
  · clear h
    rcases Bool.eq_false_or_eq_true (decide (l9 < (p0.len : Int))) with hc11 | hc11
    · skip
      refine wpR_val (v := (Value.int .i64 l9)) (w' := w1) (wantG rfl rfl rfl hc11) rfl rfl (x_move (v := (Value.int .i64 l9)) rfl e3) ?_
      refine wpR_val (v := (Value.bool (decide (l9 < 21)))) (w' := w1) (wantG rfl rfl rfl hc11) rfl rfl (x_lss rfl rfl rfl) ?_
      refine wpR_val (v := (Value.bool (decide (l9 < 21)))) (w' := w1) rfl rfl rfl (x_pickT (v := (Value.bool (decide (l9 < 21)))) rfl rfl hc11 rfl) ?_
      refine wpR_nil ?_
      exact ⟨(), ⟨(by rw [hc11]; rfl), e0, e3, trivial⟩, rfl⟩
    · skip
      refine wpR_pass (wantN rfl rfl rfl hc11) rfl rfl ?_
      refine wpR_pass (wantN rfl rfl rfl hc11) rfl rfl ?_
      refine wpR_val (v := (Value.bool false)) (w' := w1) rfl rfl rfl (x_pickF (v := (Value.bool false)) rfl rfl hc11 rfl) ?_
      refine wpR_nil ?_
      exact ⟨(), ⟨(by rw [hc11]; rfl), e0, e3, trivial⟩, rfl⟩
  rintro _ ρ wj ⟨e11, e0, e3, -⟩ rfl
  refine wpR_nil ?_
  refine wpC_cond (b := (decide (l9 < (p0.len : Int))) && (decide (l9 < 21))) e11 (fun hc12 => ?_) (fun hc12 => ?_)
  · replace h := h.1 hc12
    refine wpC_skip ?_
    refine wpC_seq ?_
    refine wpC_block ?_
    refine wpC_seq ?_
    refine wpC_region ?_
    refine wpR_val (v := (Sl.v p0)) (w' := w1) rfl rfl rfl (x_move (v := (Sl.v p0)) rfl e0) ?_
    refine wpR_val (v := (Value.int .i64 l9)) (w' := w1) rfl rfl rfl (x_move (v := (Value.int .i64 l9)) rfl e3) ?_
    obtain ⟨q13, z13, r13, h⟩ := h
    generalize hp13 : z13.add ((l9 : Int).toNat * 9) = p13 at h
    refine wpR_val (v := (Value.pointer (some p13))) (w' := w1) rfl rfl rfl ((x_indexAddr (s := p0) rfl rfl rfl ES_32 q13 r13).trans (by rw [hp13])) ?_
    refine wpR_val (v := (Value.pointer (some (p13.add 7)))) (w' := w1) rfl rfl rfl (x_fieldAddr rfl rfl FA_37_7) ?_
    obtain ⟨x14, q14, h⟩ := h
    refine wpR_val (v := (Value.string x14)) (w' := w1) rfl rfl rfl (x_load1 rfl rfl SH_9 q14) ?_
    refine wpR_val (v := (Value.int .i64 (x14.size : Int))) (w' := w1) rfl rfl rfl (x_lenStr rfl rfl isStrT_9) ?_
    refine wpR_val (v := (Value.bool (decide (200 < (x14.size : Int))))) (w' := w1) rfl rfl rfl (x_gtr rfl rfl rfl) ?_
    refine wpR_val (v := (Value.bool (decide (200 < (x14.size : Int))))) (w' := w1) rfl rfl rfl (x_move (v := (Value.bool (decide (200 < (x14.size : Int))))) rfl rfl) ?_
    obtain ⟨J15, h, hk⟩ := h
    refine wpR_joinJ 8 (fun x ρ => ρ 29 = Value.bool x ∧ ρ 0 = (Sl.v p0) ∧ ρ 3 = (Value.int .i64 l9) ∧ True) (fun x w => J15 x ∧ w1 = w) ?_ ?_
    · clear hk
      rcases Bool.eq_false_or_eq_true (decide (200 < (x14.size : Int))) with hc16 | hc16
      · replace h := h.1 hc16
        refine wpR_pass (wantN rfl rfl rfl hc16) rfl rfl ?_
        refine wpR_pass (wantN rfl rfl rfl hc16) rfl rfl ?_
        refine wpR_pass (wantN rfl rfl rfl hc16) rfl rfl ?_
        refine wpR_pass (wantN rfl rfl rfl hc16) rfl rfl ?_
        refine wpR_pass (wantN rfl rfl rfl hc16) rfl rfl ?_
        refine wpR_pass (wantN rfl rfl rfl hc16) rfl rfl ?_
        refine wpR_pass (wantN rfl rfl rfl hc16) rfl rfl ?_
        refine wpR_val (v := (Value.bool true)) (w' := w1) rfl rfl rfl (x_pickT (v := (Value.bool true)) rfl rfl hc16 rfl) ?_
        refine wpR_nil ?_
        exact ⟨true, ⟨rfl, e0, e3, trivial⟩, h, rfl⟩
      · replace h := h.2 hc16
        refine wpR_val (v := (Sl.v p0)) (w' := w1) (wantG rfl rfl rfl hc16) rfl rfl (x_move (v := (Sl.v p0)) rfl e0) ?_
        refine wpR_val (v := (Value.int .i64 l9)) (w' := w1) (wantG rfl rfl rfl hc16) rfl rfl (x_move (v := (Value.int .i64 l9)) rfl e3) ?_
        obtain ⟨q17, z17, r17, h⟩ := h
        generalize hp17 : z17.add ((l9 : Int).toNat * 9) = p17 at h
        refine wpR_val (v := (Value.pointer (some p17))) (w' := w1) (wantG rfl rfl rfl hc16) rfl rfl ((x_indexAddr (s := p0) rfl rfl rfl ES_32 q17 r17).trans (by rw [hp17])) ?_
        refine wpR_val (v := (Value.pointer (some (p17.add 8)))) (w' := w1) (wantG rfl rfl rfl hc16) rfl rfl (x_fieldAddr rfl rfl FA_37_8) ?_
        obtain ⟨x18, q18, h⟩ := h
        refine wpR_val (v := (Sl.v x18)) (w' := w1) (wantG rfl rfl rfl hc16) rfl rfl (x_load1 rfl rfl SH_35 q18) ?_
        refine wpR_val (v := (Value.int .i64 (x18.len : Int))) (w' := w1) (wantG rfl rfl rfl hc16) rfl rfl (x_lenS (s := x18) rfl rfl isSliceT_35) ?_
        refine wpR_val (v := (Value.bool (decide (24 < (x18.len : Int))))) (w' := w1) (wantG rfl rfl rfl hc16) rfl rfl (x_gtr rfl rfl rfl) ?_
        refine wpR_val (v := (Value.bool (decide (24 < (x18.len : Int))))) (w' := w1) rfl rfl rfl (x_pickF (v := (Value.bool (decide (24 < (x18.len : Int))))) rfl rfl hc16 rfl) ?_
        refine wpR_nil ?_
        exact ⟨decide (24 < (x18.len : Int)), ⟨rfl, e0, e3, trivial⟩, h, rfl⟩
    clear h
    rintro c19 ρ wj ⟨e29, e0, e3, -⟩ ⟨h, rfl⟩
    replace h := hk c19 h
    clear hk
    refine wpR_nil ?_
    refine wpC_cond (b := c19) e29 (fun hc20 => ?_) (fun hc20 => ?_)
    · replace h := h.1 hc20
      refine wpC_seq ?_
      refine wpC_region ?_
      refine wpR_val (v := (Value.bool false)) (w' := w1) rfl rfl rfl (x_assign (v := (Value.bool false)) rfl rfl) ?_
      refine wpR_nil ?_
      refine wpC_ret ?_
      exact ⟨.inl rfl, fun a ha => ⟨_, results_rep1 rfl ha rfl, false, rfl, h⟩⟩
    · replace h := h.2 hc20
      refine wpC_skip ?_
      refine wpC_region ?_
      refine wpR_val (v := (Value.int .i64 l9)) (w' := w1) rfl rfl rfl (x_move (v := (Value.int .i64 l9)) rfl e3) ?_
      refine wpR_val (v := (Value.int .i64 (IntKind.i64.wrap (l9 + 1)))) (w' := w1) rfl rfl rfl (x_add rfl rfl rfl) ?_
      refine wpR_val (v := (Value.int .i64 (IntKind.i64.wrap (l9 + 1)))) (w' := w1) rfl rfl rfl (x_assign (v := (Value.int .i64 (IntKind.i64.wrap (l9 + 1)))) rfl rfl) ?_
      refine wpR_nil ?_
      exact ⟨IntKind.i64.wrap (l9 + 1), ⟨rfl, e0, trivial⟩, h⟩
  · replace h := h.2 hc12
    refine wpC_exit ?_
    refine wpC_seq ?_
    refine wpC_region ?_
    refine wpR_val (v := (Sl.v p0)) (w' := w1) rfl rfl rfl (x_move (v := (Sl.v p0)) rfl e0) ?_
    refine wpR_val (v := (Value.int .i64 (p0.len : Int))) (w' := w1) rfl rfl rfl (x_lenS (s := p0) rfl rfl isSliceT_32) ?_
    refine wpR_val (v := (Value.bool (decide ((p0.len : Int) ≤ 20)))) (w' := w1) rfl rfl rfl (x_leq rfl rfl rfl) ?_
    refine wpR_val (v := (Value.bool (decide ((p0.len : Int) ≤ 20)))) (w' := w1) rfl rfl rfl (x_assign (v := (Value.bool (decide ((p0.len : Int) ≤ 20)))) rfl rfl) ?_
    refine wpR_nil ?_
    refine wpC_ret ?_
    exact ⟨.inl rfl, fun a ha => ⟨_, results_rep1 rfl ha rfl, decide ((p0.len : Int) ≤ 20), rfl, h⟩⟩

/-- linguaref45.Same -/
def F12 (p0 : Sl) (p1 : Sl) (w0 : World) (K : Bool → World → Prop) : Prop :=
  cnd (!decide ((p0.len : Int) = (p1.len : Int)))
    (
    K false w0
    )
    (
    lp (fun (next10 : Int → World → Prop) l10 w1 =>
      cnd (decide (l10 < (p0.len : Int)))
        (
        jn (fun (J13 : Bool → World → Prop) => tk w1 fun w2 =>
          ix p0 l10 2 fun p14 =>
          ld (Value.int .i64) (p14.add 0) w2 fun x15 =>
          ld (Value.int .i64) (p14.add 1) w2 fun x16 =>
          ix p1 l10 2 fun p17 =>
          ld (Value.int .i64) (p17.add 0) w2 fun x18 =>
          ld (Value.int .i64) (p17.add 1) w2 fun x19 =>
          J13 (!(decide (x15 = x18) && (decide (x16 = x19) && true))) w2
        )
        fun l20 w3 =>
        cnd (l20)
          (
          K false w3
          )
          (
          next10 (IntKind.i64.wrap (l10 + 1)) w3
          )
        )
        (
        K true w1
        )
    ) 0 w0
    )
set_option maxRecDepth 100000 in
theorem D12 (p0 : Sl) (p1 : Sl) (w0 : World) (K : Bool → World → Prop) (h : F12 p0 p1 w0 K) : callC Try.prog 12 #[(Sl.v p0), (Sl.v p1)] (fun (r : Bool) => (Value.bool r)) w0 K := by
  unfold F12 at h
  refine calls_of_wpC Try.func12 rfl 26 rfl (by simp) ?_
  intro ρ hρ
  have e0 : ρ 0 = (Sl.v p0) := hρ 0
  have e1 : ρ 1 = (Sl.v p1) := hρ 1
  clear hρ
  refine wpC_seq ?_
  refine wpC_region ?_
  refine wpR_val (v := (Value.bool false)) (w' := w0) rfl rfl rfl (x_assign (v := (Value.bool false)) rfl rfl) ?_
  refine wpR_nil ?_
  refine wpC_seq ?_
  refine wpC_seq ?_
  refine wpC_cut (fun ρ => ρ 0 = (Sl.v p0) ∧ ρ 1 = (Sl.v p1) ∧ True) ⟨e0, e1, trivial⟩ ?_
  rintro ρ ⟨e0, e1, -⟩
  refine wpC_region ?_
  refine wpR_val (v := (Sl.v p0)) (w' := w0) rfl rfl rfl (x_move (v := (Sl.v p0)) rfl e0) ?_
  refine wpR_val (v := (Value.int .i64 (p0.len : Int))) (w' := w0) rfl rfl rfl (x_lenS (s := p0) rfl rfl isSliceT_25) ?_
  refine wpR_val (v := (Sl.v p1)) (w' := w0) rfl rfl rfl (x_move (v := (Sl.v p1)) rfl e1) ?_
  refine wpR_val (v := (Value.int .i64 (p1.len : Int))) (w' := w0) rfl rfl rfl (x_lenS (s := p1) rfl rfl isSliceT_25) ?_
  refine wpR_val (v := (Value.bool (!decide ((p0.len : Int) = (p1.len : Int))))) (w' := w0) rfl rfl rfl (x_neq rfl rfl rfl) ?_
  refine wpR_nil ?_
  refine wpC_cond (b := !decide ((p0.len : Int) = (p1.len : Int))) rfl (fun hc9 => ?_) (fun hc9 => ?_)
  · replace h := h.1 hc9
    refine wpC_seq ?_
    refine wpC_cut (fun ρ => True) trivial ?_
    rintro ρ -
    refine wpC_region ?_
    refine wpR_val (v := (Value.bool false)) (w' := w0) rfl rfl rfl (x_assign (v := (Value.bool false)) rfl rfl) ?_
    refine wpR_nil ?_
    refine wpC_ret ?_
    exact ⟨.inl rfl, fun a ha => ⟨_, results_rep1 rfl ha rfl, false, rfl, h⟩⟩
  · replace h := h.2 hc9
    refine wpC_skip ?_
    refine wpC_seq ?_
    refine wpC_seq ?_
    refine wpC_cut (fun ρ => ρ 0 = (Sl.v p0) ∧ ρ 1 = (Sl.v p1) ∧ True) ⟨e0, e1, trivial⟩ ?_
    rintro ρ ⟨e0, e1, -⟩
    refine wpC_region ?_
    refine wpR_val (v := (Value.int .i64 0)) (w' := w0) rfl rfl rfl (x_assign (v := (Value.int .i64 0)) rfl rfl) ?_
    refine wpR_nil ?_
    refine wpC_block ?_
    obtain ⟨I10, μ10, hI10, hr10⟩ := h
    refine wpC_loop (fun (x : Int) ρ => ρ 5 = (Value.int .i64 x) ∧ ρ 0 = (Sl.v p0) ∧ ρ 1 = (Sl.v p1) ∧ True) I10 μ10 0 ⟨rfl, e0, e1, trivial⟩ hI10 ?_
    rintro l10 ρ w1 ⟨e5, e0, e1, -⟩ h
    replace h := hr10 l10 w1 h
    clear hr10 hI10
    refine wpC_seq ?_
    refine wpC_seq ?_
    refine wpC_region ?_
    refine wpR_val (v := (Value.int .i64 l10)) (w' := w1) rfl rfl rfl (x_move (v := (Value.int .i64 l10)) rfl e5) ?_
    refine wpR_val (v := (Sl.v p0)) (w' := w1) rfl rfl rfl (x_move (v := (Sl.v p0)) rfl e0) ?_
    refine wpR_val (v := (Value.int .i64 (p0.len : Int))) (w' := w1) rfl rfl rfl (x_lenS (s := p0) rfl rfl isSliceT_25) ?_
    refine wpR_val (v := (Value.bool (decide (l10 < (p0.len : Int))))) (w' := w1) rfl rfl rfl (x_lss rfl rfl rfl) ?_
    refine wpR_nil ?_
    refine wpC_cond (b := decide (l10 < (p0.len : Int))) rfl (fun hc11 => ?_) (fun hc11 => ?_)
    · replace h := h.1 hc11
      refine wpC_skip ?_
      refine wpC_seq ?_
      refine wpC_block ?_
      refine wpC_seq ?_
      refine wpC_cut (fun ρ => ρ 0 = (Sl.v p0) ∧ ρ 1 = (Sl.v p1) ∧ ρ 5 = (Value.int .i64 l10) ∧ True) ⟨e0, e1, e5, trivial⟩ ?_
      rintro ρ ⟨e0, e1, e5, -⟩
      obtain ⟨J13, h, hk⟩ := h
      refine wpC_drawJ (by kernel_rfl) (fun (x : Bool) ρ => ρ 25 = (Value.bool x) ∧ ρ 0 = (Sl.v p0) ∧ ρ 1 = (Sl.v p1) ∧ ρ 5 = (Value.int .i64 l10) ∧ True) J13 ?_ ?_
      · clear hk
        unfold tk at h
        generalize w1.drew = w2 at h ⊢
        refine wpD_take (v := (Sl.v p0)) 0 (fun _ => True) rfl (by kernel_rfl) (by kernel_rfl) (by kernel_rfl) rfl rfl rfl trivial (fun w _ => (x_move (v := (Sl.v p0)) rfl e0)) ?_
        refine wpD_take (v := (Value.int .i64 l10)) 1 (fun _ => True) rfl (by kernel_rfl) (by kernel_rfl) (by kernel_rfl) rfl rfl rfl trivial (fun w _ => (x_move (v := (Value.int .i64 l10)) rfl e5)) ?_
        obtain ⟨q14, z14, r14, h⟩ := h
        generalize hp14 : z14.add ((l10 : Int).toNat * 2) = p14 at h
        refine wpD_take (v := (Value.pointer (some p14))) 2 (fun _ => True) rfl (by kernel_rfl) (by kernel_rfl) (by kernel_rfl) rfl rfl rfl trivial (fun w _ => ((x_indexAddr (s := p0) rfl rfl rfl ES_25 q14 r14).trans (by rw [hp14]))) ?_
        obtain ⟨x15, q15, x16, q16, h⟩ := h
        refine wpD_take (v := (Value.agg #[(Value.int .i64 x15), (Value.int .i64 x16)])) 3 (fun w => w.cell? (p14.add 0) = some (Value.int .i64 x15) ∧ w.cell? (p14.add 1) = some (Value.int .i64 x16)) rfl (by kernel_rfl) (by kernel_rfl) (by kernel_rfl) rfl rfl rfl ⟨q15, q16⟩ (fun w ⟨q15, q16⟩ => (x_loadN [(Value.int .i64 x15), (Value.int .i64 x16)] rfl rfl SH_56 (CellsAt.out (CellsAt.cons q15 (CellsAt.cons q16 CellsAt.nil))))) ?_
        refine wpD_take (v := (Sl.v p1)) 4 (fun _ => True) rfl (by kernel_rfl) (by kernel_rfl) (by kernel_rfl) rfl rfl rfl trivial (fun w _ => (x_move (v := (Sl.v p1)) rfl e1)) ?_
        refine wpD_take (v := (Value.int .i64 l10)) 5 (fun _ => True) rfl (by kernel_rfl) (by kernel_rfl) (by kernel_rfl) rfl rfl rfl trivial (fun w _ => (x_move (v := (Value.int .i64 l10)) rfl e5)) ?_
        obtain ⟨q17, z17, r17, h⟩ := h
        generalize hp17 : z17.add ((l10 : Int).toNat * 2) = p17 at h
        refine wpD_take (v := (Value.pointer (some p17))) 6 (fun _ => True) rfl (by kernel_rfl) (by kernel_rfl) (by kernel_rfl) rfl rfl rfl trivial (fun w _ => ((x_indexAddr (s := p1) rfl rfl rfl ES_25 q17 r17).trans (by rw [hp17]))) ?_
        obtain ⟨x18, q18, x19, q19, h⟩ := h
        refine wpD_take (v := (Value.agg #[(Value.int .i64 x18), (Value.int .i64 x19)])) 7 (fun w => w.cell? (p17.add 0) = some (Value.int .i64 x18) ∧ w.cell? (p17.add 1) = some (Value.int .i64 x19)) rfl (by kernel_rfl) (by kernel_rfl) (by kernel_rfl) rfl rfl rfl ⟨q18, q19⟩ (fun w ⟨q18, q19⟩ => (x_loadN [(Value.int .i64 x18), (Value.int .i64 x19)] rfl rfl SH_56 (CellsAt.out (CellsAt.cons q18 (CellsAt.cons q19 CellsAt.nil))))) ?_
        refine wpD_take (v := (Value.bool (!(decide (x15 = x18) && (decide (x16 = x19) && true))))) 8 (fun _ => True) rfl (by kernel_rfl) (by kernel_rfl) (by kernel_rfl) rfl rfl rfl trivial (fun w _ => (x_neqA rfl rfl rfl EQ1_56 EQ2_56 EQ3_56 (EQ_56 x15 x16 x18 x19))) ?_
        exact wpD_done (by kernel_rfl) ⟨!(decide (x15 = x18) && (decide (x16 = x19) && true)), ⟨rfl, e0, e1, e5, trivial⟩, h⟩
      clear h
      rintro l20 ρ w3 ⟨e25, e0, e1, e5, -⟩ h
      replace h := hk l20 w3 h
      clear hk
      refine wpC_cond (b := l20) e25 (fun hc21 => ?_) (fun hc21 => ?_)
      · replace h := h.1 hc21
        refine wpC_seq ?_
        refine wpC_region ?_
        refine wpR_val (v := (Value.bool false)) (w' := w3) rfl rfl rfl (x_assign (v := (Value.bool false)) rfl rfl) ?_
        refine wpR_nil ?_
        refine wpC_ret ?_
        exact ⟨.inl rfl, fun a ha => ⟨_, results_rep1 rfl ha rfl, false, rfl, h⟩⟩
      · replace h := h.2 hc21
        refine wpC_skip ?_
        refine wpC_region ?_
        refine wpR_val (v := (Value.int .i64 l10)) (w' := w3) rfl rfl rfl (x_move (v := (Value.int .i64 l10)) rfl e5) ?_
        refine wpR_val (v := (Value.int .i64 (IntKind.i64.wrap (l10 + 1)))) (w' := w3) rfl rfl rfl (x_add rfl rfl rfl) ?_
        refine wpR_val (v := (Value.int .i64 (IntKind.i64.wrap (l10 + 1)))) (w' := w3) rfl rfl rfl (x_assign (v := (Value.int .i64 (IntKind.i64.wrap (l10 + 1)))) rfl rfl) ?_
        refine wpR_nil ?_
        exact ⟨IntKind.i64.wrap (l10 + 1), ⟨rfl, e0, e1, trivial⟩, h⟩
    · replace h := h.2 hc11
      refine wpC_exit ?_
      refine wpC_seq ?_
      refine wpC_cut (fun ρ => True) trivial ?_
      rintro ρ -
      refine wpC_region ?_
      refine wpR_val (v := (Value.bool true)) (w' := w1) rfl rfl rfl (x_assign (v := (Value.bool true)) rfl rfl) ?_
      refine wpR_nil ?_
      refine wpC_ret ?_
      exact ⟨.inl rfl, fun a ha => ⟨_, results_rep1 rfl ha rfl, true, rfl, h⟩⟩

/-- linguaref45.Chosen -/
def F13 (p0 : Sl) (p1_0 : Int) (p1_1 : Int) (p1_2 : Int) (p1_3 : Int) (p1_4 : Int) (p1_5 : Int) (p1_6 : Int) (p1_7 : ByteArray) (p1_8 : Sl) (w0 : World) (K : Sl → World → Prop) : Prop :=
  nw 37 (A36 p1_0 p1_1 p1_2 p1_3 p1_4 p1_5 p1_6 p1_7 p1_8) w0 fun b9 w1 =>
  ld (Value.int .i64) ((Addr.mk b9 0 none).add 2) w1 fun x10 =>
  jp (fun J11 => cnd (decide (x10 < 0))
    (
    J11 true
    )
    (
    ld (Value.int .i64) ((Addr.mk b9 0 none).add 2) w1 fun x13 =>
    J11 (decide ((p0.len : Int) ≤ x13))
    ))
  fun c14 =>
  cnd (c14)
    (
    K Sl.nil w1
    )
    (
    ld (Value.int .i64) ((Addr.mk b9 0 none).add 2) w1 fun x16 =>
    ix p0 x16 1 fun p17 =>
    ld Sl.v p17 w1 fun x18 =>
    lp (fun (next19 : (Sl × Int) → World → Prop) l19 w2 =>
      ld Sl.v ((Addr.mk b9 0 none).add 8) w2 fun x20 =>
      cnd (decide (l19.2 < (x20.len : Int)))
        (
        jn (fun (J22 : Sl → World → Prop) =>
          ld Sl.v ((Addr.mk b9 0 none).add 8) w2 fun x24 =>
          ix x24 l19.2 1 fun p25 =>
          ld (Value.int .i64) p25 w2 fun x26 =>
          jp (fun J27 => cnd (decide (x26 < 0))
            (
            J27 true
            )
            (
            ld Sl.v ((Addr.mk b9 0 none).add 8) w2 fun x29 =>
            ix x29 l19.2 1 fun p30 =>
            ld (Value.int .i64) p30 w2 fun x31 =>
            J27 (decide ((x18.len : Int) ≤ x31))
            ))
          fun c32 =>
          cnd (c32)
            (
            J22 l19.1 w2
            )
            (
            ld Sl.v ((Addr.mk b9 0 none).add 8) w2 fun x34 =>
            ix x34 l19.2 1 fun p35 =>
            ld (Value.int .i64) p35 w2 fun x36 =>
            ix x18 x36 2 fun p37 =>
            ld (Value.int .i64) (p37.add 0) w2 fun x38 =>
            ld (Value.int .i64) (p37.add 1) w2 fun x39 =>
            nw 56 #[(Value.int .i64 0), (Value.int .i64 0)] w2 fun b40 w4 =>
            st (Addr.mk b40 0 none) [(Value.int .i64 x38), (Value.int .i64 x39)] w4 fun w5 =>
            jn (fun (J42 : Unit → World → Prop) =>
              cnd (decide ((l19.1.len : Int) = 0))
                (
                ld (Value.int .i64) ((Addr.mk b40 0 none).add 1) w5 fun x45 =>
                ld (Value.int .i64) ((Addr.mk b9 0 none).add 6) w5 fun x46 =>
                st ((Addr.mk b40 0 none).add 1) [(Value.int .i64 (IntKind.i64.wrap (x45 + x46)))] w5 fun w7 =>
                J42 () w7
                )
                (
                J42 () w5
                )
            )
            fun _l43 w6 =>
            ld (Value.int .i64) ((Addr.mk b40 0 none).add 0) w6 fun x48 =>
            ld (Value.int .i64) ((Addr.mk b40 0 none).add 1) w6 fun x49 =>
            nw 56 #[(Value.int .i64 x48), (Value.int .i64 x49)] w6 fun b50 w8 =>
            rn Try.prog (Builtin.append_ #[25, 25] 25 #[Sl.v l19.1, Sl.v (⟨some ⟨b50, 0, none⟩, 1, 1⟩ : Sl)]) Sl.v w8 fun r51 w9 =>
            J22 r51 w9
            )
        )
        fun l23 w3 =>
        next19 (l23, IntKind.i64.wrap (l19.2 + 1)) w3
        )
        (
        K l19.1 w2
        )
    ) (Sl.nil, 0) w1
    )
set_option maxRecDepth 100000 in
theorem D13 (p0 : Sl) (p1_0 : Int) (p1_1 : Int) (p1_2 : Int) (p1_3 : Int) (p1_4 : Int) (p1_5 : Int) (p1_6 : Int) (p1_7 : ByteArray) (p1_8 : Sl) (w0 : World) (K : Sl → World → Prop) (h : F13 p0 p1_0 p1_1 p1_2 p1_3 p1_4 p1_5 p1_6 p1_7 p1_8 w0 K) : callC Try.prog 13 #[(Sl.v p0), (V36 p1_0 p1_1 p1_2 p1_3 p1_4 p1_5 p1_6 p1_7 p1_8)] (fun (r : Sl) => (Sl.v r)) w0 K := by
  unfold F13 at h
  refine calls_of_wpC Try.func13 rfl 69 rfl (by simp) ?_
  intro ρ hρ
  have e0 : ρ 0 = (Sl.v p0) := hρ 0
  have e1 : ρ 1 = (V36 p1_0 p1_1 p1_2 p1_3 p1_4 p1_5 p1_6 p1_7 p1_8) := hρ 1
  clear hρ
  refine wpC_seq ?_
  refine wpC_region ?_
  obtain ⟨b9, hb9⟩ : ∃ u, u = w0.heap.size := ⟨_, rfl⟩
  obtain ⟨w1, hw9⟩ : ∃ u, u = w0.alloc (.cells (A36 p1_0 p1_1 p1_2 p1_3 p1_4 p1_5 p1_6 p1_7 p1_8) 37) := ⟨_, rfl⟩
  replace h := h b9 w1 hb9 hw9
  refine wpR_val (v := (Value.pointer (some (Addr.mk b9 0 none)))) (w' := w1) rfl rfl rfl ((x_box (v := (V36 p1_0 p1_1 p1_2 p1_3 p1_4 p1_5 p1_6 p1_7 p1_8)) rfl e1).trans (by rw [hb9, hw9]; rfl)) ?_
  refine wpR_val (v := (Sl.v Sl.nil)) (w' := w1) rfl rfl rfl (x_assign (v := (Sl.v Sl.nil)) rfl rfl) ?_
  refine wpR_nil ?_
  refine wpC_seq ?_
  refine wpC_cut (fun ρ => ρ 0 = (Sl.v p0) ∧ ρ 3 = (Value.pointer (some (Addr.mk b9 0 none))) ∧ True) ⟨e0, rfl, trivial⟩ ?_
  rintro ρ ⟨e0, e3, -⟩
  refine wpC_region ?_
  refine wpR_val (v := (Sl.v Sl.nil)) (w' := w1) rfl rfl rfl (x_assign (v := (Sl.v Sl.nil)) rfl rfl) ?_
  refine wpR_nil ?_
  refine wpC_seq ?_
  refine wpC_seq ?_
  refine wpC_cut (fun ρ => ρ 0 = (Sl.v p0) ∧ ρ 3 = (Value.pointer (some (Addr.mk b9 0 none))) ∧ ρ 5 = (Sl.v Sl.nil) ∧ True) ⟨e0, e3, rfl, trivial⟩ ?_
  rintro ρ ⟨e0, e3, e5, -⟩
  refine wpC_region ?_
  refine wpR_val (v := (Value.pointer (some ((Addr.mk b9 0 none).add 2)))) (w' := w1) rfl rfl rfl (x_fieldAddr rfl e3 FA_37_2) ?_
  obtain ⟨x10, q10, h⟩ := h
  refine wpR_val (v := (Value.int .i64 x10)) (w' := w1) rfl rfl rfl (x_load1 rfl rfl SH_3 q10) ?_
  refine wpR_val (v := (Value.bool (decide (x10 < 0)))) (w' := w1) rfl rfl rfl (x_lss rfl rfl rfl) ?_
  refine wpR_val (v := (Value.bool (decide (x10 < 0)))) (w' := w1) rfl rfl rfl (x_move (v := (Value.bool (decide (x10 < 0)))) rfl rfl) ?_
  obtain ⟨J11, h, hk⟩ := h
  refine wpR_joinJ 6 (fun x ρ => ρ 18 = Value.bool x ∧ ρ 0 = (Sl.v p0) ∧ ρ 3 = (Value.pointer (some (Addr.mk b9 0 none))) ∧ ρ 5 = (Sl.v Sl.nil) ∧ True) (fun x w => J11 x ∧ w1 = w) ?_ ?_
  · clear hk
    rcases Bool.eq_false_or_eq_true (decide (x10 < 0)) with hc12 | hc12
    · replace h := h.1 hc12
      refine wpR_pass (wantN rfl rfl rfl hc12) rfl rfl ?_
      refine wpR_pass (wantN rfl rfl rfl hc12) rfl rfl ?_
      refine wpR_pass (wantN rfl rfl rfl hc12) rfl rfl ?_
      refine wpR_pass (wantN rfl rfl rfl hc12) rfl rfl ?_
      refine wpR_pass (wantN rfl rfl rfl hc12) rfl rfl ?_
      refine wpR_val (v := (Value.bool true)) (w' := w1) rfl rfl rfl (x_pickT (v := (Value.bool true)) rfl rfl hc12 rfl) ?_
      refine wpR_nil ?_
      exact ⟨true, ⟨rfl, e0, e3, e5, trivial⟩, h, rfl⟩
    · replace h := h.2 hc12
      refine wpR_val (v := (Value.pointer (some ((Addr.mk b9 0 none).add 2)))) (w' := w1) (wantG rfl rfl rfl hc12) rfl rfl (x_fieldAddr rfl e3 FA_37_2) ?_
      obtain ⟨x13, q13, h⟩ := h
      refine wpR_val (v := (Value.int .i64 x13)) (w' := w1) (wantG rfl rfl rfl hc12) rfl rfl (x_load1 rfl rfl SH_3 q13) ?_
      refine wpR_val (v := (Sl.v p0)) (w' := w1) (wantG rfl rfl rfl hc12) rfl rfl (x_move (v := (Sl.v p0)) rfl e0) ?_
      refine wpR_val (v := (Value.int .i64 (p0.len : Int))) (w' := w1) (wantG rfl rfl rfl hc12) rfl rfl (x_lenS (s := p0) rfl rfl isSliceT_34) ?_
      refine wpR_val (v := (Value.bool (decide ((p0.len : Int) ≤ x13)))) (w' := w1) (wantG rfl rfl rfl hc12) rfl rfl (x_geq rfl rfl rfl) ?_
      refine wpR_val (v := (Value.bool (decide ((p0.len : Int) ≤ x13)))) (w' := w1) rfl rfl rfl (x_pickF (v := (Value.bool (decide ((p0.len : Int) ≤ x13)))) rfl rfl hc12 rfl) ?_
      refine wpR_nil ?_
      exact ⟨decide ((p0.len : Int) ≤ x13), ⟨rfl, e0, e3, e5, trivial⟩, h, rfl⟩
  clear h
  rintro c14 ρ wj ⟨e18, e0, e3, e5, -⟩ ⟨h, rfl⟩
  replace h := hk c14 h
  clear hk
  refine wpR_nil ?_
  refine wpC_cond (b := c14) e18 (fun hc15 => ?_) (fun hc15 => ?_)
  · replace h := h.1 hc15
    refine wpC_seq ?_
    refine wpC_region ?_
    refine wpR_val (v := (Sl.v Sl.nil)) (w' := w1) rfl rfl rfl (x_assign (v := (Sl.v Sl.nil)) rfl rfl) ?_
    refine wpR_nil ?_
    refine wpC_ret ?_
    exact ⟨.inl rfl, fun a ha => ⟨_, results_rep1 rfl ha rfl, Sl.nil, rfl, h⟩⟩
  · replace h := h.2 hc15
    refine wpC_skip ?_
    refine wpC_seq ?_
    refine wpC_region ?_
    refine wpR_val (v := (Sl.v p0)) (w' := w1) rfl rfl rfl (x_move (v := (Sl.v p0)) rfl e0) ?_
    refine wpR_val (v := (Value.pointer (some ((Addr.mk b9 0 none).add 2)))) (w' := w1) rfl rfl rfl (x_fieldAddr rfl e3 FA_37_2) ?_
    obtain ⟨x16, q16, h⟩ := h
    refine wpR_val (v := (Value.int .i64 x16)) (w' := w1) rfl rfl rfl (x_load1 rfl rfl SH_3 q16) ?_
    obtain ⟨q17, z17, r17, h⟩ := h
    generalize hp17 : z17.add ((x16 : Int).toNat * 1) = p17 at h
    refine wpR_val (v := (Value.pointer (some p17))) (w' := w1) rfl rfl rfl ((x_indexAddr (s := p0) rfl rfl rfl ES_34 q17 r17).trans (by rw [hp17])) ?_
    obtain ⟨x18, q18, h⟩ := h
    refine wpR_val (v := (Sl.v x18)) (w' := w1) rfl rfl rfl (x_load1 rfl rfl SH_25 q18) ?_
    refine wpR_val (v := (Sl.v x18)) (w' := w1) rfl rfl rfl (x_assign (v := (Sl.v x18)) rfl rfl) ?_
    refine wpR_nil ?_
    refine wpC_seq ?_
    refine wpC_seq ?_
    refine wpC_cut (fun ρ => ρ 3 = (Value.pointer (some (Addr.mk b9 0 none))) ∧ ρ 5 = (Sl.v Sl.nil) ∧ ρ 6 = (Sl.v x18) ∧ True) ⟨e3, e5, rfl, trivial⟩ ?_
    rintro ρ ⟨e3, e5, e6, -⟩
    refine wpC_region ?_
    refine wpR_val (v := (Value.int .i64 0)) (w' := w1) rfl rfl rfl (x_assign (v := (Value.int .i64 0)) rfl rfl) ?_
    refine wpR_nil ?_
    refine wpC_block ?_
    obtain ⟨I19, μ19, hI19, hr19⟩ := h
    refine wpC_loop (fun (x : Sl × Int) ρ => ρ 5 = (Sl.v x.1) ∧ ρ 7 = (Value.int .i64 x.2) ∧ ρ 3 = (Value.pointer (some (Addr.mk b9 0 none))) ∧ ρ 6 = (Sl.v x18) ∧ True) I19 μ19 (Sl.nil, 0) ⟨e5, rfl, e3, e6, trivial⟩ hI19 ?_
    rintro l19 ρ w2 ⟨e5, e7, e3, e6, -⟩ h
    replace h := hr19 l19 w2 h
    clear hr19 hI19
    refine wpC_seq ?_
    refine wpC_seq ?_
    refine wpC_region ?_
    refine wpR_val (v := (Value.int .i64 l19.2)) (w' := w2) rfl rfl rfl (x_move (v := (Value.int .i64 l19.2)) rfl e7) ?_
    refine wpR_val (v := (Value.pointer (some ((Addr.mk b9 0 none).add 8)))) (w' := w2) rfl rfl rfl (x_fieldAddr rfl e3 FA_37_8) ?_
    obtain ⟨x20, q20, h⟩ := h
    refine wpR_val (v := (Sl.v x20)) (w' := w2) rfl rfl rfl (x_load1 rfl rfl SH_35 q20) ?_
    refine wpR_val (v := (Value.int .i64 (x20.len : Int))) (w' := w2) rfl rfl rfl (x_lenS (s := x20) rfl rfl isSliceT_35) ?_
    refine wpR_val (v := (Value.bool (decide (l19.2 < (x20.len : Int))))) (w' := w2) rfl rfl rfl (x_lss rfl rfl rfl) ?_
    refine wpR_nil ?_
    refine wpC_cond (b := decide (l19.2 < (x20.len : Int))) rfl (fun hc21 => ?_) (fun hc21 => ?_)
    · replace h := h.1 hc21
      refine wpC_skip ?_
      obtain ⟨J22, h, hk⟩ := h
      refine wpC_seqJ (fun (x : Sl) ρ => ρ 5 = (Sl.v x) ∧ ρ 3 = (Value.pointer (some (Addr.mk b9 0 none))) ∧ ρ 6 = (Sl.v x18) ∧ ρ 7 = (Value.int .i64 l19.2) ∧ True) J22 ?_ ?_
      · clear hk
        refine wpC_block ?_
        refine wpC_seq ?_
        refine wpC_seq ?_
        refine wpC_cut (fun ρ => ρ 3 = (Value.pointer (some (Addr.mk b9 0 none))) ∧ ρ 5 = (Sl.v l19.1) ∧ ρ 6 = (Sl.v x18) ∧ ρ 7 = (Value.int .i64 l19.2) ∧ True) ⟨e3, e5, e6, e7, trivial⟩ ?_
        rintro ρ ⟨e3, e5, e6, e7, -⟩
        refine wpC_region ?_
        refine wpR_val (v := (Value.pointer (some ((Addr.mk b9 0 none).add 8)))) (w' := w2) rfl rfl rfl (x_fieldAddr rfl e3 FA_37_8) ?_
        obtain ⟨x24, q24, h⟩ := h
        refine wpR_val (v := (Sl.v x24)) (w' := w2) rfl rfl rfl (x_load1 rfl rfl SH_35 q24) ?_
        refine wpR_val (v := (Value.int .i64 l19.2)) (w' := w2) rfl rfl rfl (x_move (v := (Value.int .i64 l19.2)) rfl e7) ?_
        obtain ⟨q25, z25, r25, h⟩ := h
        generalize hp25 : z25.add ((l19.2 : Int).toNat * 1) = p25 at h
        refine wpR_val (v := (Value.pointer (some p25))) (w' := w2) rfl rfl rfl ((x_indexAddr (s := x24) rfl rfl rfl ES_35 q25 r25).trans (by rw [hp25])) ?_
        obtain ⟨x26, q26, h⟩ := h
        refine wpR_val (v := (Value.int .i64 x26)) (w' := w2) rfl rfl rfl (x_load1 rfl rfl SH_3 q26) ?_
        refine wpR_val (v := (Value.bool (decide (x26 < 0)))) (w' := w2) rfl rfl rfl (x_lss rfl rfl rfl) ?_
        refine wpR_val (v := (Value.bool (decide (x26 < 0)))) (w' := w2) rfl rfl rfl (x_move (v := (Value.bool (decide (x26 < 0)))) rfl rfl) ?_
        obtain ⟨J27, h, hk⟩ := h
        refine wpR_joinJ 9 (fun x ρ => ρ 46 = Value.bool x ∧ ρ 3 = (Value.pointer (some (Addr.mk b9 0 none))) ∧ ρ 5 = (Sl.v l19.1) ∧ ρ 6 = (Sl.v x18) ∧ ρ 7 = (Value.int .i64 l19.2) ∧ True) (fun x w => J27 x ∧ w2 = w) ?_ ?_
        · clear hk
          rcases Bool.eq_false_or_eq_true (decide (x26 < 0)) with hc28 | hc28
          · replace h := h.1 hc28
            refine wpR_pass (wantN rfl rfl rfl hc28) rfl rfl ?_
            refine wpR_pass (wantN rfl rfl rfl hc28) rfl rfl ?_
            refine wpR_pass (wantN rfl rfl rfl hc28) rfl rfl ?_
            refine wpR_pass (wantN rfl rfl rfl hc28) rfl rfl ?_
            refine wpR_pass (wantN rfl rfl rfl hc28) rfl rfl ?_
            refine wpR_pass (wantN rfl rfl rfl hc28) rfl rfl ?_
            refine wpR_pass (wantN rfl rfl rfl hc28) rfl rfl ?_
            refine wpR_pass (wantN rfl rfl rfl hc28) rfl rfl ?_
            refine wpR_val (v := (Value.bool true)) (w' := w2) rfl rfl rfl (x_pickT (v := (Value.bool true)) rfl rfl hc28 rfl) ?_
            refine wpR_nil ?_
            exact ⟨true, ⟨rfl, e3, e5, e6, e7, trivial⟩, h, rfl⟩
          · replace h := h.2 hc28
            refine wpR_val (v := (Value.pointer (some ((Addr.mk b9 0 none).add 8)))) (w' := w2) (wantG rfl rfl rfl hc28) rfl rfl (x_fieldAddr rfl e3 FA_37_8) ?_
            obtain ⟨x29, q29, h⟩ := h
            refine wpR_val (v := (Sl.v x29)) (w' := w2) (wantG rfl rfl rfl hc28) rfl rfl (x_load1 rfl rfl SH_35 q29) ?_
            refine wpR_val (v := (Value.int .i64 l19.2)) (w' := w2) (wantG rfl rfl rfl hc28) rfl rfl (x_move (v := (Value.int .i64 l19.2)) rfl e7) ?_
            obtain ⟨q30, z30, r30, h⟩ := h
            generalize hp30 : z30.add ((l19.2 : Int).toNat * 1) = p30 at h
            refine wpR_val (v := (Value.pointer (some p30))) (w' := w2) (wantG rfl rfl rfl hc28) rfl rfl ((x_indexAddr (s := x29) rfl rfl rfl ES_35 q30 r30).trans (by rw [hp30])) ?_
            obtain ⟨x31, q31, h⟩ := h
            refine wpR_val (v := (Value.int .i64 x31)) (w' := w2) (wantG rfl rfl rfl hc28) rfl rfl (x_load1 rfl rfl SH_3 q31) ?_
            refine wpR_val (v := (Sl.v x18)) (w' := w2) (wantG rfl rfl rfl hc28) rfl rfl (x_move (v := (Sl.v x18)) rfl e6) ?_
            refine wpR_val (v := (Value.int .i64 (x18.len : Int))) (w' := w2) (wantG rfl rfl rfl hc28) rfl rfl (x_lenS (s := x18) rfl rfl isSliceT_25) ?_
            refine wpR_val (v := (Value.bool (decide ((x18.len : Int) ≤ x31)))) (w' := w2) (wantG rfl rfl rfl hc28) rfl rfl (x_geq rfl rfl rfl) ?_
            refine wpR_val (v := (Value.bool (decide ((x18.len : Int) ≤ x31)))) (w' := w2) rfl rfl rfl (x_pickF (v := (Value.bool (decide ((x18.len : Int) ≤ x31)))) rfl rfl hc28 rfl) ?_
            refine wpR_nil ?_
            exact ⟨decide ((x18.len : Int) ≤ x31), ⟨rfl, e3, e5, e6, e7, trivial⟩, h, rfl⟩
        clear h
        rintro c32 ρ wj ⟨e46, e3, e5, e6, e7, -⟩ ⟨h, rfl⟩
        replace h := hk c32 h
        clear hk
        refine wpR_nil ?_
        refine wpC_cond (b := c32) e46 (fun hc33 => ?_) (fun hc33 => ?_)
        · replace h := h.1 hc33
          refine wpC_exit ?_
          exact ⟨l19.1, ⟨e5, e3, e6, e7, trivial⟩, h⟩
        · replace h := h.2 hc33
          refine wpC_skip ?_
          refine wpC_seq ?_
          refine wpC_region ?_
          refine wpR_val (v := (Sl.v x18)) (w' := w2) rfl rfl rfl (x_move (v := (Sl.v x18)) rfl e6) ?_
          refine wpR_val (v := (Value.pointer (some ((Addr.mk b9 0 none).add 8)))) (w' := w2) rfl rfl rfl (x_fieldAddr rfl e3 FA_37_8) ?_
          obtain ⟨x34, q34, h⟩ := h
          refine wpR_val (v := (Sl.v x34)) (w' := w2) rfl rfl rfl (x_load1 rfl rfl SH_35 q34) ?_
          refine wpR_val (v := (Value.int .i64 l19.2)) (w' := w2) rfl rfl rfl (x_move (v := (Value.int .i64 l19.2)) rfl e7) ?_
          obtain ⟨q35, z35, r35, h⟩ := h
          generalize hp35 : z35.add ((l19.2 : Int).toNat * 1) = p35 at h
          refine wpR_val (v := (Value.pointer (some p35))) (w' := w2) rfl rfl rfl ((x_indexAddr (s := x34) rfl rfl rfl ES_35 q35 r35).trans (by rw [hp35])) ?_
          obtain ⟨x36, q36, h⟩ := h
          refine wpR_val (v := (Value.int .i64 x36)) (w' := w2) rfl rfl rfl (x_load1 rfl rfl SH_3 q36) ?_
          obtain ⟨q37, z37, r37, h⟩ := h
          generalize hp37 : z37.add ((x36 : Int).toNat * 2) = p37 at h
          refine wpR_val (v := (Value.pointer (some p37))) (w' := w2) rfl rfl rfl ((x_indexAddr (s := x18) rfl rfl rfl ES_25 q37 r37).trans (by rw [hp37])) ?_
          obtain ⟨x38, q38, x39, q39, h⟩ := h
          refine wpR_val (v := (Value.agg #[(Value.int .i64 x38), (Value.int .i64 x39)])) (w' := w2) rfl rfl rfl (x_loadN [(Value.int .i64 x38), (Value.int .i64 x39)] rfl rfl SH_56 (CellsAt.out (CellsAt.cons q38 (CellsAt.cons q39 CellsAt.nil)))) ?_
          obtain ⟨b40, hb40⟩ : ∃ u, u = w2.heap.size := ⟨_, rfl⟩
          obtain ⟨w4, hw40⟩ : ∃ u, u = w2.alloc (.cells #[(Value.int .i64 0), (Value.int .i64 0)] 56) := ⟨_, rfl⟩
          replace h := h b40 w4 hb40 hw40
          refine wpR_val (v := (Value.pointer (some (Addr.mk b40 0 none)))) (w' := w4) rfl rfl rfl ((x_alloc rfl ZV_56).trans (by rw [hb40, hw40]; rfl)) ?_
          obtain ⟨q41, h⟩ := h
          obtain ⟨w5, hw41⟩ : ∃ u, u = setAll w4 (Addr.mk b40 0 none) [(Value.int .i64 x38), (Value.int .i64 x39)] 0 := ⟨_, rfl⟩
          replace h := h w5 hw41
          refine wpR_skp (w' := w5) rfl rfl ((x_store (v := (Value.agg #[(Value.int .i64 x38), (Value.int .i64 x39)])) rfl rfl rfl SZ_56 (ones (by rfl)) q41).trans (by rw [hw41]; rfl)) ?_
          refine wpR_nil ?_
          obtain ⟨J42, h, hk⟩ := h
          refine wpC_seqJ (fun (x : Unit) ρ => ρ 3 = (Value.pointer (some (Addr.mk b9 0 none))) ∧ ρ 5 = (Sl.v l19.1) ∧ ρ 6 = (Sl.v x18) ∧ ρ 7 = (Value.int .i64 l19.2) ∧ ρ 8 = (Value.pointer (some (Addr.mk b40 0 none))) ∧ True) J42 ?_ ?_
          · clear hk
            refine wpC_seq ?_
            refine wpC_cut (fun ρ => ρ 3 = (Value.pointer (some (Addr.mk b9 0 none))) ∧ ρ 5 = (Sl.v l19.1) ∧ ρ 6 = (Sl.v x18) ∧ ρ 7 = (Value.int .i64 l19.2) ∧ ρ 8 = (Value.pointer (some (Addr.mk b40 0 none))) ∧ True) ⟨e3, e5, e6, e7, rfl, trivial⟩ ?_
            rintro ρ ⟨e3, e5, e6, e7, e8, -⟩
            refine wpC_region ?_
            refine wpR_val (v := (Sl.v l19.1)) (w' := w5) rfl rfl rfl (x_move (v := (Sl.v l19.1)) rfl e5) ?_
            refine wpR_val (v := (Value.int .i64 (l19.1.len : Int))) (w' := w5) rfl rfl rfl (x_lenS (s := l19.1) rfl rfl isSliceT_25) ?_
            refine wpR_val (v := (Value.bool (decide ((l19.1.len : Int) = 0)))) (w' := w5) rfl rfl rfl (x_eql rfl rfl rfl) ?_
            refine wpR_nil ?_
            refine wpC_cond (b := decide ((l19.1.len : Int) = 0)) rfl (fun hc44 => ?_) (fun hc44 => ?_)
            · replace h := h.1 hc44
              refine wpC_cut (fun ρ => ρ 3 = (Value.pointer (some (Addr.mk b9 0 none))) ∧ ρ 5 = (Sl.v l19.1) ∧ ρ 6 = (Sl.v x18) ∧ ρ 7 = (Value.int .i64 l19.2) ∧ ρ 8 = (Value.pointer (some (Addr.mk b40 0 none))) ∧ True) ⟨e3, e5, e6, e7, e8, trivial⟩ ?_
              rintro ρ ⟨e3, e5, e6, e7, e8, -⟩
              refine wpC_region ?_
              refine wpR_val (v := (Value.pointer (some ((Addr.mk b40 0 none).add 1)))) (w' := w5) rfl rfl rfl (x_fieldAddr rfl e8 FA_56_1) ?_
              obtain ⟨x45, q45, h⟩ := h
              refine wpR_val (v := (Value.int .i64 x45)) (w' := w5) rfl rfl rfl (x_load1 rfl rfl SH_3 q45) ?_
              refine wpR_val (v := (Value.pointer (some ((Addr.mk b9 0 none).add 6)))) (w' := w5) rfl rfl rfl (x_fieldAddr rfl e3 FA_37_6) ?_
              obtain ⟨x46, q46, h⟩ := h
              refine wpR_val (v := (Value.int .i64 x46)) (w' := w5) rfl rfl rfl (x_load1 rfl rfl SH_3 q46) ?_
              refine wpR_val (v := (Value.int .i64 (IntKind.i64.wrap (x45 + x46)))) (w' := w5) rfl rfl rfl (x_add rfl rfl rfl) ?_
              refine wpR_val (v := (Value.pointer (some ((Addr.mk b40 0 none).add 1)))) (w' := w5) rfl rfl rfl (x_fieldAddr rfl e8 FA_56_1) ?_
              obtain ⟨q47, h⟩ := h
              obtain ⟨w7, hw47⟩ : ∃ u, u = setAll w5 ((Addr.mk b40 0 none).add 1) [(Value.int .i64 (IntKind.i64.wrap (x45 + x46)))] 0 := ⟨_, rfl⟩
              replace h := h w7 hw47
              refine wpR_skp (w' := w7) rfl rfl ((x_store (v := (Value.int .i64 (IntKind.i64.wrap (x45 + x46)))) rfl rfl rfl SZ_3 (ones (by rfl)) q47).trans (by rw [hw47]; rfl)) ?_
              refine wpR_nil ?_
              exact ⟨(), ⟨e3, e5, e6, e7, e8, trivial⟩, h⟩
            · replace h := h.2 hc44
              refine wpC_skip ?_
              exact ⟨(), ⟨e3, e5, e6, e7, e8, trivial⟩, h⟩
          clear h
          rintro l43 ρ w6 ⟨e3, e5, e6, e7, e8, -⟩ h
          replace h := hk l43 w6 h
          clear hk
          refine wpC_region ?_
          refine wpR_val (v := (Sl.v l19.1)) (w' := w6) rfl rfl rfl (x_move (v := (Sl.v l19.1)) rfl e5) ?_
          obtain ⟨x48, q48, x49, q49, h⟩ := h
          refine wpR_val (v := (Value.agg #[(Value.int .i64 x48), (Value.int .i64 x49)])) (w' := w6) rfl rfl rfl (x_loadN [(Value.int .i64 x48), (Value.int .i64 x49)] rfl e8 SH_56 (CellsAt.out (CellsAt.cons q48 (CellsAt.cons q49 CellsAt.nil)))) ?_
          obtain ⟨b50, hb50⟩ : ∃ u, u = w6.heap.size := ⟨_, rfl⟩
          obtain ⟨w8, hw50⟩ : ∃ u, u = w6.alloc (.cells #[(Value.int .i64 x48), (Value.int .i64 x49)] 56) := ⟨_, rfl⟩
          replace h := h b50 w8 hb50 hw50
          refine wpR_val (v := (Sl.v (⟨some ⟨b50, 0, none⟩, 1, 1⟩ : Sl))) (w' := w8) rfl rfl rfl ((x_buildSlice (qs := [(0, (Value.agg #[(Value.int .i64 x48), (Value.int .i64 x49)]))]) rfl (by rfl) (BS_25_1_0 x48 x49)).trans (by rw [← hb50, ← hw50])) ?_
          obtain ⟨r51, w9, q51, h⟩ := h
          refine wpR_val (v := (Sl.v r51)) (w' := w9) rfl rfl rfl (x_append (s := l19.1) (u := (⟨some ⟨b50, 0, none⟩, 1, 1⟩ : Sl)) rfl rfl rfl rfl q51) ?_
          refine wpR_val (v := (Sl.v r51)) (w' := w9) rfl rfl rfl (x_assign (v := (Sl.v r51)) rfl rfl) ?_
          refine wpR_nil ?_
          exact ⟨r51, ⟨rfl, e3, e6, e7, trivial⟩, h⟩
      clear h
      rintro l23 ρ w3 ⟨e5, e3, e6, e7, -⟩ h
      replace h := hk l23 w3 h
      clear hk
      refine wpC_region ?_
      refine wpR_val (v := (Value.int .i64 l19.2)) (w' := w3) rfl rfl rfl (x_move (v := (Value.int .i64 l19.2)) rfl e7) ?_
      refine wpR_val (v := (Value.int .i64 (IntKind.i64.wrap (l19.2 + 1)))) (w' := w3) rfl rfl rfl (x_add rfl rfl rfl) ?_
      refine wpR_val (v := (Value.int .i64 (IntKind.i64.wrap (l19.2 + 1)))) (w' := w3) rfl rfl rfl (x_assign (v := (Value.int .i64 (IntKind.i64.wrap (l19.2 + 1)))) rfl rfl) ?_
      refine wpR_nil ?_
      exact ⟨(l23, IntKind.i64.wrap (l19.2 + 1)), ⟨e5, rfl, e3, e6, trivial⟩, h⟩
    · replace h := h.2 hc21
      refine wpC_exit ?_
      refine wpC_seq ?_
      refine wpC_cut (fun ρ => ρ 5 = (Sl.v l19.1) ∧ True) ⟨e5, trivial⟩ ?_
      rintro ρ ⟨e5, -⟩
      refine wpC_region ?_
      refine wpR_val (v := (Sl.v l19.1)) (w' := w2) rfl rfl rfl (x_move (v := (Sl.v l19.1)) rfl e5) ?_
      refine wpR_val (v := (Sl.v l19.1)) (w' := w2) rfl rfl rfl (x_assign (v := (Sl.v l19.1)) rfl rfl) ?_
      refine wpR_nil ?_
      refine wpC_ret ?_
      exact ⟨.inl rfl, fun a ha => ⟨_, results_rep1 rfl ha rfl, l19.1, rfl, h⟩⟩

/-- (*sealed.Safe).Burn -/
def F14 (p0 : Option Addr) (p1 : Int) (w0 : World) (K : Int → World → Prop) : Prop :=
  jp (fun J9 => cnd (decide (p1 < 0))
    (
    J9 true
    )
    (
    nn p0 fun a11 =>
    ld Sl.v (a11.add 1) w0 fun x12 =>
    J9 (decide ((x12.len : Int) ≤ p1))
    ))
  fun c13 =>
  cnd (c13)
    (
    K 4 w0
    )
    (
    jn (fun (J16 : Int → World → Prop) => tk w0 fun w1 =>
      nn p0 fun a17 =>
      ld Value.pointer ((a17.add 0).add 0) w1 fun x18 =>
      nn p0 fun a19 =>
      ld Sl.v (a19.add 1) w1 fun x20 =>
      ix x20 p1 3 fun p21 =>
      ld (Value.int .i64) (p21.add 0) w1 fun x22 =>
      callC Try.prog 30 #[(Value.pointer x18), (Value.int .i64 x22)] (fun (r : Int) => (Value.int .i64 r)) w1 fun r23 w2 =>
      (w2.cell? (a19.add 1) = some (Sl.v x20)) ∧
      J16 r23 w2
    )
    fun l24 w3 =>
    K l24 w3
    )
set_option maxRecDepth 100000 in
theorem D14 (p0 : Option Addr) (p1 : Int) (w0 : World) (K : Int → World → Prop) (h : F14 p0 p1 w0 K) : callC Try.prog 14 #[(Value.pointer p0), (Value.int .i64 p1)] (fun (r : Int) => (Value.int .i64 r)) w0 K := by
  unfold F14 at h
  refine calls_of_wpC Try.func14 rfl 30 rfl (by simp) ?_
  intro ρ hρ
  have e0 : ρ 0 = (Value.pointer p0) := hρ 0
  have e1 : ρ 1 = (Value.int .i64 p1) := hρ 1
  clear hρ
  refine wpC_seq ?_
  refine wpC_region ?_
  refine wpR_val (v := (Value.int .i64 0)) (w' := w0) rfl rfl rfl (x_assign (v := (Value.int .i64 0)) rfl rfl) ?_
  refine wpR_nil ?_
  refine wpC_seq ?_
  refine wpC_seq ?_
  refine wpC_cut (fun ρ => ρ 0 = (Value.pointer p0) ∧ ρ 1 = (Value.int .i64 p1) ∧ True) ⟨e0, e1, trivial⟩ ?_
  rintro ρ ⟨e0, e1, -⟩
  refine wpC_region ?_
  refine wpR_val (v := (Value.int .i64 p1)) (w' := w0) rfl rfl rfl (x_move (v := (Value.int .i64 p1)) rfl e1) ?_
  refine wpR_val (v := (Value.bool (decide (p1 < 0)))) (w' := w0) rfl rfl rfl (x_lss rfl rfl rfl) ?_
  refine wpR_val (v := (Value.bool (decide (p1 < 0)))) (w' := w0) rfl rfl rfl (x_move (v := (Value.bool (decide (p1 < 0)))) rfl rfl) ?_
  obtain ⟨J9, h, hk⟩ := h
  refine wpR_joinJ 8 (fun x ρ => ρ 15 = Value.bool x ∧ ρ 0 = (Value.pointer p0) ∧ ρ 1 = (Value.int .i64 p1) ∧ True) (fun x w => J9 x ∧ w0 = w) ?_ ?_
  · clear hk
    rcases Bool.eq_false_or_eq_true (decide (p1 < 0)) with hc10 | hc10
    · replace h := h.1 hc10
      refine wpR_pass (wantN rfl rfl rfl hc10) rfl rfl ?_
      refine wpR_pass (wantN rfl rfl rfl hc10) rfl rfl ?_
      refine wpR_pass (wantN rfl rfl rfl hc10) rfl rfl ?_
      refine wpR_pass (wantN rfl rfl rfl hc10) rfl rfl ?_
      refine wpR_pass (wantN rfl rfl rfl hc10) rfl rfl ?_
      refine wpR_pass (wantN rfl rfl rfl hc10) rfl rfl ?_
      refine wpR_pass (wantN rfl rfl rfl hc10) rfl rfl ?_
      refine wpR_val (v := (Value.bool true)) (w' := w0) rfl rfl rfl (x_pickT (v := (Value.bool true)) rfl rfl hc10 rfl) ?_
      refine wpR_nil ?_
      exact ⟨true, ⟨rfl, e0, e1, trivial⟩, h, rfl⟩
    · replace h := h.2 hc10
      refine wpR_val (v := (Value.int .i64 p1)) (w' := w0) (wantG rfl rfl rfl hc10) rfl rfl (x_move (v := (Value.int .i64 p1)) rfl e1) ?_
      refine wpR_val (v := (Value.pointer p0)) (w' := w0) (wantG rfl rfl rfl hc10) rfl rfl (x_move (v := (Value.pointer p0)) rfl e0) ?_
      obtain ⟨a11, q11, h⟩ := h
      refine wpR_val (v := (Value.pointer (some a11))) (w' := w0) (wantG rfl rfl rfl hc10) rfl rfl (x_nilCheck rfl rfl q11) ?_
      refine wpR_val (v := (Value.pointer (some (a11.add 1)))) (w' := w0) (wantG rfl rfl rfl hc10) rfl rfl (x_fieldAddr rfl rfl FA_63_1) ?_
      obtain ⟨x12, q12, h⟩ := h
      refine wpR_val (v := (Sl.v x12)) (w' := w0) (wantG rfl rfl rfl hc10) rfl rfl (x_load1 rfl rfl SH_61 q12) ?_
      refine wpR_val (v := (Value.int .i64 (x12.len : Int))) (w' := w0) (wantG rfl rfl rfl hc10) rfl rfl (x_lenS (s := x12) rfl rfl isSliceT_61) ?_
      refine wpR_val (v := (Value.bool (decide ((x12.len : Int) ≤ p1)))) (w' := w0) (wantG rfl rfl rfl hc10) rfl rfl (x_geq rfl rfl rfl) ?_
      refine wpR_val (v := (Value.bool (decide ((x12.len : Int) ≤ p1)))) (w' := w0) rfl rfl rfl (x_pickF (v := (Value.bool (decide ((x12.len : Int) ≤ p1)))) rfl rfl hc10 rfl) ?_
      refine wpR_nil ?_
      exact ⟨decide ((x12.len : Int) ≤ p1), ⟨rfl, e0, e1, trivial⟩, h, rfl⟩
  clear h
  rintro c13 ρ wj ⟨e15, e0, e1, -⟩ ⟨h, rfl⟩
  replace h := hk c13 h
  clear hk
  refine wpR_nil ?_
  refine wpC_cond (b := c13) e15 (fun hc14 => ?_) (fun hc14 => ?_)
  · replace h := h.1 hc14
    refine wpC_seq ?_
    refine wpC_region ?_
    refine wpR_val (v := (Value.int .i64 4)) (w' := w0) rfl rfl rfl (x_assign (v := (Value.int .i64 4)) rfl rfl) ?_
    refine wpR_nil ?_
    refine wpC_ret ?_
    exact ⟨.inl rfl, fun a ha => ⟨_, results_rep1 rfl ha rfl, 4, rfl, h⟩⟩
  · replace h := h.2 hc14
    refine wpC_skip ?_
    refine wpC_seq ?_
    obtain ⟨J16, h, hk⟩ := h
    refine wpC_drawJ (by kernel_rfl) (fun (x : Int) ρ => ρ 4 = (Value.int .i64 x) ∧ True) J16 ?_ ?_
    · clear hk
      unfold tk at h
      generalize w0.drew = w1 at h ⊢
      refine wpD_take (v := (Value.pointer p0)) 0 (fun _ => True) rfl (by kernel_rfl) (by kernel_rfl) (by kernel_rfl) rfl rfl rfl trivial (fun w _ => (x_move (v := (Value.pointer p0)) rfl e0)) ?_
      obtain ⟨a17, q17, h⟩ := h
      refine wpD_take (v := (Value.pointer (some a17))) 1 (fun _ => True) rfl (by kernel_rfl) (by kernel_rfl) (by kernel_rfl) rfl rfl rfl trivial (fun w _ => (x_nilCheck rfl rfl q17)) ?_
      refine wpD_take (v := (Value.pointer (some (a17.add 0)))) 2 (fun _ => True) rfl (by kernel_rfl) (by kernel_rfl) (by kernel_rfl) rfl rfl rfl trivial (fun w _ => (x_fieldAddr rfl rfl FA_63_0)) ?_
      refine wpD_take (v := (Value.pointer (some ((a17.add 0).add 0)))) 3 (fun _ => True) rfl (by kernel_rfl) (by kernel_rfl) (by kernel_rfl) rfl rfl rfl trivial (fun w _ => (x_fieldAddr rfl rfl FA_60_0)) ?_
      obtain ⟨x18, q18, h⟩ := h
      refine wpD_take (v := (Value.pointer x18)) 4 (fun w => w.cell? ((a17.add 0).add 0) = some (Value.pointer x18)) rfl (by kernel_rfl) (by kernel_rfl) (by kernel_rfl) rfl rfl rfl q18 (fun w q18 => (x_load1 rfl rfl SH_57 q18)) ?_
      refine wpD_take (v := (Value.pointer p0)) 5 (fun _ => True) rfl (by kernel_rfl) (by kernel_rfl) (by kernel_rfl) rfl rfl rfl trivial (fun w _ => (x_move (v := (Value.pointer p0)) rfl e0)) ?_
      obtain ⟨a19, q19, h⟩ := h
      refine wpD_take (v := (Value.pointer (some a19))) 6 (fun _ => True) rfl (by kernel_rfl) (by kernel_rfl) (by kernel_rfl) rfl rfl rfl trivial (fun w _ => (x_nilCheck rfl rfl q19)) ?_
      refine wpD_take (v := (Value.pointer (some (a19.add 1)))) 7 (fun _ => True) rfl (by kernel_rfl) (by kernel_rfl) (by kernel_rfl) rfl rfl rfl trivial (fun w _ => (x_fieldAddr rfl rfl FA_63_1)) ?_
      obtain ⟨x20, q20, h⟩ := h
      refine wpD_take (v := (Sl.v x20)) 8 (fun w => w.cell? (a19.add 1) = some (Sl.v x20)) rfl (by kernel_rfl) (by kernel_rfl) (by kernel_rfl) rfl rfl rfl q20 (fun w q20 => (x_load1 rfl rfl SH_61 q20)) ?_
      refine wpD_take (v := (Value.int .i64 p1)) 9 (fun _ => True) rfl (by kernel_rfl) (by kernel_rfl) (by kernel_rfl) rfl rfl rfl trivial (fun w _ => (x_move (v := (Value.int .i64 p1)) rfl e1)) ?_
      obtain ⟨q21, z21, r21, h⟩ := h
      generalize hp21 : z21.add ((p1 : Int).toNat * 3) = p21 at h
      refine wpD_take (v := (Value.pointer (some p21))) 10 (fun _ => True) rfl (by kernel_rfl) (by kernel_rfl) (by kernel_rfl) rfl rfl rfl trivial (fun w _ => ((x_indexAddr (s := x20) rfl rfl rfl ES_61 q21 r21).trans (by rw [hp21]))) ?_
      refine wpD_take (v := (Value.pointer (some (p21.add 0)))) 11 (fun _ => True) rfl (by kernel_rfl) (by kernel_rfl) (by kernel_rfl) rfl rfl rfl trivial (fun w _ => (x_fieldAddr rfl rfl FA_69_0)) ?_
      obtain ⟨x22, q22, h⟩ := h
      refine wpD_take (v := (Value.int .i64 x22)) 12 (fun w => w.cell? (p21.add 0) = some (Value.int .i64 x22)) rfl (by kernel_rfl) (by kernel_rfl) (by kernel_rfl) rfl rfl rfl q22 (fun w q22 => (x_load1 rfl rfl SH_3 q22)) ?_
      refine wpD_all (rs := [13]) (by kernel_rfl) (by simp) (allD_cons ?_ allD_nil)
      refine stepD_enterL (L' := [(11, fun _ => True), (10, fun _ => True), (9, fun _ => True), (8, fun w => w.cell? (a19.add 1) = some (Sl.v x20)), (7, fun _ => True), (6, fun _ => True), (5, fun _ => True), (3, fun _ => True), (2, fun _ => True), (1, fun _ => True), (0, fun _ => True)]) rfl rfl rfl rfl (x_call (vs := [(Value.pointer x18), (Value.int .i64 x22)]) rfl rfl (mapl_cons rfl (mapl_cons rfl mapl_nil)) Try.func30 NN_30 NB_30) (by kernel_rfl) (Calls.mono h ?_)
      rintro _ w2 ⟨r23, rfl, h⟩
      obtain ⟨o8, h⟩ := h
      refine ⟨_, rfl, (held_cons trivial (held_cons trivial (held_cons trivial (held_cons o8 (held_cons trivial (held_cons trivial (held_cons trivial (held_cons trivial (held_cons trivial (held_cons trivial (held_cons trivial held_nil))))))))))), ?_⟩
      refine wpD_take (v := (Value.int .i64 r23)) 14 (fun _ => True) rfl (by kernel_rfl) (by kernel_rfl) (by kernel_rfl) rfl rfl rfl trivial (fun w _ => (x_assign (v := (Value.int .i64 r23)) rfl rfl)) ?_
      exact wpD_done (by kernel_rfl) ⟨r23, ⟨rfl, trivial⟩, h⟩
    clear h
    rintro l24 ρ w3 ⟨e4, -⟩ h
    replace h := hk l24 w3 h
    clear hk
    refine wpC_ret ?_
    exact ⟨.inl rfl, fun a ha => ⟨_, results_rep1 rfl ha e4, l24, rfl, h⟩⟩

/-- (*sealed.Safe).Len -/
def F15 (p0 : Option Addr) (w0 : World) (K : Int → World → Prop) : Prop :=
  nn p0 fun a9 =>
  ld Sl.v (a9.add 1) w0 fun x10 =>
  K (x10.len : Int) w0
set_option maxRecDepth 100000 in
theorem D15 (p0 : Option Addr) (w0 : World) (K : Int → World → Prop) (h : F15 p0 w0 K) : callC Try.prog 15 #[(Value.pointer p0)] (fun (r : Int) => (Value.int .i64 r)) w0 K := by
  unfold F15 at h
  refine calls_of_wpC Try.func15 rfl 8 rfl (by simp) ?_
  intro ρ hρ
  have e0 : ρ 0 = (Value.pointer p0) := hρ 0
  clear hρ
  refine wpC_seq ?_
  refine wpC_region ?_
  refine wpR_val (v := (Value.int .i64 0)) (w' := w0) rfl rfl rfl (x_assign (v := (Value.int .i64 0)) rfl rfl) ?_
  refine wpR_nil ?_
  refine wpC_seq ?_
  refine wpC_cut (fun ρ => ρ 0 = (Value.pointer p0) ∧ True) ⟨e0, trivial⟩ ?_
  rintro ρ ⟨e0, -⟩
  refine wpC_region ?_
  refine wpR_val (v := (Value.pointer p0)) (w' := w0) rfl rfl rfl (x_move (v := (Value.pointer p0)) rfl e0) ?_
  obtain ⟨a9, q9, h⟩ := h
  refine wpR_val (v := (Value.pointer (some a9))) (w' := w0) rfl rfl rfl (x_nilCheck rfl rfl q9) ?_
  refine wpR_val (v := (Value.pointer (some (a9.add 1)))) (w' := w0) rfl rfl rfl (x_fieldAddr rfl rfl FA_63_1) ?_
  obtain ⟨x10, q10, h⟩ := h
  refine wpR_val (v := (Sl.v x10)) (w' := w0) rfl rfl rfl (x_load1 rfl rfl SH_61 q10) ?_
  refine wpR_val (v := (Value.int .i64 (x10.len : Int))) (w' := w0) rfl rfl rfl (x_lenS (s := x10) rfl rfl isSliceT_61) ?_
  refine wpR_val (v := (Value.int .i64 (x10.len : Int))) (w' := w0) rfl rfl rfl (x_assign (v := (Value.int .i64 (x10.len : Int))) rfl rfl) ?_
  refine wpR_nil ?_
  refine wpC_ret ?_
  exact ⟨.inl rfl, fun a ha => ⟨_, results_rep1 rfl ha rfl, (x10.len : Int), rfl, h⟩⟩

/-- lingualaw45.few -/
def F16 (p0 : Sl) (w0 : World) (K : Bool → World → Prop) : Prop :=
  lp (fun (next9 : Int → World → Prop) l9 w1 =>
    cnd ((decide (l9 < (p0.len : Int))) && (decide (l9 < 5)))
      (
      ix p0 l9 1 fun p13 =>
      ld Value.string p13 w1 fun x14 =>
      cnd (decide (200 < (x14.size : Int)))
        (
        K false w1
        )
        (
        next9 (IntKind.i64.wrap (l9 + 1)) w1
        )
      )
      (
      K (decide ((p0.len : Int) ≤ 4)) w1
      )
  ) 0 w0
set_option maxRecDepth 100000 in
theorem D16 (p0 : Sl) (w0 : World) (K : Bool → World → Prop) (h : F16 p0 w0 K) : callC Try.prog 16 #[(Sl.v p0)] (fun (r : Bool) => (Value.bool r)) w0 K := by
  unfold F16 at h
  refine calls_of_wpC Try.func16 rfl 23 rfl (by simp) ?_
  intro ρ hρ
  have e0 : ρ 0 = (Sl.v p0) := hρ 0
  clear hρ
  refine wpC_seq ?_
  refine wpC_region ?_
  refine wpR_val (v := (Value.bool false)) (w' := w0) rfl rfl rfl (x_assign (v := (Value.bool false)) rfl rfl) ?_
  refine wpR_nil ?_
  refine wpC_seq ?_
  refine wpC_seq ?_
  refine wpC_cut (fun ρ => ρ 0 = (Sl.v p0) ∧ True) ⟨e0, trivial⟩ ?_
  rintro ρ ⟨e0, -⟩
  refine wpC_region ?_
  refine wpR_val (v := (Value.int .i64 0)) (w' := w0) rfl rfl rfl (x_assign (v := (Value.int .i64 0)) rfl rfl) ?_
  refine wpR_nil ?_
  refine wpC_block ?_
  obtain ⟨I9, μ9, hI9, hr9⟩ := h
  refine wpC_loop (fun (x : Int) ρ => ρ 3 = (Value.int .i64 x) ∧ ρ 0 = (Sl.v p0) ∧ True) I9 μ9 0 ⟨rfl, e0, trivial⟩ hI9 ?_
  rintro l9 ρ w1 ⟨e3, e0, -⟩ h
  replace h := hr9 l9 w1 h
  clear hr9 hI9
  refine wpC_seq ?_
  refine wpC_seq ?_
  refine wpC_region ?_
  refine wpR_val (v := (Value.int .i64 l9)) (w' := w1) rfl rfl rfl (x_move (v := (Value.int .i64 l9)) rfl e3) ?_
  refine wpR_val (v := (Sl.v p0)) (w' := w1) rfl rfl rfl (x_move (v := (Sl.v p0)) rfl e0) ?_
  refine wpR_val (v := (Value.int .i64 (p0.len : Int))) (w' := w1) rfl rfl rfl (x_lenS (s := p0) rfl rfl isSliceT_43) ?_
  refine wpR_val (v := (Value.bool (decide (l9 < (p0.len : Int))))) (w' := w1) rfl rfl rfl (x_lss rfl rfl rfl) ?_
  refine wpR_val (v := (Value.bool (decide (l9 < (p0.len : Int))))) (w' := w1) rfl rfl rfl (x_move (v := (Value.bool (decide (l9 < (p0.len : Int))))) rfl rfl) ?_
  refine wpR_joinJ 3 (fun (_ : Unit) ρ => ρ 11 = Value.bool ((decide (l9 < (p0.len : Int))) && (decide (l9 < 5))) ∧ ρ 0 = (Sl.v p0) ∧ ρ 3 = (Value.int .i64 l9) ∧ True) (fun _ w => w1 = w) ?_ ?_
  · clear h
    rcases Bool.eq_false_or_eq_true (decide (l9 < (p0.len : Int))) with hc11 | hc11
    · skip
      refine wpR_val (v := (Value.int .i64 l9)) (w' := w1) (wantG rfl rfl rfl hc11) rfl rfl (x_move (v := (Value.int .i64 l9)) rfl e3) ?_
      refine wpR_val (v := (Value.bool (decide (l9 < 5)))) (w' := w1) (wantG rfl rfl rfl hc11) rfl rfl (x_lss rfl rfl rfl) ?_
      refine wpR_val (v := (Value.bool (decide (l9 < 5)))) (w' := w1) rfl rfl rfl (x_pickT (v := (Value.bool (decide (l9 < 5)))) rfl rfl hc11 rfl) ?_
      refine wpR_nil ?_
      exact ⟨(), ⟨(by rw [hc11]; rfl), e0, e3, trivial⟩, rfl⟩
    · skip
      refine wpR_pass (wantN rfl rfl rfl hc11) rfl rfl ?_
      refine wpR_pass (wantN rfl rfl rfl hc11) rfl rfl ?_
      refine wpR_val (v := (Value.bool false)) (w' := w1) rfl rfl rfl (x_pickF (v := (Value.bool false)) rfl rfl hc11 rfl) ?_
      refine wpR_nil ?_
      exact ⟨(), ⟨(by rw [hc11]; rfl), e0, e3, trivial⟩, rfl⟩
  rintro _ ρ wj ⟨e11, e0, e3, -⟩ rfl
  refine wpR_nil ?_
  refine wpC_cond (b := (decide (l9 < (p0.len : Int))) && (decide (l9 < 5))) e11 (fun hc12 => ?_) (fun hc12 => ?_)
  · replace h := h.1 hc12
    refine wpC_skip ?_
    refine wpC_seq ?_
    refine wpC_block ?_
    refine wpC_seq ?_
    refine wpC_region ?_
    refine wpR_val (v := (Sl.v p0)) (w' := w1) rfl rfl rfl (x_move (v := (Sl.v p0)) rfl e0) ?_
    refine wpR_val (v := (Value.int .i64 l9)) (w' := w1) rfl rfl rfl (x_move (v := (Value.int .i64 l9)) rfl e3) ?_
    obtain ⟨q13, z13, r13, h⟩ := h
    generalize hp13 : z13.add ((l9 : Int).toNat * 1) = p13 at h
    refine wpR_val (v := (Value.pointer (some p13))) (w' := w1) rfl rfl rfl ((x_indexAddr (s := p0) rfl rfl rfl ES_43 q13 r13).trans (by rw [hp13])) ?_
    obtain ⟨x14, q14, h⟩ := h
    refine wpR_val (v := (Value.string x14)) (w' := w1) rfl rfl rfl (x_load1 rfl rfl SH_9 q14) ?_
    refine wpR_val (v := (Value.int .i64 (x14.size : Int))) (w' := w1) rfl rfl rfl (x_lenStr rfl rfl isStrT_9) ?_
    refine wpR_val (v := (Value.bool (decide (200 < (x14.size : Int))))) (w' := w1) rfl rfl rfl (x_gtr rfl rfl rfl) ?_
    refine wpR_nil ?_
    refine wpC_cond (b := decide (200 < (x14.size : Int))) rfl (fun hc15 => ?_) (fun hc15 => ?_)
    · replace h := h.1 hc15
      refine wpC_seq ?_
      refine wpC_cut (fun ρ => True) trivial ?_
      rintro ρ -
      refine wpC_region ?_
      refine wpR_val (v := (Value.bool false)) (w' := w1) rfl rfl rfl (x_assign (v := (Value.bool false)) rfl rfl) ?_
      refine wpR_nil ?_
      refine wpC_ret ?_
      exact ⟨.inl rfl, fun a ha => ⟨_, results_rep1 rfl ha rfl, false, rfl, h⟩⟩
    · replace h := h.2 hc15
      refine wpC_skip ?_
      refine wpC_cut (fun ρ => ρ 0 = (Sl.v p0) ∧ ρ 3 = (Value.int .i64 l9) ∧ True) ⟨e0, e3, trivial⟩ ?_
      rintro ρ ⟨e0, e3, -⟩
      refine wpC_region ?_
      refine wpR_val (v := (Value.int .i64 l9)) (w' := w1) rfl rfl rfl (x_move (v := (Value.int .i64 l9)) rfl e3) ?_
      refine wpR_val (v := (Value.int .i64 (IntKind.i64.wrap (l9 + 1)))) (w' := w1) rfl rfl rfl (x_add rfl rfl rfl) ?_
      refine wpR_val (v := (Value.int .i64 (IntKind.i64.wrap (l9 + 1)))) (w' := w1) rfl rfl rfl (x_assign (v := (Value.int .i64 (IntKind.i64.wrap (l9 + 1)))) rfl rfl) ?_
      refine wpR_nil ?_
      exact ⟨IntKind.i64.wrap (l9 + 1), ⟨rfl, e0, trivial⟩, h⟩
  · replace h := h.2 hc12
    refine wpC_exit ?_
    refine wpC_seq ?_
    refine wpC_region ?_
    refine wpR_val (v := (Sl.v p0)) (w' := w1) rfl rfl rfl (x_move (v := (Sl.v p0)) rfl e0) ?_
    refine wpR_val (v := (Value.int .i64 (p0.len : Int))) (w' := w1) rfl rfl rfl (x_lenS (s := p0) rfl rfl isSliceT_43) ?_
    refine wpR_val (v := (Value.bool (decide ((p0.len : Int) ≤ 4)))) (w' := w1) rfl rfl rfl (x_leq rfl rfl rfl) ?_
    refine wpR_val (v := (Value.bool (decide ((p0.len : Int) ≤ 4)))) (w' := w1) rfl rfl rfl (x_assign (v := (Value.bool (decide ((p0.len : Int) ≤ 4)))) rfl rfl) ?_
    refine wpR_nil ?_
    refine wpC_ret ?_
    exact ⟨.inl rfl, fun a ha => ⟨_, results_rep1 rfl ha rfl, decide ((p0.len : Int) ≤ 4), rfl, h⟩⟩

/-- lingualaw45.made -/
def F17 (p0 : Sl) (p1 : ByteArray) (p2 : Int) (p3 : Int) (p4 : Int) (w0 : World) (K : ((Option Addr) × Int × Sl × Int) → World → Prop) : Prop :=
  callC Try.prog 8 #[] (fun (r : (Option Addr)) => (Value.pointer r)) w0 fun r9 w1 =>
  cnd (r9.isNone)
    (
    K (none, 0, Sl.nil, 7) w1
    )
    (
    lp (fun (next11 : Int → World → Prop) l11 w2 =>
      cnd (decide (l11 < (p0.len : Int)))
        (
        ix p0 l11 1 fun p13 =>
        ld Value.string p13 w2 fun x14 =>
        callC Try.prog 9 #[(Value.pointer r9), (Value.string x14), (Value.int .i64 1), (Value.int .i64 1), (Value.int .i64 l11)] (fun (r : Int × Sl × Int) => (Value.tuple #[(Value.int .i64 r.1), (Sl.v r.2.1), (Value.int .i64 r.2.2)])) w2 fun _r15 w3 =>
        next11 (IntKind.i64.wrap (l11 + 1)) w3
        )
        (
        callC Try.prog 9 #[(Value.pointer r9), (Value.string p1), (Value.int .i64 p2), (Value.int .i64 p3), (Value.int .i64 p4)] (fun (r : Int × Sl × Int) => (Value.tuple #[(Value.int .i64 r.1), (Sl.v r.2.1), (Value.int .i64 r.2.2)])) w2 fun r16 w4 =>
        lp (fun (next17 : Int → World → Prop) l17 w5 =>
          cnd (decide (l17 < (p0.len : Int)))
            (
            ix p0 l17 1 fun p19 =>
            ld Value.string p19 w5 fun x20 =>
            callC Try.prog 9 #[(Value.pointer r9), (Value.string x20), (Value.int .i64 p2), (Value.int .i64 p3), (Value.int .i64 p4)] (fun (r : Int × Sl × Int) => (Value.tuple #[(Value.int .i64 r.1), (Sl.v r.2.1), (Value.int .i64 r.2.2)])) w5 fun _r21 w6 =>
            next17 (IntKind.i64.wrap (l17 + 1)) w6
            )
            (
            K (r9, r16.1, r16.2.1, r16.2.2) w5
            )
        ) 0 w4
        )
    ) 0 w1
    )
set_option maxRecDepth 100000 in
theorem D17 (p0 : Sl) (p1 : ByteArray) (p2 : Int) (p3 : Int) (p4 : Int) (w0 : World) (K : ((Option Addr) × Int × Sl × Int) → World → Prop) (h : F17 p0 p1 p2 p3 p4 w0 K) : callC Try.prog 17 #[(Sl.v p0), (Value.string p1), (Value.int .i64 p2), (Value.int .i64 p3), (Value.int .i64 p4)] (fun (r : (Option Addr) × Int × Sl × Int) => (Value.tuple #[(Value.pointer r.1), (Value.int .i64 r.2.1), (Sl.v r.2.2.1), (Value.int .i64 r.2.2.2)])) w0 K := by
  unfold F17 at h
  refine calls_of_wpC Try.func17 rfl 65 rfl (by simp) ?_
  intro ρ hρ
  have e0 : ρ 0 = (Sl.v p0) := hρ 0
  have e1 : ρ 1 = (Value.string p1) := hρ 1
  have e2 : ρ 2 = (Value.int .i64 p2) := hρ 2
  have e3 : ρ 3 = (Value.int .i64 p3) := hρ 3
  have e4 : ρ 4 = (Value.int .i64 p4) := hρ 4
  clear hρ
  refine wpC_seq ?_
  refine wpC_region ?_
  refine wpR_val (v := (Value.pointer none)) (w' := w0) rfl rfl rfl (x_assign (v := (Value.pointer none)) rfl rfl) ?_
  refine wpR_val (v := (Value.int .i64 0)) (w' := w0) rfl rfl rfl (x_assign (v := (Value.int .i64 0)) rfl rfl) ?_
  refine wpR_val (v := (Sl.v Sl.nil)) (w' := w0) rfl rfl rfl (x_assign (v := (Sl.v Sl.nil)) rfl rfl) ?_
  refine wpR_val (v := (Value.int .i64 0)) (w' := w0) rfl rfl rfl (x_assign (v := (Value.int .i64 0)) rfl rfl) ?_
  refine wpR_nil ?_
  refine wpC_seq ?_
  refine wpC_cut (fun ρ => ρ 0 = (Sl.v p0) ∧ ρ 1 = (Value.string p1) ∧ ρ 2 = (Value.int .i64 p2) ∧ ρ 3 = (Value.int .i64 p3) ∧ ρ 4 = (Value.int .i64 p4) ∧ True) ⟨e0, e1, e2, e3, e4, trivial⟩ ?_
  rintro ρ ⟨e0, e1, e2, e3, e4, -⟩
  refine wpC_region ?_
  refine wpR_enter rfl rfl rfl (x_call (vs := []) rfl rfl mapl_nil Try.func8 NN_8 NB_8) (Calls.mono h ?_)
  rintro _ w1 ⟨r9, rfl, h⟩
  refine ⟨_, rfl, ?_⟩
  refine wpR_val (v := (Value.pointer r9)) (w' := w1) rfl rfl rfl (x_assign (v := (Value.pointer r9)) rfl rfl) ?_
  refine wpR_nil ?_
  refine wpC_seq ?_
  refine wpC_seq ?_
  refine wpC_cut (fun ρ => ρ 0 = (Sl.v p0) ∧ ρ 1 = (Value.string p1) ∧ ρ 2 = (Value.int .i64 p2) ∧ ρ 3 = (Value.int .i64 p3) ∧ ρ 4 = (Value.int .i64 p4) ∧ ρ 14 = (Value.pointer r9) ∧ True) ⟨e0, e1, e2, e3, e4, rfl, trivial⟩ ?_
  rintro ρ ⟨e0, e1, e2, e3, e4, e14, -⟩
  refine wpC_region ?_
  refine wpR_val (v := (Value.pointer r9)) (w' := w1) rfl rfl rfl (x_move (v := (Value.pointer r9)) rfl e14) ?_
  refine wpR_val (v := (Value.bool r9.isNone)) (w' := w1) rfl rfl rfl (x_eqlNil rfl rfl rfl isPtrT_23) ?_
  refine wpR_nil ?_
  refine wpC_cond (b := r9.isNone) rfl (fun hc10 => ?_) (fun hc10 => ?_)
  · replace h := h.1 hc10
    refine wpC_seq ?_
    refine wpC_cut (fun ρ => True) trivial ?_
    rintro ρ -
    refine wpC_region ?_
    refine wpR_val (v := (Value.pointer none)) (w' := w1) rfl rfl rfl (x_assign (v := (Value.pointer none)) rfl rfl) ?_
    refine wpR_val (v := (Value.int .i64 0)) (w' := w1) rfl rfl rfl (x_assign (v := (Value.int .i64 0)) rfl rfl) ?_
    refine wpR_val (v := (Sl.v Sl.nil)) (w' := w1) rfl rfl rfl (x_assign (v := (Sl.v Sl.nil)) rfl rfl) ?_
    refine wpR_val (v := (Value.int .i64 7)) (w' := w1) rfl rfl rfl (x_assign (v := (Value.int .i64 7)) rfl rfl) ?_
    refine wpR_nil ?_
    refine wpC_ret ?_
    exact ⟨.inl rfl, fun a ha => ⟨_, results_rep4 rfl ha rfl rfl rfl rfl, (none, 0, Sl.nil, 7), rfl, h⟩⟩
  · replace h := h.2 hc10
    refine wpC_skip ?_
    refine wpC_seq ?_
    refine wpC_seq ?_
    refine wpC_cut (fun ρ => ρ 0 = (Sl.v p0) ∧ ρ 1 = (Value.string p1) ∧ ρ 2 = (Value.int .i64 p2) ∧ ρ 3 = (Value.int .i64 p3) ∧ ρ 4 = (Value.int .i64 p4) ∧ ρ 14 = (Value.pointer r9) ∧ True) ⟨e0, e1, e2, e3, e4, e14, trivial⟩ ?_
    rintro ρ ⟨e0, e1, e2, e3, e4, e14, -⟩
    refine wpC_region ?_
    refine wpR_val (v := (Value.int .i64 0)) (w' := w1) rfl rfl rfl (x_assign (v := (Value.int .i64 0)) rfl rfl) ?_
    refine wpR_nil ?_
    refine wpC_block ?_
    obtain ⟨I11, μ11, hI11, hr11⟩ := h
    refine wpC_loop (fun (x : Int) ρ => ρ 15 = (Value.int .i64 x) ∧ ρ 0 = (Sl.v p0) ∧ ρ 1 = (Value.string p1) ∧ ρ 2 = (Value.int .i64 p2) ∧ ρ 3 = (Value.int .i64 p3) ∧ ρ 4 = (Value.int .i64 p4) ∧ ρ 14 = (Value.pointer r9) ∧ True) I11 μ11 0 ⟨rfl, e0, e1, e2, e3, e4, e14, trivial⟩ hI11 ?_
    rintro l11 ρ w2 ⟨e15, e0, e1, e2, e3, e4, e14, -⟩ h
    replace h := hr11 l11 w2 h
    clear hr11 hI11
    refine wpC_seq ?_
    refine wpC_seq ?_
    refine wpC_region ?_
    refine wpR_val (v := (Value.int .i64 l11)) (w' := w2) rfl rfl rfl (x_move (v := (Value.int .i64 l11)) rfl e15) ?_
    refine wpR_val (v := (Sl.v p0)) (w' := w2) rfl rfl rfl (x_move (v := (Sl.v p0)) rfl e0) ?_
    refine wpR_val (v := (Value.int .i64 (p0.len : Int))) (w' := w2) rfl rfl rfl (x_lenS (s := p0) rfl rfl isSliceT_43) ?_
    refine wpR_val (v := (Value.bool (decide (l11 < (p0.len : Int))))) (w' := w2) rfl rfl rfl (x_lss rfl rfl rfl) ?_
    refine wpR_nil ?_
    refine wpC_cond (b := decide (l11 < (p0.len : Int))) rfl (fun hc12 => ?_) (fun hc12 => ?_)
    · replace h := h.1 hc12
      refine wpC_skip ?_
      refine wpC_seq ?_
      refine wpC_block ?_
      refine wpC_cut (fun ρ => ρ 0 = (Sl.v p0) ∧ ρ 1 = (Value.string p1) ∧ ρ 2 = (Value.int .i64 p2) ∧ ρ 3 = (Value.int .i64 p3) ∧ ρ 4 = (Value.int .i64 p4) ∧ ρ 14 = (Value.pointer r9) ∧ ρ 15 = (Value.int .i64 l11) ∧ True) ⟨e0, e1, e2, e3, e4, e14, e15, trivial⟩ ?_
      rintro ρ ⟨e0, e1, e2, e3, e4, e14, e15, -⟩
      refine wpC_region ?_
      refine wpR_val (v := (Value.pointer r9)) (w' := w2) rfl rfl rfl (x_move (v := (Value.pointer r9)) rfl e14) ?_
      refine wpR_val (v := (Sl.v p0)) (w' := w2) rfl rfl rfl (x_move (v := (Sl.v p0)) rfl e0) ?_
      refine wpR_val (v := (Value.int .i64 l11)) (w' := w2) rfl rfl rfl (x_move (v := (Value.int .i64 l11)) rfl e15) ?_
      obtain ⟨q13, z13, r13, h⟩ := h
      generalize hp13 : z13.add ((l11 : Int).toNat * 1) = p13 at h
      refine wpR_val (v := (Value.pointer (some p13))) (w' := w2) rfl rfl rfl ((x_indexAddr (s := p0) rfl rfl rfl ES_43 q13 r13).trans (by rw [hp13])) ?_
      obtain ⟨x14, q14, h⟩ := h
      refine wpR_val (v := (Value.string x14)) (w' := w2) rfl rfl rfl (x_load1 rfl rfl SH_9 q14) ?_
      refine wpR_val (v := (Value.int .i64 l11)) (w' := w2) rfl rfl rfl (x_move (v := (Value.int .i64 l11)) rfl e15) ?_
      refine wpR_enter rfl rfl rfl (x_call (vs := [(Value.pointer r9), (Value.string x14), (Value.int .i64 1), (Value.int .i64 1), (Value.int .i64 l11)]) rfl rfl (mapl_cons rfl (mapl_cons rfl (mapl_cons rfl (mapl_cons rfl (mapl_cons rfl mapl_nil))))) Try.func9 NN_9 NB_9) (Calls.mono h ?_)
      rintro _ w3 ⟨r15, rfl, h⟩
      refine ⟨_, rfl, ?_⟩
      refine wpR_nil ?_
      refine wpC_cut (fun ρ => ρ 0 = (Sl.v p0) ∧ ρ 1 = (Value.string p1) ∧ ρ 2 = (Value.int .i64 p2) ∧ ρ 3 = (Value.int .i64 p3) ∧ ρ 4 = (Value.int .i64 p4) ∧ ρ 14 = (Value.pointer r9) ∧ ρ 15 = (Value.int .i64 l11) ∧ True) ⟨e0, e1, e2, e3, e4, e14, e15, trivial⟩ ?_
      rintro ρ ⟨e0, e1, e2, e3, e4, e14, e15, -⟩
      refine wpC_region ?_
      refine wpR_val (v := (Value.int .i64 l11)) (w' := w3) rfl rfl rfl (x_move (v := (Value.int .i64 l11)) rfl e15) ?_
      refine wpR_val (v := (Value.int .i64 (IntKind.i64.wrap (l11 + 1)))) (w' := w3) rfl rfl rfl (x_add rfl rfl rfl) ?_
      refine wpR_val (v := (Value.int .i64 (IntKind.i64.wrap (l11 + 1)))) (w' := w3) rfl rfl rfl (x_assign (v := (Value.int .i64 (IntKind.i64.wrap (l11 + 1)))) rfl rfl) ?_
      refine wpR_nil ?_
      exact ⟨IntKind.i64.wrap (l11 + 1), ⟨rfl, e0, e1, e2, e3, e4, e14, trivial⟩, h⟩
    · replace h := h.2 hc12
      refine wpC_exit ?_
      refine wpC_seq ?_
      refine wpC_cut (fun ρ => ρ 0 = (Sl.v p0) ∧ ρ 1 = (Value.string p1) ∧ ρ 2 = (Value.int .i64 p2) ∧ ρ 3 = (Value.int .i64 p3) ∧ ρ 4 = (Value.int .i64 p4) ∧ ρ 14 = (Value.pointer r9) ∧ True) ⟨e0, e1, e2, e3, e4, e14, trivial⟩ ?_
      rintro ρ ⟨e0, e1, e2, e3, e4, e14, -⟩
      refine wpC_region ?_
      refine wpR_val (v := (Value.pointer r9)) (w' := w2) rfl rfl rfl (x_move (v := (Value.pointer r9)) rfl e14) ?_
      refine wpR_val (v := (Value.string p1)) (w' := w2) rfl rfl rfl (x_move (v := (Value.string p1)) rfl e1) ?_
      refine wpR_val (v := (Value.int .i64 p2)) (w' := w2) rfl rfl rfl (x_move (v := (Value.int .i64 p2)) rfl e2) ?_
      refine wpR_val (v := (Value.int .i64 p3)) (w' := w2) rfl rfl rfl (x_move (v := (Value.int .i64 p3)) rfl e3) ?_
      refine wpR_val (v := (Value.int .i64 p4)) (w' := w2) rfl rfl rfl (x_move (v := (Value.int .i64 p4)) rfl e4) ?_
      refine wpR_enter rfl rfl rfl (x_call (vs := [(Value.pointer r9), (Value.string p1), (Value.int .i64 p2), (Value.int .i64 p3), (Value.int .i64 p4)]) rfl rfl (mapl_cons rfl (mapl_cons rfl (mapl_cons rfl (mapl_cons rfl (mapl_cons rfl mapl_nil))))) Try.func9 NN_9 NB_9) (Calls.mono h ?_)
      rintro _ w4 ⟨r16, rfl, h⟩
      refine ⟨_, rfl, ?_⟩
      refine wpR_val (v := (Value.tuple #[(Value.int .i64 r16.1), (Sl.v r16.2.1), (Value.int .i64 r16.2.2)])) (w' := w4) rfl rfl rfl (x_move (v := (Value.tuple #[(Value.int .i64 r16.1), (Sl.v r16.2.1), (Value.int .i64 r16.2.2)])) rfl rfl) ?_
      refine wpR_val (v := (Value.int .i64 r16.1)) (w' := w4) rfl rfl rfl (x_extract rfl rfl rfl) ?_
      refine wpR_val (v := (Sl.v r16.2.1)) (w' := w4) rfl rfl rfl (x_extract rfl rfl rfl) ?_
      refine wpR_val (v := (Value.int .i64 r16.2.2)) (w' := w4) rfl rfl rfl (x_extract rfl rfl rfl) ?_
      refine wpR_val (v := (Value.int .i64 r16.1)) (w' := w4) rfl rfl rfl (x_assign (v := (Value.int .i64 r16.1)) rfl rfl) ?_
      refine wpR_val (v := (Sl.v r16.2.1)) (w' := w4) rfl rfl rfl (x_assign (v := (Sl.v r16.2.1)) rfl rfl) ?_
      refine wpR_val (v := (Value.int .i64 r16.2.2)) (w' := w4) rfl rfl rfl (x_assign (v := (Value.int .i64 r16.2.2)) rfl rfl) ?_
      refine wpR_nil ?_
      refine wpC_seq ?_
      refine wpC_seq ?_
      refine wpC_cut (fun ρ => ρ 0 = (Sl.v p0) ∧ ρ 2 = (Value.int .i64 p2) ∧ ρ 3 = (Value.int .i64 p3) ∧ ρ 4 = (Value.int .i64 p4) ∧ ρ 14 = (Value.pointer r9) ∧ ρ 16 = (Value.int .i64 r16.1) ∧ ρ 17 = (Sl.v r16.2.1) ∧ ρ 18 = (Value.int .i64 r16.2.2) ∧ True) ⟨e0, e2, e3, e4, e14, rfl, rfl, rfl, trivial⟩ ?_
      rintro ρ ⟨e0, e2, e3, e4, e14, e16, e17, e18, -⟩
      refine wpC_region ?_
      refine wpR_val (v := (Value.int .i64 0)) (w' := w4) rfl rfl rfl (x_assign (v := (Value.int .i64 0)) rfl rfl) ?_
      refine wpR_nil ?_
      refine wpC_block ?_
      obtain ⟨I17, μ17, hI17, hr17⟩ := h
      refine wpC_loop (fun (x : Int) ρ => ρ 19 = (Value.int .i64 x) ∧ ρ 0 = (Sl.v p0) ∧ ρ 2 = (Value.int .i64 p2) ∧ ρ 3 = (Value.int .i64 p3) ∧ ρ 4 = (Value.int .i64 p4) ∧ ρ 14 = (Value.pointer r9) ∧ ρ 16 = (Value.int .i64 r16.1) ∧ ρ 17 = (Sl.v r16.2.1) ∧ ρ 18 = (Value.int .i64 r16.2.2) ∧ True) I17 μ17 0 ⟨rfl, e0, e2, e3, e4, e14, e16, e17, e18, trivial⟩ hI17 ?_
      rintro l17 ρ w5 ⟨e19, e0, e2, e3, e4, e14, e16, e17, e18, -⟩ h
      replace h := hr17 l17 w5 h
      clear hr17 hI17
      refine wpC_seq ?_
      refine wpC_seq ?_
      refine wpC_region ?_
      refine wpR_val (v := (Value.int .i64 l17)) (w' := w5) rfl rfl rfl (x_move (v := (Value.int .i64 l17)) rfl e19) ?_
      refine wpR_val (v := (Sl.v p0)) (w' := w5) rfl rfl rfl (x_move (v := (Sl.v p0)) rfl e0) ?_
      refine wpR_val (v := (Value.int .i64 (p0.len : Int))) (w' := w5) rfl rfl rfl (x_lenS (s := p0) rfl rfl isSliceT_43) ?_
      refine wpR_val (v := (Value.bool (decide (l17 < (p0.len : Int))))) (w' := w5) rfl rfl rfl (x_lss rfl rfl rfl) ?_
      refine wpR_nil ?_
      refine wpC_cond (b := decide (l17 < (p0.len : Int))) rfl (fun hc18 => ?_) (fun hc18 => ?_)
      · replace h := h.1 hc18
        refine wpC_skip ?_
        refine wpC_seq ?_
        refine wpC_block ?_
        refine wpC_cut (fun ρ => ρ 0 = (Sl.v p0) ∧ ρ 2 = (Value.int .i64 p2) ∧ ρ 3 = (Value.int .i64 p3) ∧ ρ 4 = (Value.int .i64 p4) ∧ ρ 14 = (Value.pointer r9) ∧ ρ 16 = (Value.int .i64 r16.1) ∧ ρ 17 = (Sl.v r16.2.1) ∧ ρ 18 = (Value.int .i64 r16.2.2) ∧ ρ 19 = (Value.int .i64 l17) ∧ True) ⟨e0, e2, e3, e4, e14, e16, e17, e18, e19, trivial⟩ ?_
        rintro ρ ⟨e0, e2, e3, e4, e14, e16, e17, e18, e19, -⟩
        refine wpC_region ?_
        refine wpR_val (v := (Value.pointer r9)) (w' := w5) rfl rfl rfl (x_move (v := (Value.pointer r9)) rfl e14) ?_
        refine wpR_val (v := (Sl.v p0)) (w' := w5) rfl rfl rfl (x_move (v := (Sl.v p0)) rfl e0) ?_
        refine wpR_val (v := (Value.int .i64 l17)) (w' := w5) rfl rfl rfl (x_move (v := (Value.int .i64 l17)) rfl e19) ?_
        obtain ⟨q19, z19, r19, h⟩ := h
        generalize hp19 : z19.add ((l17 : Int).toNat * 1) = p19 at h
        refine wpR_val (v := (Value.pointer (some p19))) (w' := w5) rfl rfl rfl ((x_indexAddr (s := p0) rfl rfl rfl ES_43 q19 r19).trans (by rw [hp19])) ?_
        obtain ⟨x20, q20, h⟩ := h
        refine wpR_val (v := (Value.string x20)) (w' := w5) rfl rfl rfl (x_load1 rfl rfl SH_9 q20) ?_
        refine wpR_val (v := (Value.int .i64 p2)) (w' := w5) rfl rfl rfl (x_move (v := (Value.int .i64 p2)) rfl e2) ?_
        refine wpR_val (v := (Value.int .i64 p3)) (w' := w5) rfl rfl rfl (x_move (v := (Value.int .i64 p3)) rfl e3) ?_
        refine wpR_val (v := (Value.int .i64 p4)) (w' := w5) rfl rfl rfl (x_move (v := (Value.int .i64 p4)) rfl e4) ?_
        refine wpR_enter rfl rfl rfl (x_call (vs := [(Value.pointer r9), (Value.string x20), (Value.int .i64 p2), (Value.int .i64 p3), (Value.int .i64 p4)]) rfl rfl (mapl_cons rfl (mapl_cons rfl (mapl_cons rfl (mapl_cons rfl (mapl_cons rfl mapl_nil))))) Try.func9 NN_9 NB_9) (Calls.mono h ?_)
        rintro _ w6 ⟨r21, rfl, h⟩
        refine ⟨_, rfl, ?_⟩
        refine wpR_nil ?_
        refine wpC_cut (fun ρ => ρ 0 = (Sl.v p0) ∧ ρ 2 = (Value.int .i64 p2) ∧ ρ 3 = (Value.int .i64 p3) ∧ ρ 4 = (Value.int .i64 p4) ∧ ρ 14 = (Value.pointer r9) ∧ ρ 16 = (Value.int .i64 r16.1) ∧ ρ 17 = (Sl.v r16.2.1) ∧ ρ 18 = (Value.int .i64 r16.2.2) ∧ ρ 19 = (Value.int .i64 l17) ∧ True) ⟨e0, e2, e3, e4, e14, e16, e17, e18, e19, trivial⟩ ?_
        rintro ρ ⟨e0, e2, e3, e4, e14, e16, e17, e18, e19, -⟩
        refine wpC_region ?_
        refine wpR_val (v := (Value.int .i64 l17)) (w' := w6) rfl rfl rfl (x_move (v := (Value.int .i64 l17)) rfl e19) ?_
        refine wpR_val (v := (Value.int .i64 (IntKind.i64.wrap (l17 + 1)))) (w' := w6) rfl rfl rfl (x_add rfl rfl rfl) ?_
        refine wpR_val (v := (Value.int .i64 (IntKind.i64.wrap (l17 + 1)))) (w' := w6) rfl rfl rfl (x_assign (v := (Value.int .i64 (IntKind.i64.wrap (l17 + 1)))) rfl rfl) ?_
        refine wpR_nil ?_
        exact ⟨IntKind.i64.wrap (l17 + 1), ⟨rfl, e0, e2, e3, e4, e14, e16, e17, e18, trivial⟩, h⟩
      · replace h := h.2 hc18
        refine wpC_exit ?_
        refine wpC_seq ?_
        refine wpC_cut (fun ρ => ρ 14 = (Value.pointer r9) ∧ ρ 16 = (Value.int .i64 r16.1) ∧ ρ 17 = (Sl.v r16.2.1) ∧ ρ 18 = (Value.int .i64 r16.2.2) ∧ True) ⟨e14, e16, e17, e18, trivial⟩ ?_
        rintro ρ ⟨e14, e16, e17, e18, -⟩
        refine wpC_region ?_
        refine wpR_val (v := (Value.pointer r9)) (w' := w5) rfl rfl rfl (x_move (v := (Value.pointer r9)) rfl e14) ?_
        refine wpR_val (v := (Value.int .i64 r16.1)) (w' := w5) rfl rfl rfl (x_move (v := (Value.int .i64 r16.1)) rfl e16) ?_
        refine wpR_val (v := (Sl.v r16.2.1)) (w' := w5) rfl rfl rfl (x_move (v := (Sl.v r16.2.1)) rfl e17) ?_
        refine wpR_val (v := (Value.int .i64 r16.2.2)) (w' := w5) rfl rfl rfl (x_move (v := (Value.int .i64 r16.2.2)) rfl e18) ?_
        refine wpR_val (v := (Value.pointer r9)) (w' := w5) rfl rfl rfl (x_assign (v := (Value.pointer r9)) rfl rfl) ?_
        refine wpR_val (v := (Value.int .i64 r16.1)) (w' := w5) rfl rfl rfl (x_assign (v := (Value.int .i64 r16.1)) rfl rfl) ?_
        refine wpR_val (v := (Sl.v r16.2.1)) (w' := w5) rfl rfl rfl (x_assign (v := (Sl.v r16.2.1)) rfl rfl) ?_
        refine wpR_val (v := (Value.int .i64 r16.2.2)) (w' := w5) rfl rfl rfl (x_assign (v := (Value.int .i64 r16.2.2)) rfl rfl) ?_
        refine wpR_nil ?_
        refine wpC_ret ?_
        exact ⟨.inl rfl, fun a ha => ⟨_, results_rep4 rfl ha rfl rfl rfl rfl, (r9, r16.1, r16.2.1, r16.2.2), rfl, h⟩⟩

/-- lingualaw45.picked -/
def F18 (p0 : Sl) (p1 : Int) (w0 : World) (K : Sl → World → Prop) : Prop :=
  lp (fun (next9 : (Sl × Int) → World → Prop) l9 w1 =>
    cnd (decide (l9.2 < (p0.len : Int)))
      (
      jn (fun (J11 : Sl → World → Prop) =>
        0 ≤ l9.2 ∧
        cnd (decide ((andK .u32 (shrK .u32 p1 l9.2) 1) = 1))
          (
          ix p0 l9.2 2 fun p15 =>
          ld (Value.int .i64) (p15.add 0) w1 fun x16 =>
          ld (Value.int .i64) (p15.add 1) w1 fun x17 =>
          nw 56 #[(Value.int .i64 x16), (Value.int .i64 x17)] w1 fun b18 w3 =>
          rn Try.prog (Builtin.append_ #[25, 25] 25 #[Sl.v (⟨some ⟨b18, 0, none⟩, 1, 1⟩ : Sl), Sl.v l9.1]) Sl.v w3 fun r19 w4 =>
          J11 r19 w4
          )
          (
          J11 l9.1 w1
          )
      )
      fun l12 w2 =>
      next9 (l12, IntKind.i64.wrap (l9.2 + 1)) w2
      )
      (
      K l9.1 w1
      )
  ) (Sl.nil, 0) w0
set_option maxRecDepth 100000 in
theorem D18 (p0 : Sl) (p1 : Int) (w0 : World) (K : Sl → World → Prop) (h : F18 p0 p1 w0 K) : callC Try.prog 18 #[(Sl.v p0), (Value.int .u32 p1)] (fun (r : Sl) => (Sl.v r)) w0 K := by
  unfold F18 at h
  refine calls_of_wpC Try.func18 rfl 26 rfl (by simp) ?_
  intro ρ hρ
  have e0 : ρ 0 = (Sl.v p0) := hρ 0
  have e1 : ρ 1 = (Value.int .u32 p1) := hρ 1
  clear hρ
  refine wpC_seq ?_
  refine wpC_region ?_
  refine wpR_val (v := (Sl.v Sl.nil)) (w' := w0) rfl rfl rfl (x_assign (v := (Sl.v Sl.nil)) rfl rfl) ?_
  refine wpR_nil ?_
  refine wpC_seq ?_
  refine wpC_cut (fun ρ => ρ 0 = (Sl.v p0) ∧ ρ 1 = (Value.int .u32 p1) ∧ True) ⟨e0, e1, trivial⟩ ?_
  rintro ρ ⟨e0, e1, -⟩
  refine wpC_region ?_
  refine wpR_val (v := (Sl.v Sl.nil)) (w' := w0) rfl rfl rfl (x_assign (v := (Sl.v Sl.nil)) rfl rfl) ?_
  refine wpR_nil ?_
  refine wpC_seq ?_
  refine wpC_seq ?_
  refine wpC_cut (fun ρ => ρ 0 = (Sl.v p0) ∧ ρ 1 = (Value.int .u32 p1) ∧ ρ 5 = (Sl.v Sl.nil) ∧ True) ⟨e0, e1, rfl, trivial⟩ ?_
  rintro ρ ⟨e0, e1, e5, -⟩
  refine wpC_region ?_
  refine wpR_val (v := (Value.int .i64 0)) (w' := w0) rfl rfl rfl (x_assign (v := (Value.int .i64 0)) rfl rfl) ?_
  refine wpR_nil ?_
  refine wpC_block ?_
  obtain ⟨I9, μ9, hI9, hr9⟩ := h
  refine wpC_loop (fun (x : Sl × Int) ρ => ρ 5 = (Sl.v x.1) ∧ ρ 6 = (Value.int .i64 x.2) ∧ ρ 0 = (Sl.v p0) ∧ ρ 1 = (Value.int .u32 p1) ∧ True) I9 μ9 (Sl.nil, 0) ⟨e5, rfl, e0, e1, trivial⟩ hI9 ?_
  rintro l9 ρ w1 ⟨e5, e6, e0, e1, -⟩ h
  replace h := hr9 l9 w1 h
  clear hr9 hI9
  refine wpC_seq ?_
  refine wpC_seq ?_
  refine wpC_region ?_
  refine wpR_val (v := (Value.int .i64 l9.2)) (w' := w1) rfl rfl rfl (x_move (v := (Value.int .i64 l9.2)) rfl e6) ?_
  refine wpR_val (v := (Sl.v p0)) (w' := w1) rfl rfl rfl (x_move (v := (Sl.v p0)) rfl e0) ?_
  refine wpR_val (v := (Value.int .i64 (p0.len : Int))) (w' := w1) rfl rfl rfl (x_lenS (s := p0) rfl rfl isSliceT_25) ?_
  refine wpR_val (v := (Value.bool (decide (l9.2 < (p0.len : Int))))) (w' := w1) rfl rfl rfl (x_lss rfl rfl rfl) ?_
  refine wpR_nil ?_
  refine wpC_cond (b := decide (l9.2 < (p0.len : Int))) rfl (fun hc10 => ?_) (fun hc10 => ?_)
  · replace h := h.1 hc10
    refine wpC_skip ?_
    obtain ⟨J11, h, hk⟩ := h
    refine wpC_seqJ (fun (x : Sl) ρ => ρ 5 = (Sl.v x) ∧ ρ 0 = (Sl.v p0) ∧ ρ 1 = (Value.int .u32 p1) ∧ ρ 6 = (Value.int .i64 l9.2) ∧ True) J11 ?_ ?_
    · clear hk
      refine wpC_block ?_
      refine wpC_seq ?_
      refine wpC_cut (fun ρ => ρ 0 = (Sl.v p0) ∧ ρ 1 = (Value.int .u32 p1) ∧ ρ 5 = (Sl.v l9.1) ∧ ρ 6 = (Value.int .i64 l9.2) ∧ True) ⟨e0, e1, e5, e6, trivial⟩ ?_
      rintro ρ ⟨e0, e1, e5, e6, -⟩
      refine wpC_region ?_
      refine wpR_val (v := (Value.int .u32 p1)) (w' := w1) rfl rfl rfl (x_move (v := (Value.int .u32 p1)) rfl e1) ?_
      refine wpR_val (v := (Value.int .i64 l9.2)) (w' := w1) rfl rfl rfl (x_move (v := (Value.int .i64 l9.2)) rfl e6) ?_
      obtain ⟨q13, h⟩ := h
      refine wpR_val (v := (Value.int .u32 (shrK .u32 p1 l9.2))) (w' := w1) rfl rfl rfl (x_shr rfl rfl rfl q13) ?_
      refine wpR_val (v := (Value.int .u32 (andK .u32 (shrK .u32 p1 l9.2) 1))) (w' := w1) rfl rfl rfl (x_and rfl rfl rfl) ?_
      refine wpR_val (v := (Value.bool (decide ((andK .u32 (shrK .u32 p1 l9.2) 1) = 1)))) (w' := w1) rfl rfl rfl (x_eql rfl rfl rfl) ?_
      refine wpR_nil ?_
      refine wpC_cond (b := decide ((andK .u32 (shrK .u32 p1 l9.2) 1) = 1)) rfl (fun hc14 => ?_) (fun hc14 => ?_)
      · replace h := h.1 hc14
        refine wpC_cut (fun ρ => ρ 0 = (Sl.v p0) ∧ ρ 1 = (Value.int .u32 p1) ∧ ρ 5 = (Sl.v l9.1) ∧ ρ 6 = (Value.int .i64 l9.2) ∧ True) ⟨e0, e1, e5, e6, trivial⟩ ?_
        rintro ρ ⟨e0, e1, e5, e6, -⟩
        refine wpC_region ?_
        refine wpR_val (v := (Sl.v p0)) (w' := w1) rfl rfl rfl (x_move (v := (Sl.v p0)) rfl e0) ?_
        refine wpR_val (v := (Value.int .i64 l9.2)) (w' := w1) rfl rfl rfl (x_move (v := (Value.int .i64 l9.2)) rfl e6) ?_
        obtain ⟨q15, z15, r15, h⟩ := h
        generalize hp15 : z15.add ((l9.2 : Int).toNat * 2) = p15 at h
        refine wpR_val (v := (Value.pointer (some p15))) (w' := w1) rfl rfl rfl ((x_indexAddr (s := p0) rfl rfl rfl ES_25 q15 r15).trans (by rw [hp15])) ?_
        obtain ⟨x16, q16, x17, q17, h⟩ := h
        refine wpR_val (v := (Value.agg #[(Value.int .i64 x16), (Value.int .i64 x17)])) (w' := w1) rfl rfl rfl (x_loadN [(Value.int .i64 x16), (Value.int .i64 x17)] rfl rfl SH_56 (CellsAt.out (CellsAt.cons q16 (CellsAt.cons q17 CellsAt.nil)))) ?_
        obtain ⟨b18, hb18⟩ : ∃ u, u = w1.heap.size := ⟨_, rfl⟩
        obtain ⟨w3, hw18⟩ : ∃ u, u = w1.alloc (.cells #[(Value.int .i64 x16), (Value.int .i64 x17)] 56) := ⟨_, rfl⟩
        replace h := h b18 w3 hb18 hw18
        refine wpR_val (v := (Sl.v (⟨some ⟨b18, 0, none⟩, 1, 1⟩ : Sl))) (w' := w3) rfl rfl rfl ((x_buildSlice (qs := [(0, (Value.agg #[(Value.int .i64 x16), (Value.int .i64 x17)]))]) rfl (by rfl) (BS_25_1_0 x16 x17)).trans (by rw [← hb18, ← hw18])) ?_
        refine wpR_val (v := (Sl.v l9.1)) (w' := w3) rfl rfl rfl (x_move (v := (Sl.v l9.1)) rfl e5) ?_
        obtain ⟨r19, w4, q19, h⟩ := h
        refine wpR_val (v := (Sl.v r19)) (w' := w4) rfl rfl rfl (x_append (s := (⟨some ⟨b18, 0, none⟩, 1, 1⟩ : Sl)) (u := l9.1) rfl rfl rfl rfl q19) ?_
        refine wpR_val (v := (Sl.v r19)) (w' := w4) rfl rfl rfl (x_assign (v := (Sl.v r19)) rfl rfl) ?_
        refine wpR_nil ?_
        exact ⟨r19, ⟨rfl, e0, e1, e6, trivial⟩, h⟩
      · replace h := h.2 hc14
        refine wpC_skip ?_
        exact ⟨l9.1, ⟨e5, e0, e1, e6, trivial⟩, h⟩
    clear h
    rintro l12 ρ w2 ⟨e5, e0, e1, e6, -⟩ h
    replace h := hk l12 w2 h
    clear hk
    refine wpC_region ?_
    refine wpR_val (v := (Value.int .i64 l9.2)) (w' := w2) rfl rfl rfl (x_move (v := (Value.int .i64 l9.2)) rfl e6) ?_
    refine wpR_val (v := (Value.int .i64 (IntKind.i64.wrap (l9.2 + 1)))) (w' := w2) rfl rfl rfl (x_add rfl rfl rfl) ?_
    refine wpR_val (v := (Value.int .i64 (IntKind.i64.wrap (l9.2 + 1)))) (w' := w2) rfl rfl rfl (x_assign (v := (Value.int .i64 (IntKind.i64.wrap (l9.2 + 1)))) rfl rfl) ?_
    refine wpR_nil ?_
    exact ⟨(l12, IntKind.i64.wrap (l9.2 + 1)), ⟨e5, rfl, e0, e1, trivial⟩, h⟩
  · replace h := h.2 hc10
    refine wpC_exit ?_
    refine wpC_seq ?_
    refine wpC_cut (fun ρ => ρ 5 = (Sl.v l9.1) ∧ True) ⟨e5, trivial⟩ ?_
    rintro ρ ⟨e5, -⟩
    refine wpC_region ?_
    refine wpR_val (v := (Sl.v l9.1)) (w' := w1) rfl rfl rfl (x_move (v := (Sl.v l9.1)) rfl e5) ?_
    refine wpR_val (v := (Sl.v l9.1)) (w' := w1) rfl rfl rfl (x_assign (v := (Sl.v l9.1)) rfl rfl) ?_
    refine wpR_nil ?_
    refine wpC_ret ?_
    exact ⟨.inl rfl, fun a ha => ⟨_, results_rep1 rfl ha rfl, l9.1, rfl, h⟩⟩

/-- share.Fits -/
def F19 (p0 : Sl) (p1 : Int) (p2 : Int) (w0 : World) (K : Bool → World → Prop) : Prop :=
  callC Try.prog 31 #[(Sl.v p0), (Value.int .i64 p1)] (fun (r : Int) => (Value.int .i64 r)) w0 fun r9 w1 =>
  jn (fun J10 => cnd (!decide (r9 = 0))
    (
    J10 true w1
    )
    (
    callC Try.prog 32 #[(Value.int .i64 p2)] (fun (r : Bool) => (Value.bool r)) w1 fun r12 w2 =>
    J10 (!r12) w2
    ))
  fun c13 w3 =>
  cnd (c13)
    (
    K false w3
    )
    (
    nw 56 #[(Value.int .i64 0), (Value.int .i64 p2)] w3 fun b15 w4 =>
    rn Try.prog (Builtin.append_ #[25, 25] 25 #[Sl.v (⟨some ⟨b15, 0, none⟩, 1, 1⟩ : Sl), Sl.v p0]) Sl.v w4 fun r16 w5 =>
    callC Try.prog 33 #[(Sl.v r16), (Value.int .i64 p1)] (fun (r : Bool) => (Value.bool r)) w5 fun r17 w6 =>
    K r17 w6
    )
set_option maxRecDepth 100000 in
theorem D19 (p0 : Sl) (p1 : Int) (p2 : Int) (w0 : World) (K : Bool → World → Prop) (h : F19 p0 p1 p2 w0 K) : callC Try.prog 19 #[(Sl.v p0), (Value.int .i64 p1), (Value.int .i64 p2)] (fun (r : Bool) => (Value.bool r)) w0 K := by
  unfold F19 at h
  refine calls_of_wpC Try.func19 rfl 23 rfl (by simp) ?_
  intro ρ hρ
  have e0 : ρ 0 = (Sl.v p0) := hρ 0
  have e1 : ρ 1 = (Value.int .i64 p1) := hρ 1
  have e2 : ρ 2 = (Value.int .i64 p2) := hρ 2
  clear hρ
  refine wpC_seq ?_
  refine wpC_region ?_
  refine wpR_val (v := (Value.bool false)) (w' := w0) rfl rfl rfl (x_assign (v := (Value.bool false)) rfl rfl) ?_
  refine wpR_nil ?_
  refine wpC_seq ?_
  refine wpC_seq ?_
  refine wpC_cut (fun ρ => ρ 0 = (Sl.v p0) ∧ ρ 1 = (Value.int .i64 p1) ∧ ρ 2 = (Value.int .i64 p2) ∧ True) ⟨e0, e1, e2, trivial⟩ ?_
  rintro ρ ⟨e0, e1, e2, -⟩
  refine wpC_region ?_
  refine wpR_val (v := (Sl.v p0)) (w' := w0) rfl rfl rfl (x_move (v := (Sl.v p0)) rfl e0) ?_
  refine wpR_val (v := (Value.int .i64 p1)) (w' := w0) rfl rfl rfl (x_move (v := (Value.int .i64 p1)) rfl e1) ?_
  refine wpR_enter rfl rfl rfl (x_call (vs := [(Sl.v p0), (Value.int .i64 p1)]) rfl rfl (mapl_cons rfl (mapl_cons rfl mapl_nil)) Try.func31 NN_31 NB_31) (Calls.mono h ?_)
  rintro _ w1 ⟨r9, rfl, h⟩
  refine ⟨_, rfl, ?_⟩
  refine wpR_val (v := (Value.bool (!decide (r9 = 0)))) (w' := w1) rfl rfl rfl (x_neq rfl rfl rfl) ?_
  refine wpR_val (v := (Value.bool (!decide (r9 = 0)))) (w' := w1) rfl rfl rfl (x_move (v := (Value.bool (!decide (r9 = 0)))) rfl rfl) ?_
  obtain ⟨J10, h, hk⟩ := h
  refine wpR_joinJ 4 (fun x ρ => ρ 15 = Value.bool x ∧ ρ 0 = (Sl.v p0) ∧ ρ 1 = (Value.int .i64 p1) ∧ ρ 2 = (Value.int .i64 p2) ∧ True) (J10) ?_ ?_
  · clear hk
    rcases Bool.eq_false_or_eq_true (!decide (r9 = 0)) with hc11 | hc11
    · replace h := h.1 hc11
      refine wpR_pass (wantN rfl rfl rfl hc11) rfl rfl ?_
      refine wpR_pass (wantN rfl rfl rfl hc11) rfl rfl ?_
      refine wpR_pass (wantN rfl rfl rfl hc11) rfl rfl ?_
      refine wpR_val (v := (Value.bool true)) (w' := w1) rfl rfl rfl (x_pickT (v := (Value.bool true)) rfl rfl hc11 rfl) ?_
      refine wpR_nil ?_
      exact ⟨true, ⟨rfl, e0, e1, e2, trivial⟩, h⟩
    · replace h := h.2 hc11
      refine wpR_val (v := (Value.int .i64 p2)) (w' := w1) (wantG rfl rfl rfl hc11) rfl rfl (x_move (v := (Value.int .i64 p2)) rfl e2) ?_
      refine wpR_enter (wantG rfl rfl rfl hc11) rfl rfl (x_call (vs := [(Value.int .i64 p2)]) rfl rfl (mapl_cons rfl mapl_nil) Try.func32 NN_32 NB_32) (Calls.mono h ?_)
      rintro _ w2 ⟨r12, rfl, h⟩
      refine ⟨_, rfl, ?_⟩
      refine wpR_val (v := (Value.bool (!r12))) (w' := w2) (wantG rfl rfl rfl hc11) rfl rfl (x_not rfl rfl) ?_
      refine wpR_val (v := (Value.bool (!r12))) (w' := w2) rfl rfl rfl (x_pickF (v := (Value.bool (!r12))) rfl rfl hc11 rfl) ?_
      refine wpR_nil ?_
      exact ⟨!r12, ⟨rfl, e0, e1, e2, trivial⟩, h⟩
  clear h
  rintro c13 ρ w3 ⟨e15, e0, e1, e2, -⟩ h
  replace h := hk c13 w3 h
  clear hk
  refine wpR_nil ?_
  refine wpC_cond (b := c13) e15 (fun hc14 => ?_) (fun hc14 => ?_)
  · replace h := h.1 hc14
    refine wpC_seq ?_
    refine wpC_region ?_
    refine wpR_val (v := (Value.bool false)) (w' := w3) rfl rfl rfl (x_assign (v := (Value.bool false)) rfl rfl) ?_
    refine wpR_nil ?_
    refine wpC_ret ?_
    exact ⟨.inl rfl, fun a ha => ⟨_, results_rep1 rfl ha rfl, false, rfl, h⟩⟩
  · replace h := h.2 hc14
    refine wpC_skip ?_
    refine wpC_seq ?_
    refine wpC_region ?_
    refine wpR_val (v := (Value.int .i64 p2)) (w' := w3) rfl rfl rfl (x_move (v := (Value.int .i64 p2)) rfl e2) ?_
    refine wpR_val (v := (Value.agg #[(Value.int .i64 0), (Value.int .i64 p2)])) (w' := w3) rfl rfl rfl (x_build (qs := [(0, (Value.int .i64 0)), (1, (Value.int .i64 p2))]) rfl (by rfl) (BD_56_0_1 0 p2 _)) ?_
    obtain ⟨b15, hb15⟩ : ∃ u, u = w3.heap.size := ⟨_, rfl⟩
    obtain ⟨w4, hw15⟩ : ∃ u, u = w3.alloc (.cells #[(Value.int .i64 0), (Value.int .i64 p2)] 56) := ⟨_, rfl⟩
    replace h := h b15 w4 hb15 hw15
    refine wpR_val (v := (Sl.v (⟨some ⟨b15, 0, none⟩, 1, 1⟩ : Sl))) (w' := w4) rfl rfl rfl ((x_buildSlice (qs := [(0, (Value.agg #[(Value.int .i64 0), (Value.int .i64 p2)]))]) rfl (by rfl) (BS_25_1_0 0 p2)).trans (by rw [← hb15, ← hw15])) ?_
    refine wpR_val (v := (Sl.v p0)) (w' := w4) rfl rfl rfl (x_move (v := (Sl.v p0)) rfl e0) ?_
    obtain ⟨r16, w5, q16, h⟩ := h
    refine wpR_val (v := (Sl.v r16)) (w' := w5) rfl rfl rfl (x_append (s := (⟨some ⟨b15, 0, none⟩, 1, 1⟩ : Sl)) (u := p0) rfl rfl rfl rfl q16) ?_
    refine wpR_val (v := (Value.int .i64 p1)) (w' := w5) rfl rfl rfl (x_move (v := (Value.int .i64 p1)) rfl e1) ?_
    refine wpR_enter rfl rfl rfl (x_call (vs := [(Sl.v r16), (Value.int .i64 p1)]) rfl rfl (mapl_cons rfl (mapl_cons rfl mapl_nil)) Try.func33 NN_33 NB_33) (Calls.mono h ?_)
    rintro _ w6 ⟨r17, rfl, h⟩
    refine ⟨_, rfl, ?_⟩
    refine wpR_val (v := (Value.bool r17)) (w' := w6) rfl rfl rfl (x_assign (v := (Value.bool r17)) rfl rfl) ?_
    refine wpR_nil ?_
    refine wpC_ret ?_
    exact ⟨.inl rfl, fun a ha => ⟨_, results_rep1 rfl ha rfl, r17, rfl, h⟩⟩

/-- (*linguaref45.Safe).Seal -/
def F20 (p0 : Option Addr) (p1 : ByteArray) (p2 : Int) (p3 : Int) (p4 : Int) (w0 : World) (K : (Int × Sl × Int) → World → Prop) : Prop :=
  cnd ((((decide (p3 < 1)) || (decide (20 < p3))) || (decide (p2 < 1))) || (decide (p3 < p2)))
    (
    K (0, Sl.nil, 1) w0
    )
    (
    cnd (decide (65536 < (p1.size : Int)))
      (
      K (0, Sl.nil, 6) w0
      )
      (
      nn p0 fun a17 =>
      ld Sl.v (a17.add 0) w0 fun x18 =>
      callC Try.prog 34 #[(Value.int .i64 (x18.len : Int)), (Value.int .i64 p2), (Value.int .i64 p3), (Value.int .i64 p4)] (fun (r : Sl × Int) => (Value.tuple #[(Sl.v r.1), (Value.int .i64 r.2)])) w0 fun r19 w1 =>
      cnd (!decide (r19.2 = 0))
        (
        K (0, Sl.nil, r19.2) w1
        )
        (
        nn p0 fun a21 =>
        ld Sl.v (a21.add 0) w1 fun x22 =>
        nw 76 #[(Value.string p1), (Value.int .i64 p2), (Value.bool false)] w1 fun b23 w2 =>
        rn Try.prog (Builtin.append_ #[52, 52] 52 #[Sl.v x22, Sl.v (⟨some ⟨b23, 0, none⟩, 1, 1⟩ : Sl)]) Sl.v w2 fun r24 w3 =>
        nn p0 fun a25 =>
        st (a25.add 0) [(Sl.v r24)] w3 fun w4 =>
        K ((x18.len : Int), r19.1, 0) w4
        )
      )
    )
set_option maxRecDepth 100000 in
theorem D20 (p0 : Option Addr) (p1 : ByteArray) (p2 : Int) (p3 : Int) (p4 : Int) (w0 : World) (K : (Int × Sl × Int) → World → Prop) (h : F20 p0 p1 p2 p3 p4 w0 K) : callC Try.prog 20 #[(Value.pointer p0), (Value.string p1), (Value.int .i64 p2), (Value.int .i64 p3), (Value.int .i64 p4)] (fun (r : Int × Sl × Int) => (Value.tuple #[(Value.int .i64 r.1), (Sl.v r.2.1), (Value.int .i64 r.2.2)])) w0 K := by
  unfold F20 at h
  refine calls_of_wpC Try.func20 rfl 64 rfl (by simp) ?_
  intro ρ hρ
  have e0 : ρ 0 = (Value.pointer p0) := hρ 0
  have e1 : ρ 1 = (Value.string p1) := hρ 1
  have e2 : ρ 2 = (Value.int .i64 p2) := hρ 2
  have e3 : ρ 3 = (Value.int .i64 p3) := hρ 3
  have e4 : ρ 4 = (Value.int .i64 p4) := hρ 4
  clear hρ
  refine wpC_seq ?_
  refine wpC_region ?_
  refine wpR_val (v := (Value.int .i64 0)) (w' := w0) rfl rfl rfl (x_assign (v := (Value.int .i64 0)) rfl rfl) ?_
  refine wpR_val (v := (Sl.v Sl.nil)) (w' := w0) rfl rfl rfl (x_assign (v := (Sl.v Sl.nil)) rfl rfl) ?_
  refine wpR_val (v := (Value.int .i64 0)) (w' := w0) rfl rfl rfl (x_assign (v := (Value.int .i64 0)) rfl rfl) ?_
  refine wpR_nil ?_
  refine wpC_seq ?_
  refine wpC_seq ?_
  refine wpC_cut (fun ρ => ρ 0 = (Value.pointer p0) ∧ ρ 1 = (Value.string p1) ∧ ρ 2 = (Value.int .i64 p2) ∧ ρ 3 = (Value.int .i64 p3) ∧ ρ 4 = (Value.int .i64 p4) ∧ True) ⟨e0, e1, e2, e3, e4, trivial⟩ ?_
  rintro ρ ⟨e0, e1, e2, e3, e4, -⟩
  refine wpC_region ?_
  refine wpR_val (v := (Value.int .i64 p3)) (w' := w0) rfl rfl rfl (x_move (v := (Value.int .i64 p3)) rfl e3) ?_
  refine wpR_val (v := (Value.bool (decide (p3 < 1)))) (w' := w0) rfl rfl rfl (x_lss rfl rfl rfl) ?_
  refine wpR_val (v := (Value.bool (decide (p3 < 1)))) (w' := w0) rfl rfl rfl (x_move (v := (Value.bool (decide (p3 < 1)))) rfl rfl) ?_
  refine wpR_joinJ 3 (fun (_ : Unit) ρ => ρ 21 = Value.bool ((decide (p3 < 1)) || (decide (20 < p3))) ∧ ρ 0 = (Value.pointer p0) ∧ ρ 1 = (Value.string p1) ∧ ρ 2 = (Value.int .i64 p2) ∧ ρ 3 = (Value.int .i64 p3) ∧ ρ 4 = (Value.int .i64 p4) ∧ True) (fun _ w => w0 = w) ?_ ?_
  · clear h
    rcases Bool.eq_false_or_eq_true (decide (p3 < 1)) with hc10 | hc10
    · skip
      refine wpR_pass (wantN rfl rfl rfl hc10) rfl rfl ?_
      refine wpR_pass (wantN rfl rfl rfl hc10) rfl rfl ?_
      refine wpR_val (v := (Value.bool true)) (w' := w0) rfl rfl rfl (x_pickT (v := (Value.bool true)) rfl rfl hc10 rfl) ?_
      refine wpR_nil ?_
      exact ⟨(), ⟨(by rw [hc10]; rfl), e0, e1, e2, e3, e4, trivial⟩, rfl⟩
    · skip
      refine wpR_val (v := (Value.int .i64 p3)) (w' := w0) (wantG rfl rfl rfl hc10) rfl rfl (x_move (v := (Value.int .i64 p3)) rfl e3) ?_
      refine wpR_val (v := (Value.bool (decide (20 < p3)))) (w' := w0) (wantG rfl rfl rfl hc10) rfl rfl (x_gtr rfl rfl rfl) ?_
      refine wpR_val (v := (Value.bool (decide (20 < p3)))) (w' := w0) rfl rfl rfl (x_pickF (v := (Value.bool (decide (20 < p3)))) rfl rfl hc10 rfl) ?_
      refine wpR_nil ?_
      exact ⟨(), ⟨(by rw [hc10]; rfl), e0, e1, e2, e3, e4, trivial⟩, rfl⟩
  rintro _ ρ wj ⟨e21, e0, e1, e2, e3, e4, -⟩ rfl
  refine wpR_val (v := (Value.bool ((decide (p3 < 1)) || (decide (20 < p3))))) (w' := w0) rfl rfl rfl (x_move (v := (Value.bool ((decide (p3 < 1)) || (decide (20 < p3))))) rfl e21) ?_
  refine wpR_joinJ 3 (fun (_ : Unit) ρ => ρ 25 = Value.bool (((decide (p3 < 1)) || (decide (20 < p3))) || (decide (p2 < 1))) ∧ ρ 0 = (Value.pointer p0) ∧ ρ 1 = (Value.string p1) ∧ ρ 2 = (Value.int .i64 p2) ∧ ρ 3 = (Value.int .i64 p3) ∧ ρ 4 = (Value.int .i64 p4) ∧ True) (fun _ w => w0 = w) ?_ ?_
  · clear h
    rcases Bool.eq_false_or_eq_true ((decide (p3 < 1)) || (decide (20 < p3))) with hc12 | hc12
    · skip
      refine wpR_pass (wantN rfl rfl rfl hc12) rfl rfl ?_
      refine wpR_pass (wantN rfl rfl rfl hc12) rfl rfl ?_
      refine wpR_val (v := (Value.bool true)) (w' := w0) rfl rfl rfl (x_pickT (v := (Value.bool true)) rfl rfl hc12 rfl) ?_
      refine wpR_nil ?_
      exact ⟨(), ⟨(by rw [hc12]; rfl), e0, e1, e2, e3, e4, trivial⟩, rfl⟩
    · skip
      refine wpR_val (v := (Value.int .i64 p2)) (w' := w0) (wantG rfl rfl rfl hc12) rfl rfl (x_move (v := (Value.int .i64 p2)) rfl e2) ?_
      refine wpR_val (v := (Value.bool (decide (p2 < 1)))) (w' := w0) (wantG rfl rfl rfl hc12) rfl rfl (x_lss rfl rfl rfl) ?_
      refine wpR_val (v := (Value.bool (decide (p2 < 1)))) (w' := w0) rfl rfl rfl (x_pickF (v := (Value.bool (decide (p2 < 1)))) rfl rfl hc12 rfl) ?_
      refine wpR_nil ?_
      exact ⟨(), ⟨(by rw [hc12]; rfl), e0, e1, e2, e3, e4, trivial⟩, rfl⟩
  rintro _ ρ wj ⟨e25, e0, e1, e2, e3, e4, -⟩ rfl
  refine wpR_val (v := (Value.bool (((decide (p3 < 1)) || (decide (20 < p3))) || (decide (p2 < 1))))) (w' := w0) rfl rfl rfl (x_move (v := (Value.bool (((decide (p3 < 1)) || (decide (20 < p3))) || (decide (p2 < 1))))) rfl e25) ?_
  refine wpR_joinJ 4 (fun (_ : Unit) ρ => ρ 30 = Value.bool ((((decide (p3 < 1)) || (decide (20 < p3))) || (decide (p2 < 1))) || (decide (p3 < p2))) ∧ ρ 0 = (Value.pointer p0) ∧ ρ 1 = (Value.string p1) ∧ ρ 2 = (Value.int .i64 p2) ∧ ρ 3 = (Value.int .i64 p3) ∧ ρ 4 = (Value.int .i64 p4) ∧ True) (fun _ w => w0 = w) ?_ ?_
  · clear h
    rcases Bool.eq_false_or_eq_true (((decide (p3 < 1)) || (decide (20 < p3))) || (decide (p2 < 1))) with hc14 | hc14
    · skip
      refine wpR_pass (wantN rfl rfl rfl hc14) rfl rfl ?_
      refine wpR_pass (wantN rfl rfl rfl hc14) rfl rfl ?_
      refine wpR_pass (wantN rfl rfl rfl hc14) rfl rfl ?_
      refine wpR_val (v := (Value.bool true)) (w' := w0) rfl rfl rfl (x_pickT (v := (Value.bool true)) rfl rfl hc14 rfl) ?_
      refine wpR_nil ?_
      exact ⟨(), ⟨(by rw [hc14]; rfl), e0, e1, e2, e3, e4, trivial⟩, rfl⟩
    · skip
      refine wpR_val (v := (Value.int .i64 p2)) (w' := w0) (wantG rfl rfl rfl hc14) rfl rfl (x_move (v := (Value.int .i64 p2)) rfl e2) ?_
      refine wpR_val (v := (Value.int .i64 p3)) (w' := w0) (wantG rfl rfl rfl hc14) rfl rfl (x_move (v := (Value.int .i64 p3)) rfl e3) ?_
      refine wpR_val (v := (Value.bool (decide (p3 < p2)))) (w' := w0) (wantG rfl rfl rfl hc14) rfl rfl (x_gtr rfl rfl rfl) ?_
      refine wpR_val (v := (Value.bool (decide (p3 < p2)))) (w' := w0) rfl rfl rfl (x_pickF (v := (Value.bool (decide (p3 < p2)))) rfl rfl hc14 rfl) ?_
      refine wpR_nil ?_
      exact ⟨(), ⟨(by rw [hc14]; rfl), e0, e1, e2, e3, e4, trivial⟩, rfl⟩
  rintro _ ρ wj ⟨e30, e0, e1, e2, e3, e4, -⟩ rfl
  refine wpR_nil ?_
  refine wpC_cond (b := (((decide (p3 < 1)) || (decide (20 < p3))) || (decide (p2 < 1))) || (decide (p3 < p2))) e30 (fun hc15 => ?_) (fun hc15 => ?_)
  · replace h := h.1 hc15
    refine wpC_seq ?_
    refine wpC_region ?_
    refine wpR_val (v := (Value.int .i64 0)) (w' := w0) rfl rfl rfl (x_assign (v := (Value.int .i64 0)) rfl rfl) ?_
    refine wpR_val (v := (Sl.v Sl.nil)) (w' := w0) rfl rfl rfl (x_assign (v := (Sl.v Sl.nil)) rfl rfl) ?_
    refine wpR_val (v := (Value.int .i64 1)) (w' := w0) rfl rfl rfl (x_assign (v := (Value.int .i64 1)) rfl rfl) ?_
    refine wpR_nil ?_
    refine wpC_ret ?_
    exact ⟨.inl rfl, fun a ha => ⟨_, results_rep3 rfl ha rfl rfl rfl, (0, Sl.nil, 1), rfl, h⟩⟩
  · replace h := h.2 hc15
    refine wpC_skip ?_
    refine wpC_seq ?_
    refine wpC_seq ?_
    refine wpC_region ?_
    refine wpR_val (v := (Value.string p1)) (w' := w0) rfl rfl rfl (x_move (v := (Value.string p1)) rfl e1) ?_
    refine wpR_val (v := (Value.int .i64 (p1.size : Int))) (w' := w0) rfl rfl rfl (x_lenStr rfl rfl isStrT_9) ?_
    refine wpR_val (v := (Value.bool (decide (65536 < (p1.size : Int))))) (w' := w0) rfl rfl rfl (x_gtr rfl rfl rfl) ?_
    refine wpR_nil ?_
    refine wpC_cond (b := decide (65536 < (p1.size : Int))) rfl (fun hc16 => ?_) (fun hc16 => ?_)
    · replace h := h.1 hc16
      refine wpC_seq ?_
      refine wpC_cut (fun ρ => True) trivial ?_
      rintro ρ -
      refine wpC_region ?_
      refine wpR_val (v := (Value.int .i64 0)) (w' := w0) rfl rfl rfl (x_assign (v := (Value.int .i64 0)) rfl rfl) ?_
      refine wpR_val (v := (Sl.v Sl.nil)) (w' := w0) rfl rfl rfl (x_assign (v := (Sl.v Sl.nil)) rfl rfl) ?_
      refine wpR_val (v := (Value.int .i64 6)) (w' := w0) rfl rfl rfl (x_assign (v := (Value.int .i64 6)) rfl rfl) ?_
      refine wpR_nil ?_
      refine wpC_ret ?_
      exact ⟨.inl rfl, fun a ha => ⟨_, results_rep3 rfl ha rfl rfl rfl, (0, Sl.nil, 6), rfl, h⟩⟩
    · replace h := h.2 hc16
      refine wpC_skip ?_
      refine wpC_seq ?_
      refine wpC_cut (fun ρ => ρ 0 = (Value.pointer p0) ∧ ρ 1 = (Value.string p1) ∧ ρ 2 = (Value.int .i64 p2) ∧ ρ 3 = (Value.int .i64 p3) ∧ ρ 4 = (Value.int .i64 p4) ∧ True) ⟨e0, e1, e2, e3, e4, trivial⟩ ?_
      rintro ρ ⟨e0, e1, e2, e3, e4, -⟩
      refine wpC_region ?_
      refine wpR_val (v := (Value.pointer p0)) (w' := w0) rfl rfl rfl (x_move (v := (Value.pointer p0)) rfl e0) ?_
      obtain ⟨a17, q17, h⟩ := h
      refine wpR_val (v := (Value.pointer (some a17))) (w' := w0) rfl rfl rfl (x_nilCheck rfl rfl q17) ?_
      refine wpR_val (v := (Value.pointer (some (a17.add 0)))) (w' := w0) rfl rfl rfl (x_fieldAddr rfl rfl FA_54_0) ?_
      obtain ⟨x18, q18, h⟩ := h
      refine wpR_val (v := (Sl.v x18)) (w' := w0) rfl rfl rfl (x_load1 rfl rfl SH_52 q18) ?_
      refine wpR_val (v := (Value.int .i64 (x18.len : Int))) (w' := w0) rfl rfl rfl (x_lenS (s := x18) rfl rfl isSliceT_52) ?_
      refine wpR_val (v := (Value.int .i64 (x18.len : Int))) (w' := w0) rfl rfl rfl (x_assign (v := (Value.int .i64 (x18.len : Int))) rfl rfl) ?_
      refine wpR_nil ?_
      refine wpC_seq ?_
      refine wpC_cut (fun ρ => ρ 0 = (Value.pointer p0) ∧ ρ 1 = (Value.string p1) ∧ ρ 2 = (Value.int .i64 p2) ∧ ρ 3 = (Value.int .i64 p3) ∧ ρ 4 = (Value.int .i64 p4) ∧ ρ 13 = (Value.int .i64 (x18.len : Int)) ∧ True) ⟨e0, e1, e2, e3, e4, rfl, trivial⟩ ?_
      rintro ρ ⟨e0, e1, e2, e3, e4, e13, -⟩
      refine wpC_region ?_
      refine wpR_val (v := (Value.int .i64 (x18.len : Int))) (w' := w0) rfl rfl rfl (x_move (v := (Value.int .i64 (x18.len : Int))) rfl e13) ?_
      refine wpR_val (v := (Value.int .i64 p2)) (w' := w0) rfl rfl rfl (x_move (v := (Value.int .i64 p2)) rfl e2) ?_
      refine wpR_val (v := (Value.int .i64 p3)) (w' := w0) rfl rfl rfl (x_move (v := (Value.int .i64 p3)) rfl e3) ?_
      refine wpR_val (v := (Value.int .i64 p4)) (w' := w0) rfl rfl rfl (x_move (v := (Value.int .i64 p4)) rfl e4) ?_
      refine wpR_enter rfl rfl rfl (x_call (vs := [(Value.int .i64 (x18.len : Int)), (Value.int .i64 p2), (Value.int .i64 p3), (Value.int .i64 p4)]) rfl rfl (mapl_cons rfl (mapl_cons rfl (mapl_cons rfl (mapl_cons rfl mapl_nil)))) Try.func34 NN_34 NB_34) (Calls.mono h ?_)
      rintro _ w1 ⟨r19, rfl, h⟩
      refine ⟨_, rfl, ?_⟩
      refine wpR_val (v := (Value.tuple #[(Sl.v r19.1), (Value.int .i64 r19.2)])) (w' := w1) rfl rfl rfl (x_move (v := (Value.tuple #[(Sl.v r19.1), (Value.int .i64 r19.2)])) rfl rfl) ?_
      refine wpR_val (v := (Sl.v r19.1)) (w' := w1) rfl rfl rfl (x_extract rfl rfl rfl) ?_
      refine wpR_val (v := (Value.int .i64 r19.2)) (w' := w1) rfl rfl rfl (x_extract rfl rfl rfl) ?_
      refine wpR_val (v := (Sl.v r19.1)) (w' := w1) rfl rfl rfl (x_assign (v := (Sl.v r19.1)) rfl rfl) ?_
      refine wpR_val (v := (Value.int .i64 r19.2)) (w' := w1) rfl rfl rfl (x_assign (v := (Value.int .i64 r19.2)) rfl rfl) ?_
      refine wpR_nil ?_
      refine wpC_seq ?_
      refine wpC_seq ?_
      refine wpC_cut (fun ρ => ρ 0 = (Value.pointer p0) ∧ ρ 1 = (Value.string p1) ∧ ρ 2 = (Value.int .i64 p2) ∧ ρ 13 = (Value.int .i64 (x18.len : Int)) ∧ ρ 14 = (Sl.v r19.1) ∧ ρ 15 = (Value.int .i64 r19.2) ∧ True) ⟨e0, e1, e2, e13, rfl, rfl, trivial⟩ ?_
      rintro ρ ⟨e0, e1, e2, e13, e14, e15, -⟩
      refine wpC_region ?_
      refine wpR_val (v := (Value.int .i64 r19.2)) (w' := w1) rfl rfl rfl (x_move (v := (Value.int .i64 r19.2)) rfl e15) ?_
      refine wpR_val (v := (Value.bool (!decide (r19.2 = 0)))) (w' := w1) rfl rfl rfl (x_neq rfl rfl rfl) ?_
      refine wpR_nil ?_
      refine wpC_cond (b := !decide (r19.2 = 0)) rfl (fun hc20 => ?_) (fun hc20 => ?_)
      · replace h := h.1 hc20
        refine wpC_seq ?_
        refine wpC_cut (fun ρ => ρ 15 = (Value.int .i64 r19.2) ∧ True) ⟨e15, trivial⟩ ?_
        rintro ρ ⟨e15, -⟩
        refine wpC_region ?_
        refine wpR_val (v := (Value.int .i64 r19.2)) (w' := w1) rfl rfl rfl (x_move (v := (Value.int .i64 r19.2)) rfl e15) ?_
        refine wpR_val (v := (Value.int .i64 0)) (w' := w1) rfl rfl rfl (x_assign (v := (Value.int .i64 0)) rfl rfl) ?_
        refine wpR_val (v := (Sl.v Sl.nil)) (w' := w1) rfl rfl rfl (x_assign (v := (Sl.v Sl.nil)) rfl rfl) ?_
        refine wpR_val (v := (Value.int .i64 r19.2)) (w' := w1) rfl rfl rfl (x_assign (v := (Value.int .i64 r19.2)) rfl rfl) ?_
        refine wpR_nil ?_
        refine wpC_ret ?_
        exact ⟨.inl rfl, fun a ha => ⟨_, results_rep3 rfl ha rfl rfl rfl, (0, Sl.nil, r19.2), rfl, h⟩⟩
      · replace h := h.2 hc20
        refine wpC_skip ?_
        refine wpC_seq ?_
        refine wpC_cut (fun ρ => ρ 0 = (Value.pointer p0) ∧ ρ 1 = (Value.string p1) ∧ ρ 2 = (Value.int .i64 p2) ∧ ρ 13 = (Value.int .i64 (x18.len : Int)) ∧ ρ 14 = (Sl.v r19.1) ∧ True) ⟨e0, e1, e2, e13, e14, trivial⟩ ?_
        rintro ρ ⟨e0, e1, e2, e13, e14, -⟩
        refine wpC_region ?_
        refine wpR_val (v := (Value.pointer p0)) (w' := w1) rfl rfl rfl (x_move (v := (Value.pointer p0)) rfl e0) ?_
        refine wpR_val (v := (Value.pointer p0)) (w' := w1) rfl rfl rfl (x_move (v := (Value.pointer p0)) rfl e0) ?_
        obtain ⟨a21, q21, h⟩ := h
        refine wpR_val (v := (Value.pointer (some a21))) (w' := w1) rfl rfl rfl (x_nilCheck rfl rfl q21) ?_
        refine wpR_val (v := (Value.pointer (some (a21.add 0)))) (w' := w1) rfl rfl rfl (x_fieldAddr rfl rfl FA_54_0) ?_
        obtain ⟨x22, q22, h⟩ := h
        refine wpR_val (v := (Sl.v x22)) (w' := w1) rfl rfl rfl (x_load1 rfl rfl SH_52 q22) ?_
        refine wpR_val (v := (Value.string p1)) (w' := w1) rfl rfl rfl (x_move (v := (Value.string p1)) rfl e1) ?_
        refine wpR_val (v := (Value.int .i64 p2)) (w' := w1) rfl rfl rfl (x_move (v := (Value.int .i64 p2)) rfl e2) ?_
        refine wpR_val (v := (Value.agg #[(Value.string p1), (Value.int .i64 p2), (Value.bool false)])) (w' := w1) rfl rfl rfl (x_build (qs := [(0, (Value.string p1)), (1, (Value.int .i64 p2))]) rfl (by rfl) (BD_76_0_1 p1 p2 _)) ?_
        obtain ⟨b23, hb23⟩ : ∃ u, u = w1.heap.size := ⟨_, rfl⟩
        obtain ⟨w2, hw23⟩ : ∃ u, u = w1.alloc (.cells #[(Value.string p1), (Value.int .i64 p2), (Value.bool false)] 76) := ⟨_, rfl⟩
        replace h := h b23 w2 hb23 hw23
        refine wpR_val (v := (Sl.v (⟨some ⟨b23, 0, none⟩, 1, 1⟩ : Sl))) (w' := w2) rfl rfl rfl ((x_buildSlice (qs := [(0, (Value.agg #[(Value.string p1), (Value.int .i64 p2), (Value.bool false)]))]) rfl (by rfl) (BS_52_1_0 p1 p2 false)).trans (by rw [← hb23, ← hw23])) ?_
        obtain ⟨r24, w3, q24, h⟩ := h
        refine wpR_val (v := (Sl.v r24)) (w' := w3) rfl rfl rfl (x_append (s := x22) (u := (⟨some ⟨b23, 0, none⟩, 1, 1⟩ : Sl)) rfl rfl rfl rfl q24) ?_
        obtain ⟨a25, q25, h⟩ := h
        refine wpR_val (v := (Value.pointer (some a25))) (w' := w3) rfl rfl rfl (x_nilCheck rfl rfl q25) ?_
        refine wpR_val (v := (Value.pointer (some (a25.add 0)))) (w' := w3) rfl rfl rfl (x_fieldAddr rfl rfl FA_54_0) ?_
        obtain ⟨q26, h⟩ := h
        obtain ⟨w4, hw26⟩ : ∃ u, u = setAll w3 (a25.add 0) [(Sl.v r24)] 0 := ⟨_, rfl⟩
        replace h := h w4 hw26
        refine wpR_skp (w' := w4) rfl rfl ((x_store (v := (Sl.v r24)) rfl rfl rfl SZ_52 (ones (by rfl)) q26).trans (by rw [hw26]; rfl)) ?_
        refine wpR_nil ?_
        refine wpC_seq ?_
        refine wpC_cut (fun ρ => ρ 13 = (Value.int .i64 (x18.len : Int)) ∧ ρ 14 = (Sl.v r19.1) ∧ True) ⟨e13, e14, trivial⟩ ?_
        rintro ρ ⟨e13, e14, -⟩
        refine wpC_region ?_
        refine wpR_val (v := (Value.int .i64 (x18.len : Int))) (w' := w4) rfl rfl rfl (x_move (v := (Value.int .i64 (x18.len : Int))) rfl e13) ?_
        refine wpR_val (v := (Sl.v r19.1)) (w' := w4) rfl rfl rfl (x_move (v := (Sl.v r19.1)) rfl e14) ?_
        refine wpR_val (v := (Value.int .i64 (x18.len : Int))) (w' := w4) rfl rfl rfl (x_assign (v := (Value.int .i64 (x18.len : Int))) rfl rfl) ?_
        refine wpR_val (v := (Sl.v r19.1)) (w' := w4) rfl rfl rfl (x_assign (v := (Sl.v r19.1)) rfl rfl) ?_
        refine wpR_val (v := (Value.int .i64 0)) (w' := w4) rfl rfl rfl (x_assign (v := (Value.int .i64 0)) rfl rfl) ?_
        refine wpR_nil ?_
        refine wpC_ret ?_
        exact ⟨.inl rfl, fun a ha => ⟨_, results_rep3 rfl ha rfl rfl rfl, ((x18.len : Int), r19.1, 0), rfl, h⟩⟩

/-- (*linguaref45.Safe).Open -/
def F21 (p0 : Option Addr) (p1 : Int) (p2 : Sl) (w0 : World) (K : (ByteArray × Int) → World → Prop) : Prop :=
  jp (fun J9 => cnd (decide (p1 < 0))
    (
    J9 true
    )
    (
    nn p0 fun a11 =>
    ld Sl.v (a11.add 0) w0 fun x12 =>
    J9 (decide ((x12.len : Int) ≤ p1))
    ))
  fun c13 =>
  cnd (c13)
    (
    K (ByteArray.mk #[], 4) w0
    )
    (
    nn p0 fun a15 =>
    ld Sl.v (a15.add 0) w0 fun x16 =>
    ix x16 p1 3 fun p17 =>
    ld (Value.int .i64) (p17.add 1) w0 fun x18 =>
    callC Try.prog 35 #[(Sl.v p2), (Value.int .i64 x18)] (fun (r : Int × Int) => (Value.tuple #[(Value.int .i64 r.1), (Value.int .i64 r.2)])) w0 fun r19 w1 =>
    cnd (!decide (r19.2 = 0))
      (
      K (ByteArray.mk #[], r19.2) w1
      )
      (
      jp (fun J21 => cnd (!decide (r19.1 = p1))
        (
        J21 true
        )
        (
        nn p0 fun a23 =>
        ld Sl.v (a23.add 0) w1 fun x24 =>
        ix x24 p1 3 fun p25 =>
        ld Value.bool (p25.add 2) w1 fun x26 =>
        J21 x26
        ))
      fun c27 =>
      cnd (c27)
        (
        K (ByteArray.mk #[], 13) w1
        )
        (
        nn p0 fun a29 =>
        ld Sl.v (a29.add 0) w1 fun x30 =>
        ix x30 p1 3 fun p31 =>
        ld Value.string (p31.add 0) w1 fun x32 =>
        K (x32, 0) w1
        )
      )
    )
set_option maxRecDepth 100000 in
theorem D21 (p0 : Option Addr) (p1 : Int) (p2 : Sl) (w0 : World) (K : (ByteArray × Int) → World → Prop) (h : F21 p0 p1 p2 w0 K) : callC Try.prog 21 #[(Value.pointer p0), (Value.int .i64 p1), (Sl.v p2)] (fun (r : ByteArray × Int) => (Value.tuple #[(Value.string r.1), (Value.int .i64 r.2)])) w0 K := by
  unfold F21 at h
  refine calls_of_wpC Try.func21 rfl 58 rfl (by simp) ?_
  intro ρ hρ
  have e0 : ρ 0 = (Value.pointer p0) := hρ 0
  have e1 : ρ 1 = (Value.int .i64 p1) := hρ 1
  have e2 : ρ 2 = (Sl.v p2) := hρ 2
  clear hρ
  refine wpC_seq ?_
  refine wpC_region ?_
  refine wpR_val (v := (Value.string (ByteArray.mk #[]))) (w' := w0) rfl rfl rfl (x_assign (v := (Value.string (ByteArray.mk #[]))) rfl rfl) ?_
  refine wpR_val (v := (Value.int .i64 0)) (w' := w0) rfl rfl rfl (x_assign (v := (Value.int .i64 0)) rfl rfl) ?_
  refine wpR_nil ?_
  refine wpC_seq ?_
  refine wpC_seq ?_
  refine wpC_cut (fun ρ => ρ 0 = (Value.pointer p0) ∧ ρ 1 = (Value.int .i64 p1) ∧ ρ 2 = (Sl.v p2) ∧ True) ⟨e0, e1, e2, trivial⟩ ?_
  rintro ρ ⟨e0, e1, e2, -⟩
  refine wpC_region ?_
  refine wpR_val (v := (Value.int .i64 p1)) (w' := w0) rfl rfl rfl (x_move (v := (Value.int .i64 p1)) rfl e1) ?_
  refine wpR_val (v := (Value.bool (decide (p1 < 0)))) (w' := w0) rfl rfl rfl (x_lss rfl rfl rfl) ?_
  refine wpR_val (v := (Value.bool (decide (p1 < 0)))) (w' := w0) rfl rfl rfl (x_move (v := (Value.bool (decide (p1 < 0)))) rfl rfl) ?_
  obtain ⟨J9, h, hk⟩ := h
  refine wpR_joinJ 8 (fun x ρ => ρ 20 = Value.bool x ∧ ρ 0 = (Value.pointer p0) ∧ ρ 1 = (Value.int .i64 p1) ∧ ρ 2 = (Sl.v p2) ∧ True) (fun x w => J9 x ∧ w0 = w) ?_ ?_
  · clear hk
    rcases Bool.eq_false_or_eq_true (decide (p1 < 0)) with hc10 | hc10
    · replace h := h.1 hc10
      refine wpR_pass (wantN rfl rfl rfl hc10) rfl rfl ?_
      refine wpR_pass (wantN rfl rfl rfl hc10) rfl rfl ?_
      refine wpR_pass (wantN rfl rfl rfl hc10) rfl rfl ?_
      refine wpR_pass (wantN rfl rfl rfl hc10) rfl rfl ?_
      refine wpR_pass (wantN rfl rfl rfl hc10) rfl rfl ?_
      refine wpR_pass (wantN rfl rfl rfl hc10) rfl rfl ?_
      refine wpR_pass (wantN rfl rfl rfl hc10) rfl rfl ?_
      refine wpR_val (v := (Value.bool true)) (w' := w0) rfl rfl rfl (x_pickT (v := (Value.bool true)) rfl rfl hc10 rfl) ?_
      refine wpR_nil ?_
      exact ⟨true, ⟨rfl, e0, e1, e2, trivial⟩, h, rfl⟩
    · replace h := h.2 hc10
      refine wpR_val (v := (Value.int .i64 p1)) (w' := w0) (wantG rfl rfl rfl hc10) rfl rfl (x_move (v := (Value.int .i64 p1)) rfl e1) ?_
      refine wpR_val (v := (Value.pointer p0)) (w' := w0) (wantG rfl rfl rfl hc10) rfl rfl (x_move (v := (Value.pointer p0)) rfl e0) ?_
      obtain ⟨a11, q11, h⟩ := h
      refine wpR_val (v := (Value.pointer (some a11))) (w' := w0) (wantG rfl rfl rfl hc10) rfl rfl (x_nilCheck rfl rfl q11) ?_
      refine wpR_val (v := (Value.pointer (some (a11.add 0)))) (w' := w0) (wantG rfl rfl rfl hc10) rfl rfl (x_fieldAddr rfl rfl FA_54_0) ?_
      obtain ⟨x12, q12, h⟩ := h
      refine wpR_val (v := (Sl.v x12)) (w' := w0) (wantG rfl rfl rfl hc10) rfl rfl (x_load1 rfl rfl SH_52 q12) ?_
      refine wpR_val (v := (Value.int .i64 (x12.len : Int))) (w' := w0) (wantG rfl rfl rfl hc10) rfl rfl (x_lenS (s := x12) rfl rfl isSliceT_52) ?_
      refine wpR_val (v := (Value.bool (decide ((x12.len : Int) ≤ p1)))) (w' := w0) (wantG rfl rfl rfl hc10) rfl rfl (x_geq rfl rfl rfl) ?_
      refine wpR_val (v := (Value.bool (decide ((x12.len : Int) ≤ p1)))) (w' := w0) rfl rfl rfl (x_pickF (v := (Value.bool (decide ((x12.len : Int) ≤ p1)))) rfl rfl hc10 rfl) ?_
      refine wpR_nil ?_
      exact ⟨decide ((x12.len : Int) ≤ p1), ⟨rfl, e0, e1, e2, trivial⟩, h, rfl⟩
  clear h
  rintro c13 ρ wj ⟨e20, e0, e1, e2, -⟩ ⟨h, rfl⟩
  replace h := hk c13 h
  clear hk
  refine wpR_nil ?_
  refine wpC_cond (b := c13) e20 (fun hc14 => ?_) (fun hc14 => ?_)
  · replace h := h.1 hc14
    refine wpC_seq ?_
    refine wpC_region ?_
    refine wpR_val (v := (Value.string (ByteArray.mk #[]))) (w' := w0) rfl rfl rfl (x_assign (v := (Value.string (ByteArray.mk #[]))) rfl rfl) ?_
    refine wpR_val (v := (Value.int .i64 4)) (w' := w0) rfl rfl rfl (x_assign (v := (Value.int .i64 4)) rfl rfl) ?_
    refine wpR_nil ?_
    refine wpC_ret ?_
    exact ⟨.inl rfl, fun a ha => ⟨_, results_rep2 rfl ha rfl rfl, (ByteArray.mk #[], 4), rfl, h⟩⟩
  · replace h := h.2 hc14
    refine wpC_skip ?_
    refine wpC_seq ?_
    refine wpC_region ?_
    refine wpR_val (v := (Sl.v p2)) (w' := w0) rfl rfl rfl (x_move (v := (Sl.v p2)) rfl e2) ?_
    refine wpR_val (v := (Value.pointer p0)) (w' := w0) rfl rfl rfl (x_move (v := (Value.pointer p0)) rfl e0) ?_
    obtain ⟨a15, q15, h⟩ := h
    refine wpR_val (v := (Value.pointer (some a15))) (w' := w0) rfl rfl rfl (x_nilCheck rfl rfl q15) ?_
    refine wpR_val (v := (Value.pointer (some (a15.add 0)))) (w' := w0) rfl rfl rfl (x_fieldAddr rfl rfl FA_54_0) ?_
    obtain ⟨x16, q16, h⟩ := h
    refine wpR_val (v := (Sl.v x16)) (w' := w0) rfl rfl rfl (x_load1 rfl rfl SH_52 q16) ?_
    refine wpR_val (v := (Value.int .i64 p1)) (w' := w0) rfl rfl rfl (x_move (v := (Value.int .i64 p1)) rfl e1) ?_
    obtain ⟨q17, z17, r17, h⟩ := h
    generalize hp17 : z17.add ((p1 : Int).toNat * 3) = p17 at h
    refine wpR_val (v := (Value.pointer (some p17))) (w' := w0) rfl rfl rfl ((x_indexAddr (s := x16) rfl rfl rfl ES_52 q17 r17).trans (by rw [hp17])) ?_
    refine wpR_val (v := (Value.pointer (some (p17.add 1)))) (w' := w0) rfl rfl rfl (x_fieldAddr rfl rfl FA_76_1) ?_
    obtain ⟨x18, q18, h⟩ := h
    refine wpR_val (v := (Value.int .i64 x18)) (w' := w0) rfl rfl rfl (x_load1 rfl rfl SH_3 q18) ?_
    refine wpR_enter rfl rfl rfl (x_call (vs := [(Sl.v p2), (Value.int .i64 x18)]) rfl rfl (mapl_cons rfl (mapl_cons rfl mapl_nil)) Try.func35 NN_35 NB_35) (Calls.mono h ?_)
    rintro _ w1 ⟨r19, rfl, h⟩
    refine ⟨_, rfl, ?_⟩
    refine wpR_val (v := (Value.tuple #[(Value.int .i64 r19.1), (Value.int .i64 r19.2)])) (w' := w1) rfl rfl rfl (x_move (v := (Value.tuple #[(Value.int .i64 r19.1), (Value.int .i64 r19.2)])) rfl rfl) ?_
    refine wpR_val (v := (Value.int .i64 r19.1)) (w' := w1) rfl rfl rfl (x_extract rfl rfl rfl) ?_
    refine wpR_val (v := (Value.int .i64 r19.2)) (w' := w1) rfl rfl rfl (x_extract rfl rfl rfl) ?_
    refine wpR_val (v := (Value.int .i64 r19.1)) (w' := w1) rfl rfl rfl (x_assign (v := (Value.int .i64 r19.1)) rfl rfl) ?_
    refine wpR_val (v := (Value.int .i64 r19.2)) (w' := w1) rfl rfl rfl (x_assign (v := (Value.int .i64 r19.2)) rfl rfl) ?_
    refine wpR_nil ?_
    refine wpC_seq ?_
    refine wpC_seq ?_
    refine wpC_cut (fun ρ => ρ 0 = (Value.pointer p0) ∧ ρ 1 = (Value.int .i64 p1) ∧ ρ 8 = (Value.int .i64 r19.1) ∧ ρ 9 = (Value.int .i64 r19.2) ∧ True) ⟨e0, e1, rfl, rfl, trivial⟩ ?_
    rintro ρ ⟨e0, e1, e8, e9, -⟩
    refine wpC_region ?_
    refine wpR_val (v := (Value.int .i64 r19.2)) (w' := w1) rfl rfl rfl (x_move (v := (Value.int .i64 r19.2)) rfl e9) ?_
    refine wpR_val (v := (Value.bool (!decide (r19.2 = 0)))) (w' := w1) rfl rfl rfl (x_neq rfl rfl rfl) ?_
    refine wpR_nil ?_
    refine wpC_cond (b := !decide (r19.2 = 0)) rfl (fun hc20 => ?_) (fun hc20 => ?_)
    · replace h := h.1 hc20
      refine wpC_seq ?_
      refine wpC_cut (fun ρ => ρ 9 = (Value.int .i64 r19.2) ∧ True) ⟨e9, trivial⟩ ?_
      rintro ρ ⟨e9, -⟩
      refine wpC_region ?_
      refine wpR_val (v := (Value.int .i64 r19.2)) (w' := w1) rfl rfl rfl (x_move (v := (Value.int .i64 r19.2)) rfl e9) ?_
      refine wpR_val (v := (Value.string (ByteArray.mk #[]))) (w' := w1) rfl rfl rfl (x_assign (v := (Value.string (ByteArray.mk #[]))) rfl rfl) ?_
      refine wpR_val (v := (Value.int .i64 r19.2)) (w' := w1) rfl rfl rfl (x_assign (v := (Value.int .i64 r19.2)) rfl rfl) ?_
      refine wpR_nil ?_
      refine wpC_ret ?_
      exact ⟨.inl rfl, fun a ha => ⟨_, results_rep2 rfl ha rfl rfl, (ByteArray.mk #[], r19.2), rfl, h⟩⟩
    · replace h := h.2 hc20
      refine wpC_skip ?_
      refine wpC_seq ?_
      refine wpC_seq ?_
      refine wpC_cut (fun ρ => ρ 0 = (Value.pointer p0) ∧ ρ 1 = (Value.int .i64 p1) ∧ ρ 8 = (Value.int .i64 r19.1) ∧ True) ⟨e0, e1, e8, trivial⟩ ?_
      rintro ρ ⟨e0, e1, e8, -⟩
      refine wpC_region ?_
      refine wpR_val (v := (Value.int .i64 r19.1)) (w' := w1) rfl rfl rfl (x_move (v := (Value.int .i64 r19.1)) rfl e8) ?_
      refine wpR_val (v := (Value.int .i64 p1)) (w' := w1) rfl rfl rfl (x_move (v := (Value.int .i64 p1)) rfl e1) ?_
      refine wpR_val (v := (Value.bool (!decide (r19.1 = p1)))) (w' := w1) rfl rfl rfl (x_neq rfl rfl rfl) ?_
      refine wpR_val (v := (Value.bool (!decide (r19.1 = p1)))) (w' := w1) rfl rfl rfl (x_move (v := (Value.bool (!decide (r19.1 = p1)))) rfl rfl) ?_
      obtain ⟨J21, h, hk⟩ := h
      refine wpR_joinJ 9 (fun x ρ => ρ 49 = Value.bool x ∧ ρ 0 = (Value.pointer p0) ∧ ρ 1 = (Value.int .i64 p1) ∧ True) (fun x w => J21 x ∧ w1 = w) ?_ ?_
      · clear hk
        rcases Bool.eq_false_or_eq_true (!decide (r19.1 = p1)) with hc22 | hc22
        · replace h := h.1 hc22
          refine wpR_pass (wantN rfl rfl rfl hc22) rfl rfl ?_
          refine wpR_pass (wantN rfl rfl rfl hc22) rfl rfl ?_
          refine wpR_pass (wantN rfl rfl rfl hc22) rfl rfl ?_
          refine wpR_pass (wantN rfl rfl rfl hc22) rfl rfl ?_
          refine wpR_pass (wantN rfl rfl rfl hc22) rfl rfl ?_
          refine wpR_pass (wantN rfl rfl rfl hc22) rfl rfl ?_
          refine wpR_pass (wantN rfl rfl rfl hc22) rfl rfl ?_
          refine wpR_pass (wantN rfl rfl rfl hc22) rfl rfl ?_
          refine wpR_val (v := (Value.bool true)) (w' := w1) rfl rfl rfl (x_pickT (v := (Value.bool true)) rfl rfl hc22 rfl) ?_
          refine wpR_nil ?_
          exact ⟨true, ⟨rfl, e0, e1, trivial⟩, h, rfl⟩
        · replace h := h.2 hc22
          refine wpR_val (v := (Value.pointer p0)) (w' := w1) (wantG rfl rfl rfl hc22) rfl rfl (x_move (v := (Value.pointer p0)) rfl e0) ?_
          obtain ⟨a23, q23, h⟩ := h
          refine wpR_val (v := (Value.pointer (some a23))) (w' := w1) (wantG rfl rfl rfl hc22) rfl rfl (x_nilCheck rfl rfl q23) ?_
          refine wpR_val (v := (Value.pointer (some (a23.add 0)))) (w' := w1) (wantG rfl rfl rfl hc22) rfl rfl (x_fieldAddr rfl rfl FA_54_0) ?_
          obtain ⟨x24, q24, h⟩ := h
          refine wpR_val (v := (Sl.v x24)) (w' := w1) (wantG rfl rfl rfl hc22) rfl rfl (x_load1 rfl rfl SH_52 q24) ?_
          refine wpR_val (v := (Value.int .i64 p1)) (w' := w1) (wantG rfl rfl rfl hc22) rfl rfl (x_move (v := (Value.int .i64 p1)) rfl e1) ?_
          obtain ⟨q25, z25, r25, h⟩ := h
          generalize hp25 : z25.add ((p1 : Int).toNat * 3) = p25 at h
          refine wpR_val (v := (Value.pointer (some p25))) (w' := w1) (wantG rfl rfl rfl hc22) rfl rfl ((x_indexAddr (s := x24) rfl rfl rfl ES_52 q25 r25).trans (by rw [hp25])) ?_
          refine wpR_val (v := (Value.pointer (some (p25.add 2)))) (w' := w1) (wantG rfl rfl rfl hc22) rfl rfl (x_fieldAddr rfl rfl FA_76_2) ?_
          obtain ⟨x26, q26, h⟩ := h
          refine wpR_val (v := (Value.bool x26)) (w' := w1) (wantG rfl rfl rfl hc22) rfl rfl (x_load1 rfl rfl SH_4 q26) ?_
          refine wpR_val (v := (Value.bool x26)) (w' := w1) rfl rfl rfl (x_pickF (v := (Value.bool x26)) rfl rfl hc22 rfl) ?_
          refine wpR_nil ?_
          exact ⟨x26, ⟨rfl, e0, e1, trivial⟩, h, rfl⟩
      clear h
      rintro c27 ρ wj ⟨e49, e0, e1, -⟩ ⟨h, rfl⟩
      replace h := hk c27 h
      clear hk
      refine wpR_nil ?_
      refine wpC_cond (b := c27) e49 (fun hc28 => ?_) (fun hc28 => ?_)
      · replace h := h.1 hc28
        refine wpC_seq ?_
        refine wpC_region ?_
        refine wpR_val (v := (Value.string (ByteArray.mk #[]))) (w' := w1) rfl rfl rfl (x_assign (v := (Value.string (ByteArray.mk #[]))) rfl rfl) ?_
        refine wpR_val (v := (Value.int .i64 13)) (w' := w1) rfl rfl rfl (x_assign (v := (Value.int .i64 13)) rfl rfl) ?_
        refine wpR_nil ?_
        refine wpC_ret ?_
        exact ⟨.inl rfl, fun a ha => ⟨_, results_rep2 rfl ha rfl rfl, (ByteArray.mk #[], 13), rfl, h⟩⟩
      · replace h := h.2 hc28
        refine wpC_skip ?_
        refine wpC_seq ?_
        refine wpC_region ?_
        refine wpR_val (v := (Value.pointer p0)) (w' := w1) rfl rfl rfl (x_move (v := (Value.pointer p0)) rfl e0) ?_
        obtain ⟨a29, q29, h⟩ := h
        refine wpR_val (v := (Value.pointer (some a29))) (w' := w1) rfl rfl rfl (x_nilCheck rfl rfl q29) ?_
        refine wpR_val (v := (Value.pointer (some (a29.add 0)))) (w' := w1) rfl rfl rfl (x_fieldAddr rfl rfl FA_54_0) ?_
        obtain ⟨x30, q30, h⟩ := h
        refine wpR_val (v := (Sl.v x30)) (w' := w1) rfl rfl rfl (x_load1 rfl rfl SH_52 q30) ?_
        refine wpR_val (v := (Value.int .i64 p1)) (w' := w1) rfl rfl rfl (x_move (v := (Value.int .i64 p1)) rfl e1) ?_
        obtain ⟨q31, z31, r31, h⟩ := h
        generalize hp31 : z31.add ((p1 : Int).toNat * 3) = p31 at h
        refine wpR_val (v := (Value.pointer (some p31))) (w' := w1) rfl rfl rfl ((x_indexAddr (s := x30) rfl rfl rfl ES_52 q31 r31).trans (by rw [hp31])) ?_
        refine wpR_val (v := (Value.pointer (some (p31.add 0)))) (w' := w1) rfl rfl rfl (x_fieldAddr rfl rfl FA_76_0) ?_
        obtain ⟨x32, q32, h⟩ := h
        refine wpR_val (v := (Value.string x32)) (w' := w1) rfl rfl rfl (x_load1 rfl rfl SH_9 q32) ?_
        refine wpR_val (v := (Value.string x32)) (w' := w1) rfl rfl rfl (x_assign (v := (Value.string x32)) rfl rfl) ?_
        refine wpR_val (v := (Value.int .i64 0)) (w' := w1) rfl rfl rfl (x_assign (v := (Value.int .i64 0)) rfl rfl) ?_
        refine wpR_nil ?_
        refine wpC_ret ?_
        exact ⟨.inl rfl, fun a ha => ⟨_, results_rep2 rfl ha rfl rfl, (x32, 0), rfl, h⟩⟩

/-- (*linguaref45.Safe).Burn -/
def F22 (p0 : Option Addr) (p1 : Int) (w0 : World) (K : Int → World → Prop) : Prop :=
  jp (fun J9 => cnd (decide (p1 < 0))
    (
    J9 true
    )
    (
    nn p0 fun a11 =>
    ld Sl.v (a11.add 0) w0 fun x12 =>
    J9 (decide ((x12.len : Int) ≤ p1))
    ))
  fun c13 =>
  cnd (c13)
    (
    K 4 w0
    )
    (
    nn p0 fun a15 =>
    ld Sl.v (a15.add 0) w0 fun x16 =>
    ix x16 p1 3 fun p17 =>
    ld Value.bool (p17.add 2) w0 fun x18 =>
    cnd (x18)
      (
      K 5 w0
      )
      (
      nn p0 fun a20 =>
      ld Sl.v (a20.add 0) w0 fun x21 =>
      ix x21 p1 3 fun p22 =>
      st (p22.add 2) [(Value.bool true)] w0 fun w1 =>
      K 0 w1
      )
    )
set_option maxRecDepth 100000 in
theorem D22 (p0 : Option Addr) (p1 : Int) (w0 : World) (K : Int → World → Prop) (h : F22 p0 p1 w0 K) : callC Try.prog 22 #[(Value.pointer p0), (Value.int .i64 p1)] (fun (r : Int) => (Value.int .i64 r)) w0 K := by
  unfold F22 at h
  refine calls_of_wpC Try.func22 rfl 31 rfl (by simp) ?_
  intro ρ hρ
  have e0 : ρ 0 = (Value.pointer p0) := hρ 0
  have e1 : ρ 1 = (Value.int .i64 p1) := hρ 1
  clear hρ
  refine wpC_seq ?_
  refine wpC_region ?_
  refine wpR_val (v := (Value.int .i64 0)) (w' := w0) rfl rfl rfl (x_assign (v := (Value.int .i64 0)) rfl rfl) ?_
  refine wpR_nil ?_
  refine wpC_seq ?_
  refine wpC_seq ?_
  refine wpC_cut (fun ρ => ρ 0 = (Value.pointer p0) ∧ ρ 1 = (Value.int .i64 p1) ∧ True) ⟨e0, e1, trivial⟩ ?_
  rintro ρ ⟨e0, e1, -⟩
  refine wpC_region ?_
  refine wpR_val (v := (Value.int .i64 p1)) (w' := w0) rfl rfl rfl (x_move (v := (Value.int .i64 p1)) rfl e1) ?_
  refine wpR_val (v := (Value.bool (decide (p1 < 0)))) (w' := w0) rfl rfl rfl (x_lss rfl rfl rfl) ?_
  refine wpR_val (v := (Value.bool (decide (p1 < 0)))) (w' := w0) rfl rfl rfl (x_move (v := (Value.bool (decide (p1 < 0)))) rfl rfl) ?_
  obtain ⟨J9, h, hk⟩ := h
  refine wpR_joinJ 8 (fun x ρ => ρ 15 = Value.bool x ∧ ρ 0 = (Value.pointer p0) ∧ ρ 1 = (Value.int .i64 p1) ∧ True) (fun x w => J9 x ∧ w0 = w) ?_ ?_
  · clear hk
    rcases Bool.eq_false_or_eq_true (decide (p1 < 0)) with hc10 | hc10
    · replace h := h.1 hc10
      refine wpR_pass (wantN rfl rfl rfl hc10) rfl rfl ?_
      refine wpR_pass (wantN rfl rfl rfl hc10) rfl rfl ?_
      refine wpR_pass (wantN rfl rfl rfl hc10) rfl rfl ?_
      refine wpR_pass (wantN rfl rfl rfl hc10) rfl rfl ?_
      refine wpR_pass (wantN rfl rfl rfl hc10) rfl rfl ?_
      refine wpR_pass (wantN rfl rfl rfl hc10) rfl rfl ?_
      refine wpR_pass (wantN rfl rfl rfl hc10) rfl rfl ?_
      refine wpR_val (v := (Value.bool true)) (w' := w0) rfl rfl rfl (x_pickT (v := (Value.bool true)) rfl rfl hc10 rfl) ?_
      refine wpR_nil ?_
      exact ⟨true, ⟨rfl, e0, e1, trivial⟩, h, rfl⟩
    · replace h := h.2 hc10
      refine wpR_val (v := (Value.int .i64 p1)) (w' := w0) (wantG rfl rfl rfl hc10) rfl rfl (x_move (v := (Value.int .i64 p1)) rfl e1) ?_
      refine wpR_val (v := (Value.pointer p0)) (w' := w0) (wantG rfl rfl rfl hc10) rfl rfl (x_move (v := (Value.pointer p0)) rfl e0) ?_
      obtain ⟨a11, q11, h⟩ := h
      refine wpR_val (v := (Value.pointer (some a11))) (w' := w0) (wantG rfl rfl rfl hc10) rfl rfl (x_nilCheck rfl rfl q11) ?_
      refine wpR_val (v := (Value.pointer (some (a11.add 0)))) (w' := w0) (wantG rfl rfl rfl hc10) rfl rfl (x_fieldAddr rfl rfl FA_54_0) ?_
      obtain ⟨x12, q12, h⟩ := h
      refine wpR_val (v := (Sl.v x12)) (w' := w0) (wantG rfl rfl rfl hc10) rfl rfl (x_load1 rfl rfl SH_52 q12) ?_
      refine wpR_val (v := (Value.int .i64 (x12.len : Int))) (w' := w0) (wantG rfl rfl rfl hc10) rfl rfl (x_lenS (s := x12) rfl rfl isSliceT_52) ?_
      refine wpR_val (v := (Value.bool (decide ((x12.len : Int) ≤ p1)))) (w' := w0) (wantG rfl rfl rfl hc10) rfl rfl (x_geq rfl rfl rfl) ?_
      refine wpR_val (v := (Value.bool (decide ((x12.len : Int) ≤ p1)))) (w' := w0) rfl rfl rfl (x_pickF (v := (Value.bool (decide ((x12.len : Int) ≤ p1)))) rfl rfl hc10 rfl) ?_
      refine wpR_nil ?_
      exact ⟨decide ((x12.len : Int) ≤ p1), ⟨rfl, e0, e1, trivial⟩, h, rfl⟩
  clear h
  rintro c13 ρ wj ⟨e15, e0, e1, -⟩ ⟨h, rfl⟩
  replace h := hk c13 h
  clear hk
  refine wpR_nil ?_
  refine wpC_cond (b := c13) e15 (fun hc14 => ?_) (fun hc14 => ?_)
  · replace h := h.1 hc14
    refine wpC_seq ?_
    refine wpC_region ?_
    refine wpR_val (v := (Value.int .i64 4)) (w' := w0) rfl rfl rfl (x_assign (v := (Value.int .i64 4)) rfl rfl) ?_
    refine wpR_nil ?_
    refine wpC_ret ?_
    exact ⟨.inl rfl, fun a ha => ⟨_, results_rep1 rfl ha rfl, 4, rfl, h⟩⟩
  · replace h := h.2 hc14
    refine wpC_skip ?_
    refine wpC_seq ?_
    refine wpC_seq ?_
    refine wpC_region ?_
    refine wpR_val (v := (Value.pointer p0)) (w' := w0) rfl rfl rfl (x_move (v := (Value.pointer p0)) rfl e0) ?_
    obtain ⟨a15, q15, h⟩ := h
    refine wpR_val (v := (Value.pointer (some a15))) (w' := w0) rfl rfl rfl (x_nilCheck rfl rfl q15) ?_
    refine wpR_val (v := (Value.pointer (some (a15.add 0)))) (w' := w0) rfl rfl rfl (x_fieldAddr rfl rfl FA_54_0) ?_
    obtain ⟨x16, q16, h⟩ := h
    refine wpR_val (v := (Sl.v x16)) (w' := w0) rfl rfl rfl (x_load1 rfl rfl SH_52 q16) ?_
    refine wpR_val (v := (Value.int .i64 p1)) (w' := w0) rfl rfl rfl (x_move (v := (Value.int .i64 p1)) rfl e1) ?_
    obtain ⟨q17, z17, r17, h⟩ := h
    generalize hp17 : z17.add ((p1 : Int).toNat * 3) = p17 at h
    refine wpR_val (v := (Value.pointer (some p17))) (w' := w0) rfl rfl rfl ((x_indexAddr (s := x16) rfl rfl rfl ES_52 q17 r17).trans (by rw [hp17])) ?_
    refine wpR_val (v := (Value.pointer (some (p17.add 2)))) (w' := w0) rfl rfl rfl (x_fieldAddr rfl rfl FA_76_2) ?_
    obtain ⟨x18, q18, h⟩ := h
    refine wpR_val (v := (Value.bool x18)) (w' := w0) rfl rfl rfl (x_load1 rfl rfl SH_4 q18) ?_
    refine wpR_nil ?_
    refine wpC_cond (b := x18) rfl (fun hc19 => ?_) (fun hc19 => ?_)
    · replace h := h.1 hc19
      refine wpC_seq ?_
      refine wpC_cut (fun ρ => True) trivial ?_
      rintro ρ -
      refine wpC_region ?_
      refine wpR_val (v := (Value.int .i64 5)) (w' := w0) rfl rfl rfl (x_assign (v := (Value.int .i64 5)) rfl rfl) ?_
      refine wpR_nil ?_
      refine wpC_ret ?_
      exact ⟨.inl rfl, fun a ha => ⟨_, results_rep1 rfl ha rfl, 5, rfl, h⟩⟩
    · replace h := h.2 hc19
      refine wpC_skip ?_
      refine wpC_seq ?_
      refine wpC_cut (fun ρ => ρ 0 = (Value.pointer p0) ∧ ρ 1 = (Value.int .i64 p1) ∧ True) ⟨e0, e1, trivial⟩ ?_
      rintro ρ ⟨e0, e1, -⟩
      refine wpC_region ?_
      refine wpR_val (v := (Value.pointer p0)) (w' := w0) rfl rfl rfl (x_move (v := (Value.pointer p0)) rfl e0) ?_
      obtain ⟨a20, q20, h⟩ := h
      refine wpR_val (v := (Value.pointer (some a20))) (w' := w0) rfl rfl rfl (x_nilCheck rfl rfl q20) ?_
      refine wpR_val (v := (Value.pointer (some (a20.add 0)))) (w' := w0) rfl rfl rfl (x_fieldAddr rfl rfl FA_54_0) ?_
      obtain ⟨x21, q21, h⟩ := h
      refine wpR_val (v := (Sl.v x21)) (w' := w0) rfl rfl rfl (x_load1 rfl rfl SH_52 q21) ?_
      refine wpR_val (v := (Value.int .i64 p1)) (w' := w0) rfl rfl rfl (x_move (v := (Value.int .i64 p1)) rfl e1) ?_
      obtain ⟨q22, z22, r22, h⟩ := h
      generalize hp22 : z22.add ((p1 : Int).toNat * 3) = p22 at h
      refine wpR_val (v := (Value.pointer (some p22))) (w' := w0) rfl rfl rfl ((x_indexAddr (s := x21) rfl rfl rfl ES_52 q22 r22).trans (by rw [hp22])) ?_
      refine wpR_val (v := (Value.pointer (some (p22.add 2)))) (w' := w0) rfl rfl rfl (x_fieldAddr rfl rfl FA_76_2) ?_
      obtain ⟨q23, h⟩ := h
      obtain ⟨w1, hw23⟩ : ∃ u, u = setAll w0 (p22.add 2) [(Value.bool true)] 0 := ⟨_, rfl⟩
      replace h := h w1 hw23
      refine wpR_skp (w' := w1) rfl rfl ((x_store (v := (Value.bool true)) rfl rfl rfl SZ_4 (ones (by rfl)) q23).trans (by rw [hw23]; rfl)) ?_
      refine wpR_nil ?_
      refine wpC_seq ?_
      refine wpC_cut (fun ρ => True) trivial ?_
      rintro ρ -
      refine wpC_region ?_
      refine wpR_val (v := (Value.int .i64 0)) (w' := w1) rfl rfl rfl (x_assign (v := (Value.int .i64 0)) rfl rfl) ?_
      refine wpR_nil ?_
      refine wpC_ret ?_
      exact ⟨.inl rfl, fun a ha => ⟨_, results_rep1 rfl ha rfl, 0, rfl, h⟩⟩

/-- (*sealed.Safe).Copy -/
def F23 (p0 : Option Addr) (w0 : World) (K : (Option Addr) → World → Prop) : Prop :=
  jn (fun (J10 : (Option Addr) → World → Prop) => tk w0 fun w1 =>
    nn p0 fun a11 =>
    ld Value.pointer ((a11.add 0).add 0) w1 fun x12 =>
    nn p0 fun a13 =>
    ld Sl.v (a13.add 1) w1 fun x14 =>
    callC Try.prog 36 #[(Value.pointer x12)] (fun (r : (Option Addr)) => (Value.pointer r)) w1 fun r15 w2 =>
    (w2.cell? (a13.add 1) = some (Sl.v x14)) ∧
    callC Try.prog 37 #[(Sl.v x14)] (fun (r : Sl) => (Sl.v r)) w2 fun r16 w3 =>
    nw 63 #[(Value.pointer r15), (Sl.v r16)] w3 fun b17 w4 =>
    J10 (some (Addr.mk b17 0 none)) w4
  )
  fun l18 w5 =>
  K l18 w5
set_option maxRecDepth 100000 in
theorem D23 (p0 : Option Addr) (w0 : World) (K : (Option Addr) → World → Prop) (h : F23 p0 w0 K) : callC Try.prog 23 #[(Value.pointer p0)] (fun (r : (Option Addr)) => (Value.pointer r)) w0 K := by
  unfold F23 at h
  refine calls_of_wpC Try.func23 rfl 17 rfl (by simp) ?_
  intro ρ hρ
  have e0 : ρ 0 = (Value.pointer p0) := hρ 0
  clear hρ
  refine wpC_seq ?_
  refine wpC_region ?_
  refine wpR_val (v := (Value.pointer none)) (w' := w0) rfl rfl rfl (x_assign (v := (Value.pointer none)) rfl rfl) ?_
  refine wpR_nil ?_
  refine wpC_seq ?_
  refine wpC_cut (fun ρ => ρ 0 = (Value.pointer p0) ∧ True) ⟨e0, trivial⟩ ?_
  rintro ρ ⟨e0, -⟩
  obtain ⟨J10, h, hk⟩ := h
  refine wpC_drawJ (by kernel_rfl) (fun (x : (Option Addr)) ρ => ρ 2 = (Value.pointer x) ∧ True) J10 ?_ ?_
  · clear hk
    unfold tk at h
    generalize w0.drew = w1 at h ⊢
    refine wpD_take (v := (Value.pointer p0)) 0 (fun _ => True) rfl (by kernel_rfl) (by kernel_rfl) (by kernel_rfl) rfl rfl rfl trivial (fun w _ => (x_move (v := (Value.pointer p0)) rfl e0)) ?_
    obtain ⟨a11, q11, h⟩ := h
    refine wpD_take (v := (Value.pointer (some a11))) 1 (fun _ => True) rfl (by kernel_rfl) (by kernel_rfl) (by kernel_rfl) rfl rfl rfl trivial (fun w _ => (x_nilCheck rfl rfl q11)) ?_
    refine wpD_take (v := (Value.pointer (some (a11.add 0)))) 2 (fun _ => True) rfl (by kernel_rfl) (by kernel_rfl) (by kernel_rfl) rfl rfl rfl trivial (fun w _ => (x_fieldAddr rfl rfl FA_63_0)) ?_
    refine wpD_take (v := (Value.pointer (some ((a11.add 0).add 0)))) 3 (fun _ => True) rfl (by kernel_rfl) (by kernel_rfl) (by kernel_rfl) rfl rfl rfl trivial (fun w _ => (x_fieldAddr rfl rfl FA_60_0)) ?_
    obtain ⟨x12, q12, h⟩ := h
    refine wpD_take (v := (Value.pointer x12)) 4 (fun w => w.cell? ((a11.add 0).add 0) = some (Value.pointer x12)) rfl (by kernel_rfl) (by kernel_rfl) (by kernel_rfl) rfl rfl rfl q12 (fun w q12 => (x_load1 rfl rfl SH_57 q12)) ?_
    refine wpD_take (v := (Value.pointer p0)) 7 (fun _ => True) rfl (by kernel_rfl) (by kernel_rfl) (by kernel_rfl) rfl rfl rfl trivial (fun w _ => (x_move (v := (Value.pointer p0)) rfl e0)) ?_
    obtain ⟨a13, q13, h⟩ := h
    refine wpD_take (v := (Value.pointer (some a13))) 8 (fun _ => True) rfl (by kernel_rfl) (by kernel_rfl) (by kernel_rfl) rfl rfl rfl trivial (fun w _ => (x_nilCheck rfl rfl q13)) ?_
    refine wpD_take (v := (Value.pointer (some (a13.add 1)))) 9 (fun _ => True) rfl (by kernel_rfl) (by kernel_rfl) (by kernel_rfl) rfl rfl rfl trivial (fun w _ => (x_fieldAddr rfl rfl FA_63_1)) ?_
    obtain ⟨x14, q14, h⟩ := h
    refine wpD_take (v := (Sl.v x14)) 10 (fun w => w.cell? (a13.add 1) = some (Sl.v x14)) rfl (by kernel_rfl) (by kernel_rfl) (by kernel_rfl) rfl rfl rfl q14 (fun w q14 => (x_load1 rfl rfl SH_61 q14)) ?_
    refine wpD_all (rs := [5]) (by kernel_rfl) (by simp) (allD_cons ?_ allD_nil)
    refine stepD_enterL (L' := [(10, fun w => w.cell? (a13.add 1) = some (Sl.v x14)), (9, fun _ => True), (8, fun _ => True), (7, fun _ => True), (3, fun _ => True), (2, fun _ => True), (1, fun _ => True), (0, fun _ => True)]) rfl rfl rfl rfl (x_call (vs := [(Value.pointer x12)]) rfl rfl (mapl_cons rfl mapl_nil) Try.func36 NN_36 NB_36) (by kernel_rfl) (Calls.mono h ?_)
    rintro _ w2 ⟨r15, rfl, h⟩
    obtain ⟨o10, h⟩ := h
    refine ⟨_, rfl, (held_cons o10 (held_cons trivial (held_cons trivial (held_cons trivial (held_cons trivial (held_cons trivial (held_cons trivial (held_cons trivial held_nil)))))))), ?_⟩
    refine wpD_take (v := (Value.agg #[(Value.pointer r15)])) 6 (fun _ => True) rfl (by kernel_rfl) (by kernel_rfl) (by kernel_rfl) rfl rfl rfl trivial (fun w _ => (x_build (qs := [(0, (Value.pointer r15))]) rfl (by rfl) (BD_60_0 r15 _))) ?_
    refine wpD_all (rs := [11]) (by kernel_rfl) (by simp) (allD_cons ?_ allD_nil)
    refine stepD_enterL (L' := [(6, fun _ => True), (9, fun _ => True), (8, fun _ => True), (7, fun _ => True), (3, fun _ => True), (2, fun _ => True), (1, fun _ => True), (0, fun _ => True)]) rfl rfl rfl rfl (x_call (vs := [(Sl.v x14)]) rfl rfl (mapl_cons rfl mapl_nil) Try.func37 NN_37 NB_37) (by kernel_rfl) (Calls.mono h ?_)
    rintro _ w3 ⟨r16, rfl, h⟩
    refine ⟨_, rfl, (held_cons trivial (held_cons trivial (held_cons trivial (held_cons trivial (held_cons trivial (held_cons trivial (held_cons trivial (held_cons trivial held_nil)))))))), ?_⟩
    refine wpD_take (v := (Value.agg #[(Value.pointer r15), (Sl.v r16)])) 12 (fun _ => True) rfl (by kernel_rfl) (by kernel_rfl) (by kernel_rfl) rfl rfl rfl trivial (fun w _ => (x_build (qs := [(0, (Value.agg #[(Value.pointer r15)])), (1, (Sl.v r16))]) rfl (by rfl) (BD_63_0_1 r15 r16 _))) ?_
    refine wpD_all (rs := [13]) (by kernel_rfl) (by simp) (allD_cons ?_ allD_nil)
    obtain ⟨b17, hb17⟩ : ∃ u, u = w3.heap.size := ⟨_, rfl⟩
    obtain ⟨w4, hw17⟩ : ∃ u, u = w3.alloc (.cells #[(Value.pointer r15), (Sl.v r16)] 63) := ⟨_, rfl⟩
    replace h := h b17 w4 hb17 hw17
    refine stepD_valL (L' := [(6, fun _ => True), (9, fun _ => True), (8, fun _ => True), (7, fun _ => True), (3, fun _ => True), (2, fun _ => True), (1, fun _ => True), (0, fun _ => True)]) (v := (Value.pointer (some (Addr.mk b17 0 none)))) (w' := w4) rfl rfl rfl rfl ((x_box (v := (Value.agg #[(Value.pointer r15), (Sl.v r16)])) rfl rfl).trans (by rw [hb17, hw17]; rfl)) (by kernel_rfl) (held_cons trivial (held_cons trivial (held_cons trivial (held_cons trivial (held_cons trivial (held_cons trivial (held_cons trivial (held_cons trivial held_nil)))))))) ?_
    refine wpD_take (v := (Value.pointer (some (Addr.mk b17 0 none)))) 14 (fun _ => True) rfl (by kernel_rfl) (by kernel_rfl) (by kernel_rfl) rfl rfl rfl trivial (fun w _ => (x_assign (v := (Value.pointer (some (Addr.mk b17 0 none)))) rfl rfl)) ?_
    exact wpD_done (by kernel_rfl) ⟨some (Addr.mk b17 0 none), ⟨rfl, trivial⟩, h⟩
  clear h
  rintro l18 ρ w5 ⟨e2, -⟩ h
  replace h := hk l18 w5 h
  clear hk
  refine wpC_ret ?_
  exact ⟨.inl rfl, fun a ha => ⟨_, results_rep1 rfl ha e2, l18, rfl, h⟩⟩

/-- vault.New -/
def F24  (w0 : World) (K : (Option Addr) → World → Prop) : Prop :=
  nw 81 #[(Sl.v Sl.nil), (Sl.v Sl.nil)] w0 fun b9 w1 =>
  K (some (Addr.mk b9 0 none)) w1
set_option maxRecDepth 100000 in
theorem D24  (w0 : World) (K : (Option Addr) → World → Prop) (h : F24  w0 K) : callC Try.prog 24 #[] (fun (r : (Option Addr)) => (Value.pointer r)) w0 K := by
  unfold F24 at h
  refine calls_of_wpC Try.func24 rfl 3 rfl (by simp) ?_
  intro ρ hρ
  clear hρ
  refine wpC_seq ?_
  refine wpC_region ?_
  refine wpR_val (v := (Value.pointer none)) (w' := w0) rfl rfl rfl (x_assign (v := (Value.pointer none)) rfl rfl) ?_
  refine wpR_nil ?_
  refine wpC_seq ?_
  refine wpC_cut (fun ρ => True) trivial ?_
  rintro ρ -
  refine wpC_region ?_
  refine wpR_val (v := (Value.agg #[(Sl.v Sl.nil), (Sl.v Sl.nil)])) (w' := w0) rfl rfl rfl (x_build (qs := []) rfl (by rfl) (BD_81_  _)) ?_
  obtain ⟨b9, hb9⟩ : ∃ u, u = w0.heap.size := ⟨_, rfl⟩
  obtain ⟨w1, hw9⟩ : ∃ u, u = w0.alloc (.cells #[(Sl.v Sl.nil), (Sl.v Sl.nil)] 81) := ⟨_, rfl⟩
  replace h := h b9 w1 hb9 hw9
  refine wpR_val (v := (Value.pointer (some (Addr.mk b9 0 none)))) (w' := w1) rfl rfl rfl ((x_box (v := (Value.agg #[(Sl.v Sl.nil), (Sl.v Sl.nil)])) rfl rfl).trans (by rw [hb9, hw9]; rfl)) ?_
  refine wpR_val (v := (Value.pointer (some (Addr.mk b9 0 none)))) (w' := w1) rfl rfl rfl (x_assign (v := (Value.pointer (some (Addr.mk b9 0 none)))) rfl rfl) ?_
  refine wpR_nil ?_
  refine wpC_ret ?_
  exact ⟨.inl rfl, fun a ha => ⟨_, results_rep1 rfl ha rfl, some (Addr.mk b9 0 none), rfl, h⟩⟩

/-- share.Split -/
def F25 (p0 : Int) (p1 : Int) (p2 : Int) (p3 : Int) (w0 : World) (K : (Sl × Int) → World → Prop) : Prop :=
  callC Try.prog 32 #[(Value.int .i64 p0)] (fun (r : Bool) => (Value.bool r)) w0 fun r9 w1 =>
  cnd (((((!r9) || (decide (p2 < 1))) || (decide (20 < p2))) || (decide (p1 < 1))) || (decide (p2 < p1)))
    (
    K (Sl.nil, 1) w1
    )
    (
    nw 3 #[(Value.int .i64 p0)] w1 fun b19 w2 =>
    lp (fun (next20 : (Int × Sl × Int) → World → Prop) l20 w3 =>
      cnd (decide (l20.2.2 < (IntKind.i64.wrap (p1 - 1))))
        (
        nw 3 #[(Value.int .i64 (((IntKind.i64.wrap ((IntKind.i64.wrap (1103515245 * l20.1)) + 12345)).tmod 2147483648).tmod 2147483647))] w3 fun b22 w4 =>
        rn Try.prog (Builtin.append_ #[35, 35] 35 #[Sl.v l20.2.1, Sl.v (⟨some ⟨b22, 0, none⟩, 1, 1⟩ : Sl)]) Sl.v w4 fun r23 w5 =>
        next20 ((IntKind.i64.wrap ((IntKind.i64.wrap (1103515245 * l20.1)) + 12345)).tmod 2147483648, r23, IntKind.i64.wrap (l20.2.2 + 1)) w5
        )
        (
        lp (fun (next24 : (Sl × Int) → World → Prop) l24 w6 =>
          cnd (decide (l24.2 ≤ p2))
            (
            lp (fun (next26 : (Int × Int) → World → Prop) l26 w7 =>
              cnd (decide (0 ≤ l26.2))
                (
                ix l20.2.1 l26.2 1 fun p28 =>
                ld (Value.int .i64) p28 w7 fun x29 =>
                next26 ((IntKind.i64.wrap ((IntKind.i64.wrap (l26.1 * l24.2)) + x29)).tmod 2147483647, IntKind.i64.wrap (l26.2 - 1)) w7
                )
                (
                nw 56 #[(Value.int .i64 l24.2), (Value.int .i64 l26.1)] w7 fun b30 w8 =>
                rn Try.prog (Builtin.append_ #[25, 25] 25 #[Sl.v l24.1, Sl.v (⟨some ⟨b30, 0, none⟩, 1, 1⟩ : Sl)]) Sl.v w8 fun r31 w9 =>
                next24 (r31, IntKind.i64.wrap (l24.2 + 1)) w9
                )
            ) (0, IntKind.i64.wrap ((l20.2.1.len : Int) - 1)) w6
            )
            (
            K (l24.1, 0) w6
            )
        ) (Sl.nil, 1) w3
        )
    ) ((IntKind.i64.wrap ((p3.tmod 2147483648) + 2147483648)).tmod 2147483648, (⟨some ⟨b19, 0, none⟩, 1, 1⟩ : Sl), 0) w2
    )
set_option maxRecDepth 100000 in
theorem D25 (p0 : Int) (p1 : Int) (p2 : Int) (p3 : Int) (w0 : World) (K : (Sl × Int) → World → Prop) (h : F25 p0 p1 p2 p3 w0 K) : callC Try.prog 25 #[(Value.int .i64 p0), (Value.int .i64 p1), (Value.int .i64 p2), (Value.int .i64 p3)] (fun (r : Sl × Int) => (Value.tuple #[(Sl.v r.1), (Value.int .i64 r.2)])) w0 K := by
  unfold F25 at h
  refine calls_of_wpC Try.func25 rfl 84 rfl (by simp) ?_
  intro ρ hρ
  have e0 : ρ 0 = (Value.int .i64 p0) := hρ 0
  have e1 : ρ 1 = (Value.int .i64 p1) := hρ 1
  have e2 : ρ 2 = (Value.int .i64 p2) := hρ 2
  have e3 : ρ 3 = (Value.int .i64 p3) := hρ 3
  clear hρ
  refine wpC_seq ?_
  refine wpC_region ?_
  refine wpR_val (v := (Sl.v Sl.nil)) (w' := w0) rfl rfl rfl (x_assign (v := (Sl.v Sl.nil)) rfl rfl) ?_
  refine wpR_val (v := (Value.int .i64 0)) (w' := w0) rfl rfl rfl (x_assign (v := (Value.int .i64 0)) rfl rfl) ?_
  refine wpR_nil ?_
  refine wpC_seq ?_
  refine wpC_seq ?_
  refine wpC_cut (fun ρ => ρ 0 = (Value.int .i64 p0) ∧ ρ 1 = (Value.int .i64 p1) ∧ ρ 2 = (Value.int .i64 p2) ∧ ρ 3 = (Value.int .i64 p3) ∧ True) ⟨e0, e1, e2, e3, trivial⟩ ?_
  rintro ρ ⟨e0, e1, e2, e3, -⟩
  refine wpC_region ?_
  refine wpR_val (v := (Value.int .i64 p0)) (w' := w0) rfl rfl rfl (x_move (v := (Value.int .i64 p0)) rfl e0) ?_
  refine wpR_enter rfl rfl rfl (x_call (vs := [(Value.int .i64 p0)]) rfl rfl (mapl_cons rfl mapl_nil) Try.func32 NN_32 NB_32) (Calls.mono h ?_)
  rintro _ w1 ⟨r9, rfl, h⟩
  refine ⟨_, rfl, ?_⟩
  refine wpR_val (v := (Value.bool (!r9))) (w' := w1) rfl rfl rfl (x_not rfl rfl) ?_
  refine wpR_val (v := (Value.bool (!r9))) (w' := w1) rfl rfl rfl (x_move (v := (Value.bool (!r9))) rfl rfl) ?_
  refine wpR_joinJ 3 (fun (_ : Unit) ρ => ρ 22 = Value.bool ((!r9) || (decide (p2 < 1))) ∧ ρ 0 = (Value.int .i64 p0) ∧ ρ 1 = (Value.int .i64 p1) ∧ ρ 2 = (Value.int .i64 p2) ∧ ρ 3 = (Value.int .i64 p3) ∧ True) (fun _ w => w1 = w) ?_ ?_
  · clear h
    rcases Bool.eq_false_or_eq_true (!r9) with hc11 | hc11
    · skip
      refine wpR_pass (wantN rfl rfl rfl hc11) rfl rfl ?_
      refine wpR_pass (wantN rfl rfl rfl hc11) rfl rfl ?_
      refine wpR_val (v := (Value.bool true)) (w' := w1) rfl rfl rfl (x_pickT (v := (Value.bool true)) rfl rfl hc11 rfl) ?_
      refine wpR_nil ?_
      exact ⟨(), ⟨(by rw [hc11]; rfl), e0, e1, e2, e3, trivial⟩, rfl⟩
    · skip
      refine wpR_val (v := (Value.int .i64 p2)) (w' := w1) (wantG rfl rfl rfl hc11) rfl rfl (x_move (v := (Value.int .i64 p2)) rfl e2) ?_
      refine wpR_val (v := (Value.bool (decide (p2 < 1)))) (w' := w1) (wantG rfl rfl rfl hc11) rfl rfl (x_lss rfl rfl rfl) ?_
      refine wpR_val (v := (Value.bool (decide (p2 < 1)))) (w' := w1) rfl rfl rfl (x_pickF (v := (Value.bool (decide (p2 < 1)))) rfl rfl hc11 rfl) ?_
      refine wpR_nil ?_
      exact ⟨(), ⟨(by rw [hc11]; rfl), e0, e1, e2, e3, trivial⟩, rfl⟩
  rintro _ ρ wj ⟨e22, e0, e1, e2, e3, -⟩ rfl
  refine wpR_val (v := (Value.bool ((!r9) || (decide (p2 < 1))))) (w' := w1) rfl rfl rfl (x_move (v := (Value.bool ((!r9) || (decide (p2 < 1))))) rfl e22) ?_
  refine wpR_joinJ 3 (fun (_ : Unit) ρ => ρ 26 = Value.bool (((!r9) || (decide (p2 < 1))) || (decide (20 < p2))) ∧ ρ 0 = (Value.int .i64 p0) ∧ ρ 1 = (Value.int .i64 p1) ∧ ρ 2 = (Value.int .i64 p2) ∧ ρ 3 = (Value.int .i64 p3) ∧ True) (fun _ w => w1 = w) ?_ ?_
  · clear h
    rcases Bool.eq_false_or_eq_true ((!r9) || (decide (p2 < 1))) with hc13 | hc13
    · skip
      refine wpR_pass (wantN rfl rfl rfl hc13) rfl rfl ?_
      refine wpR_pass (wantN rfl rfl rfl hc13) rfl rfl ?_
      refine wpR_val (v := (Value.bool true)) (w' := w1) rfl rfl rfl (x_pickT (v := (Value.bool true)) rfl rfl hc13 rfl) ?_
      refine wpR_nil ?_
      exact ⟨(), ⟨(by rw [hc13]; rfl), e0, e1, e2, e3, trivial⟩, rfl⟩
    · skip
      refine wpR_val (v := (Value.int .i64 p2)) (w' := w1) (wantG rfl rfl rfl hc13) rfl rfl (x_move (v := (Value.int .i64 p2)) rfl e2) ?_
      refine wpR_val (v := (Value.bool (decide (20 < p2)))) (w' := w1) (wantG rfl rfl rfl hc13) rfl rfl (x_gtr rfl rfl rfl) ?_
      refine wpR_val (v := (Value.bool (decide (20 < p2)))) (w' := w1) rfl rfl rfl (x_pickF (v := (Value.bool (decide (20 < p2)))) rfl rfl hc13 rfl) ?_
      refine wpR_nil ?_
      exact ⟨(), ⟨(by rw [hc13]; rfl), e0, e1, e2, e3, trivial⟩, rfl⟩
  rintro _ ρ wj ⟨e26, e0, e1, e2, e3, -⟩ rfl
  refine wpR_val (v := (Value.bool (((!r9) || (decide (p2 < 1))) || (decide (20 < p2))))) (w' := w1) rfl rfl rfl (x_move (v := (Value.bool (((!r9) || (decide (p2 < 1))) || (decide (20 < p2))))) rfl e26) ?_
  refine wpR_joinJ 3 (fun (_ : Unit) ρ => ρ 30 = Value.bool ((((!r9) || (decide (p2 < 1))) || (decide (20 < p2))) || (decide (p1 < 1))) ∧ ρ 0 = (Value.int .i64 p0) ∧ ρ 1 = (Value.int .i64 p1) ∧ ρ 2 = (Value.int .i64 p2) ∧ ρ 3 = (Value.int .i64 p3) ∧ True) (fun _ w => w1 = w) ?_ ?_
  · clear h
    rcases Bool.eq_false_or_eq_true (((!r9) || (decide (p2 < 1))) || (decide (20 < p2))) with hc15 | hc15
    · skip
      refine wpR_pass (wantN rfl rfl rfl hc15) rfl rfl ?_
      refine wpR_pass (wantN rfl rfl rfl hc15) rfl rfl ?_
      refine wpR_val (v := (Value.bool true)) (w' := w1) rfl rfl rfl (x_pickT (v := (Value.bool true)) rfl rfl hc15 rfl) ?_
      refine wpR_nil ?_
      exact ⟨(), ⟨(by rw [hc15]; rfl), e0, e1, e2, e3, trivial⟩, rfl⟩
    · skip
      refine wpR_val (v := (Value.int .i64 p1)) (w' := w1) (wantG rfl rfl rfl hc15) rfl rfl (x_move (v := (Value.int .i64 p1)) rfl e1) ?_
      refine wpR_val (v := (Value.bool (decide (p1 < 1)))) (w' := w1) (wantG rfl rfl rfl hc15) rfl rfl (x_lss rfl rfl rfl) ?_
      refine wpR_val (v := (Value.bool (decide (p1 < 1)))) (w' := w1) rfl rfl rfl (x_pickF (v := (Value.bool (decide (p1 < 1)))) rfl rfl hc15 rfl) ?_
      refine wpR_nil ?_
      exact ⟨(), ⟨(by rw [hc15]; rfl), e0, e1, e2, e3, trivial⟩, rfl⟩
  rintro _ ρ wj ⟨e30, e0, e1, e2, e3, -⟩ rfl
  refine wpR_val (v := (Value.bool ((((!r9) || (decide (p2 < 1))) || (decide (20 < p2))) || (decide (p1 < 1))))) (w' := w1) rfl rfl rfl (x_move (v := (Value.bool ((((!r9) || (decide (p2 < 1))) || (decide (20 < p2))) || (decide (p1 < 1))))) rfl e30) ?_
  refine wpR_joinJ 4 (fun (_ : Unit) ρ => ρ 35 = Value.bool (((((!r9) || (decide (p2 < 1))) || (decide (20 < p2))) || (decide (p1 < 1))) || (decide (p2 < p1))) ∧ ρ 0 = (Value.int .i64 p0) ∧ ρ 1 = (Value.int .i64 p1) ∧ ρ 2 = (Value.int .i64 p2) ∧ ρ 3 = (Value.int .i64 p3) ∧ True) (fun _ w => w1 = w) ?_ ?_
  · clear h
    rcases Bool.eq_false_or_eq_true ((((!r9) || (decide (p2 < 1))) || (decide (20 < p2))) || (decide (p1 < 1))) with hc17 | hc17
    · skip
      refine wpR_pass (wantN rfl rfl rfl hc17) rfl rfl ?_
      refine wpR_pass (wantN rfl rfl rfl hc17) rfl rfl ?_
      refine wpR_pass (wantN rfl rfl rfl hc17) rfl rfl ?_
      refine wpR_val (v := (Value.bool true)) (w' := w1) rfl rfl rfl (x_pickT (v := (Value.bool true)) rfl rfl hc17 rfl) ?_
      refine wpR_nil ?_
      exact ⟨(), ⟨(by rw [hc17]; rfl), e0, e1, e2, e3, trivial⟩, rfl⟩
    · skip
      refine wpR_val (v := (Value.int .i64 p1)) (w' := w1) (wantG rfl rfl rfl hc17) rfl rfl (x_move (v := (Value.int .i64 p1)) rfl e1) ?_
      refine wpR_val (v := (Value.int .i64 p2)) (w' := w1) (wantG rfl rfl rfl hc17) rfl rfl (x_move (v := (Value.int .i64 p2)) rfl e2) ?_
      refine wpR_val (v := (Value.bool (decide (p2 < p1)))) (w' := w1) (wantG rfl rfl rfl hc17) rfl rfl (x_gtr rfl rfl rfl) ?_
      refine wpR_val (v := (Value.bool (decide (p2 < p1)))) (w' := w1) rfl rfl rfl (x_pickF (v := (Value.bool (decide (p2 < p1)))) rfl rfl hc17 rfl) ?_
      refine wpR_nil ?_
      exact ⟨(), ⟨(by rw [hc17]; rfl), e0, e1, e2, e3, trivial⟩, rfl⟩
  rintro _ ρ wj ⟨e35, e0, e1, e2, e3, -⟩ rfl
  refine wpR_nil ?_
  refine wpC_cond (b := ((((!r9) || (decide (p2 < 1))) || (decide (20 < p2))) || (decide (p1 < 1))) || (decide (p2 < p1))) e35 (fun hc18 => ?_) (fun hc18 => ?_)
  · replace h := h.1 hc18
    refine wpC_seq ?_
    refine wpC_region ?_
    refine wpR_val (v := (Sl.v Sl.nil)) (w' := w1) rfl rfl rfl (x_assign (v := (Sl.v Sl.nil)) rfl rfl) ?_
    refine wpR_val (v := (Value.int .i64 1)) (w' := w1) rfl rfl rfl (x_assign (v := (Value.int .i64 1)) rfl rfl) ?_
    refine wpR_nil ?_
    refine wpC_ret ?_
    exact ⟨.inl rfl, fun a ha => ⟨_, results_rep2 rfl ha rfl rfl, (Sl.nil, 1), rfl, h⟩⟩
  · replace h := h.2 hc18
    refine wpC_skip ?_
    refine wpC_seq ?_
    refine wpC_region ?_
    refine wpR_val (v := (Value.int .i64 p3)) (w' := w1) rfl rfl rfl (x_move (v := (Value.int .i64 p3)) rfl e3) ?_
    refine wpR_val (v := (Value.int .i64 (p3.tmod 2147483648))) (w' := w1) rfl rfl rfl (x_rem rfl rfl rfl (by decide)) ?_
    refine wpR_val (v := (Value.int .i64 (IntKind.i64.wrap ((p3.tmod 2147483648) + 2147483648)))) (w' := w1) rfl rfl rfl (x_add rfl rfl rfl) ?_
    refine wpR_val (v := (Value.int .i64 ((IntKind.i64.wrap ((p3.tmod 2147483648) + 2147483648)).tmod 2147483648))) (w' := w1) rfl rfl rfl (x_rem rfl rfl rfl (by decide)) ?_
    refine wpR_val (v := (Value.int .i64 ((IntKind.i64.wrap ((p3.tmod 2147483648) + 2147483648)).tmod 2147483648))) (w' := w1) rfl rfl rfl (x_assign (v := (Value.int .i64 ((IntKind.i64.wrap ((p3.tmod 2147483648) + 2147483648)).tmod 2147483648))) rfl rfl) ?_
    refine wpR_nil ?_
    refine wpC_seq ?_
    refine wpC_cut (fun ρ => ρ 0 = (Value.int .i64 p0) ∧ ρ 1 = (Value.int .i64 p1) ∧ ρ 2 = (Value.int .i64 p2) ∧ ρ 10 = (Value.int .i64 ((IntKind.i64.wrap ((p3.tmod 2147483648) + 2147483648)).tmod 2147483648)) ∧ True) ⟨e0, e1, e2, rfl, trivial⟩ ?_
    rintro ρ ⟨e0, e1, e2, e10, -⟩
    refine wpC_region ?_
    refine wpR_val (v := (Value.int .i64 p0)) (w' := w1) rfl rfl rfl (x_move (v := (Value.int .i64 p0)) rfl e0) ?_
    obtain ⟨b19, hb19⟩ : ∃ u, u = w1.heap.size := ⟨_, rfl⟩
    obtain ⟨w2, hw19⟩ : ∃ u, u = w1.alloc (.cells #[(Value.int .i64 p0)] 3) := ⟨_, rfl⟩
    replace h := h b19 w2 hb19 hw19
    refine wpR_val (v := (Sl.v (⟨some ⟨b19, 0, none⟩, 1, 1⟩ : Sl))) (w' := w2) rfl rfl rfl ((x_buildSlice (qs := [(0, (Value.int .i64 p0))]) rfl (by rfl) (BS_35_1_0 p0)).trans (by rw [← hb19, ← hw19])) ?_
    refine wpR_val (v := (Sl.v (⟨some ⟨b19, 0, none⟩, 1, 1⟩ : Sl))) (w' := w2) rfl rfl rfl (x_assign (v := (Sl.v (⟨some ⟨b19, 0, none⟩, 1, 1⟩ : Sl))) rfl rfl) ?_
    refine wpR_nil ?_
    refine wpC_seq ?_
    refine wpC_seq ?_
    refine wpC_cut (fun ρ => ρ 1 = (Value.int .i64 p1) ∧ ρ 2 = (Value.int .i64 p2) ∧ ρ 10 = (Value.int .i64 ((IntKind.i64.wrap ((p3.tmod 2147483648) + 2147483648)).tmod 2147483648)) ∧ ρ 11 = (Sl.v (⟨some ⟨b19, 0, none⟩, 1, 1⟩ : Sl)) ∧ True) ⟨e1, e2, e10, rfl, trivial⟩ ?_
    rintro ρ ⟨e1, e2, e10, e11, -⟩
    refine wpC_region ?_
    refine wpR_val (v := (Value.int .i64 p1)) (w' := w2) rfl rfl rfl (x_move (v := (Value.int .i64 p1)) rfl e1) ?_
    refine wpR_val (v := (Value.int .i64 (IntKind.i64.wrap (p1 - 1)))) (w' := w2) rfl rfl rfl (x_sub rfl rfl rfl) ?_
    refine wpR_val (v := (Value.int .i64 0)) (w' := w2) rfl rfl rfl (x_move (v := (Value.int .i64 0)) rfl rfl) ?_
    refine wpR_nil ?_
    refine wpC_block ?_
    obtain ⟨I20, μ20, hI20, hr20⟩ := h
    refine wpC_loop (fun (x : Int × Sl × Int) ρ => ρ 10 = (Value.int .i64 x.1) ∧ ρ 11 = (Sl.v x.2.1) ∧ ρ 44 = (Value.int .i64 x.2.2) ∧ ρ 2 = (Value.int .i64 p2) ∧ ρ 43 = (Value.int .i64 (IntKind.i64.wrap (p1 - 1))) ∧ True) I20 μ20 ((IntKind.i64.wrap ((p3.tmod 2147483648) + 2147483648)).tmod 2147483648, (⟨some ⟨b19, 0, none⟩, 1, 1⟩ : Sl), 0) ⟨e10, e11, rfl, e2, rfl, trivial⟩ hI20 ?_
    rintro l20 ρ w3 ⟨e10, e11, e44, e2, e43, -⟩ h
    replace h := hr20 l20 w3 h
    clear hr20 hI20
    refine wpC_seq ?_
    refine wpC_region ?_
    refine wpR_val (v := (Value.bool (decide (l20.2.2 < (IntKind.i64.wrap (p1 - 1)))))) (w' := w3) rfl rfl rfl (x_lss rfl e44 e43) ?_
    refine wpR_nil ?_
    refine wpC_seq ?_
    refine wpC_cond (b := decide (l20.2.2 < (IntKind.i64.wrap (p1 - 1)))) rfl (fun hc21 => ?_) (fun hc21 => ?_)
    · replace h := h.1 hc21
      refine wpC_skip ?_
      refine wpC_seq ?_
      refine wpC_block ?_
      refine wpC_seq ?_
      refine wpC_cut (fun ρ => ρ 2 = (Value.int .i64 p2) ∧ ρ 10 = (Value.int .i64 l20.1) ∧ ρ 11 = (Sl.v l20.2.1) ∧ ρ 43 = (Value.int .i64 (IntKind.i64.wrap (p1 - 1))) ∧ ρ 44 = (Value.int .i64 l20.2.2) ∧ True) ⟨e2, e10, e11, e43, e44, trivial⟩ ?_
      rintro ρ ⟨e2, e10, e11, e43, e44, -⟩
      refine wpC_region ?_
      refine wpR_val (v := (Value.int .i64 l20.1)) (w' := w3) rfl rfl rfl (x_move (v := (Value.int .i64 l20.1)) rfl e10) ?_
      refine wpR_val (v := (Value.int .i64 (IntKind.i64.wrap (1103515245 * l20.1)))) (w' := w3) rfl rfl rfl (x_mul rfl rfl rfl) ?_
      refine wpR_val (v := (Value.int .i64 (IntKind.i64.wrap ((IntKind.i64.wrap (1103515245 * l20.1)) + 12345)))) (w' := w3) rfl rfl rfl (x_add rfl rfl rfl) ?_
      refine wpR_val (v := (Value.int .i64 ((IntKind.i64.wrap ((IntKind.i64.wrap (1103515245 * l20.1)) + 12345)).tmod 2147483648))) (w' := w3) rfl rfl rfl (x_rem rfl rfl rfl (by decide)) ?_
      refine wpR_val (v := (Value.int .i64 ((IntKind.i64.wrap ((IntKind.i64.wrap (1103515245 * l20.1)) + 12345)).tmod 2147483648))) (w' := w3) rfl rfl rfl (x_assign (v := (Value.int .i64 ((IntKind.i64.wrap ((IntKind.i64.wrap (1103515245 * l20.1)) + 12345)).tmod 2147483648))) rfl rfl) ?_
      refine wpR_nil ?_
      refine wpC_cut (fun ρ => ρ 2 = (Value.int .i64 p2) ∧ ρ 10 = (Value.int .i64 ((IntKind.i64.wrap ((IntKind.i64.wrap (1103515245 * l20.1)) + 12345)).tmod 2147483648)) ∧ ρ 11 = (Sl.v l20.2.1) ∧ ρ 43 = (Value.int .i64 (IntKind.i64.wrap (p1 - 1))) ∧ ρ 44 = (Value.int .i64 l20.2.2) ∧ True) ⟨e2, rfl, e11, e43, e44, trivial⟩ ?_
      rintro ρ ⟨e2, e10, e11, e43, e44, -⟩
      refine wpC_region ?_
      refine wpR_val (v := (Sl.v l20.2.1)) (w' := w3) rfl rfl rfl (x_move (v := (Sl.v l20.2.1)) rfl e11) ?_
      refine wpR_val (v := (Value.int .i64 ((IntKind.i64.wrap ((IntKind.i64.wrap (1103515245 * l20.1)) + 12345)).tmod 2147483648))) (w' := w3) rfl rfl rfl (x_move (v := (Value.int .i64 ((IntKind.i64.wrap ((IntKind.i64.wrap (1103515245 * l20.1)) + 12345)).tmod 2147483648))) rfl e10) ?_
      refine wpR_val (v := (Value.int .i64 (((IntKind.i64.wrap ((IntKind.i64.wrap (1103515245 * l20.1)) + 12345)).tmod 2147483648).tmod 2147483647))) (w' := w3) rfl rfl rfl (x_rem rfl rfl rfl (by decide)) ?_
      obtain ⟨b22, hb22⟩ : ∃ u, u = w3.heap.size := ⟨_, rfl⟩
      obtain ⟨w4, hw22⟩ : ∃ u, u = w3.alloc (.cells #[(Value.int .i64 (((IntKind.i64.wrap ((IntKind.i64.wrap (1103515245 * l20.1)) + 12345)).tmod 2147483648).tmod 2147483647))] 3) := ⟨_, rfl⟩
      replace h := h b22 w4 hb22 hw22
      refine wpR_val (v := (Sl.v (⟨some ⟨b22, 0, none⟩, 1, 1⟩ : Sl))) (w' := w4) rfl rfl rfl ((x_buildSlice (qs := [(0, (Value.int .i64 (((IntKind.i64.wrap ((IntKind.i64.wrap (1103515245 * l20.1)) + 12345)).tmod 2147483648).tmod 2147483647)))]) rfl (by rfl) (BS_35_1_0 (((IntKind.i64.wrap ((IntKind.i64.wrap (1103515245 * l20.1)) + 12345)).tmod 2147483648).tmod 2147483647))).trans (by rw [← hb22, ← hw22])) ?_
      obtain ⟨r23, w5, q23, h⟩ := h
      refine wpR_val (v := (Sl.v r23)) (w' := w5) rfl rfl rfl (x_append (s := l20.2.1) (u := (⟨some ⟨b22, 0, none⟩, 1, 1⟩ : Sl)) rfl rfl rfl rfl q23) ?_
      refine wpR_val (v := (Sl.v r23)) (w' := w5) rfl rfl rfl (x_assign (v := (Sl.v r23)) rfl rfl) ?_
      refine wpR_nil ?_
      refine wpC_cut (fun ρ => ρ 2 = (Value.int .i64 p2) ∧ ρ 10 = (Value.int .i64 ((IntKind.i64.wrap ((IntKind.i64.wrap (1103515245 * l20.1)) + 12345)).tmod 2147483648)) ∧ ρ 11 = (Sl.v r23) ∧ ρ 43 = (Value.int .i64 (IntKind.i64.wrap (p1 - 1))) ∧ ρ 44 = (Value.int .i64 l20.2.2) ∧ True) ⟨e2, e10, rfl, e43, e44, trivial⟩ ?_
      rintro ρ ⟨e2, e10, e11, e43, e44, -⟩
      refine wpC_region ?_
      refine wpR_val (v := (Value.int .i64 (IntKind.i64.wrap (l20.2.2 + 1)))) (w' := w5) rfl rfl rfl (x_add rfl e44 rfl) ?_
      refine wpR_val (v := (Value.int .i64 (IntKind.i64.wrap (l20.2.2 + 1)))) (w' := w5) rfl rfl rfl (x_move (v := (Value.int .i64 (IntKind.i64.wrap (l20.2.2 + 1)))) rfl rfl) ?_
      refine wpR_nil ?_
      exact ⟨((IntKind.i64.wrap ((IntKind.i64.wrap (1103515245 * l20.1)) + 12345)).tmod 2147483648, r23, IntKind.i64.wrap (l20.2.2 + 1)), ⟨e10, e11, rfl, e2, e43, trivial⟩, h⟩
    · replace h := h.2 hc21
      refine wpC_exit ?_
      refine wpC_seq ?_
      refine wpC_cut (fun ρ => ρ 2 = (Value.int .i64 p2) ∧ ρ 11 = (Sl.v l20.2.1) ∧ True) ⟨e2, e11, trivial⟩ ?_
      rintro ρ ⟨e2, e11, -⟩
      refine wpC_region ?_
      refine wpR_val (v := (Sl.v Sl.nil)) (w' := w3) rfl rfl rfl (x_assign (v := (Sl.v Sl.nil)) rfl rfl) ?_
      refine wpR_nil ?_
      refine wpC_seq ?_
      refine wpC_seq ?_
      refine wpC_cut (fun ρ => ρ 2 = (Value.int .i64 p2) ∧ ρ 11 = (Sl.v l20.2.1) ∧ ρ 12 = (Sl.v Sl.nil) ∧ True) ⟨e2, e11, rfl, trivial⟩ ?_
      rintro ρ ⟨e2, e11, e12, -⟩
      refine wpC_region ?_
      refine wpR_val (v := (Value.int .i64 1)) (w' := w3) rfl rfl rfl (x_assign (v := (Value.int .i64 1)) rfl rfl) ?_
      refine wpR_nil ?_
      refine wpC_block ?_
      obtain ⟨I24, μ24, hI24, hr24⟩ := h
      refine wpC_loop (fun (x : Sl × Int) ρ => ρ 12 = (Sl.v x.1) ∧ ρ 13 = (Value.int .i64 x.2) ∧ ρ 2 = (Value.int .i64 p2) ∧ ρ 11 = (Sl.v l20.2.1) ∧ True) I24 μ24 (Sl.nil, 1) ⟨e12, rfl, e2, e11, trivial⟩ hI24 ?_
      rintro l24 ρ w6 ⟨e12, e13, e2, e11, -⟩ h
      replace h := hr24 l24 w6 h
      clear hr24 hI24
      refine wpC_seq ?_
      refine wpC_seq ?_
      refine wpC_region ?_
      refine wpR_val (v := (Value.int .i64 l24.2)) (w' := w6) rfl rfl rfl (x_move (v := (Value.int .i64 l24.2)) rfl e13) ?_
      refine wpR_val (v := (Value.int .i64 p2)) (w' := w6) rfl rfl rfl (x_move (v := (Value.int .i64 p2)) rfl e2) ?_
      refine wpR_val (v := (Value.bool (decide (l24.2 ≤ p2)))) (w' := w6) rfl rfl rfl (x_leq rfl rfl rfl) ?_
      refine wpR_nil ?_
      refine wpC_cond (b := decide (l24.2 ≤ p2)) rfl (fun hc25 => ?_) (fun hc25 => ?_)
      · replace h := h.1 hc25
        refine wpC_skip ?_
        refine wpC_seq ?_
        refine wpC_block ?_
        refine wpC_seq ?_
        refine wpC_cut (fun ρ => ρ 2 = (Value.int .i64 p2) ∧ ρ 11 = (Sl.v l20.2.1) ∧ ρ 12 = (Sl.v l24.1) ∧ ρ 13 = (Value.int .i64 l24.2) ∧ True) ⟨e2, e11, e12, e13, trivial⟩ ?_
        rintro ρ ⟨e2, e11, e12, e13, -⟩
        refine wpC_region ?_
        refine wpR_val (v := (Value.int .i64 0)) (w' := w6) rfl rfl rfl (x_assign (v := (Value.int .i64 0)) rfl rfl) ?_
        refine wpR_nil ?_
        refine wpC_seq ?_
        refine wpC_seq ?_
        refine wpC_cut (fun ρ => ρ 2 = (Value.int .i64 p2) ∧ ρ 11 = (Sl.v l20.2.1) ∧ ρ 12 = (Sl.v l24.1) ∧ ρ 13 = (Value.int .i64 l24.2) ∧ ρ 14 = (Value.int .i64 0) ∧ True) ⟨e2, e11, e12, e13, rfl, trivial⟩ ?_
        rintro ρ ⟨e2, e11, e12, e13, e14, -⟩
        refine wpC_region ?_
        refine wpR_val (v := (Sl.v l20.2.1)) (w' := w6) rfl rfl rfl (x_move (v := (Sl.v l20.2.1)) rfl e11) ?_
        refine wpR_val (v := (Value.int .i64 (l20.2.1.len : Int))) (w' := w6) rfl rfl rfl (x_lenS (s := l20.2.1) rfl rfl isSliceT_35) ?_
        refine wpR_val (v := (Value.int .i64 (IntKind.i64.wrap ((l20.2.1.len : Int) - 1)))) (w' := w6) rfl rfl rfl (x_sub rfl rfl rfl) ?_
        refine wpR_val (v := (Value.int .i64 (IntKind.i64.wrap ((l20.2.1.len : Int) - 1)))) (w' := w6) rfl rfl rfl (x_assign (v := (Value.int .i64 (IntKind.i64.wrap ((l20.2.1.len : Int) - 1)))) rfl rfl) ?_
        refine wpR_nil ?_
        refine wpC_block ?_
        obtain ⟨I26, μ26, hI26, hr26⟩ := h
        refine wpC_loop (fun (x : Int × Int) ρ => ρ 14 = (Value.int .i64 x.1) ∧ ρ 15 = (Value.int .i64 x.2) ∧ ρ 2 = (Value.int .i64 p2) ∧ ρ 11 = (Sl.v l20.2.1) ∧ ρ 12 = (Sl.v l24.1) ∧ ρ 13 = (Value.int .i64 l24.2) ∧ True) I26 μ26 (0, IntKind.i64.wrap ((l20.2.1.len : Int) - 1)) ⟨e14, rfl, e2, e11, e12, e13, trivial⟩ hI26 ?_
        rintro l26 ρ w7 ⟨e14, e15, e2, e11, e12, e13, -⟩ h
        replace h := hr26 l26 w7 h
        clear hr26 hI26
        refine wpC_seq ?_
        refine wpC_seq ?_
        refine wpC_region ?_
        refine wpR_val (v := (Value.int .i64 l26.2)) (w' := w7) rfl rfl rfl (x_move (v := (Value.int .i64 l26.2)) rfl e15) ?_
        refine wpR_val (v := (Value.bool (decide (0 ≤ l26.2)))) (w' := w7) rfl rfl rfl (x_geq rfl rfl rfl) ?_
        refine wpR_nil ?_
        refine wpC_cond (b := decide (0 ≤ l26.2)) rfl (fun hc27 => ?_) (fun hc27 => ?_)
        · replace h := h.1 hc27
          refine wpC_skip ?_
          refine wpC_seq ?_
          refine wpC_block ?_
          refine wpC_cut (fun ρ => ρ 2 = (Value.int .i64 p2) ∧ ρ 11 = (Sl.v l20.2.1) ∧ ρ 12 = (Sl.v l24.1) ∧ ρ 13 = (Value.int .i64 l24.2) ∧ ρ 14 = (Value.int .i64 l26.1) ∧ ρ 15 = (Value.int .i64 l26.2) ∧ True) ⟨e2, e11, e12, e13, e14, e15, trivial⟩ ?_
          rintro ρ ⟨e2, e11, e12, e13, e14, e15, -⟩
          refine wpC_region ?_
          refine wpR_val (v := (Value.int .i64 l26.1)) (w' := w7) rfl rfl rfl (x_move (v := (Value.int .i64 l26.1)) rfl e14) ?_
          refine wpR_val (v := (Value.int .i64 l24.2)) (w' := w7) rfl rfl rfl (x_move (v := (Value.int .i64 l24.2)) rfl e13) ?_
          refine wpR_val (v := (Value.int .i64 (IntKind.i64.wrap (l26.1 * l24.2)))) (w' := w7) rfl rfl rfl (x_mul rfl rfl rfl) ?_
          refine wpR_val (v := (Sl.v l20.2.1)) (w' := w7) rfl rfl rfl (x_move (v := (Sl.v l20.2.1)) rfl e11) ?_
          refine wpR_val (v := (Value.int .i64 l26.2)) (w' := w7) rfl rfl rfl (x_move (v := (Value.int .i64 l26.2)) rfl e15) ?_
          obtain ⟨q28, z28, r28, h⟩ := h
          generalize hp28 : z28.add ((l26.2 : Int).toNat * 1) = p28 at h
          refine wpR_val (v := (Value.pointer (some p28))) (w' := w7) rfl rfl rfl ((x_indexAddr (s := l20.2.1) rfl rfl rfl ES_35 q28 r28).trans (by rw [hp28])) ?_
          obtain ⟨x29, q29, h⟩ := h
          refine wpR_val (v := (Value.int .i64 x29)) (w' := w7) rfl rfl rfl (x_load1 rfl rfl SH_3 q29) ?_
          refine wpR_val (v := (Value.int .i64 (IntKind.i64.wrap ((IntKind.i64.wrap (l26.1 * l24.2)) + x29)))) (w' := w7) rfl rfl rfl (x_add rfl rfl rfl) ?_
          refine wpR_val (v := (Value.int .i64 ((IntKind.i64.wrap ((IntKind.i64.wrap (l26.1 * l24.2)) + x29)).tmod 2147483647))) (w' := w7) rfl rfl rfl (x_rem rfl rfl rfl (by decide)) ?_
          refine wpR_val (v := (Value.int .i64 ((IntKind.i64.wrap ((IntKind.i64.wrap (l26.1 * l24.2)) + x29)).tmod 2147483647))) (w' := w7) rfl rfl rfl (x_assign (v := (Value.int .i64 ((IntKind.i64.wrap ((IntKind.i64.wrap (l26.1 * l24.2)) + x29)).tmod 2147483647))) rfl rfl) ?_
          refine wpR_nil ?_
          refine wpC_cut (fun ρ => ρ 2 = (Value.int .i64 p2) ∧ ρ 11 = (Sl.v l20.2.1) ∧ ρ 12 = (Sl.v l24.1) ∧ ρ 13 = (Value.int .i64 l24.2) ∧ ρ 14 = (Value.int .i64 ((IntKind.i64.wrap ((IntKind.i64.wrap (l26.1 * l24.2)) + x29)).tmod 2147483647)) ∧ ρ 15 = (Value.int .i64 l26.2) ∧ True) ⟨e2, e11, e12, e13, rfl, e15, trivial⟩ ?_
          rintro ρ ⟨e2, e11, e12, e13, e14, e15, -⟩
          refine wpC_region ?_
          refine wpR_val (v := (Value.int .i64 l26.2)) (w' := w7) rfl rfl rfl (x_move (v := (Value.int .i64 l26.2)) rfl e15) ?_
          refine wpR_val (v := (Value.int .i64 (IntKind.i64.wrap (l26.2 - 1)))) (w' := w7) rfl rfl rfl (x_sub rfl rfl rfl) ?_
          refine wpR_val (v := (Value.int .i64 (IntKind.i64.wrap (l26.2 - 1)))) (w' := w7) rfl rfl rfl (x_assign (v := (Value.int .i64 (IntKind.i64.wrap (l26.2 - 1)))) rfl rfl) ?_
          refine wpR_nil ?_
          exact ⟨((IntKind.i64.wrap ((IntKind.i64.wrap (l26.1 * l24.2)) + x29)).tmod 2147483647, IntKind.i64.wrap (l26.2 - 1)), ⟨e14, rfl, e2, e11, e12, e13, trivial⟩, h⟩
        · replace h := h.2 hc27
          refine wpC_exit ?_
          refine wpC_cut (fun ρ => ρ 2 = (Value.int .i64 p2) ∧ ρ 11 = (Sl.v l20.2.1) ∧ ρ 12 = (Sl.v l24.1) ∧ ρ 13 = (Value.int .i64 l24.2) ∧ ρ 14 = (Value.int .i64 l26.1) ∧ True) ⟨e2, e11, e12, e13, e14, trivial⟩ ?_
          rintro ρ ⟨e2, e11, e12, e13, e14, -⟩
          refine wpC_region ?_
          refine wpR_val (v := (Sl.v l24.1)) (w' := w7) rfl rfl rfl (x_move (v := (Sl.v l24.1)) rfl e12) ?_
          refine wpR_val (v := (Value.int .i64 l24.2)) (w' := w7) rfl rfl rfl (x_move (v := (Value.int .i64 l24.2)) rfl e13) ?_
          refine wpR_val (v := (Value.int .i64 l26.1)) (w' := w7) rfl rfl rfl (x_move (v := (Value.int .i64 l26.1)) rfl e14) ?_
          refine wpR_val (v := (Value.agg #[(Value.int .i64 l24.2), (Value.int .i64 l26.1)])) (w' := w7) rfl rfl rfl (x_build (qs := [(0, (Value.int .i64 l24.2)), (1, (Value.int .i64 l26.1))]) rfl (by rfl) (BD_56_0_1 l24.2 l26.1 _)) ?_
          obtain ⟨b30, hb30⟩ : ∃ u, u = w7.heap.size := ⟨_, rfl⟩
          obtain ⟨w8, hw30⟩ : ∃ u, u = w7.alloc (.cells #[(Value.int .i64 l24.2), (Value.int .i64 l26.1)] 56) := ⟨_, rfl⟩
          replace h := h b30 w8 hb30 hw30
          refine wpR_val (v := (Sl.v (⟨some ⟨b30, 0, none⟩, 1, 1⟩ : Sl))) (w' := w8) rfl rfl rfl ((x_buildSlice (qs := [(0, (Value.agg #[(Value.int .i64 l24.2), (Value.int .i64 l26.1)]))]) rfl (by rfl) (BS_25_1_0 l24.2 l26.1)).trans (by rw [← hb30, ← hw30])) ?_
          obtain ⟨r31, w9, q31, h⟩ := h
          refine wpR_val (v := (Sl.v r31)) (w' := w9) rfl rfl rfl (x_append (s := l24.1) (u := (⟨some ⟨b30, 0, none⟩, 1, 1⟩ : Sl)) rfl rfl rfl rfl q31) ?_
          refine wpR_val (v := (Sl.v r31)) (w' := w9) rfl rfl rfl (x_assign (v := (Sl.v r31)) rfl rfl) ?_
          refine wpR_nil ?_
          refine wpC_cut (fun ρ => ρ 2 = (Value.int .i64 p2) ∧ ρ 11 = (Sl.v l20.2.1) ∧ ρ 12 = (Sl.v r31) ∧ ρ 13 = (Value.int .i64 l24.2) ∧ True) ⟨e2, e11, rfl, e13, trivial⟩ ?_
          rintro ρ ⟨e2, e11, e12, e13, -⟩
          refine wpC_region ?_
          refine wpR_val (v := (Value.int .i64 l24.2)) (w' := w9) rfl rfl rfl (x_move (v := (Value.int .i64 l24.2)) rfl e13) ?_
          refine wpR_val (v := (Value.int .i64 (IntKind.i64.wrap (l24.2 + 1)))) (w' := w9) rfl rfl rfl (x_add rfl rfl rfl) ?_
          refine wpR_val (v := (Value.int .i64 (IntKind.i64.wrap (l24.2 + 1)))) (w' := w9) rfl rfl rfl (x_assign (v := (Value.int .i64 (IntKind.i64.wrap (l24.2 + 1)))) rfl rfl) ?_
          refine wpR_nil ?_
          exact ⟨(r31, IntKind.i64.wrap (l24.2 + 1)), ⟨e12, rfl, e2, e11, trivial⟩, h⟩
      · replace h := h.2 hc25
        refine wpC_exit ?_
        refine wpC_seq ?_
        refine wpC_cut (fun ρ => ρ 12 = (Sl.v l24.1) ∧ True) ⟨e12, trivial⟩ ?_
        rintro ρ ⟨e12, -⟩
        refine wpC_region ?_
        refine wpR_val (v := (Sl.v l24.1)) (w' := w6) rfl rfl rfl (x_move (v := (Sl.v l24.1)) rfl e12) ?_
        refine wpR_val (v := (Sl.v l24.1)) (w' := w6) rfl rfl rfl (x_assign (v := (Sl.v l24.1)) rfl rfl) ?_
        refine wpR_val (v := (Value.int .i64 0)) (w' := w6) rfl rfl rfl (x_assign (v := (Value.int .i64 0)) rfl rfl) ?_
        refine wpR_nil ?_
        refine wpC_ret ?_
        exact ⟨.inl rfl, fun a ha => ⟨_, results_rep2 rfl ha rfl rfl, (l24.1, 0), rfl, h⟩⟩

/-- (*vault.Vault).Key -/
def F26 (p0 : Option Addr) (w0 : World) (K : Int → World → Prop) : Prop :=
  nn p0 fun a9 =>
  ld Sl.v (a9.add 0) w0 fun x10 =>
  nw 4 #[(Value.bool true)] w0 fun b11 w1 =>
  rn Try.prog (Builtin.append_ #[78, 78] 78 #[Sl.v x10, Sl.v (⟨some ⟨b11, 0, none⟩, 1, 1⟩ : Sl)]) Sl.v w1 fun r12 w2 =>
  nn p0 fun a13 =>
  st (a13.add 0) [(Sl.v r12)] w2 fun w3 =>
  nn p0 fun a15 =>
  ld Sl.v (a15.add 0) w3 fun x16 =>
  K (IntKind.i64.wrap ((x16.len : Int) - 1)) w3
set_option maxRecDepth 100000 in
theorem D26 (p0 : Option Addr) (w0 : World) (K : Int → World → Prop) (h : F26 p0 w0 K) : callC Try.prog 26 #[(Value.pointer p0)] (fun (r : Int) => (Value.int .i64 r)) w0 K := by
  unfold F26 at h
  refine calls_of_wpC Try.func26 rfl 18 rfl (by simp) ?_
  intro ρ hρ
  have e0 : ρ 0 = (Value.pointer p0) := hρ 0
  clear hρ
  refine wpC_seq ?_
  refine wpC_region ?_
  refine wpR_val (v := (Value.int .i64 0)) (w' := w0) rfl rfl rfl (x_assign (v := (Value.int .i64 0)) rfl rfl) ?_
  refine wpR_nil ?_
  refine wpC_seq ?_
  refine wpC_cut (fun ρ => ρ 0 = (Value.pointer p0) ∧ True) ⟨e0, trivial⟩ ?_
  rintro ρ ⟨e0, -⟩
  refine wpC_region ?_
  refine wpR_val (v := (Value.pointer p0)) (w' := w0) rfl rfl rfl (x_move (v := (Value.pointer p0)) rfl e0) ?_
  refine wpR_val (v := (Value.pointer p0)) (w' := w0) rfl rfl rfl (x_move (v := (Value.pointer p0)) rfl e0) ?_
  obtain ⟨a9, q9, h⟩ := h
  refine wpR_val (v := (Value.pointer (some a9))) (w' := w0) rfl rfl rfl (x_nilCheck rfl rfl q9) ?_
  refine wpR_val (v := (Value.pointer (some (a9.add 0)))) (w' := w0) rfl rfl rfl (x_fieldAddr rfl rfl FA_81_0) ?_
  obtain ⟨x10, q10, h⟩ := h
  refine wpR_val (v := (Sl.v x10)) (w' := w0) rfl rfl rfl (x_load1 rfl rfl SH_78 q10) ?_
  obtain ⟨b11, hb11⟩ : ∃ u, u = w0.heap.size := ⟨_, rfl⟩
  obtain ⟨w1, hw11⟩ : ∃ u, u = w0.alloc (.cells #[(Value.bool true)] 4) := ⟨_, rfl⟩
  replace h := h b11 w1 hb11 hw11
  refine wpR_val (v := (Sl.v (⟨some ⟨b11, 0, none⟩, 1, 1⟩ : Sl))) (w' := w1) rfl rfl rfl ((x_buildSlice (qs := [(0, (Value.bool true))]) rfl (by rfl) (BS_78_1_0 true)).trans (by rw [← hb11, ← hw11])) ?_
  obtain ⟨r12, w2, q12, h⟩ := h
  refine wpR_val (v := (Sl.v r12)) (w' := w2) rfl rfl rfl (x_append (s := x10) (u := (⟨some ⟨b11, 0, none⟩, 1, 1⟩ : Sl)) rfl rfl rfl rfl q12) ?_
  obtain ⟨a13, q13, h⟩ := h
  refine wpR_val (v := (Value.pointer (some a13))) (w' := w2) rfl rfl rfl (x_nilCheck rfl rfl q13) ?_
  refine wpR_val (v := (Value.pointer (some (a13.add 0)))) (w' := w2) rfl rfl rfl (x_fieldAddr rfl rfl FA_81_0) ?_
  obtain ⟨q14, h⟩ := h
  obtain ⟨w3, hw14⟩ : ∃ u, u = setAll w2 (a13.add 0) [(Sl.v r12)] 0 := ⟨_, rfl⟩
  replace h := h w3 hw14
  refine wpR_skp (w' := w3) rfl rfl ((x_store (v := (Sl.v r12)) rfl rfl rfl SZ_78 (ones (by rfl)) q14).trans (by rw [hw14]; rfl)) ?_
  refine wpR_nil ?_
  refine wpC_seq ?_
  refine wpC_cut (fun ρ => ρ 0 = (Value.pointer p0) ∧ True) ⟨e0, trivial⟩ ?_
  rintro ρ ⟨e0, -⟩
  refine wpC_region ?_
  refine wpR_val (v := (Value.pointer p0)) (w' := w3) rfl rfl rfl (x_move (v := (Value.pointer p0)) rfl e0) ?_
  obtain ⟨a15, q15, h⟩ := h
  refine wpR_val (v := (Value.pointer (some a15))) (w' := w3) rfl rfl rfl (x_nilCheck rfl rfl q15) ?_
  refine wpR_val (v := (Value.pointer (some (a15.add 0)))) (w' := w3) rfl rfl rfl (x_fieldAddr rfl rfl FA_81_0) ?_
  obtain ⟨x16, q16, h⟩ := h
  refine wpR_val (v := (Sl.v x16)) (w' := w3) rfl rfl rfl (x_load1 rfl rfl SH_78 q16) ?_
  refine wpR_val (v := (Value.int .i64 (x16.len : Int))) (w' := w3) rfl rfl rfl (x_lenS (s := x16) rfl rfl isSliceT_78) ?_
  refine wpR_val (v := (Value.int .i64 (IntKind.i64.wrap ((x16.len : Int) - 1)))) (w' := w3) rfl rfl rfl (x_sub rfl rfl rfl) ?_
  refine wpR_val (v := (Value.int .i64 (IntKind.i64.wrap ((x16.len : Int) - 1)))) (w' := w3) rfl rfl rfl (x_assign (v := (Value.int .i64 (IntKind.i64.wrap ((x16.len : Int) - 1)))) rfl rfl) ?_
  refine wpR_nil ?_
  refine wpC_ret ?_
  exact ⟨.inl rfl, fun a ha => ⟨_, results_rep1 rfl ha rfl, IntKind.i64.wrap ((x16.len : Int) - 1), rfl, h⟩⟩


end Go.Proofs.Ytmnhehklhelpeaa
