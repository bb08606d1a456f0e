import Derived.Test.YtgbhghoppjfofaaGreatRows
import Derived.Test.YtgbhghoppjfofaaGreatFs1
import Derived.Test.YtgbhghoppjfofaaGreatDecRaw
namespace Go.Proofs.YtgbhghoppjfofaaGreat
open Go.Dec
set_option maxHeartbeats 400000
set_option maxRecDepth 100000

/-- ring.valid$1 -/
def F59 (p0_0 : Int) (p0_1 : Int) (p0_2 : Bool) (c1 : Addr) (w0 : World) (K : Bool → World → Prop) : Prop :=
  nw 56 #[(Value.int .i64 p0_0), (Value.int .i64 p0_1), (Value.bool p0_2)] w0 fun b9 w1 =>
  ld (Value.int .i64) ((Addr.mk b9 0 none).add 0) w1 fun x10 =>
  ld (Value.int .i64) ((Addr.mk b9 0 none).add 1) w1 fun x11 =>
  jp (fun J12 => cnd (decide ((min x10 x11) < 0))
    (
    J12 true
    )
    (
    ld (Value.int .i64) ((Addr.mk b9 0 none).add 0) w1 fun x14 =>
    ld (Value.int .i64) ((Addr.mk b9 0 none).add 1) w1 fun x15 =>
    ld (Value.int .i64) c1 w1 fun x16 =>
    J12 (decide (x16 ≤ (max x14 x15)))
    ))
  fun c17 =>
  K c17 w1
set_option maxRecDepth 100000 in
theorem D59 (p0_0 : Int) (p0_1 : Int) (p0_2 : Bool) (c1 : Addr) (w0 : World) (K : Bool → World → Prop) (h : F59 p0_0 p0_1 p0_2 c1 w0 K) : callC Tryz.prog 59 #[(Value.agg #[(Value.int .i64 p0_0), (Value.int .i64 p0_1), (Value.bool p0_2)]), (Value.pointer (some c1))] (fun (r : Bool) => (Value.bool r)) w0 K := by
  unfold F59 at h
  refine calls_of_wpC Tryz.func59 rfl 19 rfl (by simp) ?_
  intro ρ hρ
  have e0 : ρ 0 = (Value.agg #[(Value.int .i64 p0_0), (Value.int .i64 p0_1), (Value.bool p0_2)]) := hρ 0
  have e1 : ρ 1 = (Value.pointer (some c1)) := hρ 1
  clear hρ
  refine wpC_seq ?_
  refine wpC_region ?_
  obtain ⟨b9, hb9⟩ : ∃ u, u = w0.heap.size := ⟨_, rfl⟩
  obtain ⟨w1, hw9⟩ : ∃ u, u = w0.alloc (.cells #[(Value.int .i64 p0_0), (Value.int .i64 p0_1), (Value.bool p0_2)] 56) := ⟨_, rfl⟩
  replace h := h b9 w1 hb9 hw9
  refine rv (Value.pointer (some (Addr.mk b9 0 none))) w1 rfl rfl rfl ((x_box (v := (Value.agg #[(Value.int .i64 p0_0), (Value.int .i64 p0_1), (Value.bool p0_2)])) rfl e0).trans (by rw [hb9, hw9]; rfl)) ?_
  refine rv (Value.bool false) w1 rfl rfl rfl (x_assign rfl rfl) ?_
  refine wpR_nil ?_
  refine wpC_seq ?_
  refine wpC_cut (fun ρ => ρ 1 = (Value.pointer (some c1)) ∧ ρ 2 = (Value.pointer (some (Addr.mk b9 0 none))) ∧ True) ⟨e1, rfl, trivial⟩ ?_
  rintro ρ ⟨e1, e2, -⟩
  refine wpC_region ?_
  refine rv (Value.pointer (some ((Addr.mk b9 0 none).add 0))) w1 rfl rfl rfl (x_fieldAddr rfl e2 FA_56_0) ?_
  obtain ⟨x10, q10, h⟩ := h
  refine rv (Value.int .i64 x10) w1 rfl rfl rfl (x_load1 rfl rfl SH_3 q10) ?_
  refine rv (Value.pointer (some ((Addr.mk b9 0 none).add 1))) w1 rfl rfl rfl (x_fieldAddr rfl e2 FA_56_1) ?_
  obtain ⟨x11, q11, h⟩ := h
  refine rv (Value.int .i64 x11) w1 rfl rfl rfl (x_load1 rfl rfl SH_3 q11) ?_
  refine rv (Value.int .i64 (min x10 x11)) w1 rfl rfl rfl (x_min rfl rfl rfl) ?_
  refine rv (Value.bool (decide ((min x10 x11) < 0))) w1 rfl rfl rfl (x_lss rfl rfl rfl) ?_
  refine rv (Value.bool (decide ((min x10 x11) < 0))) w1 rfl rfl rfl (x_move rfl rfl) ?_
  obtain ⟨J12, h, hk⟩ := h
  refine wpR_joinJ 8 (fun x ρ => ρ 18 = Value.bool x ∧ True) (fun x w => J12 x ∧ w1 = w) ?_ ?_
  · clear hk
    rcases Bool.eq_false_or_eq_true (decide ((min x10 x11) < 0)) with hc13 | hc13
    · replace h := h.1 hc13
      refine wpR_pass (wantN rfl rfl rfl hc13) rfl rfl ?_
      refine wpR_pass (wantN rfl rfl rfl hc13) rfl rfl ?_
      refine wpR_pass (wantN rfl rfl rfl hc13) rfl rfl ?_
      refine wpR_pass (wantN rfl rfl rfl hc13) rfl rfl ?_
      refine wpR_pass (wantN rfl rfl rfl hc13) rfl rfl ?_
      refine wpR_pass (wantN rfl rfl rfl hc13) rfl rfl ?_
      refine wpR_pass (wantN rfl rfl rfl hc13) rfl rfl ?_
      refine rv (Value.bool true) w1 rfl rfl rfl (x_pickT (v := (Value.bool true)) rfl rfl hc13 rfl) ?_
      refine wpR_nil ?_
      exact ⟨true, ⟨rfl, trivial⟩, h, rfl⟩
    · replace h := h.2 hc13
      refine wpR_val (v := (Value.pointer (some ((Addr.mk b9 0 none).add 0)))) (w' := w1) (wantG rfl rfl rfl hc13) rfl rfl (x_fieldAddr rfl e2 FA_56_0) ?_
      obtain ⟨x14, q14, h⟩ := h
      refine wpR_val (v := (Value.int .i64 x14)) (w' := w1) (wantG rfl rfl rfl hc13) rfl rfl (x_load1 rfl rfl SH_3 q14) ?_
      refine wpR_val (v := (Value.pointer (some ((Addr.mk b9 0 none).add 1)))) (w' := w1) (wantG rfl rfl rfl hc13) rfl rfl (x_fieldAddr rfl e2 FA_56_1) ?_
      obtain ⟨x15, q15, h⟩ := h
      refine wpR_val (v := (Value.int .i64 x15)) (w' := w1) (wantG rfl rfl rfl hc13) rfl rfl (x_load1 rfl rfl SH_3 q15) ?_
      refine wpR_val (v := (Value.int .i64 (max x14 x15))) (w' := w1) (wantG rfl rfl rfl hc13) rfl rfl (x_max rfl rfl rfl) ?_
      obtain ⟨x16, q16, h⟩ := h
      refine wpR_val (v := (Value.int .i64 x16)) (w' := w1) (wantG rfl rfl rfl hc13) rfl rfl (x_load1 rfl e1 SH_3 q16) ?_
      refine wpR_val (v := (Value.bool (decide (x16 ≤ (max x14 x15))))) (w' := w1) (wantG rfl rfl rfl hc13) rfl rfl (x_geq rfl rfl rfl) ?_
      refine rv (Value.bool (decide (x16 ≤ (max x14 x15)))) w1 rfl rfl rfl (x_pickF (v := (Value.bool (decide (x16 ≤ (max x14 x15))))) rfl rfl hc13 rfl) ?_
      refine wpR_nil ?_
      exact ⟨decide (x16 ≤ (max x14 x15)), ⟨rfl, trivial⟩, h, rfl⟩
  clear h
  rintro c17 ρ wj ⟨e18, -⟩ ⟨h, rfl⟩
  replace h := hk c17 h
  clear hk
  refine rv (Value.bool c17) w1 rfl rfl rfl (x_assign rfl e18) ?_
  refine wpR_nil ?_
  refine wpC_ret ?_
  exact ⟨.inl rfl, fun a ha => ⟨_, results_rep1 rfl ha rfl, c17, rfl, h⟩⟩

/-- slices.Reverse[[]int,int] -/
def F60 (p0 : Sl) (w0 : World) (K : Unit → World → Prop) : Prop :=
  lp (fun (next9 : (Int × Int) → World → Prop) l9 w1 =>
    cnd (decide (l9.1 < l9.2))
      (
      jn (fun (J12 : Unit → World → Prop) => tk w1 fun w2 =>
        ix p0 l9.2 1 fun p13 =>
        ld (Value.int .i64) p13 w2 fun x14 =>
        ix p0 l9.1 1 fun p15 =>
        ld (Value.int .i64) p15 w2 fun x16 =>
        ix p0 l9.1 1 fun p17 =>
        st p17 [(Value.int .i64 x14)] w2 fun w3 =>
        ix p0 l9.2 1 fun p19 =>
        st p19 [(Value.int .i64 x16)] w3 fun w4 =>
        J12 () w4
      )
      fun _l21 w5 =>
      next9 (IntKind.i64.wrap (l9.1 + 1), IntKind.i64.wrap (l9.2 - 1)) w5
      )
      (
      K () w1
      )
  ) (0, IntKind.i64.wrap ((p0.len : Int) - 1)) w0
set_option maxRecDepth 100000 in
theorem D60 (p0 : Sl) (w0 : World) (K : Unit → World → Prop) (h : F60 p0 w0 K) : callC Tryz.prog 60 #[(Sl.v p0)] (fun (_ : Unit) => (Value.tuple #[])) w0 K := by
  unfold F60 at h
  refine calls_of_wpC Tryz.func60 rfl 28 rfl (by simp) ?_
  intro ρ hρ
  have e0 : ρ 0 = (Sl.v p0) := hρ 0
  clear hρ
  refine wpC_seq ?_
  refine wpC_region ?_
  refine rv (Sl.v p0) w0 rfl rfl rfl (x_move rfl e0) ?_
  refine rv (Value.int .i64 (p0.len : Int)) w0 rfl rfl rfl (x_lenS (s := p0) rfl rfl isSliceT_39) ?_
  refine rv (Value.int .i64 (IntKind.i64.wrap ((p0.len : Int) - 1))) w0 rfl rfl rfl (x_sub rfl rfl rfl) ?_
  refine rv (Value.int .i64 0) w0 rfl rfl rfl (x_assign rfl rfl) ?_
  refine rv (Value.int .i64 (IntKind.i64.wrap ((p0.len : Int) - 1))) w0 rfl rfl rfl (x_assign rfl rfl) ?_
  refine wpR_nil ?_
  refine wpC_block ?_
  obtain ⟨I9, μ9, hI9, hr9⟩ := h
  refine wpC_loop (fun (x : Int × Int) ρ => ρ 2 = (Value.int .i64 x.1) ∧ ρ 3 = (Value.int .i64 x.2) ∧ ρ 0 = (Sl.v p0) ∧ True) I9 μ9 (0, IntKind.i64.wrap ((p0.len : Int) - 1)) ⟨rfl, rfl, e0, trivial⟩ hI9 ?_
  rintro l9 ρ w1 ⟨e2, e3, e0, -⟩ h
  replace h := hr9 l9 w1 h
  clear hr9 hI9
  refine wpC_seq ?_
  refine wpC_seq ?_
  refine wpC_region ?_
  refine rv (Value.int .i64 l9.1) w1 rfl rfl rfl (x_move rfl e2) ?_
  refine rv (Value.int .i64 l9.2) w1 rfl rfl rfl (x_move rfl e3) ?_
  refine rv (Value.bool (decide (l9.1 < l9.2))) w1 rfl rfl rfl (x_lss rfl rfl rfl) ?_
  refine wpR_nil ?_
  refine wpC_cond (b := decide (l9.1 < l9.2)) rfl (fun hc10 => ?_) (fun hc10 => ?_)
  · replace h := h.1 hc10
    refine wpC_skip ?_
    refine wpC_seq ?_
    refine wpC_block ?_
    refine wpC_cut (fun ρ => ρ 0 = (Sl.v p0) ∧ ρ 2 = (Value.int .i64 l9.1) ∧ ρ 3 = (Value.int .i64 l9.2) ∧ True) ⟨e0, e2, e3, trivial⟩ ?_
    rintro ρ ⟨e0, e2, e3, -⟩
    obtain ⟨J12, h, hk⟩ := h
    refine wpC_drawJ (by kernel_rfl) (fun (x : Unit) ρ => ρ 0 = (Sl.v p0) ∧ ρ 2 = (Value.int .i64 l9.1) ∧ ρ 3 = (Value.int .i64 l9.2) ∧ True) J12 ?_ ?_
    · clear hk
      unfold tk at h
      generalize w1.drew = w2 at h ⊢
      refine wpD_take (v := (Sl.v p0)) 0 (fun _ => True) rfl (by kernel_rfl) (by kernel_rfl) (by kernel_rfl) rfl rfl rfl trivial (fun w _ => (x_move (v := (Sl.v p0)) rfl e0)) ?_
      refine wpD_take (v := (Value.int .i64 l9.1)) 1 (fun _ => True) rfl (by kernel_rfl) (by kernel_rfl) (by kernel_rfl) rfl rfl rfl trivial (fun w _ => (x_move (v := (Value.int .i64 l9.1)) rfl e2)) ?_
      refine wpD_take (v := (Sl.v p0)) 2 (fun _ => True) rfl (by kernel_rfl) (by kernel_rfl) (by kernel_rfl) rfl rfl rfl trivial (fun w _ => (x_move (v := (Sl.v p0)) rfl e0)) ?_
      refine wpD_take (v := (Value.int .i64 l9.2)) 3 (fun _ => True) rfl (by kernel_rfl) (by kernel_rfl) (by kernel_rfl) rfl rfl rfl trivial (fun w _ => (x_move (v := (Value.int .i64 l9.2)) rfl e3)) ?_
      refine wpD_take (v := (Sl.v p0)) 4 (fun _ => True) rfl (by kernel_rfl) (by kernel_rfl) (by kernel_rfl) rfl rfl rfl trivial (fun w _ => (x_move (v := (Sl.v p0)) rfl e0)) ?_
      refine wpD_take (v := (Value.int .i64 l9.2)) 5 (fun _ => True) rfl (by kernel_rfl) (by kernel_rfl) (by kernel_rfl) rfl rfl rfl trivial (fun w _ => (x_move (v := (Value.int .i64 l9.2)) rfl e3)) ?_
      obtain ⟨q13, z13, r13, h⟩ := h
      generalize hp13 : z13.add ((l9.2 : Int).toNat * 1) = p13 at h
      refine wpD_take (v := (Value.pointer (some p13))) 6 (fun _ => True) rfl (by kernel_rfl) (by kernel_rfl) (by kernel_rfl) rfl rfl rfl trivial (fun w _ => ((x_indexAddr (s := p0) rfl rfl rfl ES_39 q13 r13).trans (by rw [hp13]))) ?_
      obtain ⟨x14, q14, h⟩ := h
      refine wpD_take (v := (Value.int .i64 x14)) 7 (fun w => w.cell? p13 = some (Value.int .i64 x14)) rfl (by kernel_rfl) (by kernel_rfl) (by kernel_rfl) rfl rfl rfl q14 (fun w q14 => (x_load1 rfl rfl SH_3 q14)) ?_
      refine wpD_take (v := (Sl.v p0)) 8 (fun _ => True) rfl (by kernel_rfl) (by kernel_rfl) (by kernel_rfl) rfl rfl rfl trivial (fun w _ => (x_move (v := (Sl.v p0)) rfl e0)) ?_
      refine wpD_take (v := (Value.int .i64 l9.1)) 9 (fun _ => True) rfl (by kernel_rfl) (by kernel_rfl) (by kernel_rfl) rfl rfl rfl trivial (fun w _ => (x_move (v := (Value.int .i64 l9.1)) rfl e2)) ?_
      obtain ⟨q15, z15, r15, h⟩ := h
      generalize hp15 : z15.add ((l9.1 : Int).toNat * 1) = p15 at h
      refine wpD_take (v := (Value.pointer (some p15))) 10 (fun _ => True) rfl (by kernel_rfl) (by kernel_rfl) (by kernel_rfl) rfl rfl rfl trivial (fun w _ => ((x_indexAddr (s := p0) rfl rfl rfl ES_39 q15 r15).trans (by rw [hp15]))) ?_
      obtain ⟨x16, q16, h⟩ := h
      refine wpD_take (v := (Value.int .i64 x16)) 11 (fun w => w.cell? p15 = some (Value.int .i64 x16)) rfl (by kernel_rfl) (by kernel_rfl) (by kernel_rfl) rfl rfl rfl q16 (fun w q16 => (x_load1 rfl rfl SH_3 q16)) ?_
      obtain ⟨q17, z17, r17, h⟩ := h
      generalize hp17 : z17.add ((l9.1 : Int).toNat * 1) = p17 at h
      refine wpD_take (v := (Value.pointer (some p17))) 12 (fun _ => True) rfl (by kernel_rfl) (by kernel_rfl) (by kernel_rfl) rfl rfl rfl trivial (fun w _ => ((x_indexAddr (s := p0) rfl rfl rfl ES_39 q17 r17).trans (by rw [hp17]))) ?_
      refine wpD_all (rs := [13]) (by kernel_rfl) (by simp) (allD_cons ?_ allD_nil)
      obtain ⟨q18, h⟩ := h
      obtain ⟨w3, hw18⟩ : ∃ u, u = setAll w2 p17 [(Value.int .i64 x14)] 0 := ⟨_, rfl⟩
      replace h := h w3 hw18
      refine stepD_skpL (L' := [(10, fun _ => True), (9, fun _ => True), (8, fun _ => True), (3, fun _ => True), (2, fun _ => True)]) (w' := w3) rfl rfl rfl ((x_store (v := (Value.int .i64 x14)) rfl rfl rfl SZ_3 (ones (by rfl)) q18).trans (by rw [hw18]; rfl)) (by kernel_rfl) (held_cons trivial (held_cons trivial (held_cons trivial (held_cons trivial (held_cons trivial held_nil))))) ?_
      obtain ⟨q19, z19, r19, h⟩ := h
      generalize hp19 : z19.add ((l9.2 : Int).toNat * 1) = p19 at h
      refine wpD_take (v := (Value.pointer (some p19))) 14 (fun _ => True) rfl (by kernel_rfl) (by kernel_rfl) (by kernel_rfl) rfl rfl rfl trivial (fun w _ => ((x_indexAddr (s := p0) rfl rfl rfl ES_39 q19 r19).trans (by rw [hp19]))) ?_
      refine wpD_all (rs := [15]) (by kernel_rfl) (by simp) (allD_cons ?_ allD_nil)
      obtain ⟨q20, h⟩ := h
      obtain ⟨w4, hw20⟩ : ∃ u, u = setAll w3 p19 [(Value.int .i64 x16)] 0 := ⟨_, rfl⟩
      replace h := h w4 hw20
      refine stepD_skpL (L' := []) (w' := w4) rfl rfl rfl ((x_store (v := (Value.int .i64 x16)) rfl rfl rfl SZ_3 (ones (by rfl)) q20).trans (by rw [hw20]; rfl)) (by kernel_rfl) held_nil ?_
      exact wpD_done (by kernel_rfl) ⟨(), ⟨e0, e2, e3, trivial⟩, h⟩
    clear h
    rintro l21 ρ w5 ⟨e0, e2, e3, -⟩ h
    replace h := hk l21 w5 h
    clear hk
    refine wpC_region ?_
    refine rv (Value.int .i64 l9.1) w5 rfl rfl rfl (x_move rfl e2) ?_
    refine rv (Value.int .i64 (IntKind.i64.wrap (l9.1 + 1))) w5 rfl rfl rfl (x_add rfl rfl rfl) ?_
    refine rv (Value.int .i64 l9.2) w5 rfl rfl rfl (x_move rfl e3) ?_
    refine rv (Value.int .i64 (IntKind.i64.wrap (l9.2 - 1))) w5 rfl rfl rfl (x_sub rfl rfl rfl) ?_
    refine rv (Value.int .i64 (IntKind.i64.wrap (l9.1 + 1))) w5 rfl rfl rfl (x_assign rfl rfl) ?_
    refine rv (Value.int .i64 (IntKind.i64.wrap (l9.2 - 1))) w5 rfl rfl rfl (x_assign rfl rfl) ?_
    refine wpR_nil ?_
    exact ⟨(IntKind.i64.wrap (l9.1 + 1), IntKind.i64.wrap (l9.2 - 1)), ⟨rfl, rfl, e0, trivial⟩, h⟩
  · replace h := h.2 hc10
    refine wpC_exit ?_
    exact ⟨.inr rfl, fun a ha => ⟨_, results_rep0 rfl ha , (), rfl, h⟩⟩

/-- echo.may -/
def F61 (p0_0 : Int) (p0_1 : Int) (p0_2 : Int) (p0_3 : Int) (p0_4 : Int) (p1_0 : Int) (p1_1 : Int) (p1_2 : Int) (p1_3 : Int) (p1_4 : Int) (p2 : Int) (w0 : World) (K : Bool → World → Prop) : Prop :=
  nw 52 #[(Value.int .i64 p0_0), (Value.int .i64 p0_1), (Value.int .i64 p0_2), (Value.int .i64 p0_3), (Value.int .i64 p0_4)] w0 fun b9 w1 =>
  nw 52 #[(Value.int .i64 p1_0), (Value.int .i64 p1_1), (Value.int .i64 p1_2), (Value.int .i64 p1_3), (Value.int .i64 p1_4)] w1 fun b10 w2 =>
  jn (fun (J12 : Bool → World → Prop) => tk w2 fun w3 =>
    cnd (decide (p2 < 0))
      (
      J12 true w3
      )
      (
      ld (Value.int .i64) ((Addr.mk b9 0 none).add 0) w3 fun x14 =>
      ld (Value.int .i64) ((Addr.mk b9 0 none).add 1) w3 fun x15 =>
      ld (Value.int .i64) ((Addr.mk b9 0 none).add 2) w3 fun x16 =>
      ld (Value.int .i64) ((Addr.mk b9 0 none).add 3) w3 fun x17 =>
      ld (Value.int .i64) ((Addr.mk b9 0 none).add 4) w3 fun x18 =>
      ld (Value.int .i64) ((Addr.mk b10 0 none).add 0) w3 fun x19 =>
      ld (Value.int .i64) ((Addr.mk b10 0 none).add 1) w3 fun x20 =>
      ld (Value.int .i64) ((Addr.mk b10 0 none).add 2) w3 fun x21 =>
      ld (Value.int .i64) ((Addr.mk b10 0 none).add 3) w3 fun x22 =>
      ld (Value.int .i64) ((Addr.mk b10 0 none).add 4) w3 fun x23 =>
      callC Tryz.prog 80 #[(Value.agg #[(Value.int .i64 x14), (Value.int .i64 x15), (Value.int .i64 x16), (Value.int .i64 x17), (Value.int .i64 x18)]), (Value.agg #[(Value.int .i64 x19), (Value.int .i64 x20), (Value.int .i64 x21), (Value.int .i64 x22), (Value.int .i64 x23)])] (fun (r : Int) => (Value.int .i64 r)) w3 fun r24 w4 =>
      cnd (decide (r24 < 3))
        (
        J12 true w4
        )
        (
        ld (Value.int .i64) ((Addr.mk b9 0 none).add 0) w4 fun x26 =>
        ld (Value.int .i64) ((Addr.mk b10 0 none).add 0) w4 fun x27 =>
        callC Tryz.prog 18 #[(Value.int .i64 x26)] (fun (r : Int) => (Value.int .i64 r)) w4 fun r28 w5 =>
        (w5.cell? ((Addr.mk b10 0 none).add 0) = some (Value.int .i64 x27)) ∧
        callC Tryz.prog 18 #[(Value.int .i64 x27)] (fun (r : Int) => (Value.int .i64 r)) w5 fun r29 w6 =>
        cnd (decide (r28 = r29))
          (
          J12 true w6
          )
          (
          ld (Value.int .i64) ((Addr.mk b9 0 none).add 2) w6 fun x31 =>
          ld (Value.int .i64) ((Addr.mk b10 0 none).add 2) w6 fun x32 =>
          J12 (decide (x32 < x31)) w6
          )
        )
      )
  )
  fun l33 w7 =>
  cnd (l33)
    (
    K false w7
    )
    (
    ld (Value.int .i64) ((Addr.mk b10 0 none).add 2) w7 fun x35 =>
    ld (Value.int .i64) ((Addr.mk b9 0 none).add 2) w7 fun x36 =>
    K (decide ((IntKind.u64.wrap ((IntKind.u64.wrap x35) - (IntKind.u64.wrap x36))) ≤ (IntKind.u64.wrap p2))) w7
    )
set_option maxRecDepth 100000 in
theorem D61 (p0_0 : Int) (p0_1 : Int) (p0_2 : Int) (p0_3 : Int) (p0_4 : Int) (p1_0 : Int) (p1_1 : Int) (p1_2 : Int) (p1_3 : Int) (p1_4 : Int) (p2 : Int) (w0 : World) (K : Bool → World → Prop) (h : F61 p0_0 p0_1 p0_2 p0_3 p0_4 p1_0 p1_1 p1_2 p1_3 p1_4 p2 w0 K) : callC Tryz.prog 61 #[(Value.agg #[(Value.int .i64 p0_0), (Value.int .i64 p0_1), (Value.int .i64 p0_2), (Value.int .i64 p0_3), (Value.int .i64 p0_4)]), (Value.agg #[(Value.int .i64 p1_0), (Value.int .i64 p1_1), (Value.int .i64 p1_2), (Value.int .i64 p1_3), (Value.int .i64 p1_4)]), (Value.int .i64 p2)] (fun (r : Bool) => (Value.bool r)) w0 K := by
  unfold F61 at h
  refine calls_of_wpC Tryz.func61 rfl 41 rfl (by simp) ?_
  intro ρ hρ
  have e0 : ρ 0 = (Value.agg #[(Value.int .i64 p0_0), (Value.int .i64 p0_1), (Value.int .i64 p0_2), (Value.int .i64 p0_3), (Value.int .i64 p0_4)]) := hρ 0
  have e1 : ρ 1 = (Value.agg #[(Value.int .i64 p1_0), (Value.int .i64 p1_1), (Value.int .i64 p1_2), (Value.int .i64 p1_3), (Value.int .i64 p1_4)]) := hρ 1
  have e2 : ρ 2 = (Value.int .i64 p2) := hρ 2
  clear hρ
  refine wpC_seq ?_
  refine wpC_region ?_
  obtain ⟨b9, hb9⟩ : ∃ u, u = w0.heap.size := ⟨_, rfl⟩
  obtain ⟨w1, hw9⟩ : ∃ u, u = w0.alloc (.cells #[(Value.int .i64 p0_0), (Value.int .i64 p0_1), (Value.int .i64 p0_2), (Value.int .i64 p0_3), (Value.int .i64 p0_4)] 52) := ⟨_, rfl⟩
  replace h := h b9 w1 hb9 hw9
  refine rv (Value.pointer (some (Addr.mk b9 0 none))) w1 rfl rfl rfl ((x_box (v := (Value.agg #[(Value.int .i64 p0_0), (Value.int .i64 p0_1), (Value.int .i64 p0_2), (Value.int .i64 p0_3), (Value.int .i64 p0_4)])) rfl e0).trans (by rw [hb9, hw9]; rfl)) ?_
  obtain ⟨b10, hb10⟩ : ∃ u, u = w1.heap.size := ⟨_, rfl⟩
  obtain ⟨w2, hw10⟩ : ∃ u, u = w1.alloc (.cells #[(Value.int .i64 p1_0), (Value.int .i64 p1_1), (Value.int .i64 p1_2), (Value.int .i64 p1_3), (Value.int .i64 p1_4)] 52) := ⟨_, rfl⟩
  replace h := h b10 w2 hb10 hw10
  refine rv (Value.pointer (some (Addr.mk b10 0 none))) w2 rfl rfl rfl ((x_box (v := (Value.agg #[(Value.int .i64 p1_0), (Value.int .i64 p1_1), (Value.int .i64 p1_2), (Value.int .i64 p1_3), (Value.int .i64 p1_4)])) rfl e1).trans (by rw [hb10, hw10]; rfl)) ?_
  refine rv (Value.bool false) w2 rfl rfl rfl (x_assign rfl rfl) ?_
  refine wpR_nil ?_
  refine wpC_seq ?_
  refine wpC_seq ?_
  refine wpC_cut (fun ρ => ρ 2 = (Value.int .i64 p2) ∧ ρ 3 = (Value.pointer (some (Addr.mk b9 0 none))) ∧ ρ 4 = (Value.pointer (some (Addr.mk b10 0 none))) ∧ True) ⟨e2, rfl, rfl, trivial⟩ ?_
  rintro ρ ⟨e2, e3, e4, -⟩
  obtain ⟨J12, h, hk⟩ := h
  refine wpC_drawJ (by kernel_rfl) (fun (x : Bool) ρ => ρ 30 = (Value.bool x) ∧ ρ 2 = (Value.int .i64 p2) ∧ ρ 3 = (Value.pointer (some (Addr.mk b9 0 none))) ∧ ρ 4 = (Value.pointer (some (Addr.mk b10 0 none))) ∧ True) J12 ?_ ?_
  · clear hk
    unfold tk at h
    generalize w2.drew = w3 at h ⊢
    refine wpD_take (v := (Value.int .i64 p2)) 0 (fun _ => True) rfl (by kernel_rfl) (by kernel_rfl) (by kernel_rfl) rfl rfl rfl trivial (fun w _ => (x_move (v := (Value.int .i64 p2)) rfl e2)) ?_
    refine wpD_take (v := (Value.bool (decide (p2 < 0)))) 1 (fun _ => True) rfl (by kernel_rfl) (by kernel_rfl) (by kernel_rfl) rfl rfl rfl trivial (fun w _ => (x_lss rfl rfl rfl)) ?_
    refine wpD_take (v := (Value.bool (decide (p2 < 0)))) 2 (fun _ => True) rfl (by kernel_rfl) (by kernel_rfl) (by kernel_rfl) rfl rfl rfl trivial (fun w _ => (x_move (v := (Value.bool (decide (p2 < 0)))) rfl rfl)) ?_
    rcases Bool.eq_false_or_eq_true (decide (p2 < 0)) with hc13 | hc13
    · replace h := h.1 hc13
      refine wpD_pass 3 rfl (by kernel_rfl) (by kernel_rfl) (by kernel_rfl) (wantN rfl rfl rfl hc13) rfl rfl ?_
      refine wpD_pass 4 rfl (by kernel_rfl) (by kernel_rfl) (by kernel_rfl) (wantN rfl rfl rfl hc13) rfl rfl ?_
      refine wpD_pass 5 rfl (by kernel_rfl) (by kernel_rfl) (by kernel_rfl) (wantN rfl rfl rfl hc13) rfl rfl ?_
      refine wpD_pass 6 rfl (by kernel_rfl) (by kernel_rfl) (by kernel_rfl) (wantN rfl rfl rfl hc13) rfl rfl ?_
      refine wpD_take (v := (Value.bool true)) 7 (fun _ => True) rfl (by kernel_rfl) (by kernel_rfl) (by kernel_rfl) rfl rfl rfl trivial (fun w _ => (x_pickT (v := (Value.bool true)) rfl rfl hc13 rfl)) ?_
      refine wpD_take (v := (Value.bool true)) 8 (fun _ => True) rfl (by kernel_rfl) (by kernel_rfl) (by kernel_rfl) rfl rfl rfl trivial (fun w _ => (x_move (v := (Value.bool true)) rfl rfl)) ?_
      refine wpD_pass 9 rfl (by kernel_rfl) (by kernel_rfl) (by kernel_rfl) (wantN rfl rfl rfl rfl) rfl rfl ?_
      refine wpD_pass 10 rfl (by kernel_rfl) (by kernel_rfl) (by kernel_rfl) (wantN rfl rfl rfl rfl) rfl rfl ?_
      refine wpD_pass 11 rfl (by kernel_rfl) (by kernel_rfl) (by kernel_rfl) (wantN rfl rfl rfl rfl) rfl rfl ?_
      refine wpD_pass 12 rfl (by kernel_rfl) (by kernel_rfl) (by kernel_rfl) (wantN rfl rfl rfl rfl) rfl rfl ?_
      refine wpD_pass 13 rfl (by kernel_rfl) (by kernel_rfl) (by kernel_rfl) (wantN rfl rfl rfl rfl) rfl rfl ?_
      refine wpD_pass 14 rfl (by kernel_rfl) (by kernel_rfl) (by kernel_rfl) (wantN rfl rfl rfl rfl) rfl rfl ?_
      refine wpD_pass 15 rfl (by kernel_rfl) (by kernel_rfl) (by kernel_rfl) (wantN rfl rfl rfl rfl) rfl rfl ?_
      refine wpD_take (v := (Value.bool true)) 16 (fun _ => True) rfl (by kernel_rfl) (by kernel_rfl) (by kernel_rfl) rfl rfl rfl trivial (fun w _ => (x_pickT (v := (Value.bool true)) rfl rfl rfl rfl)) ?_
      refine wpD_take (v := (Value.bool true)) 17 (fun _ => True) rfl (by kernel_rfl) (by kernel_rfl) (by kernel_rfl) rfl rfl rfl trivial (fun w _ => (x_move (v := (Value.bool true)) rfl rfl)) ?_
      refine wpD_pass 18 rfl (by kernel_rfl) (by kernel_rfl) (by kernel_rfl) (wantN rfl rfl rfl rfl) rfl rfl ?_
      refine wpD_pass 19 rfl (by kernel_rfl) (by kernel_rfl) (by kernel_rfl) (wantN rfl rfl rfl rfl) rfl rfl ?_
      refine wpD_pass 20 rfl (by kernel_rfl) (by kernel_rfl) (by kernel_rfl) (wantN rfl rfl rfl rfl) rfl rfl ?_
      refine wpD_pass 21 rfl (by kernel_rfl) (by kernel_rfl) (by kernel_rfl) (wantN rfl rfl rfl rfl) rfl rfl ?_
      refine wpD_pass 22 rfl (by kernel_rfl) (by kernel_rfl) (by kernel_rfl) (wantN rfl rfl rfl rfl) rfl rfl ?_
      refine wpD_take (v := (Value.bool true)) 23 (fun _ => True) rfl (by kernel_rfl) (by kernel_rfl) (by kernel_rfl) rfl rfl rfl trivial (fun w _ => (x_pickT (v := (Value.bool true)) rfl rfl rfl rfl)) ?_
      exact wpD_done (by kernel_rfl) ⟨true, ⟨rfl, e2, e3, e4, trivial⟩, h⟩
    · replace h := h.2 hc13
      obtain ⟨x14, q14, x15, q15, x16, q16, x17, q17, x18, q18, h⟩ := h
      refine wpD_take (v := (Value.agg #[(Value.int .i64 x14), (Value.int .i64 x15), (Value.int .i64 x16), (Value.int .i64 x17), (Value.int .i64 x18)])) 3 (fun w => w.cell? ((Addr.mk b9 0 none).add 0) = some (Value.int .i64 x14) ∧ w.cell? ((Addr.mk b9 0 none).add 1) = some (Value.int .i64 x15) ∧ w.cell? ((Addr.mk b9 0 none).add 2) = some (Value.int .i64 x16) ∧ w.cell? ((Addr.mk b9 0 none).add 3) = some (Value.int .i64 x17) ∧ w.cell? ((Addr.mk b9 0 none).add 4) = some (Value.int .i64 x18)) rfl (by kernel_rfl) (by kernel_rfl) (by kernel_rfl) (wantG rfl rfl rfl hc13) rfl rfl ⟨q14, q15, q16, q17, q18⟩ (fun w ⟨q14, q15, q16, q17, q18⟩ => (x_loadN [(Value.int .i64 x14), (Value.int .i64 x15), (Value.int .i64 x16), (Value.int .i64 x17), (Value.int .i64 x18)] rfl e3 SH_52 (CellsAt.out (CellsAt.cons q14 (CellsAt.cons q15 (CellsAt.cons q16 (CellsAt.cons q17 (CellsAt.cons q18 CellsAt.nil)))))))) ?_
      obtain ⟨x19, q19, x20, q20, x21, q21, x22, q22, x23, q23, h⟩ := h
      refine wpD_take (v := (Value.agg #[(Value.int .i64 x19), (Value.int .i64 x20), (Value.int .i64 x21), (Value.int .i64 x22), (Value.int .i64 x23)])) 4 (fun w => w.cell? ((Addr.mk b10 0 none).add 0) = some (Value.int .i64 x19) ∧ w.cell? ((Addr.mk b10 0 none).add 1) = some (Value.int .i64 x20) ∧ w.cell? ((Addr.mk b10 0 none).add 2) = some (Value.int .i64 x21) ∧ w.cell? ((Addr.mk b10 0 none).add 3) = some (Value.int .i64 x22) ∧ w.cell? ((Addr.mk b10 0 none).add 4) = some (Value.int .i64 x23)) rfl (by kernel_rfl) (by kernel_rfl) (by kernel_rfl) (wantG rfl rfl rfl hc13) rfl rfl ⟨q19, q20, q21, q22, q23⟩ (fun w ⟨q19, q20, q21, q22, q23⟩ => (x_loadN [(Value.int .i64 x19), (Value.int .i64 x20), (Value.int .i64 x21), (Value.int .i64 x22), (Value.int .i64 x23)] rfl e4 SH_52 (CellsAt.out (CellsAt.cons q19 (CellsAt.cons q20 (CellsAt.cons q21 (CellsAt.cons q22 (CellsAt.cons q23 CellsAt.nil)))))))) ?_
      refine wpD_all (rs := [5]) (by kernel_rfl) (by simp) (allD_cons ?_ allD_nil)
      refine stepD_enterL (L' := [(1, fun _ => True), (0, fun _ => True)]) rfl (wantG rfl rfl rfl hc13) rfl rfl (x_call (vs := [(Value.agg #[(Value.int .i64 x14), (Value.int .i64 x15), (Value.int .i64 x16), (Value.int .i64 x17), (Value.int .i64 x18)]), (Value.agg #[(Value.int .i64 x19), (Value.int .i64 x20), (Value.int .i64 x21), (Value.int .i64 x22), (Value.int .i64 x23)])]) rfl rfl (mapl_cons rfl (mapl_cons rfl mapl_nil)) Tryz.func80 NN_80 NB_80) (by kernel_rfl) (Calls.mono h ?_)
      rintro _ w4 ⟨r24, rfl, h⟩
      refine ⟨_, rfl, (held_cons trivial (held_cons trivial held_nil)), ?_⟩
      refine wpD_take (v := (Value.bool (decide (r24 < 3)))) 6 (fun _ => True) rfl (by kernel_rfl) (by kernel_rfl) (by kernel_rfl) (wantG rfl rfl rfl hc13) rfl rfl trivial (fun w _ => (x_lss rfl rfl rfl)) ?_
      refine wpD_take (v := (Value.bool (decide (r24 < 3)))) 7 (fun _ => True) rfl (by kernel_rfl) (by kernel_rfl) (by kernel_rfl) rfl rfl rfl trivial (fun w _ => (x_pickF (v := (Value.bool (decide (r24 < 3)))) rfl rfl hc13 rfl)) ?_
      refine wpD_take (v := (Value.bool (decide (r24 < 3)))) 8 (fun _ => True) rfl (by kernel_rfl) (by kernel_rfl) (by kernel_rfl) rfl rfl rfl trivial (fun w _ => (x_move (v := (Value.bool (decide (r24 < 3)))) rfl rfl)) ?_
      rcases Bool.eq_false_or_eq_true (decide (r24 < 3)) with hc25 | hc25
      · replace h := h.1 hc25
        refine wpD_pass 9 rfl (by kernel_rfl) (by kernel_rfl) (by kernel_rfl) (wantN rfl rfl rfl hc25) rfl rfl ?_
        refine wpD_pass 10 rfl (by kernel_rfl) (by kernel_rfl) (by kernel_rfl) (wantN rfl rfl rfl hc25) rfl rfl ?_
        refine wpD_pass 11 rfl (by kernel_rfl) (by kernel_rfl) (by kernel_rfl) (wantN rfl rfl rfl hc25) rfl rfl ?_
        refine wpD_pass 12 rfl (by kernel_rfl) (by kernel_rfl) (by kernel_rfl) (wantN rfl rfl rfl hc25) rfl rfl ?_
        refine wpD_pass 13 rfl (by kernel_rfl) (by kernel_rfl) (by kernel_rfl) (wantN rfl rfl rfl hc25) rfl rfl ?_
        refine wpD_pass 14 rfl (by kernel_rfl) (by kernel_rfl) (by kernel_rfl) (wantN rfl rfl rfl hc25) rfl rfl ?_
        refine wpD_pass 15 rfl (by kernel_rfl) (by kernel_rfl) (by kernel_rfl) (wantN rfl rfl rfl hc25) rfl rfl ?_
        refine wpD_take (v := (Value.bool true)) 16 (fun _ => True) rfl (by kernel_rfl) (by kernel_rfl) (by kernel_rfl) rfl rfl rfl trivial (fun w _ => (x_pickT (v := (Value.bool true)) rfl rfl hc25 rfl)) ?_
        refine wpD_take (v := (Value.bool true)) 17 (fun _ => True) rfl (by kernel_rfl) (by kernel_rfl) (by kernel_rfl) rfl rfl rfl trivial (fun w _ => (x_move (v := (Value.bool true)) rfl rfl)) ?_
        refine wpD_pass 18 rfl (by kernel_rfl) (by kernel_rfl) (by kernel_rfl) (wantN rfl rfl rfl rfl) rfl rfl ?_
        refine wpD_pass 19 rfl (by kernel_rfl) (by kernel_rfl) (by kernel_rfl) (wantN rfl rfl rfl rfl) rfl rfl ?_
        refine wpD_pass 20 rfl (by kernel_rfl) (by kernel_rfl) (by kernel_rfl) (wantN rfl rfl rfl rfl) rfl rfl ?_
        refine wpD_pass 21 rfl (by kernel_rfl) (by kernel_rfl) (by kernel_rfl) (wantN rfl rfl rfl rfl) rfl rfl ?_
        refine wpD_pass 22 rfl (by kernel_rfl) (by kernel_rfl) (by kernel_rfl) (wantN rfl rfl rfl rfl) rfl rfl ?_
        refine wpD_take (v := (Value.bool true)) 23 (fun _ => True) rfl (by kernel_rfl) (by kernel_rfl) (by kernel_rfl) rfl rfl rfl trivial (fun w _ => (x_pickT (v := (Value.bool true)) rfl rfl rfl rfl)) ?_
        exact wpD_done (by kernel_rfl) ⟨true, ⟨rfl, e2, e3, e4, trivial⟩, h⟩
      · replace h := h.2 hc25
        refine wpD_take (v := (Value.pointer (some ((Addr.mk b9 0 none).add 0)))) 9 (fun _ => True) rfl (by kernel_rfl) (by kernel_rfl) (by kernel_rfl) (wantG rfl rfl rfl hc25) rfl rfl trivial (fun w _ => (x_fieldAddr rfl e3 FA_52_0)) ?_
        obtain ⟨x26, q26, h⟩ := h
        refine wpD_take (v := (Value.int .i64 x26)) 10 (fun w => w.cell? ((Addr.mk b9 0 none).add 0) = some (Value.int .i64 x26)) rfl (by kernel_rfl) (by kernel_rfl) (by kernel_rfl) (wantG rfl rfl rfl hc25) rfl rfl q26 (fun w q26 => (x_load1 rfl rfl SH_3 q26)) ?_
        refine wpD_take (v := (Value.pointer (some ((Addr.mk b10 0 none).add 0)))) 12 (fun _ => True) rfl (by kernel_rfl) (by kernel_rfl) (by kernel_rfl) (wantG rfl rfl rfl hc25) rfl rfl trivial (fun w _ => (x_fieldAddr rfl e4 FA_52_0)) ?_
        obtain ⟨x27, q27, h⟩ := h
        refine wpD_take (v := (Value.int .i64 x27)) 13 (fun w => w.cell? ((Addr.mk b10 0 none).add 0) = some (Value.int .i64 x27)) rfl (by kernel_rfl) (by kernel_rfl) (by kernel_rfl) (wantG rfl rfl rfl hc25) rfl rfl q27 (fun w q27 => (x_load1 rfl rfl SH_3 q27)) ?_
        refine wpD_all (rs := [11]) (by kernel_rfl) (by simp) (allD_cons ?_ allD_nil)
        refine stepD_enterL (L' := [(13, fun w => w.cell? ((Addr.mk b10 0 none).add 0) = some (Value.int .i64 x27)), (12, fun _ => True), (9, fun _ => True), (7, fun _ => True), (6, fun _ => True), (1, fun _ => True), (0, fun _ => True)]) rfl (wantG rfl rfl rfl hc25) rfl rfl (x_call (vs := [(Value.int .i64 x26)]) rfl rfl (mapl_cons rfl mapl_nil) Tryz.func18 NN_18 NB_18) (by kernel_rfl) (Calls.mono h ?_)
        rintro _ w5 ⟨r28, rfl, h⟩
        obtain ⟨o13, h⟩ := h
        refine ⟨_, rfl, (held_cons o13 (held_cons trivial (held_cons trivial (held_cons trivial (held_cons trivial (held_cons trivial (held_cons trivial held_nil))))))), ?_⟩
        refine wpD_all (rs := [14]) (by kernel_rfl) (by simp) (allD_cons ?_ allD_nil)
        refine stepD_enterL (L' := [(12, fun _ => True), (9, fun _ => True), (7, fun _ => True), (6, fun _ => True), (1, fun _ => True), (0, fun _ => True)]) rfl (wantG rfl rfl rfl hc25) rfl rfl (x_call (vs := [(Value.int .i64 x27)]) rfl rfl (mapl_cons rfl mapl_nil) Tryz.func18 NN_18 NB_18) (by kernel_rfl) (Calls.mono h ?_)
        rintro _ w6 ⟨r29, rfl, h⟩
        refine ⟨_, rfl, (held_cons trivial (held_cons trivial (held_cons trivial (held_cons trivial (held_cons trivial (held_cons trivial held_nil)))))), ?_⟩
        refine wpD_take (v := (Value.bool (decide (r28 = r29)))) 15 (fun _ => True) rfl (by kernel_rfl) (by kernel_rfl) (by kernel_rfl) (wantG rfl rfl rfl hc25) rfl rfl trivial (fun w _ => (x_eql rfl rfl rfl)) ?_
        refine wpD_take (v := (Value.bool (decide (r28 = r29)))) 16 (fun _ => True) rfl (by kernel_rfl) (by kernel_rfl) (by kernel_rfl) rfl rfl rfl trivial (fun w _ => (x_pickF (v := (Value.bool (decide (r28 = r29)))) rfl rfl hc25 rfl)) ?_
        refine wpD_take (v := (Value.bool (decide (r28 = r29)))) 17 (fun _ => True) rfl (by kernel_rfl) (by kernel_rfl) (by kernel_rfl) rfl rfl rfl trivial (fun w _ => (x_move (v := (Value.bool (decide (r28 = r29)))) rfl rfl)) ?_
        rcases Bool.eq_false_or_eq_true (decide (r28 = r29)) with hc30 | hc30
        · replace h := h.1 hc30
          refine wpD_pass 18 rfl (by kernel_rfl) (by kernel_rfl) (by kernel_rfl) (wantN rfl rfl rfl hc30) rfl rfl ?_
          refine wpD_pass 19 rfl (by kernel_rfl) (by kernel_rfl) (by kernel_rfl) (wantN rfl rfl rfl hc30) rfl rfl ?_
          refine wpD_pass 20 rfl (by kernel_rfl) (by kernel_rfl) (by kernel_rfl) (wantN rfl rfl rfl hc30) rfl rfl ?_
          refine wpD_pass 21 rfl (by kernel_rfl) (by kernel_rfl) (by kernel_rfl) (wantN rfl rfl rfl hc30) rfl rfl ?_
          refine wpD_pass 22 rfl (by kernel_rfl) (by kernel_rfl) (by kernel_rfl) (wantN rfl rfl rfl hc30) rfl rfl ?_
          refine wpD_take (v := (Value.bool true)) 23 (fun _ => True) rfl (by kernel_rfl) (by kernel_rfl) (by kernel_rfl) rfl rfl rfl trivial (fun w _ => (x_pickT (v := (Value.bool true)) rfl rfl hc30 rfl)) ?_
          exact wpD_done (by kernel_rfl) ⟨true, ⟨rfl, e2, e3, e4, trivial⟩, h⟩
        · replace h := h.2 hc30
          refine wpD_take (v := (Value.pointer (some ((Addr.mk b9 0 none).add 2)))) 18 (fun _ => True) rfl (by kernel_rfl) (by kernel_rfl) (by kernel_rfl) (wantG rfl rfl rfl hc30) rfl rfl trivial (fun w _ => (x_fieldAddr rfl e3 FA_52_2)) ?_
          obtain ⟨x31, q31, h⟩ := h
          refine wpD_take (v := (Value.int .i64 x31)) 19 (fun w => w.cell? ((Addr.mk b9 0 none).add 2) = some (Value.int .i64 x31)) rfl (by kernel_rfl) (by kernel_rfl) (by kernel_rfl) (wantG rfl rfl rfl hc30) rfl rfl q31 (fun w q31 => (x_load1 rfl rfl SH_3 q31)) ?_
          refine wpD_take (v := (Value.pointer (some ((Addr.mk b10 0 none).add 2)))) 20 (fun _ => True) rfl (by kernel_rfl) (by kernel_rfl) (by kernel_rfl) (wantG rfl rfl rfl hc30) rfl rfl trivial (fun w _ => (x_fieldAddr rfl e4 FA_52_2)) ?_
          obtain ⟨x32, q32, h⟩ := h
          refine wpD_take (v := (Value.int .i64 x32)) 21 (fun w => w.cell? ((Addr.mk b10 0 none).add 2) = some (Value.int .i64 x32)) rfl (by kernel_rfl) (by kernel_rfl) (by kernel_rfl) (wantG rfl rfl rfl hc30) rfl rfl q32 (fun w q32 => (x_load1 rfl rfl SH_3 q32)) ?_
          refine wpD_take (v := (Value.bool (decide (x32 < x31)))) 22 (fun _ => True) rfl (by kernel_rfl) (by kernel_rfl) (by kernel_rfl) (wantG rfl rfl rfl hc30) rfl rfl trivial (fun w _ => (x_gtr rfl rfl rfl)) ?_
          refine wpD_take (v := (Value.bool (decide (x32 < x31)))) 23 (fun _ => True) rfl (by kernel_rfl) (by kernel_rfl) (by kernel_rfl) rfl rfl rfl trivial (fun w _ => (x_pickF (v := (Value.bool (decide (x32 < x31)))) rfl rfl hc30 rfl)) ?_
          exact wpD_done (by kernel_rfl) ⟨decide (x32 < x31), ⟨rfl, e2, e3, e4, trivial⟩, h⟩
  clear h
  rintro l33 ρ w7 ⟨e30, e2, e3, e4, -⟩ h
  replace h := hk l33 w7 h
  clear hk
  refine wpC_cond (b := l33) e30 (fun hc34 => ?_) (fun hc34 => ?_)
  · replace h := h.1 hc34
    refine wpC_seq ?_
    refine wpC_region ?_
    refine rv (Value.bool false) w7 rfl rfl rfl (x_assign rfl rfl) ?_
    refine wpR_nil ?_
    refine wpC_ret ?_
    exact ⟨.inl rfl, fun a ha => ⟨_, results_rep1 rfl ha rfl, false, rfl, h⟩⟩
  · replace h := h.2 hc34
    refine wpC_skip ?_
    refine wpC_seq ?_
    refine wpC_region ?_
    refine rv (Value.pointer (some ((Addr.mk b10 0 none).add 2))) w7 rfl rfl rfl (x_fieldAddr rfl e4 FA_52_2) ?_
    obtain ⟨x35, q35, h⟩ := h
    refine rv (Value.int .i64 x35) w7 rfl rfl rfl (x_load1 rfl rfl SH_3 q35) ?_
    refine rv (Value.int .u64 (IntKind.u64.wrap x35)) w7 rfl rfl rfl (x_convI rfl rfl IK_130 IK_3) ?_
    refine rv (Value.pointer (some ((Addr.mk b9 0 none).add 2))) w7 rfl rfl rfl (x_fieldAddr rfl e3 FA_52_2) ?_
    obtain ⟨x36, q36, h⟩ := h
    refine rv (Value.int .i64 x36) w7 rfl rfl rfl (x_load1 rfl rfl SH_3 q36) ?_
    refine rv (Value.int .u64 (IntKind.u64.wrap x36)) w7 rfl rfl rfl (x_convI rfl rfl IK_130 IK_3) ?_
    refine rv (Value.int .u64 (IntKind.u64.wrap ((IntKind.u64.wrap x35) - (IntKind.u64.wrap x36)))) w7 rfl rfl rfl (x_sub rfl rfl rfl) ?_
    refine rv (Value.int .i64 p2) w7 rfl rfl rfl (x_move rfl e2) ?_
    refine rv (Value.int .u64 (IntKind.u64.wrap p2)) w7 rfl rfl rfl (x_convI rfl rfl IK_130 IK_3) ?_
    refine rv (Value.bool (decide ((IntKind.u64.wrap ((IntKind.u64.wrap x35) - (IntKind.u64.wrap x36))) ≤ (IntKind.u64.wrap p2)))) w7 rfl rfl rfl (x_leq rfl rfl rfl) ?_
    refine rv (Value.bool (decide ((IntKind.u64.wrap ((IntKind.u64.wrap x35) - (IntKind.u64.wrap x36))) ≤ (IntKind.u64.wrap p2)))) w7 rfl rfl rfl (x_assign rfl rfl) ?_
    refine wpR_nil ?_
    refine wpC_ret ?_
    exact ⟨.inl rfl, fun a ha => ⟨_, results_rep1 rfl ha rfl, decide ((IntKind.u64.wrap ((IntKind.u64.wrap x35) - (IntKind.u64.wrap x36))) ≤ (IntKind.u64.wrap p2)), rfl, h⟩⟩

/-- queue.to -/
def F66 (p0 : Int) (p1 : Int) (p2 : Int) (w0 : World) (K : Bool → World → Prop) : Prop :=
  K ((decide (p1 ≤ p0)) && (decide (p0 ≤ p2))) w0
set_option maxRecDepth 100000 in
theorem D66 (p0 : Int) (p1 : Int) (p2 : Int) (w0 : World) (K : Bool → World → Prop) (h : F66 p0 p1 p2 w0 K) : callC Tryz.prog 66 #[(Value.int .i64 p0), (Value.int .i64 p1), (Value.int .i64 p2)] (fun (r : Bool) => (Value.bool r)) w0 K := by
  unfold F66 at h
  refine calls_of_wpC Tryz.func66 rfl 15 rfl (by simp) ?_
  intro ρ hρ
  have e0 : ρ 0 = (Value.int .i64 p0) := hρ 0
  have e1 : ρ 1 = (Value.int .i64 p1) := hρ 1
  have e2 : ρ 2 = (Value.int .i64 p2) := hρ 2
  clear hρ
  refine wpC_seq ?_
  refine wpC_region ?_
  refine rv (Value.bool false) w0 rfl rfl rfl (x_assign rfl rfl) ?_
  refine wpR_nil ?_
  refine wpC_seq ?_
  refine wpC_cut (fun ρ => ρ 0 = (Value.int .i64 p0) ∧ ρ 1 = (Value.int .i64 p1) ∧ ρ 2 = (Value.int .i64 p2) ∧ True) ⟨e0, e1, e2, trivial⟩ ?_
  rintro ρ ⟨e0, e1, e2, -⟩
  refine wpC_region ?_
  refine rv (Value.int .i64 p1) w0 rfl rfl rfl (x_move rfl e1) ?_
  refine rv (Value.int .i64 p0) w0 rfl rfl rfl (x_move rfl e0) ?_
  refine rv (Value.bool (decide (p1 ≤ p0))) w0 rfl rfl rfl (x_leq rfl rfl rfl) ?_
  refine rv (Value.bool (decide (p1 ≤ p0))) w0 rfl rfl rfl (x_move rfl rfl) ?_
  refine wpR_joinJ 4 (fun (_ : Unit) ρ => ρ 14 = Value.bool ((decide (p1 ≤ p0)) && (decide (p0 ≤ p2))) ∧ True) (fun _ w => w0 = w) ?_ ?_
  · clear h
    rcases Bool.eq_false_or_eq_true (decide (p1 ≤ p0)) with hc10 | hc10
    · skip
      refine wpR_val (v := (Value.int .i64 p0)) (w' := w0) (wantG rfl rfl rfl hc10) rfl rfl (x_move rfl e0) ?_
      refine wpR_val (v := (Value.int .i64 p2)) (w' := w0) (wantG rfl rfl rfl hc10) rfl rfl (x_move rfl e2) ?_
      refine wpR_val (v := (Value.bool (decide (p0 ≤ p2)))) (w' := w0) (wantG rfl rfl rfl hc10) rfl rfl (x_leq rfl rfl rfl) ?_
      refine rv (Value.bool (decide (p0 ≤ p2))) w0 rfl rfl rfl (x_pickT (v := (Value.bool (decide (p0 ≤ p2)))) rfl rfl hc10 rfl) ?_
      refine wpR_nil ?_
      exact ⟨(), ⟨(by rw [hc10]; rfl), trivial⟩, rfl⟩
    · skip
      refine wpR_pass (wantN rfl rfl rfl hc10) rfl rfl ?_
      refine wpR_pass (wantN rfl rfl rfl hc10) rfl rfl ?_
      refine wpR_pass (wantN rfl rfl rfl hc10) rfl rfl ?_
      refine rv (Value.bool false) w0 rfl rfl rfl (x_pickF (v := (Value.bool false)) rfl rfl hc10 rfl) ?_
      refine wpR_nil ?_
      exact ⟨(), ⟨(by rw [hc10]; rfl), trivial⟩, rfl⟩
  rintro _ ρ wj ⟨e14, -⟩ rfl
  refine rv (Value.bool ((decide (p1 ≤ p0)) && (decide (p0 ≤ p2)))) w0 rfl rfl rfl (x_assign rfl e14) ?_
  refine wpR_nil ?_
  refine wpC_ret ?_
  exact ⟨.inl rfl, fun a ha => ⟨_, results_rep1 rfl ha rfl, (decide (p1 ≤ p0)) && (decide (p0 ≤ p2)), rfl, h⟩⟩

/-- slices.ContainsFunc[[]api.Waiting,api.Waiting] -/
def F67 (p0 : Sl) (p1 : Value) (w0 : World) (K : Bool → World → Prop) : Prop :=
  callC Tryz.prog 77 #[(Sl.v p0), p1] (fun (r : Int) => (Value.int .i64 r)) w0 fun r9 w1 =>
  K (decide (0 ≤ r9)) w1
set_option maxRecDepth 100000 in
theorem D67 (p0 : Sl) (p1 : Value) (w0 : World) (K : Bool → World → Prop) (h : F67 p0 p1 w0 K) : callC Tryz.prog 67 #[(Sl.v p0), p1] (fun (r : Bool) => (Value.bool r)) w0 K := by
  unfold F67 at h
  refine calls_of_wpC Tryz.func67 rfl 9 rfl (by simp) ?_
  intro ρ hρ
  have e0 : ρ 0 = (Sl.v p0) := hρ 0
  have e1 : ρ 1 = p1 := hρ 1
  clear hρ
  refine wpC_seq ?_
  refine wpC_region ?_
  refine rv (Value.bool false) w0 rfl rfl rfl (x_assign rfl rfl) ?_
  refine wpR_nil ?_
  refine wpC_seq ?_
  refine wpC_cut (fun ρ => ρ 0 = (Sl.v p0) ∧ ρ 1 = p1 ∧ True) ⟨e0, e1, trivial⟩ ?_
  rintro ρ ⟨e0, e1, -⟩
  refine wpC_region ?_
  refine rv (Sl.v p0) w0 rfl rfl rfl (x_move rfl e0) ?_
  refine rv p1 w0 rfl rfl rfl (x_move rfl e1) ?_
  refine wpR_enter rfl rfl rfl (x_call (vs := [(Sl.v p0), p1]) rfl rfl (mapl_cons rfl (mapl_cons rfl mapl_nil)) Tryz.func77 NN_77 NB_77) (Calls.mono h ?_)
  rintro _ w1 ⟨r9, rfl, h⟩
  refine ⟨_, rfl, ?_⟩
  refine rv (Value.bool (decide (0 ≤ r9))) w1 rfl rfl rfl (x_geq rfl rfl rfl) ?_
  refine rv (Value.bool (decide (0 ≤ r9))) w1 rfl rfl rfl (x_assign rfl rfl) ?_
  refine wpR_nil ?_
  refine wpC_ret ?_
  exact ⟨.inl rfl, fun a ha => ⟨_, results_rep1 rfl ha rfl, decide (0 ≤ r9), rfl, h⟩⟩

/-- queue.has$1 -/
def F68 (p0_0 : Int) (p0_1 : Int) (p0_2 : Int) (p0_3 : Int) (c1 : Addr) (c2 : Addr) (w0 : World) (K : Bool → World → Prop) : Prop :=
  nw 70 #[(Value.int .i64 p0_0), (Value.int .i64 p0_1), (Value.int .i64 p0_2), (Value.int .i64 p0_3)] w0 fun b9 w1 =>
  ld (Value.int .i64) ((Addr.mk b9 0 none).add 0) w1 fun x10 =>
  ld (Value.int .i64) c1 w1 fun x11 =>
  jp (fun J12 => cnd (decide (x10 = x11))
    (
    ld (Value.int .i64) ((Addr.mk b9 0 none).add 1) w1 fun x14 =>
    ld (Value.int .i64) c2 w1 fun x15 =>
    J12 (decide (x14 = x15))
    )
    (
    J12 false
    ))
  fun c16 =>
  K c16 w1
set_option maxRecDepth 100000 in
theorem D68 (p0_0 : Int) (p0_1 : Int) (p0_2 : Int) (p0_3 : Int) (c1 : Addr) (c2 : Addr) (w0 : World) (K : Bool → World → Prop) (h : F68 p0_0 p0_1 p0_2 p0_3 c1 c2 w0 K) : callC Tryz.prog 68 #[(Value.agg #[(Value.int .i64 p0_0), (Value.int .i64 p0_1), (Value.int .i64 p0_2), (Value.int .i64 p0_3)]), (Value.pointer (some c1)), (Value.pointer (some c2))] (fun (r : Bool) => (Value.bool r)) w0 K := by
  unfold F68 at h
  refine calls_of_wpC Tryz.func68 rfl 15 rfl (by simp) ?_
  intro ρ hρ
  have e0 : ρ 0 = (Value.agg #[(Value.int .i64 p0_0), (Value.int .i64 p0_1), (Value.int .i64 p0_2), (Value.int .i64 p0_3)]) := hρ 0
  have e1 : ρ 1 = (Value.pointer (some c1)) := hρ 1
  have e2 : ρ 2 = (Value.pointer (some c2)) := hρ 2
  clear hρ
  refine wpC_seq ?_
  refine wpC_region ?_
  obtain ⟨b9, hb9⟩ : ∃ u, u = w0.heap.size := ⟨_, rfl⟩
  obtain ⟨w1, hw9⟩ : ∃ u, u = w0.alloc (.cells #[(Value.int .i64 p0_0), (Value.int .i64 p0_1), (Value.int .i64 p0_2), (Value.int .i64 p0_3)] 70) := ⟨_, rfl⟩
  replace h := h b9 w1 hb9 hw9
  refine rv (Value.pointer (some (Addr.mk b9 0 none))) w1 rfl rfl rfl ((x_box (v := (Value.agg #[(Value.int .i64 p0_0), (Value.int .i64 p0_1), (Value.int .i64 p0_2), (Value.int .i64 p0_3)])) rfl e0).trans (by rw [hb9, hw9]; rfl)) ?_
  refine rv (Value.bool false) w1 rfl rfl rfl (x_assign rfl rfl) ?_
  refine wpR_nil ?_
  refine wpC_seq ?_
  refine wpC_cut (fun ρ => ρ 1 = (Value.pointer (some c1)) ∧ ρ 2 = (Value.pointer (some c2)) ∧ ρ 3 = (Value.pointer (some (Addr.mk b9 0 none))) ∧ True) ⟨e1, e2, rfl, trivial⟩ ?_
  rintro ρ ⟨e1, e2, e3, -⟩
  refine wpC_region ?_
  refine rv (Value.pointer (some ((Addr.mk b9 0 none).add 0))) w1 rfl rfl rfl (x_fieldAddr rfl e3 FA_70_0) ?_
  obtain ⟨x10, q10, h⟩ := h
  refine rv (Value.int .i64 x10) w1 rfl rfl rfl (x_load1 rfl rfl SH_3 q10) ?_
  obtain ⟨x11, q11, h⟩ := h
  refine rv (Value.int .i64 x11) w1 rfl rfl rfl (x_load1 rfl e1 SH_3 q11) ?_
  refine rv (Value.bool (decide (x10 = x11))) w1 rfl rfl rfl (x_eql rfl rfl rfl) ?_
  refine rv (Value.bool (decide (x10 = x11))) w1 rfl rfl rfl (x_move rfl rfl) ?_
  obtain ⟨J12, h, hk⟩ := h
  refine wpR_joinJ 5 (fun x ρ => ρ 14 = Value.bool x ∧ True) (fun x w => J12 x ∧ w1 = w) ?_ ?_
  · clear hk
    rcases Bool.eq_false_or_eq_true (decide (x10 = x11)) with hc13 | hc13
    · replace h := h.1 hc13
      refine wpR_val (v := (Value.pointer (some ((Addr.mk b9 0 none).add 1)))) (w' := w1) (wantG rfl rfl rfl hc13) rfl rfl (x_fieldAddr rfl e3 FA_70_1) ?_
      obtain ⟨x14, q14, h⟩ := h
      refine wpR_val (v := (Value.int .i64 x14)) (w' := w1) (wantG rfl rfl rfl hc13) rfl rfl (x_load1 rfl rfl SH_3 q14) ?_
      obtain ⟨x15, q15, h⟩ := h
      refine wpR_val (v := (Value.int .i64 x15)) (w' := w1) (wantG rfl rfl rfl hc13) rfl rfl (x_load1 rfl e2 SH_3 q15) ?_
      refine wpR_val (v := (Value.bool (decide (x14 = x15)))) (w' := w1) (wantG rfl rfl rfl hc13) rfl rfl (x_eql rfl rfl rfl) ?_
      refine rv (Value.bool (decide (x14 = x15))) w1 rfl rfl rfl (x_pickT (v := (Value.bool (decide (x14 = x15)))) rfl rfl hc13 rfl) ?_
      refine wpR_nil ?_
      exact ⟨decide (x14 = x15), ⟨rfl, trivial⟩, h, rfl⟩
    · replace h := h.2 hc13
      refine wpR_pass (wantN rfl rfl rfl hc13) rfl rfl ?_
      refine wpR_pass (wantN rfl rfl rfl hc13) rfl rfl ?_
      refine wpR_pass (wantN rfl rfl rfl hc13) rfl rfl ?_
      refine wpR_pass (wantN rfl rfl rfl hc13) rfl rfl ?_
      refine rv (Value.bool false) w1 rfl rfl rfl (x_pickF (v := (Value.bool false)) rfl rfl hc13 rfl) ?_
      refine wpR_nil ?_
      exact ⟨false, ⟨rfl, trivial⟩, h, rfl⟩
  clear h
  rintro c16 ρ wj ⟨e14, -⟩ ⟨h, rfl⟩
  replace h := hk c16 h
  clear hk
  refine rv (Value.bool c16) w1 rfl rfl rfl (x_assign rfl e14) ?_
  refine wpR_nil ?_
  refine wpC_ret ?_
  exact ⟨.inl rfl, fun a ha => ⟨_, results_rep1 rfl ha rfl, c16, rfl, h⟩⟩

/-- admit.demands -/
def F69 (p0_0 : ByteArray) (p0_1 : Int) (p0_2 : Int) (p0_3 : Int) (p0_4 : Bool) (p0_5 : Int) (p0_6 : Bool) (p0_7 : Bool) (p0_8 : Int) (p0_9 : Int) (p0_10 : Int) (p0_11 : Int) (p0_12 : Sl) (p0_13 : Int) (p0_14 : Int) (p0_15 : Int) (p0_16 : Int) (p0_17 : Bool) (p0_18 : Int) (p0_19 : Int) (p0_20 : Int) (p0_21 : Int) (p1 : Sl) (p2 : Int) (w0 : World) (K : (Sl × Bool) → World → Prop) : Prop :=
  nw 65 (A64 p0_0 p0_1 p0_2 p0_3 p0_4 p0_5 p0_6 p0_7 p0_8 p0_9 p0_10 p0_11 p0_12 p0_13 p0_14 p0_15 p0_16 p0_17 p0_18 p0_19 p0_20 p0_21) w0 fun b9 w1 =>
  L64 (Addr.mk b9 0 none) w1 fun x10 x11 x12 x13 x14 x15 x16 x17 x18 x19 x20 x21 x22 x23 x24 x25 x26 x27 x28 x29 x30 x31 =>
  callC Tryz.prog 47 #[(V64 x10 x11 x12 x13 x14 x15 x16 x17 x18 x19 x20 x21 x22 x23 x24 x25 x26 x27 x28 x29 x30 x31)] (fun (r : Int) => (Value.int .i64 r)) w1 fun r32 w2 =>
  jn (fun J33 => cnd (!decide (r32 = 0))
    (
    J33 true w2
    )
    (
    callC Tryz.prog 84 #[(Sl.v p1)] (fun (r : Bool) => (Value.bool r)) w2 fun r35 w3 =>
    J33 (!r35) w3
    ))
  fun c36 w4 =>
  cnd ((c36 || (decide (p2 < 0))) || (decide (1073741824 < p2)))
    (
    K (Sl.nil, false) w4
    )
    (
    callC Tryz.prog 85 #[(Sl.v p1)] (fun (r : Sl) => (Sl.v r)) w4 fun r42 w5 =>
    callC Tryz.prog 86 #[(Sl.v r42), (Value.func (.func 87) #[] #[])] (fun (_ : Unit) => (Value.tuple #[])) w5 fun _r43 w6 =>
    lp (fun (next44 : (Sl × Int × Int) → World → Prop) l44 w7 =>
      cnd (decide (l44.2.2 < (r42.len : Int)))
        (
        ix r42 l44.2.2 3 fun p46 =>
        ld (Value.int .i64) (p46.add 0) w7 fun x47 =>
        ld (Value.int .i64) (p46.add 1) w7 fun x48 =>
        ld (Value.int .i64) (p46.add 2) w7 fun x49 =>
        nw 103 #[(Value.int .i64 0), (Value.int .i64 0), (Value.int .i64 0)] w7 fun b50 w8 =>
        st (Addr.mk b50 0 none) [(Value.int .i64 x47), (Value.int .i64 x48), (Value.int .i64 x49)] w8 fun w9 =>
        ld (Value.int .i64) ((Addr.mk b50 0 none).add 1) w9 fun x52 =>
        jn (fun (J54 : Sl → World → Prop) => tk w9 fun w10 =>
          ld (Value.int .i64) ((Addr.mk b50 0 none).add 0) w10 fun x55 =>
          ld (Value.int .i64) ((Addr.mk b50 0 none).add 1) w10 fun x56 =>
          ld (Value.int .i64) ((Addr.mk b50 0 none).add 2) w10 fun x57 =>
          L64 (Addr.mk b9 0 none) w10 fun x58 x59 x60 x61 x62 x63 x64 x65 x66 x67 x68 x69 x70 x71 x72 x73 x74 x75 x76 x77 x78 x79 =>
          ld (Value.int .i64) ((Addr.mk b50 0 none).add 2) w10 fun x80 =>
          callC Tryz.prog 88 #[(V64 x58 x59 x60 x61 x62 x63 x64 x65 x66 x67 x68 x69 x70 x71 x72 x73 x74 x75 x76 x77 x78 x79), (Value.int .i64 p2), (Value.int .i64 x80)] (fun (r : Int) => (Value.int .i64 r)) w10 fun r81 w11 =>
          (w11.cell? ((Addr.mk b50 0 none).add 0) = some (Value.int .i64 x55) ∧ w11.cell? ((Addr.mk b50 0 none).add 1) = some (Value.int .i64 x56) ∧ w11.cell? ((Addr.mk b50 0 none).add 2) = some (Value.int .i64 x57)) ∧
          nw 125 #[(Value.int .i64 x55), (Value.int .i64 x56), (Value.int .i64 x57), (Value.int .i64 (IntKind.i64.wrap (l44.2.1 + x52))), (Value.int .i64 r81)] w11 fun b82 w12 =>
          (w12.cell? ((Addr.mk b50 0 none).add 0) = some (Value.int .i64 x55) ∧ w12.cell? ((Addr.mk b50 0 none).add 1) = some (Value.int .i64 x56) ∧ w12.cell? ((Addr.mk b50 0 none).add 2) = some (Value.int .i64 x57)) ∧
          rn Tryz.prog (Builtin.append_ #[121, 121] 121 #[Sl.v l44.1, Sl.v (⟨some ⟨b82, 0, none⟩, 1, 1⟩ : Sl)]) Sl.v w12 fun r83 w13 =>
          (w13.cell? ((Addr.mk b50 0 none).add 0) = some (Value.int .i64 x55) ∧ w13.cell? ((Addr.mk b50 0 none).add 1) = some (Value.int .i64 x56) ∧ w13.cell? ((Addr.mk b50 0 none).add 2) = some (Value.int .i64 x57)) ∧
          J54 r83 w13
        )
        fun l84 w14 =>
        next44 (l84, IntKind.i64.wrap (l44.2.1 + x52), IntKind.i64.wrap (l44.2.2 + 1)) w14
        )
        (
        K (l44.1, true) w7
        )
    ) (Sl.nil, 0, 0) w6
    )
set_option maxRecDepth 100000 in
theorem D69 (p0_0 : ByteArray) (p0_1 : Int) (p0_2 : Int) (p0_3 : Int) (p0_4 : Bool) (p0_5 : Int) (p0_6 : Bool) (p0_7 : Bool) (p0_8 : Int) (p0_9 : Int) (p0_10 : Int) (p0_11 : Int) (p0_12 : Sl) (p0_13 : Int) (p0_14 : Int) (p0_15 : Int) (p0_16 : Int) (p0_17 : Bool) (p0_18 : Int) (p0_19 : Int) (p0_20 : Int) (p0_21 : Int) (p1 : Sl) (p2 : Int) (w0 : World) (K : (Sl × Bool) → World → Prop) (h : F69 p0_0 p0_1 p0_2 p0_3 p0_4 p0_5 p0_6 p0_7 p0_8 p0_9 p0_10 p0_11 p0_12 p0_13 p0_14 p0_15 p0_16 p0_17 p0_18 p0_19 p0_20 p0_21 p1 p2 w0 K) : callC Tryz.prog 69 #[(V64 p0_0 p0_1 p0_2 p0_3 p0_4 p0_5 p0_6 p0_7 p0_8 p0_9 p0_10 p0_11 p0_12 p0_13 p0_14 p0_15 p0_16 p0_17 p0_18 p0_19 p0_20 p0_21), (Sl.v p1), (Value.int .i64 p2)] (fun (r : Sl × Bool) => (Value.tuple #[(Sl.v r.1), (Value.bool r.2)])) w0 K := by
  unfold F69 at h
  refine calls_of_wpC Tryz.func69 rfl 56 rfl (by simp) ?_
  intro ρ hρ
  have e0 : ρ 0 = (V64 p0_0 p0_1 p0_2 p0_3 p0_4 p0_5 p0_6 p0_7 p0_8 p0_9 p0_10 p0_11 p0_12 p0_13 p0_14 p0_15 p0_16 p0_17 p0_18 p0_19 p0_20 p0_21) := hρ 0
  have e1 : ρ 1 = (Sl.v p1) := hρ 1
  have e2 : ρ 2 = (Value.int .i64 p2) := hρ 2
  clear hρ
  refine wpC_seq ?_
  refine wpC_region ?_
  obtain ⟨b9, hb9⟩ : ∃ u, u = w0.heap.size := ⟨_, rfl⟩
  obtain ⟨w1, hw9⟩ : ∃ u, u = w0.alloc (.cells (A64 p0_0 p0_1 p0_2 p0_3 p0_4 p0_5 p0_6 p0_7 p0_8 p0_9 p0_10 p0_11 p0_12 p0_13 p0_14 p0_15 p0_16 p0_17 p0_18 p0_19 p0_20 p0_21) 65) := ⟨_, rfl⟩
  replace h := h b9 w1 hb9 hw9
  refine rv (Value.pointer (some (Addr.mk b9 0 none))) w1 rfl rfl rfl ((x_box (v := (V64 p0_0 p0_1 p0_2 p0_3 p0_4 p0_5 p0_6 p0_7 p0_8 p0_9 p0_10 p0_11 p0_12 p0_13 p0_14 p0_15 p0_16 p0_17 p0_18 p0_19 p0_20 p0_21)) rfl e0).trans (by rw [hb9, hw9]; rfl)) ?_
  refine rv (Sl.v Sl.nil) w1 rfl rfl rfl (x_assign rfl rfl) ?_
  refine rv (Value.bool false) w1 rfl rfl rfl (x_assign rfl rfl) ?_
  refine wpR_nil ?_
  refine wpC_seq ?_
  refine wpC_seq ?_
  refine wpC_cut (fun ρ => ρ 1 = (Sl.v p1) ∧ ρ 2 = (Value.int .i64 p2) ∧ ρ 3 = (Value.pointer (some (Addr.mk b9 0 none))) ∧ True) ⟨e1, e2, rfl, trivial⟩ ?_
  rintro ρ ⟨e1, e2, e3, -⟩
  refine wpC_region ?_
  obtain ⟨x10, q10, x11, q11, x12, q12, x13, q13, x14, q14, x15, q15, x16, q16, x17, q17, x18, q18, x19, q19, x20, q20, x21, q21, x22, q22, x23, q23, x24, q24, x25, q25, x26, q26, x27, q27, x28, q28, x29, q29, x30, q30, x31, q31, h⟩ := h
  refine rv (V64 x10 x11 x12 x13 x14 x15 x16 x17 x18 x19 x20 x21 x22 x23 x24 x25 x26 x27 x28 x29 x30 x31) w1 rfl rfl rfl (x_loadN (S64 x10 x11 x12 x13 x14 x15 x16 x17 x18 x19 x20 x21 x22 x23 x24 x25 x26 x27 x28 x29 x30 x31) rfl e3 SH_65 (K64 ⟨q10, q11, q12, q13, q14, q15, q16, q17, q18, q19, q20, q21, q22, q23, q24, q25, q26, q27, q28, q29, q30, q31⟩)) ?_
  refine wpR_enter rfl rfl rfl (x_call (vs := [(V64 x10 x11 x12 x13 x14 x15 x16 x17 x18 x19 x20 x21 x22 x23 x24 x25 x26 x27 x28 x29 x30 x31)]) rfl rfl (mapl_cons rfl mapl_nil) Tryz.func47 NN_47 NB_47) (Calls.mono h ?_)
  rintro _ w2 ⟨r32, rfl, h⟩
  refine ⟨_, rfl, ?_⟩
  refine rv (Value.bool (!decide (r32 = 0))) w2 rfl rfl rfl (x_neq rfl rfl rfl) ?_
  refine rv (Value.bool (!decide (r32 = 0))) w2 rfl rfl rfl (x_move rfl rfl) ?_
  obtain ⟨J33, h, hk⟩ := h
  refine wpR_joinJ 4 (fun x ρ => ρ 20 = Value.bool x ∧ ρ 1 = (Sl.v p1) ∧ ρ 2 = (Value.int .i64 p2) ∧ ρ 3 = (Value.pointer (some (Addr.mk b9 0 none))) ∧ True) (J33) ?_ ?_
  · clear hk
    rcases Bool.eq_false_or_eq_true (!decide (r32 = 0)) with hc34 | hc34
    · replace h := h.1 hc34
      refine wpR_pass (wantN rfl rfl rfl hc34) rfl rfl ?_
      refine wpR_pass (wantN rfl rfl rfl hc34) rfl rfl ?_
      refine wpR_pass (wantN rfl rfl rfl hc34) rfl rfl ?_
      refine rv (Value.bool true) w2 rfl rfl rfl (x_pickT (v := (Value.bool true)) rfl rfl hc34 rfl) ?_
      refine wpR_nil ?_
      exact ⟨true, ⟨rfl, e1, e2, e3, trivial⟩, h⟩
    · replace h := h.2 hc34
      refine wpR_val (v := (Sl.v p1)) (w' := w2) (wantG rfl rfl rfl hc34) rfl rfl (x_move rfl e1) ?_
      refine wpR_enter (wantG rfl rfl rfl hc34) rfl rfl (x_call (vs := [(Sl.v p1)]) rfl rfl (mapl_cons rfl mapl_nil) Tryz.func84 NN_84 NB_84) (Calls.mono h ?_)
      rintro _ w3 ⟨r35, rfl, h⟩
      refine ⟨_, rfl, ?_⟩
      refine wpR_val (v := (Value.bool (!r35))) (w' := w3) (wantG rfl rfl rfl hc34) rfl rfl (x_not rfl rfl) ?_
      refine rv (Value.bool (!r35)) w3 rfl rfl rfl (x_pickF (v := (Value.bool (!r35))) rfl rfl hc34 rfl) ?_
      refine wpR_nil ?_
      exact ⟨!r35, ⟨rfl, e1, e2, e3, trivial⟩, h⟩
  clear h
  rintro c36 ρ w4 ⟨e20, e1, e2, e3, -⟩ h
  replace h := hk c36 w4 h
  clear hk
  refine rv (Value.bool c36) w4 rfl rfl rfl (x_move rfl e20) ?_
  refine wpR_joinJ 3 (fun (_ : Unit) ρ => ρ 24 = Value.bool (c36 || (decide (p2 < 0))) ∧ ρ 1 = (Sl.v p1) ∧ ρ 2 = (Value.int .i64 p2) ∧ ρ 3 = (Value.pointer (some (Addr.mk b9 0 none))) ∧ True) (fun _ w => w4 = w) ?_ ?_
  · clear h
    rcases Bool.eq_false_or_eq_true (c36) with hc38 | hc38
    · skip
      refine wpR_pass (wantN rfl rfl rfl hc38) rfl rfl ?_
      refine wpR_pass (wantN rfl rfl rfl hc38) rfl rfl ?_
      refine rv (Value.bool true) w4 rfl rfl rfl (x_pickT (v := (Value.bool true)) rfl rfl hc38 rfl) ?_
      refine wpR_nil ?_
      exact ⟨(), ⟨(by rw [hc38]; rfl), e1, e2, e3, trivial⟩, rfl⟩
    · skip
      refine wpR_val (v := (Value.int .i64 p2)) (w' := w4) (wantG rfl rfl rfl hc38) rfl rfl (x_move rfl e2) ?_
      refine wpR_val (v := (Value.bool (decide (p2 < 0)))) (w' := w4) (wantG rfl rfl rfl hc38) rfl rfl (x_lss rfl rfl rfl) ?_
      refine rv (Value.bool (decide (p2 < 0))) w4 rfl rfl rfl (x_pickF (v := (Value.bool (decide (p2 < 0)))) rfl rfl hc38 rfl) ?_
      refine wpR_nil ?_
      exact ⟨(), ⟨(by rw [hc38]; rfl), e1, e2, e3, trivial⟩, rfl⟩
  rintro _ ρ wj ⟨e24, e1, e2, e3, -⟩ rfl
  refine rv (Value.bool (c36 || (decide (p2 < 0)))) w4 rfl rfl rfl (x_move rfl e24) ?_
  refine wpR_joinJ 3 (fun (_ : Unit) ρ => ρ 28 = Value.bool ((c36 || (decide (p2 < 0))) || (decide (1073741824 < p2))) ∧ ρ 1 = (Sl.v p1) ∧ ρ 2 = (Value.int .i64 p2) ∧ ρ 3 = (Value.pointer (some (Addr.mk b9 0 none))) ∧ True) (fun _ w => w4 = w) ?_ ?_
  · clear h
    rcases Bool.eq_false_or_eq_true (c36 || (decide (p2 < 0))) with hc40 | hc40
    · skip
      refine wpR_pass (wantN rfl rfl rfl hc40) rfl rfl ?_
      refine wpR_pass (wantN rfl rfl rfl hc40) rfl rfl ?_
      refine rv (Value.bool true) w4 rfl rfl rfl (x_pickT (v := (Value.bool true)) rfl rfl hc40 rfl) ?_
      refine wpR_nil ?_
      exact ⟨(), ⟨(by rw [hc40]; rfl), e1, e2, e3, trivial⟩, rfl⟩
    · skip
      refine wpR_val (v := (Value.int .i64 p2)) (w' := w4) (wantG rfl rfl rfl hc40) rfl rfl (x_move rfl e2) ?_
      refine wpR_val (v := (Value.bool (decide (1073741824 < p2)))) (w' := w4) (wantG rfl rfl rfl hc40) rfl rfl (x_gtr rfl rfl rfl) ?_
      refine rv (Value.bool (decide (1073741824 < p2))) w4 rfl rfl rfl (x_pickF (v := (Value.bool (decide (1073741824 < p2)))) rfl rfl hc40 rfl) ?_
      refine wpR_nil ?_
      exact ⟨(), ⟨(by rw [hc40]; rfl), e1, e2, e3, trivial⟩, rfl⟩
  rintro _ ρ wj ⟨e28, e1, e2, e3, -⟩ rfl
  refine wpR_nil ?_
  refine wpC_cond (b := (c36 || (decide (p2 < 0))) || (decide (1073741824 < p2))) e28 (fun hc41 => ?_) (fun hc41 => ?_)
  · replace h := h.1 hc41
    refine wpC_seq ?_
    refine wpC_region ?_
    refine rv (Sl.v Sl.nil) w4 rfl rfl rfl (x_assign rfl rfl) ?_
    refine rv (Value.bool false) w4 rfl rfl rfl (x_assign rfl rfl) ?_
    refine wpR_nil ?_
    refine wpC_ret ?_
    exact ⟨.inl rfl, fun a ha => ⟨_, results_rep2 rfl ha rfl rfl, (Sl.nil, false), rfl, h⟩⟩
  · replace h := h.2 hc41
    refine wpC_skip ?_
    refine wpC_seq ?_
    refine wpC_region ?_
    refine rv (Sl.v p1) w4 rfl rfl rfl (x_move rfl e1) ?_
    refine wpR_enter rfl rfl rfl (x_call (vs := [(Sl.v p1)]) rfl rfl (mapl_cons rfl mapl_nil) Tryz.func85 NN_85 NB_85) (Calls.mono h ?_)
    rintro _ w5 ⟨r42, rfl, h⟩
    refine ⟨_, rfl, ?_⟩
    refine rv (Sl.v r42) w5 rfl rfl rfl (x_assign rfl rfl) ?_
    refine wpR_nil ?_
    refine wpC_seq ?_
    refine wpC_cut (fun ρ => ρ 2 = (Value.int .i64 p2) ∧ ρ 3 = (Value.pointer (some (Addr.mk b9 0 none))) ∧ ρ 8 = (Sl.v r42) ∧ True) ⟨e2, e3, rfl, trivial⟩ ?_
    rintro ρ ⟨e2, e3, e8, -⟩
    refine wpC_region ?_
    refine rv (Sl.v r42) w5 rfl rfl rfl (x_move rfl e8) ?_
    refine wpR_enter rfl rfl rfl (x_call (vs := [(Sl.v r42), (Value.func (.func 87) #[] #[])]) rfl rfl (mapl_cons rfl (mapl_cons rfl mapl_nil)) Tryz.func86 NN_86 NB_86) (Calls.mono h ?_)
    rintro _ w6 ⟨r43, rfl, h⟩
    refine ⟨_, rfl, ?_⟩
    refine wpR_nil ?_
    refine wpC_seq ?_
    refine wpC_cut (fun ρ => ρ 2 = (Value.int .i64 p2) ∧ ρ 3 = (Value.pointer (some (Addr.mk b9 0 none))) ∧ ρ 8 = (Sl.v r42) ∧ True) ⟨e2, e3, e8, trivial⟩ ?_
    rintro ρ ⟨e2, e3, e8, -⟩
    refine wpC_region ?_
    refine rv (Sl.v Sl.nil) w6 rfl rfl rfl (x_assign rfl rfl) ?_
    refine wpR_nil ?_
    refine wpC_seq ?_
    refine wpC_cut (fun ρ => ρ 2 = (Value.int .i64 p2) ∧ ρ 3 = (Value.pointer (some (Addr.mk b9 0 none))) ∧ ρ 8 = (Sl.v r42) ∧ ρ 9 = (Sl.v Sl.nil) ∧ True) ⟨e2, e3, e8, rfl, trivial⟩ ?_
    rintro ρ ⟨e2, e3, e8, e9, -⟩
    refine wpC_region ?_
    refine rv (Value.int .i64 0) w6 rfl rfl rfl (x_assign rfl rfl) ?_
    refine wpR_nil ?_
    refine wpC_seq ?_
    refine wpC_seq ?_
    refine wpC_cut (fun ρ => ρ 2 = (Value.int .i64 p2) ∧ ρ 3 = (Value.pointer (some (Addr.mk b9 0 none))) ∧ ρ 8 = (Sl.v r42) ∧ ρ 9 = (Sl.v Sl.nil) ∧ ρ 10 = (Value.int .i64 0) ∧ True) ⟨e2, e3, e8, e9, rfl, trivial⟩ ?_
    rintro ρ ⟨e2, e3, e8, e9, e10, -⟩
    refine wpC_region ?_
    refine rv (Sl.v r42) w6 rfl rfl rfl (x_move rfl e8) ?_
    refine rv (Value.int .i64 (r42.len : Int)) w6 rfl rfl rfl (x_lenS (s := r42) rfl rfl isSliceT_101) ?_
    refine rv (Value.int .i64 0) w6 rfl rfl rfl (x_move rfl rfl) ?_
    refine wpR_nil ?_
    refine wpC_block ?_
    obtain ⟨I44, μ44, hI44, hr44⟩ := h
    refine wpC_loop (fun (x : Sl × Int × Int) ρ => ρ 9 = (Sl.v x.1) ∧ ρ 10 = (Value.int .i64 x.2.1) ∧ ρ 35 = (Value.int .i64 x.2.2) ∧ ρ 2 = (Value.int .i64 p2) ∧ ρ 3 = (Value.pointer (some (Addr.mk b9 0 none))) ∧ ρ 33 = (Sl.v r42) ∧ ρ 34 = (Value.int .i64 (r42.len : Int)) ∧ True) I44 μ44 (Sl.nil, 0, 0) ⟨e9, e10, rfl, e2, e3, rfl, rfl, trivial⟩ hI44 ?_
    rintro l44 ρ w7 ⟨e9, e10, e35, e2, e3, e33, e34, -⟩ h
    replace h := hr44 l44 w7 h
    clear hr44 hI44
    refine wpC_seq ?_
    refine wpC_region ?_
    refine rv (Value.bool (decide (l44.2.2 < (r42.len : Int)))) w7 rfl rfl rfl (x_lss rfl e35 e34) ?_
    refine wpR_nil ?_
    refine wpC_seq ?_
    refine wpC_cond (b := decide (l44.2.2 < (r42.len : Int))) rfl (fun hc45 => ?_) (fun hc45 => ?_)
    · replace h := h.1 hc45
      refine wpC_skip ?_
      refine wpC_seq ?_
      refine wpC_block ?_
      refine wpC_seq ?_
      refine wpC_cut (fun ρ => ρ 2 = (Value.int .i64 p2) ∧ ρ 3 = (Value.pointer (some (Addr.mk b9 0 none))) ∧ ρ 9 = (Sl.v l44.1) ∧ ρ 10 = (Value.int .i64 l44.2.1) ∧ ρ 33 = (Sl.v r42) ∧ ρ 34 = (Value.int .i64 (r42.len : Int)) ∧ ρ 35 = (Value.int .i64 l44.2.2) ∧ True) ⟨e2, e3, e9, e10, e33, e34, e35, trivial⟩ ?_
      rintro ρ ⟨e2, e3, e9, e10, e33, e34, e35, -⟩
      refine wpC_region ?_
      obtain ⟨q46, z46, r46, h⟩ := h
      generalize hp46 : z46.add ((l44.2.2 : Int).toNat * 3) = p46 at h
      refine rv (Value.pointer (some p46)) w7 rfl rfl rfl ((x_indexAddr (s := r42) rfl e33 e35 ES_101 q46 r46).trans (by rw [hp46])) ?_
      obtain ⟨x47, q47, x48, q48, x49, q49, h⟩ := h
      refine rv (Value.agg #[(Value.int .i64 x47), (Value.int .i64 x48), (Value.int .i64 x49)]) w7 rfl rfl rfl (x_loadN [(Value.int .i64 x47), (Value.int .i64 x48), (Value.int .i64 x49)] rfl rfl SH_103 (CellsAt.out (CellsAt.cons q47 (CellsAt.cons q48 (CellsAt.cons q49 CellsAt.nil))))) ?_
      obtain ⟨b50, hb50⟩ : ∃ u, u = w7.heap.size := ⟨_, rfl⟩
      obtain ⟨w8, hw50⟩ : ∃ u, u = w7.alloc (.cells #[(Value.int .i64 0), (Value.int .i64 0), (Value.int .i64 0)] 103) := ⟨_, rfl⟩
      replace h := h b50 w8 hb50 hw50
      refine rv (Value.pointer (some (Addr.mk b50 0 none))) w8 rfl rfl rfl ((x_alloc rfl ZV_103).trans (by rw [hb50, hw50]; rfl)) ?_
      obtain ⟨q51, h⟩ := h
      obtain ⟨w9, hw51⟩ : ∃ u, u = setAll w8 (Addr.mk b50 0 none) [(Value.int .i64 x47), (Value.int .i64 x48), (Value.int .i64 x49)] 0 := ⟨_, rfl⟩
      replace h := h w9 hw51
      refine wpR_skp (w' := w9) rfl rfl ((x_store (v := (Value.agg #[(Value.int .i64 x47), (Value.int .i64 x48), (Value.int .i64 x49)])) rfl rfl rfl SZ_103 (ones (by rfl)) q51).trans (by rw [hw51]; rfl)) ?_
      refine wpR_nil ?_
      refine wpC_seq ?_
      refine wpC_cut (fun ρ => ρ 2 = (Value.int .i64 p2) ∧ ρ 3 = (Value.pointer (some (Addr.mk b9 0 none))) ∧ ρ 9 = (Sl.v l44.1) ∧ ρ 10 = (Value.int .i64 l44.2.1) ∧ ρ 12 = (Value.pointer (some (Addr.mk b50 0 none))) ∧ ρ 33 = (Sl.v r42) ∧ ρ 34 = (Value.int .i64 (r42.len : Int)) ∧ ρ 35 = (Value.int .i64 l44.2.2) ∧ True) ⟨e2, e3, e9, e10, rfl, e33, e34, e35, trivial⟩ ?_
      rintro ρ ⟨e2, e3, e9, e10, e12, e33, e34, e35, -⟩
      refine wpC_region ?_
      refine rv (Value.int .i64 l44.2.1) w9 rfl rfl rfl (x_move rfl e10) ?_
      refine rv (Value.pointer (some ((Addr.mk b50 0 none).add 1))) w9 rfl rfl rfl (x_fieldAddr rfl e12 FA_103_1) ?_
      obtain ⟨x52, q52, h⟩ := h
      refine rv (Value.int .i64 x52) w9 rfl rfl rfl (x_load1 rfl rfl SH_3 q52) ?_
      refine rv (Value.int .i64 (IntKind.i64.wrap (l44.2.1 + x52))) w9 rfl rfl rfl (x_add rfl rfl rfl) ?_
      refine rv (Value.int .i64 (IntKind.i64.wrap (l44.2.1 + x52))) w9 rfl rfl rfl (x_assign rfl rfl) ?_
      refine wpR_nil ?_
      refine wpC_cut (fun ρ => ρ 2 = (Value.int .i64 p2) ∧ ρ 3 = (Value.pointer (some (Addr.mk b9 0 none))) ∧ ρ 9 = (Sl.v l44.1) ∧ ρ 10 = (Value.int .i64 (IntKind.i64.wrap (l44.2.1 + x52))) ∧ ρ 12 = (Value.pointer (some (Addr.mk b50 0 none))) ∧ ρ 33 = (Sl.v r42) ∧ ρ 34 = (Value.int .i64 (r42.len : Int)) ∧ ρ 35 = (Value.int .i64 l44.2.2) ∧ True) ⟨e2, e3, e9, rfl, e12, e33, e34, e35, trivial⟩ ?_
      rintro ρ ⟨e2, e3, e9, e10, e12, e33, e34, e35, -⟩
      obtain ⟨J54, h, hk⟩ := h
      refine wpC_drawJ (by kernel_rfl) (fun (x : Sl) ρ => ρ 9 = (Sl.v x) ∧ ρ 2 = (Value.int .i64 p2) ∧ ρ 3 = (Value.pointer (some (Addr.mk b9 0 none))) ∧ ρ 10 = (Value.int .i64 (IntKind.i64.wrap (l44.2.1 + x52))) ∧ ρ 33 = (Sl.v r42) ∧ ρ 34 = (Value.int .i64 (r42.len : Int)) ∧ ρ 35 = (Value.int .i64 l44.2.2) ∧ True) J54 ?_ ?_
      · clear hk
        unfold tk at h
        generalize w9.drew = w10 at h ⊢
        refine wpD_take (v := (Sl.v l44.1)) 0 (fun _ => True) rfl (by kernel_rfl) (by kernel_rfl) (by kernel_rfl) rfl rfl rfl trivial (fun w _ => (x_move (v := (Sl.v l44.1)) rfl e9)) ?_
        obtain ⟨x55, q55, x56, q56, x57, q57, h⟩ := h
        refine wpD_take (v := (Value.agg #[(Value.int .i64 x55), (Value.int .i64 x56), (Value.int .i64 x57)])) 1 (fun w => w.cell? ((Addr.mk b50 0 none).add 0) = some (Value.int .i64 x55) ∧ w.cell? ((Addr.mk b50 0 none).add 1) = some (Value.int .i64 x56) ∧ w.cell? ((Addr.mk b50 0 none).add 2) = some (Value.int .i64 x57)) rfl (by kernel_rfl) (by kernel_rfl) (by kernel_rfl) rfl rfl rfl ⟨q55, q56, q57⟩ (fun w ⟨q55, q56, q57⟩ => (x_loadN [(Value.int .i64 x55), (Value.int .i64 x56), (Value.int .i64 x57)] rfl e12 SH_103 (CellsAt.out (CellsAt.cons q55 (CellsAt.cons q56 (CellsAt.cons q57 CellsAt.nil)))))) ?_
        refine wpD_take (v := (Value.int .i64 (IntKind.i64.wrap (l44.2.1 + x52)))) 2 (fun _ => True) rfl (by kernel_rfl) (by kernel_rfl) (by kernel_rfl) rfl rfl rfl trivial (fun w _ => (x_move (v := (Value.int .i64 (IntKind.i64.wrap (l44.2.1 + x52)))) rfl e10)) ?_
        obtain ⟨x58, q58, x59, q59, x60, q60, x61, q61, x62, q62, x63, q63, x64, q64, x65, q65, x66, q66, x67, q67, x68, q68, x69, q69, x70, q70, x71, q71, x72, q72, x73, q73, x74, q74, x75, q75, x76, q76, x77, q77, x78, q78, x79, q79, h⟩ := h
        refine wpD_take (v := (V64 x58 x59 x60 x61 x62 x63 x64 x65 x66 x67 x68 x69 x70 x71 x72 x73 x74 x75 x76 x77 x78 x79)) 3 (fun w => C64 (Addr.mk b9 0 none) x58 x59 x60 x61 x62 x63 x64 x65 x66 x67 x68 x69 x70 x71 x72 x73 x74 x75 x76 x77 x78 x79 w) rfl (by kernel_rfl) (by kernel_rfl) (by kernel_rfl) rfl rfl rfl ⟨q58, q59, q60, q61, q62, q63, q64, q65, q66, q67, q68, q69, q70, q71, q72, q73, q74, q75, q76, q77, q78, q79⟩ (fun w q => (x_loadN (S64 x58 x59 x60 x61 x62 x63 x64 x65 x66 x67 x68 x69 x70 x71 x72 x73 x74 x75 x76 x77 x78 x79) rfl e3 SH_65 (K64 q))) ?_
        refine wpD_take (v := (Value.int .i64 p2)) 4 (fun _ => True) rfl (by kernel_rfl) (by kernel_rfl) (by kernel_rfl) rfl rfl rfl trivial (fun w _ => (x_move (v := (Value.int .i64 p2)) rfl e2)) ?_
        refine wpD_take (v := (Value.pointer (some ((Addr.mk b50 0 none).add 2)))) 5 (fun _ => True) rfl (by kernel_rfl) (by kernel_rfl) (by kernel_rfl) rfl rfl rfl trivial (fun w _ => (x_fieldAddr rfl e12 FA_103_2)) ?_
        obtain ⟨x80, q80, h⟩ := h
        refine wpD_take (v := (Value.int .i64 x80)) 6 (fun w => w.cell? ((Addr.mk b50 0 none).add 2) = some (Value.int .i64 x80)) rfl (by kernel_rfl) (by kernel_rfl) (by kernel_rfl) rfl rfl rfl q80 (fun w q80 => (x_load1 rfl rfl SH_3 q80)) ?_
        refine wpD_all (rs := [7]) (by kernel_rfl) (by simp) (allD_cons ?_ allD_nil)
        refine stepD_enterL (L' := [(5, fun _ => True), (2, fun _ => True), (1, fun w => w.cell? ((Addr.mk b50 0 none).add 0) = some (Value.int .i64 x55) ∧ w.cell? ((Addr.mk b50 0 none).add 1) = some (Value.int .i64 x56) ∧ w.cell? ((Addr.mk b50 0 none).add 2) = some (Value.int .i64 x57)), (0, fun _ => True)]) rfl rfl rfl rfl (x_call (vs := [(V64 x58 x59 x60 x61 x62 x63 x64 x65 x66 x67 x68 x69 x70 x71 x72 x73 x74 x75 x76 x77 x78 x79), (Value.int .i64 p2), (Value.int .i64 x80)]) rfl rfl (mapl_cons rfl (mapl_cons rfl (mapl_cons rfl mapl_nil))) Tryz.func88 NN_88 NB_88) (by kernel_rfl) (Calls.mono h ?_)
        rintro _ w11 ⟨r81, rfl, h⟩
        obtain ⟨o1, h⟩ := h
        refine ⟨_, rfl, (held_cons trivial (held_cons trivial (held_cons o1 (held_cons trivial held_nil)))), ?_⟩
        refine wpD_take (v := (Value.agg #[(Value.int .i64 x55), (Value.int .i64 x56), (Value.int .i64 x57), (Value.int .i64 (IntKind.i64.wrap (l44.2.1 + x52))), (Value.int .i64 r81)])) 8 (fun _ => True) rfl (by kernel_rfl) (by kernel_rfl) (by kernel_rfl) rfl rfl rfl trivial (fun w _ => (x_build (qs := [(0, (Value.agg #[(Value.int .i64 x55), (Value.int .i64 x56), (Value.int .i64 x57)])), (1, (Value.int .i64 (IntKind.i64.wrap (l44.2.1 + x52)))), (2, (Value.int .i64 r81))]) rfl (by rfl) (BD_125_0_1_2 x55 x56 x57 (IntKind.i64.wrap (l44.2.1 + x52)) r81 _))) ?_
        refine wpD_all (rs := [9]) (by kernel_rfl) (by simp) (allD_cons ?_ allD_nil)
        obtain ⟨b82, hb82⟩ : ∃ u, u = w11.heap.size := ⟨_, rfl⟩
        obtain ⟨w12, hw82⟩ : ∃ u, u = w11.alloc (.cells #[(Value.int .i64 x55), (Value.int .i64 x56), (Value.int .i64 x57), (Value.int .i64 (IntKind.i64.wrap (l44.2.1 + x52))), (Value.int .i64 r81)] 125) := ⟨_, rfl⟩
        replace h := h b82 w12 hb82 hw82
        obtain ⟨o1, h⟩ := h
        refine stepD_valL (L' := [(5, fun _ => True), (2, fun _ => True), (1, fun w => w.cell? ((Addr.mk b50 0 none).add 0) = some (Value.int .i64 x55) ∧ w.cell? ((Addr.mk b50 0 none).add 1) = some (Value.int .i64 x56) ∧ w.cell? ((Addr.mk b50 0 none).add 2) = some (Value.int .i64 x57)), (0, fun _ => True)]) (v := (Sl.v (⟨some ⟨b82, 0, none⟩, 1, 1⟩ : Sl))) (w' := w12) rfl rfl rfl rfl ((x_buildSlice (qs := [(0, (Value.agg #[(Value.int .i64 x55), (Value.int .i64 x56), (Value.int .i64 x57), (Value.int .i64 (IntKind.i64.wrap (l44.2.1 + x52))), (Value.int .i64 r81)]))]) rfl (by rfl) (BS_121_1_0 x55 x56 x57 (IntKind.i64.wrap (l44.2.1 + x52)) r81)).trans (by rw [← hb82, ← hw82])) (by kernel_rfl) (held_cons trivial (held_cons trivial (held_cons o1 (held_cons trivial held_nil)))) ?_
        refine wpD_all (rs := [10]) (by kernel_rfl) (by simp) (allD_cons ?_ allD_nil)
        obtain ⟨r83, w13, q83, h⟩ := h
        obtain ⟨o1, h⟩ := h
        refine stepD_valL (L' := [(5, fun _ => True), (2, fun _ => True), (1, fun w => w.cell? ((Addr.mk b50 0 none).add 0) = some (Value.int .i64 x55) ∧ w.cell? ((Addr.mk b50 0 none).add 1) = some (Value.int .i64 x56) ∧ w.cell? ((Addr.mk b50 0 none).add 2) = some (Value.int .i64 x57))]) (v := (Sl.v r83)) (w' := w13) rfl rfl rfl rfl (x_append (s := l44.1) (u := (⟨some ⟨b82, 0, none⟩, 1, 1⟩ : Sl)) rfl rfl rfl rfl q83) (by kernel_rfl) (held_cons trivial (held_cons trivial (held_cons o1 held_nil))) ?_
        refine wpD_take (v := (Sl.v r83)) 11 (fun _ => True) rfl (by kernel_rfl) (by kernel_rfl) (by kernel_rfl) rfl rfl rfl trivial (fun w _ => (x_assign (v := (Sl.v r83)) rfl rfl)) ?_
        exact wpD_done (by kernel_rfl) ⟨r83, ⟨rfl, e2, e3, e10, e33, e34, e35, trivial⟩, h⟩
      clear h
      rintro l84 ρ w14 ⟨e9, e2, e3, e10, e33, e34, e35, -⟩ h
      replace h := hk l84 w14 h
      clear hk
      refine wpC_region ?_
      refine rv (Value.int .i64 (IntKind.i64.wrap (l44.2.2 + 1))) w14 rfl rfl rfl (x_add rfl e35 rfl) ?_
      refine rv (Value.int .i64 (IntKind.i64.wrap (l44.2.2 + 1))) w14 rfl rfl rfl (x_move rfl rfl) ?_
      refine wpR_nil ?_
      exact ⟨(l84, IntKind.i64.wrap (l44.2.1 + x52), IntKind.i64.wrap (l44.2.2 + 1)), ⟨e9, e10, rfl, e2, e3, e33, e34, trivial⟩, h⟩
    · replace h := h.2 hc45
      refine wpC_exit ?_
      refine wpC_seq ?_
      refine wpC_cut (fun ρ => ρ 9 = (Sl.v l44.1) ∧ True) ⟨e9, trivial⟩ ?_
      rintro ρ ⟨e9, -⟩
      refine wpC_region ?_
      refine rv (Sl.v l44.1) w7 rfl rfl rfl (x_move rfl e9) ?_
      refine rv (Sl.v l44.1) w7 rfl rfl rfl (x_assign rfl rfl) ?_
      refine rv (Value.bool true) w7 rfl rfl rfl (x_assign rfl rfl) ?_
      refine wpR_nil ?_
      refine wpC_ret ?_
      exact ⟨.inl rfl, fun a ha => ⟨_, results_rep2 rfl ha rfl rfl, (l44.1, true), rfl, h⟩⟩

/-- syntax.Right -/
def F70 (p0_0 : ByteArray) (p0_1 : Int) (p0_2 : Int) (p0_3 : Int) (p0_4 : Bool) (p0_5 : Int) (p0_6 : Bool) (p0_7 : Bool) (p0_8 : Int) (p0_9 : Int) (p0_10 : Int) (p0_11 : Int) (p0_12 : Sl) (p0_13 : Int) (p0_14 : Int) (p0_15 : Int) (p0_16 : Int) (p0_17 : Bool) (p0_18 : Int) (p0_19 : Int) (p0_20 : Int) (p0_21 : Int) (w0 : World) (K : Bool → World → Prop) : Prop :=
  nw 65 (A64 p0_0 p0_1 p0_2 p0_3 p0_4 p0_5 p0_6 p0_7 p0_8 p0_9 p0_10 p0_11 p0_12 p0_13 p0_14 p0_15 p0_16 p0_17 p0_18 p0_19 p0_20 p0_21) w0 fun b9 w1 =>
  ld (Value.int .i64) ((Addr.mk b9 0 none).add 2) w1 fun x10 =>
  ld (Value.int .i64) ((Addr.mk b9 0 none).add 8) w1 fun x11 =>
  ld (Value.int .i64) ((Addr.mk b9 0 none).add 9) w1 fun x12 =>
  ld (Value.int .i64) ((Addr.mk b9 0 none).add 10) w1 fun x13 =>
  ld (Value.int .i64) ((Addr.mk b9 0 none).add 11) w1 fun x14 =>
  ld (Value.int .i64) ((Addr.mk b9 0 none).add 18) w1 fun x15 =>
  ld (Value.int .i64) ((Addr.mk b9 0 none).add 19) w1 fun x16 =>
  ld (Value.int .i64) ((Addr.mk b9 0 none).add 20) w1 fun x17 =>
  ld (Value.int .i64) ((Addr.mk b9 0 none).add 21) w1 fun x18 =>
  nw 3 #[(Value.int .i64 x10), (Value.int .i64 x11), (Value.int .i64 x12), (Value.int .i64 x13), (Value.int .i64 x14), (Value.int .i64 x15), (Value.int .i64 x16), (Value.int .i64 x17), (Value.int .i64 x18)] w1 fun b19 w2 =>
  lp (fun (next20 : Int → World → Prop) l20 w3 =>
    cnd (decide (l20 < ((⟨some ⟨b19, 0, none⟩, 9, 9⟩ : Sl).len : Int)))
      (
      ix (⟨some ⟨b19, 0, none⟩, 9, 9⟩ : Sl) l20 1 fun p22 =>
      ld (Value.int .i64) p22 w3 fun x23 =>
      cnd ((decide (x23 < 0)) || (decide (1073741824 < x23)))
        (
        K false w3
        )
        (
        next20 (IntKind.i64.wrap (l20 + 1)) w3
        )
      )
      (
      ld (Value.int .i64) ((Addr.mk b9 0 none).add 3) w3 fun x27 =>
      ld (Value.int .i64) ((Addr.mk b9 0 none).add 5) w3 fun x28 =>
      ld (Value.int .i64) ((Addr.mk b9 0 none).add 13) w3 fun x29 =>
      ld (Value.int .i64) ((Addr.mk b9 0 none).add 14) w3 fun x30 =>
      ld (Value.int .i64) ((Addr.mk b9 0 none).add 15) w3 fun x31 =>
      ld (Value.int .i64) ((Addr.mk b9 0 none).add 16) w3 fun x32 =>
      nw 83 #[(Value.int .i64 x27), (Value.int .i64 3), (Value.int .i64 x28), (Value.int .i64 3), (Value.int .i64 x29), (Value.int .i64 3), (Value.int .i64 x30), (Value.int .i64 2), (Value.int .i64 x31), (Value.int .i64 2), (Value.int .i64 x32), (Value.int .i64 5)] w3 fun b33 w4 =>
      lp (fun (next34 : Int → World → Prop) l34 w5 =>
        cnd (decide (l34 < ((⟨some ⟨b33, 0, none⟩, 6, 6⟩ : Sl).len : Int)))
          (
          ix (⟨some ⟨b33, 0, none⟩, 6, 6⟩ : Sl) l34 2 fun p36 =>
          ld (Value.int .i64) (p36.add 0) w5 fun x37 =>
          ld (Value.int .i64) (p36.add 1) w5 fun x38 =>
          nw 83 #[(Value.int .i64 0), (Value.int .i64 0)] w5 fun b39 w6 =>
          st (Addr.mk b39 0 none) [(Value.int .i64 x37), (Value.int .i64 x38)] w6 fun w7 =>
          rn Tryz.prog (Instr.indexAt 83 (Value.pointer (some (Addr.mk b39 0 none))) (Value.int .i64 0)) (fun a : Addr => Value.pointer (some a)) w7 fun p41 w8 =>
          ld (Value.int .i64) p41 w8 fun x42 =>
          jn (fun J43 => cnd (decide (x42 < 0))
            (
            J43 true w8
            )
            (
            rn Tryz.prog (Instr.indexAt 83 (Value.pointer (some (Addr.mk b39 0 none))) (Value.int .i64 0)) (fun a : Addr => Value.pointer (some a)) w8 fun p45 w9 =>
            ld (Value.int .i64) p45 w9 fun x46 =>
            rn Tryz.prog (Instr.indexAt 83 (Value.pointer (some (Addr.mk b39 0 none))) (Value.int .i64 1)) (fun a : Addr => Value.pointer (some a)) w9 fun p47 w10 =>
            ld (Value.int .i64) p47 w10 fun x48 =>
            J43 (decide (x48 ≤ x46)) w10
            ))
          fun c49 w11 =>
          cnd (c49)
            (
            K false w11
            )
            (
            next34 (IntKind.i64.wrap (l34 + 1)) w11
            )
          )
          (
          jn (fun (J51 : Bool → World → Prop) =>
            ld Value.string ((Addr.mk b9 0 none).add 0) w5 fun x53 =>
            callC Tryz.prog 89 #[(Value.string x53)] (fun (r : Bool) => (Value.bool r)) w5 fun r54 w13 =>
            cnd (!r54)
              (
              J51 (!r54) w13
              )
              (
              ld (Value.int .i64) ((Addr.mk b9 0 none).add 1) w13 fun x56 =>
              jp (fun J57 => cnd (!decide (x56 = 0))
                (
                ld (Value.int .i64) ((Addr.mk b9 0 none).add 1) w13 fun x59 =>
                J57 (!decide (x59 = 2))
                )
                (
                J57 false
                ))
              fun c60 =>
              cnd (c60)
                (
                J51 c60 w13
                )
                (
                ld (Value.int .i64) ((Addr.mk b9 0 none).add 1) w13 fun x62 =>
                jp (fun J63 => cnd (decide (x62 = 0))
                  (
                  ld (Value.int .i64) ((Addr.mk b9 0 none).add 2) w13 fun x65 =>
                  J63 (decide (0 < x65))
                  )
                  (
                  J63 false
                  ))
                fun c66 =>
                J51 c66 w13
                )
              )
          )
          fun l52 w12 =>
          cnd (l52)
            (
            K false w12
            )
            (
            ld (Value.int .i64) ((Addr.mk b9 0 none).add 10) w12 fun x68 =>
            cnd (decide (x68 = 0))
              (
              ld (Value.int .i64) ((Addr.mk b9 0 none).add 11) w12 fun x70 =>
              jp (fun J71 => cnd (decide (x70 = 0))
                (
                ld Sl.v ((Addr.mk b9 0 none).add 12) w12 fun x73 =>
                J71 (decide ((x73.len : Int) = 0))
                )
                (
                J71 false
                ))
              fun c74 =>
              K c74 w12
              )
              (
              ld Sl.v ((Addr.mk b9 0 none).add 12) w12 fun x75 =>
              jp (fun J76 => cnd (decide (1 ≤ (x75.len : Int)))
                (
                ld Sl.v ((Addr.mk b9 0 none).add 12) w12 fun x78 =>
                J76 (decide ((x78.len : Int) ≤ 20))
                )
                (
                J76 false
                ))
              fun c79 =>
              jn (fun J80 => cnd (c79)
                (
                ld Sl.v ((Addr.mk b9 0 none).add 12) w12 fun x82 =>
                callC Tryz.prog 90 #[(Sl.v x82), (Value.func (.func 91) #[] #[])] (fun (r : Bool) => (Value.bool r)) w12 fun r83 w14 =>
                J80 (!r83) w14
                )
                (
                J80 false w12
                ))
              fun c84 w15 =>
              K c84 w15
              )
            )
          )
      ) 0 w4
      )
  ) 0 w2
set_option maxRecDepth 100000 in
theorem D70 (p0_0 : ByteArray) (p0_1 : Int) (p0_2 : Int) (p0_3 : Int) (p0_4 : Bool) (p0_5 : Int) (p0_6 : Bool) (p0_7 : Bool) (p0_8 : Int) (p0_9 : Int) (p0_10 : Int) (p0_11 : Int) (p0_12 : Sl) (p0_13 : Int) (p0_14 : Int) (p0_15 : Int) (p0_16 : Int) (p0_17 : Bool) (p0_18 : Int) (p0_19 : Int) (p0_20 : Int) (p0_21 : Int) (w0 : World) (K : Bool → World → Prop) (h : F70 p0_0 p0_1 p0_2 p0_3 p0_4 p0_5 p0_6 p0_7 p0_8 p0_9 p0_10 p0_11 p0_12 p0_13 p0_14 p0_15 p0_16 p0_17 p0_18 p0_19 p0_20 p0_21 w0 K) : callC Tryz.prog 70 #[(V64 p0_0 p0_1 p0_2 p0_3 p0_4 p0_5 p0_6 p0_7 p0_8 p0_9 p0_10 p0_11 p0_12 p0_13 p0_14 p0_15 p0_16 p0_17 p0_18 p0_19 p0_20 p0_21)] (fun (r : Bool) => (Value.bool r)) w0 K := by
  unfold F70 at h
  refine calls_of_wpC Tryz.func70 rfl 123 rfl (by simp) ?_
  intro ρ hρ
  have e0 : ρ 0 = (V64 p0_0 p0_1 p0_2 p0_3 p0_4 p0_5 p0_6 p0_7 p0_8 p0_9 p0_10 p0_11 p0_12 p0_13 p0_14 p0_15 p0_16 p0_17 p0_18 p0_19 p0_20 p0_21) := hρ 0
  clear hρ
  refine wpC_seq ?_
  refine wpC_region ?_
  obtain ⟨b9, hb9⟩ : ∃ u, u = w0.heap.size := ⟨_, rfl⟩
  obtain ⟨w1, hw9⟩ : ∃ u, u = w0.alloc (.cells (A64 p0_0 p0_1 p0_2 p0_3 p0_4 p0_5 p0_6 p0_7 p0_8 p0_9 p0_10 p0_11 p0_12 p0_13 p0_14 p0_15 p0_16 p0_17 p0_18 p0_19 p0_20 p0_21) 65) := ⟨_, rfl⟩
  replace h := h b9 w1 hb9 hw9
  refine rv (Value.pointer (some (Addr.mk b9 0 none))) w1 rfl rfl rfl ((x_box (v := (V64 p0_0 p0_1 p0_2 p0_3 p0_4 p0_5 p0_6 p0_7 p0_8 p0_9 p0_10 p0_11 p0_12 p0_13 p0_14 p0_15 p0_16 p0_17 p0_18 p0_19 p0_20 p0_21)) rfl e0).trans (by rw [hb9, hw9]; rfl)) ?_
  refine rv (Value.bool false) w1 rfl rfl rfl (x_assign rfl rfl) ?_
  refine wpR_nil ?_
  refine wpC_seq ?_
  refine wpC_seq ?_
  refine wpC_cut (fun ρ => ρ 1 = (Value.pointer (some (Addr.mk b9 0 none))) ∧ True) ⟨rfl, trivial⟩ ?_
  rintro ρ ⟨e1, -⟩
  refine wpC_region ?_
  refine rv (Value.pointer (some ((Addr.mk b9 0 none).add 2))) w1 rfl rfl rfl (x_fieldAddr rfl e1 FA_65_2) ?_
  obtain ⟨x10, q10, h⟩ := h
  refine rv (Value.int .i64 x10) w1 rfl rfl rfl (x_load1 rfl rfl SH_3 q10) ?_
  refine rv (Value.pointer (some ((Addr.mk b9 0 none).add 8))) w1 rfl rfl rfl (x_fieldAddr rfl e1 FA_65_8) ?_
  obtain ⟨x11, q11, h⟩ := h
  refine rv (Value.int .i64 x11) w1 rfl rfl rfl (x_load1 rfl rfl SH_3 q11) ?_
  refine rv (Value.pointer (some ((Addr.mk b9 0 none).add 9))) w1 rfl rfl rfl (x_fieldAddr rfl e1 FA_65_9) ?_
  obtain ⟨x12, q12, h⟩ := h
  refine rv (Value.int .i64 x12) w1 rfl rfl rfl (x_load1 rfl rfl SH_3 q12) ?_
  refine rv (Value.pointer (some ((Addr.mk b9 0 none).add 10))) w1 rfl rfl rfl (x_fieldAddr rfl e1 FA_65_10) ?_
  obtain ⟨x13, q13, h⟩ := h
  refine rv (Value.int .i64 x13) w1 rfl rfl rfl (x_load1 rfl rfl SH_3 q13) ?_
  refine rv (Value.pointer (some ((Addr.mk b9 0 none).add 11))) w1 rfl rfl rfl (x_fieldAddr rfl e1 FA_65_11) ?_
  obtain ⟨x14, q14, h⟩ := h
  refine rv (Value.int .i64 x14) w1 rfl rfl rfl (x_load1 rfl rfl SH_3 q14) ?_
  refine rv (Value.pointer (some ((Addr.mk b9 0 none).add 18))) w1 rfl rfl rfl (x_fieldAddr rfl e1 FA_65_18) ?_
  obtain ⟨x15, q15, h⟩ := h
  refine rv (Value.int .i64 x15) w1 rfl rfl rfl (x_load1 rfl rfl SH_3 q15) ?_
  refine rv (Value.pointer (some ((Addr.mk b9 0 none).add 19))) w1 rfl rfl rfl (x_fieldAddr rfl e1 FA_65_19) ?_
  obtain ⟨x16, q16, h⟩ := h
  refine rv (Value.int .i64 x16) w1 rfl rfl rfl (x_load1 rfl rfl SH_3 q16) ?_
  refine rv (Value.pointer (some ((Addr.mk b9 0 none).add 20))) w1 rfl rfl rfl (x_fieldAddr rfl e1 FA_65_20) ?_
  obtain ⟨x17, q17, h⟩ := h
  refine rv (Value.int .i64 x17) w1 rfl rfl rfl (x_load1 rfl rfl SH_3 q17) ?_
  refine rv (Value.pointer (some ((Addr.mk b9 0 none).add 21))) w1 rfl rfl rfl (x_fieldAddr rfl e1 FA_65_21) ?_
  obtain ⟨x18, q18, h⟩ := h
  refine rv (Value.int .i64 x18) w1 rfl rfl rfl (x_load1 rfl rfl SH_3 q18) ?_
  obtain ⟨b19, hb19⟩ : ∃ u, u = w1.heap.size := ⟨_, rfl⟩
  obtain ⟨w2, hw19⟩ : ∃ u, u = w1.alloc (.cells #[(Value.int .i64 x10), (Value.int .i64 x11), (Value.int .i64 x12), (Value.int .i64 x13), (Value.int .i64 x14), (Value.int .i64 x15), (Value.int .i64 x16), (Value.int .i64 x17), (Value.int .i64 x18)] 3) := ⟨_, rfl⟩
  replace h := h b19 w2 hb19 hw19
  refine rv (Sl.v (⟨some ⟨b19, 0, none⟩, 9, 9⟩ : Sl)) w2 rfl rfl rfl ((x_buildSlice (qs := [(0, (Value.int .i64 x10)), (1, (Value.int .i64 x11)), (2, (Value.int .i64 x12)), (3, (Value.int .i64 x13)), (4, (Value.int .i64 x14)), (5, (Value.int .i64 x15)), (6, (Value.int .i64 x16)), (7, (Value.int .i64 x17)), (8, (Value.int .i64 x18))]) rfl (by rfl) (BS_39_9_0_1_2_3_4_5_6_7_8 x10 x11 x12 x13 x14 x15 x16 x17 x18)).trans (by rw [← hb19, ← hw19])) ?_
  refine rv (Value.int .i64 ((⟨some ⟨b19, 0, none⟩, 9, 9⟩ : Sl).len : Int)) w2 rfl rfl rfl (x_lenS (s := (⟨some ⟨b19, 0, none⟩, 9, 9⟩ : Sl)) rfl rfl isSliceT_39) ?_
  refine rv (Value.int .i64 0) w2 rfl rfl rfl (x_move rfl rfl) ?_
  refine wpR_nil ?_
  refine wpC_block ?_
  obtain ⟨I20, μ20, hI20, hr20⟩ := h
  refine wpC_loop (fun (x : Int) ρ => ρ 27 = (Value.int .i64 x) ∧ ρ 1 = (Value.pointer (some (Addr.mk b9 0 none))) ∧ ρ 25 = (Sl.v (⟨some ⟨b19, 0, none⟩, 9, 9⟩ : Sl)) ∧ ρ 26 = (Value.int .i64 ((⟨some ⟨b19, 0, none⟩, 9, 9⟩ : Sl).len : Int)) ∧ True) I20 μ20 0 ⟨rfl, e1, rfl, rfl, trivial⟩ hI20 ?_
  rintro l20 ρ w3 ⟨e27, e1, e25, e26, -⟩ h
  replace h := hr20 l20 w3 h
  clear hr20 hI20
  refine wpC_seq ?_
  refine wpC_region ?_
  refine rv (Value.bool (decide (l20 < ((⟨some ⟨b19, 0, none⟩, 9, 9⟩ : Sl).len : Int)))) w3 rfl rfl rfl (x_lss rfl e27 e26) ?_
  refine wpR_nil ?_
  refine wpC_seq ?_
  refine wpC_cond (b := decide (l20 < ((⟨some ⟨b19, 0, none⟩, 9, 9⟩ : Sl).len : Int))) rfl (fun hc21 => ?_) (fun hc21 => ?_)
  · replace h := h.1 hc21
    refine wpC_skip ?_
    refine wpC_seq ?_
    refine wpC_block ?_
    refine wpC_seq ?_
    refine wpC_cut (fun ρ => ρ 1 = (Value.pointer (some (Addr.mk b9 0 none))) ∧ ρ 25 = (Sl.v (⟨some ⟨b19, 0, none⟩, 9, 9⟩ : Sl)) ∧ ρ 26 = (Value.int .i64 ((⟨some ⟨b19, 0, none⟩, 9, 9⟩ : Sl).len : Int)) ∧ ρ 27 = (Value.int .i64 l20) ∧ True) ⟨e1, e25, e26, e27, trivial⟩ ?_
    rintro ρ ⟨e1, e25, e26, e27, -⟩
    refine wpC_region ?_
    obtain ⟨q22, z22, r22, h⟩ := h
    generalize hp22 : z22.add ((l20 : Int).toNat * 1) = p22 at h
    refine rv (Value.pointer (some p22)) w3 rfl rfl rfl ((x_indexAddr (s := (⟨some ⟨b19, 0, none⟩, 9, 9⟩ : Sl)) rfl e25 e27 ES_39 q22 r22).trans (by rw [hp22])) ?_
    obtain ⟨x23, q23, h⟩ := h
    refine rv (Value.int .i64 x23) w3 rfl rfl rfl (x_load1 rfl rfl SH_3 q23) ?_
    refine rv (Value.int .i64 x23) w3 rfl rfl rfl (x_assign rfl rfl) ?_
    refine wpR_nil ?_
    refine wpC_seq ?_
    refine wpC_cut (fun ρ => ρ 1 = (Value.pointer (some (Addr.mk b9 0 none))) ∧ ρ 4 = (Value.int .i64 x23) ∧ ρ 25 = (Sl.v (⟨some ⟨b19, 0, none⟩, 9, 9⟩ : Sl)) ∧ ρ 26 = (Value.int .i64 ((⟨some ⟨b19, 0, none⟩, 9, 9⟩ : Sl).len : Int)) ∧ ρ 27 = (Value.int .i64 l20) ∧ True) ⟨e1, rfl, e25, e26, e27, trivial⟩ ?_
    rintro ρ ⟨e1, e4, e25, e26, e27, -⟩
    refine wpC_region ?_
    refine rv (Value.int .i64 x23) w3 rfl rfl rfl (x_move rfl e4) ?_
    refine rv (Value.bool (decide (x23 < 0))) w3 rfl rfl rfl (x_lss rfl rfl rfl) ?_
    refine rv (Value.bool (decide (x23 < 0))) w3 rfl rfl rfl (x_move rfl rfl) ?_
    refine wpR_joinJ 3 (fun (_ : Unit) ρ => ρ 36 = Value.bool ((decide (x23 < 0)) || (decide (1073741824 < x23))) ∧ ρ 1 = (Value.pointer (some (Addr.mk b9 0 none))) ∧ ρ 25 = (Sl.v (⟨some ⟨b19, 0, none⟩, 9, 9⟩ : Sl)) ∧ ρ 26 = (Value.int .i64 ((⟨some ⟨b19, 0, none⟩, 9, 9⟩ : Sl).len : Int)) ∧ ρ 27 = (Value.int .i64 l20) ∧ True) (fun _ w => w3 = w) ?_ ?_
    · clear h
      rcases Bool.eq_false_or_eq_true (decide (x23 < 0)) with hc25 | hc25
      · skip
        refine wpR_pass (wantN rfl rfl rfl hc25) rfl rfl ?_
        refine wpR_pass (wantN rfl rfl rfl hc25) rfl rfl ?_
        refine rv (Value.bool true) w3 rfl rfl rfl (x_pickT (v := (Value.bool true)) rfl rfl hc25 rfl) ?_
        refine wpR_nil ?_
        exact ⟨(), ⟨(by rw [hc25]; rfl), e1, e25, e26, e27, trivial⟩, rfl⟩
      · skip
        refine wpR_val (v := (Value.int .i64 x23)) (w' := w3) (wantG rfl rfl rfl hc25) rfl rfl (x_move rfl e4) ?_
        refine wpR_val (v := (Value.bool (decide (1073741824 < x23)))) (w' := w3) (wantG rfl rfl rfl hc25) rfl rfl (x_gtr rfl rfl rfl) ?_
        refine rv (Value.bool (decide (1073741824 < x23))) w3 rfl rfl rfl (x_pickF (v := (Value.bool (decide (1073741824 < x23)))) rfl rfl hc25 rfl) ?_
        refine wpR_nil ?_
        exact ⟨(), ⟨(by rw [hc25]; rfl), e1, e25, e26, e27, trivial⟩, rfl⟩
    rintro _ ρ wj ⟨e36, e1, e25, e26, e27, -⟩ rfl
    refine wpR_nil ?_
    refine wpC_cond (b := (decide (x23 < 0)) || (decide (1073741824 < x23))) e36 (fun hc26 => ?_) (fun hc26 => ?_)
    · replace h := h.1 hc26
      refine wpC_seq ?_
      refine wpC_region ?_
      refine rv (Value.bool false) w3 rfl rfl rfl (x_assign rfl rfl) ?_
      refine wpR_nil ?_
      refine wpC_ret ?_
      exact ⟨.inl rfl, fun a ha => ⟨_, results_rep1 rfl ha rfl, false, rfl, h⟩⟩
    · replace h := h.2 hc26
      refine wpC_skip ?_
      refine wpC_region ?_
      refine rv (Value.int .i64 (IntKind.i64.wrap (l20 + 1))) w3 rfl rfl rfl (x_add rfl e27 rfl) ?_
      refine rv (Value.int .i64 (IntKind.i64.wrap (l20 + 1))) w3 rfl rfl rfl (x_move rfl rfl) ?_
      refine wpR_nil ?_
      exact ⟨IntKind.i64.wrap (l20 + 1), ⟨rfl, e1, e25, e26, trivial⟩, h⟩
  · replace h := h.2 hc21
    refine wpC_exit ?_
    refine wpC_seq ?_
    refine wpC_seq ?_
    refine wpC_cut (fun ρ => ρ 1 = (Value.pointer (some (Addr.mk b9 0 none))) ∧ True) ⟨e1, trivial⟩ ?_
    rintro ρ ⟨e1, -⟩
    refine wpC_region ?_
    refine rv (Value.pointer (some ((Addr.mk b9 0 none).add 3))) w3 rfl rfl rfl (x_fieldAddr rfl e1 FA_65_3) ?_
    obtain ⟨x27, q27, h⟩ := h
    refine rv (Value.int .i64 x27) w3 rfl rfl rfl (x_load1 rfl rfl SH_3 q27) ?_
    refine rv (Value.agg #[(Value.int .i64 x27), (Value.int .i64 3)]) w3 rfl rfl rfl (x_build (qs := [(0, (Value.int .i64 x27)), (1, (Value.int .i64 3))]) rfl (by rfl) (BD_83_0_1 x27 3 _)) ?_
    refine rv (Value.pointer (some ((Addr.mk b9 0 none).add 5))) w3 rfl rfl rfl (x_fieldAddr rfl e1 FA_65_5) ?_
    obtain ⟨x28, q28, h⟩ := h
    refine rv (Value.int .i64 x28) w3 rfl rfl rfl (x_load1 rfl rfl SH_3 q28) ?_
    refine rv (Value.agg #[(Value.int .i64 x28), (Value.int .i64 3)]) w3 rfl rfl rfl (x_build (qs := [(0, (Value.int .i64 x28)), (1, (Value.int .i64 3))]) rfl (by rfl) (BD_83_0_1 x28 3 _)) ?_
    refine rv (Value.pointer (some ((Addr.mk b9 0 none).add 13))) w3 rfl rfl rfl (x_fieldAddr rfl e1 FA_65_13) ?_
    obtain ⟨x29, q29, h⟩ := h
    refine rv (Value.int .i64 x29) w3 rfl rfl rfl (x_load1 rfl rfl SH_3 q29) ?_
    refine rv (Value.agg #[(Value.int .i64 x29), (Value.int .i64 3)]) w3 rfl rfl rfl (x_build (qs := [(0, (Value.int .i64 x29)), (1, (Value.int .i64 3))]) rfl (by rfl) (BD_83_0_1 x29 3 _)) ?_
    refine rv (Value.pointer (some ((Addr.mk b9 0 none).add 14))) w3 rfl rfl rfl (x_fieldAddr rfl e1 FA_65_14) ?_
    obtain ⟨x30, q30, h⟩ := h
    refine rv (Value.int .i64 x30) w3 rfl rfl rfl (x_load1 rfl rfl SH_3 q30) ?_
    refine rv (Value.agg #[(Value.int .i64 x30), (Value.int .i64 2)]) w3 rfl rfl rfl (x_build (qs := [(0, (Value.int .i64 x30)), (1, (Value.int .i64 2))]) rfl (by rfl) (BD_83_0_1 x30 2 _)) ?_
    refine rv (Value.pointer (some ((Addr.mk b9 0 none).add 15))) w3 rfl rfl rfl (x_fieldAddr rfl e1 FA_65_15) ?_
    obtain ⟨x31, q31, h⟩ := h
    refine rv (Value.int .i64 x31) w3 rfl rfl rfl (x_load1 rfl rfl SH_3 q31) ?_
    refine rv (Value.agg #[(Value.int .i64 x31), (Value.int .i64 2)]) w3 rfl rfl rfl (x_build (qs := [(0, (Value.int .i64 x31)), (1, (Value.int .i64 2))]) rfl (by rfl) (BD_83_0_1 x31 2 _)) ?_
    refine rv (Value.pointer (some ((Addr.mk b9 0 none).add 16))) w3 rfl rfl rfl (x_fieldAddr rfl e1 FA_65_16) ?_
    obtain ⟨x32, q32, h⟩ := h
    refine rv (Value.int .i64 x32) w3 rfl rfl rfl (x_load1 rfl rfl SH_3 q32) ?_
    refine rv (Value.agg #[(Value.int .i64 x32), (Value.int .i64 5)]) w3 rfl rfl rfl (x_build (qs := [(0, (Value.int .i64 x32)), (1, (Value.int .i64 5))]) rfl (by rfl) (BD_83_0_1 x32 5 _)) ?_
    obtain ⟨b33, hb33⟩ : ∃ u, u = w3.heap.size := ⟨_, rfl⟩
    obtain ⟨w4, hw33⟩ : ∃ u, u = w3.alloc (.cells #[(Value.int .i64 x27), (Value.int .i64 3), (Value.int .i64 x28), (Value.int .i64 3), (Value.int .i64 x29), (Value.int .i64 3), (Value.int .i64 x30), (Value.int .i64 2), (Value.int .i64 x31), (Value.int .i64 2), (Value.int .i64 x32), (Value.int .i64 5)] 83) := ⟨_, rfl⟩
    replace h := h b33 w4 hb33 hw33
    refine rv (Sl.v (⟨some ⟨b33, 0, none⟩, 6, 6⟩ : Sl)) w4 rfl rfl rfl ((x_buildSlice (qs := [(0, (Value.agg #[(Value.int .i64 x27), (Value.int .i64 3)])), (1, (Value.agg #[(Value.int .i64 x28), (Value.int .i64 3)])), (2, (Value.agg #[(Value.int .i64 x29), (Value.int .i64 3)])), (3, (Value.agg #[(Value.int .i64 x30), (Value.int .i64 2)])), (4, (Value.agg #[(Value.int .i64 x31), (Value.int .i64 2)])), (5, (Value.agg #[(Value.int .i64 x32), (Value.int .i64 5)]))]) rfl (by rfl) (BS_36_6_0_1_2_3_4_5 x27 3 x28 3 x29 3 x30 2 x31 2 x32 5)).trans (by rw [← hb33, ← hw33])) ?_
    refine rv (Value.int .i64 ((⟨some ⟨b33, 0, none⟩, 6, 6⟩ : Sl).len : Int)) w4 rfl rfl rfl (x_lenS (s := (⟨some ⟨b33, 0, none⟩, 6, 6⟩ : Sl)) rfl rfl isSliceT_36) ?_
    refine rv (Value.int .i64 0) w4 rfl rfl rfl (x_move rfl rfl) ?_
    refine wpR_nil ?_
    refine wpC_block ?_
    obtain ⟨I34, μ34, hI34, hr34⟩ := h
    refine wpC_loop (fun (x : Int) ρ => ρ 58 = (Value.int .i64 x) ∧ ρ 1 = (Value.pointer (some (Addr.mk b9 0 none))) ∧ ρ 56 = (Sl.v (⟨some ⟨b33, 0, none⟩, 6, 6⟩ : Sl)) ∧ ρ 57 = (Value.int .i64 ((⟨some ⟨b33, 0, none⟩, 6, 6⟩ : Sl).len : Int)) ∧ True) I34 μ34 0 ⟨rfl, e1, rfl, rfl, trivial⟩ hI34 ?_
    rintro l34 ρ w5 ⟨e58, e1, e56, e57, -⟩ h
    replace h := hr34 l34 w5 h
    clear hr34 hI34
    refine wpC_seq ?_
    refine wpC_region ?_
    refine rv (Value.bool (decide (l34 < ((⟨some ⟨b33, 0, none⟩, 6, 6⟩ : Sl).len : Int)))) w5 rfl rfl rfl (x_lss rfl e58 e57) ?_
    refine wpR_nil ?_
    refine wpC_seq ?_
    refine wpC_cond (b := decide (l34 < ((⟨some ⟨b33, 0, none⟩, 6, 6⟩ : Sl).len : Int))) rfl (fun hc35 => ?_) (fun hc35 => ?_)
    · replace h := h.1 hc35
      refine wpC_skip ?_
      refine wpC_seq ?_
      refine wpC_block ?_
      refine wpC_seq ?_
      refine wpC_cut (fun ρ => ρ 1 = (Value.pointer (some (Addr.mk b9 0 none))) ∧ ρ 56 = (Sl.v (⟨some ⟨b33, 0, none⟩, 6, 6⟩ : Sl)) ∧ ρ 57 = (Value.int .i64 ((⟨some ⟨b33, 0, none⟩, 6, 6⟩ : Sl).len : Int)) ∧ ρ 58 = (Value.int .i64 l34) ∧ True) ⟨e1, e56, e57, e58, trivial⟩ ?_
      rintro ρ ⟨e1, e56, e57, e58, -⟩
      refine wpC_region ?_
      obtain ⟨q36, z36, r36, h⟩ := h
      generalize hp36 : z36.add ((l34 : Int).toNat * 2) = p36 at h
      refine rv (Value.pointer (some p36)) w5 rfl rfl rfl ((x_indexAddr (s := (⟨some ⟨b33, 0, none⟩, 6, 6⟩ : Sl)) rfl e56 e58 ES_36 q36 r36).trans (by rw [hp36])) ?_
      obtain ⟨x37, q37, x38, q38, h⟩ := h
      refine rv (Value.agg #[(Value.int .i64 x37), (Value.int .i64 x38)]) w5 rfl rfl rfl (x_loadN [(Value.int .i64 x37), (Value.int .i64 x38)] rfl rfl SH_83 (CellsAt.out (CellsAt.cons q37 (CellsAt.cons q38 CellsAt.nil)))) ?_
      obtain ⟨b39, hb39⟩ : ∃ u, u = w5.heap.size := ⟨_, rfl⟩
      obtain ⟨w6, hw39⟩ : ∃ u, u = w5.alloc (.cells #[(Value.int .i64 0), (Value.int .i64 0)] 83) := ⟨_, rfl⟩
      replace h := h b39 w6 hb39 hw39
      refine rv (Value.pointer (some (Addr.mk b39 0 none))) w6 rfl rfl rfl ((x_alloc rfl ZV_83).trans (by rw [hb39, hw39]; rfl)) ?_
      obtain ⟨q40, h⟩ := h
      obtain ⟨w7, hw40⟩ : ∃ u, u = setAll w6 (Addr.mk b39 0 none) [(Value.int .i64 x37), (Value.int .i64 x38)] 0 := ⟨_, rfl⟩
      replace h := h w7 hw40
      refine wpR_skp (w' := w7) rfl rfl ((x_store (v := (Value.agg #[(Value.int .i64 x37), (Value.int .i64 x38)])) rfl rfl rfl SZ_83 (ones (by rfl)) q40).trans (by rw [hw40]; rfl)) ?_
      refine wpR_nil ?_
      refine wpC_seq ?_
      refine wpC_cut (fun ρ => ρ 1 = (Value.pointer (some (Addr.mk b9 0 none))) ∧ ρ 6 = (Value.pointer (some (Addr.mk b39 0 none))) ∧ ρ 56 = (Sl.v (⟨some ⟨b33, 0, none⟩, 6, 6⟩ : Sl)) ∧ ρ 57 = (Value.int .i64 ((⟨some ⟨b33, 0, none⟩, 6, 6⟩ : Sl).len : Int)) ∧ ρ 58 = (Value.int .i64 l34) ∧ True) ⟨e1, rfl, e56, e57, e58, trivial⟩ ?_
      rintro ρ ⟨e1, e6, e56, e57, e58, -⟩
      refine wpC_region ?_
      obtain ⟨p41, w8, q41, h⟩ := h
      refine rv (Value.pointer (some p41)) w8 rfl rfl rfl (x_indexAt rfl e6 rfl q41) ?_
      obtain ⟨x42, q42, h⟩ := h
      refine rv (Value.int .i64 x42) w8 rfl rfl rfl (x_load1 rfl rfl SH_3 q42) ?_
      refine rv (Value.bool (decide (x42 < 0))) w8 rfl rfl rfl (x_lss rfl rfl rfl) ?_
      refine rv (Value.bool (decide (x42 < 0))) w8 rfl rfl rfl (x_move rfl rfl) ?_
      obtain ⟨J43, h, hk⟩ := h
      refine wpR_joinJ 6 (fun x ρ => ρ 71 = Value.bool x ∧ ρ 1 = (Value.pointer (some (Addr.mk b9 0 none))) ∧ ρ 56 = (Sl.v (⟨some ⟨b33, 0, none⟩, 6, 6⟩ : Sl)) ∧ ρ 57 = (Value.int .i64 ((⟨some ⟨b33, 0, none⟩, 6, 6⟩ : Sl).len : Int)) ∧ ρ 58 = (Value.int .i64 l34) ∧ True) (J43) ?_ ?_
      · clear hk
        rcases Bool.eq_false_or_eq_true (decide (x42 < 0)) with hc44 | hc44
        · replace h := h.1 hc44
          refine wpR_pass (wantN rfl rfl rfl hc44) rfl rfl ?_
          refine wpR_pass (wantN rfl rfl rfl hc44) rfl rfl ?_
          refine wpR_pass (wantN rfl rfl rfl hc44) rfl rfl ?_
          refine wpR_pass (wantN rfl rfl rfl hc44) rfl rfl ?_
          refine wpR_pass (wantN rfl rfl rfl hc44) rfl rfl ?_
          refine rv (Value.bool true) w8 rfl rfl rfl (x_pickT (v := (Value.bool true)) rfl rfl hc44 rfl) ?_
          refine wpR_nil ?_
          exact ⟨true, ⟨rfl, e1, e56, e57, e58, trivial⟩, h⟩
        · replace h := h.2 hc44
          obtain ⟨p45, w9, q45, h⟩ := h
          refine wpR_val (v := (Value.pointer (some p45))) (w' := w9) (wantG rfl rfl rfl hc44) rfl rfl (x_indexAt rfl e6 rfl q45) ?_
          obtain ⟨x46, q46, h⟩ := h
          refine wpR_val (v := (Value.int .i64 x46)) (w' := w9) (wantG rfl rfl rfl hc44) rfl rfl (x_load1 rfl rfl SH_3 q46) ?_
          obtain ⟨p47, w10, q47, h⟩ := h
          refine wpR_val (v := (Value.pointer (some p47))) (w' := w10) (wantG rfl rfl rfl hc44) rfl rfl (x_indexAt rfl e6 rfl q47) ?_
          obtain ⟨x48, q48, h⟩ := h
          refine wpR_val (v := (Value.int .i64 x48)) (w' := w10) (wantG rfl rfl rfl hc44) rfl rfl (x_load1 rfl rfl SH_3 q48) ?_
          refine wpR_val (v := (Value.bool (decide (x48 ≤ x46)))) (w' := w10) (wantG rfl rfl rfl hc44) rfl rfl (x_geq rfl rfl rfl) ?_
          refine rv (Value.bool (decide (x48 ≤ x46))) w10 rfl rfl rfl (x_pickF (v := (Value.bool (decide (x48 ≤ x46)))) rfl rfl hc44 rfl) ?_
          refine wpR_nil ?_
          exact ⟨decide (x48 ≤ x46), ⟨rfl, e1, e56, e57, e58, trivial⟩, h⟩
      clear h
      rintro c49 ρ w11 ⟨e71, e1, e56, e57, e58, -⟩ h
      replace h := hk c49 w11 h
      clear hk
      refine wpR_nil ?_
      refine wpC_cond (b := c49) e71 (fun hc50 => ?_) (fun hc50 => ?_)
      · replace h := h.1 hc50
        refine wpC_seq ?_
        refine wpC_region ?_
        refine rv (Value.bool false) w11 rfl rfl rfl (x_assign rfl rfl) ?_
        refine wpR_nil ?_
        refine wpC_ret ?_
        exact ⟨.inl rfl, fun a ha => ⟨_, results_rep1 rfl ha rfl, false, rfl, h⟩⟩
      · replace h := h.2 hc50
        refine wpC_skip ?_
        refine wpC_region ?_
        refine rv (Value.int .i64 (IntKind.i64.wrap (l34 + 1))) w11 rfl rfl rfl (x_add rfl e58 rfl) ?_
        refine rv (Value.int .i64 (IntKind.i64.wrap (l34 + 1))) w11 rfl rfl rfl (x_move rfl rfl) ?_
        refine wpR_nil ?_
        exact ⟨IntKind.i64.wrap (l34 + 1), ⟨rfl, e1, e56, e57, trivial⟩, h⟩
    · replace h := h.2 hc35
      refine wpC_exit ?_
      refine wpC_seq ?_
      refine wpC_block ?_
      obtain ⟨J51, h, hk⟩ := h
      refine wpC_seqJ (fun (x : Bool) ρ => ρ 73 = (Value.bool x) ∧ ρ 1 = (Value.pointer (some (Addr.mk b9 0 none))) ∧ True) J51 ?_ ?_
      · clear hk
        refine wpC_seq ?_
        refine wpC_cut (fun ρ => ρ 1 = (Value.pointer (some (Addr.mk b9 0 none))) ∧ True) ⟨e1, trivial⟩ ?_
        rintro ρ ⟨e1, -⟩
        refine wpC_region ?_
        refine rv (Value.pointer (some ((Addr.mk b9 0 none).add 0))) w5 rfl rfl rfl (x_fieldAddr rfl e1 FA_65_0) ?_
        obtain ⟨x53, q53, h⟩ := h
        refine rv (Value.string x53) w5 rfl rfl rfl (x_load1 rfl rfl SH_9 q53) ?_
        refine wpR_enter rfl rfl rfl (x_call (vs := [(Value.string x53)]) rfl rfl (mapl_cons rfl mapl_nil) Tryz.func89 NN_89 NB_89) (Calls.mono h ?_)
        rintro _ w13 ⟨r54, rfl, h⟩
        refine ⟨_, rfl, ?_⟩
        refine rv (Value.bool (!r54)) w13 rfl rfl rfl (x_not rfl rfl) ?_
        refine rv (Value.bool (!r54)) w13 rfl rfl rfl (x_assign rfl rfl) ?_
        refine wpR_nil ?_
        refine wpC_cond (b := !r54) rfl (fun hc55 => ?_) (fun hc55 => ?_)
        · replace h := h.1 hc55
          refine wpC_skip ?_
          exact ⟨!r54, ⟨rfl, e1, trivial⟩, h⟩
        · replace h := h.2 hc55
          refine wpC_seq ?_
          refine wpC_cut (fun ρ => ρ 1 = (Value.pointer (some (Addr.mk b9 0 none))) ∧ True) ⟨e1, trivial⟩ ?_
          rintro ρ ⟨e1, -⟩
          refine wpC_region ?_
          refine rv (Value.pointer (some ((Addr.mk b9 0 none).add 1))) w13 rfl rfl rfl (x_fieldAddr rfl e1 FA_65_1) ?_
          obtain ⟨x56, q56, h⟩ := h
          refine rv (Value.int .i64 x56) w13 rfl rfl rfl (x_load1 rfl rfl SH_3 q56) ?_
          refine rv (Value.bool (!decide (x56 = 0))) w13 rfl rfl rfl (x_neq rfl rfl rfl) ?_
          refine rv (Value.bool (!decide (x56 = 0))) w13 rfl rfl rfl (x_move rfl rfl) ?_
          obtain ⟨J57, h, hk⟩ := h
          refine wpR_joinJ 4 (fun x ρ => ρ 85 = Value.bool x ∧ ρ 1 = (Value.pointer (some (Addr.mk b9 0 none))) ∧ True) (fun x w => J57 x ∧ w13 = w) ?_ ?_
          · clear hk
            rcases Bool.eq_false_or_eq_true (!decide (x56 = 0)) with hc58 | hc58
            · replace h := h.1 hc58
              refine wpR_val (v := (Value.pointer (some ((Addr.mk b9 0 none).add 1)))) (w' := w13) (wantG rfl rfl rfl hc58) rfl rfl (x_fieldAddr rfl e1 FA_65_1) ?_
              obtain ⟨x59, q59, h⟩ := h
              refine wpR_val (v := (Value.int .i64 x59)) (w' := w13) (wantG rfl rfl rfl hc58) rfl rfl (x_load1 rfl rfl SH_3 q59) ?_
              refine wpR_val (v := (Value.bool (!decide (x59 = 2)))) (w' := w13) (wantG rfl rfl rfl hc58) rfl rfl (x_neq rfl rfl rfl) ?_
              refine rv (Value.bool (!decide (x59 = 2))) w13 rfl rfl rfl (x_pickT (v := (Value.bool (!decide (x59 = 2)))) rfl rfl hc58 rfl) ?_
              refine wpR_nil ?_
              exact ⟨!decide (x59 = 2), ⟨rfl, e1, trivial⟩, h, rfl⟩
            · replace h := h.2 hc58
              refine wpR_pass (wantN rfl rfl rfl hc58) rfl rfl ?_
              refine wpR_pass (wantN rfl rfl rfl hc58) rfl rfl ?_
              refine wpR_pass (wantN rfl rfl rfl hc58) rfl rfl ?_
              refine rv (Value.bool false) w13 rfl rfl rfl (x_pickF (v := (Value.bool false)) rfl rfl hc58 rfl) ?_
              refine wpR_nil ?_
              exact ⟨false, ⟨rfl, e1, trivial⟩, h, rfl⟩
          clear h
          rintro c60 ρ wj ⟨e85, e1, -⟩ ⟨h, rfl⟩
          replace h := hk c60 h
          clear hk
          refine rv (Value.bool c60) w13 rfl rfl rfl (x_assign rfl e85) ?_
          refine wpR_nil ?_
          refine wpC_cond (b := c60) rfl (fun hc61 => ?_) (fun hc61 => ?_)
          · replace h := h.1 hc61
            refine wpC_skip ?_
            exact ⟨c60, ⟨rfl, e1, trivial⟩, h⟩
          · replace h := h.2 hc61
            refine wpC_cut (fun ρ => ρ 1 = (Value.pointer (some (Addr.mk b9 0 none))) ∧ True) ⟨e1, trivial⟩ ?_
            rintro ρ ⟨e1, -⟩
            refine wpC_region ?_
            refine rv (Value.pointer (some ((Addr.mk b9 0 none).add 1))) w13 rfl rfl rfl (x_fieldAddr rfl e1 FA_65_1) ?_
            obtain ⟨x62, q62, h⟩ := h
            refine rv (Value.int .i64 x62) w13 rfl rfl rfl (x_load1 rfl rfl SH_3 q62) ?_
            refine rv (Value.bool (decide (x62 = 0))) w13 rfl rfl rfl (x_eql rfl rfl rfl) ?_
            refine rv (Value.bool (decide (x62 = 0))) w13 rfl rfl rfl (x_move rfl rfl) ?_
            obtain ⟨J63, h, hk⟩ := h
            refine wpR_joinJ 4 (fun x ρ => ρ 93 = Value.bool x ∧ ρ 1 = (Value.pointer (some (Addr.mk b9 0 none))) ∧ True) (fun x w => J63 x ∧ w13 = w) ?_ ?_
            · clear hk
              rcases Bool.eq_false_or_eq_true (decide (x62 = 0)) with hc64 | hc64
              · replace h := h.1 hc64
                refine wpR_val (v := (Value.pointer (some ((Addr.mk b9 0 none).add 2)))) (w' := w13) (wantG rfl rfl rfl hc64) rfl rfl (x_fieldAddr rfl e1 FA_65_2) ?_
                obtain ⟨x65, q65, h⟩ := h
                refine wpR_val (v := (Value.int .i64 x65)) (w' := w13) (wantG rfl rfl rfl hc64) rfl rfl (x_load1 rfl rfl SH_3 q65) ?_
                refine wpR_val (v := (Value.bool (decide (0 < x65)))) (w' := w13) (wantG rfl rfl rfl hc64) rfl rfl (x_gtr rfl rfl rfl) ?_
                refine rv (Value.bool (decide (0 < x65))) w13 rfl rfl rfl (x_pickT (v := (Value.bool (decide (0 < x65)))) rfl rfl hc64 rfl) ?_
                refine wpR_nil ?_
                exact ⟨decide (0 < x65), ⟨rfl, e1, trivial⟩, h, rfl⟩
              · replace h := h.2 hc64
                refine wpR_pass (wantN rfl rfl rfl hc64) rfl rfl ?_
                refine wpR_pass (wantN rfl rfl rfl hc64) rfl rfl ?_
                refine wpR_pass (wantN rfl rfl rfl hc64) rfl rfl ?_
                refine rv (Value.bool false) w13 rfl rfl rfl (x_pickF (v := (Value.bool false)) rfl rfl hc64 rfl) ?_
                refine wpR_nil ?_
                exact ⟨false, ⟨rfl, e1, trivial⟩, h, rfl⟩
            clear h
            rintro c66 ρ wj ⟨e93, e1, -⟩ ⟨h, rfl⟩
            replace h := hk c66 h
            clear hk
            refine rv (Value.bool c66) w13 rfl rfl rfl (x_assign rfl e93) ?_
            refine wpR_nil ?_
            exact ⟨c66, ⟨rfl, e1, trivial⟩, h⟩
      clear h
      rintro l52 ρ w12 ⟨e73, e1, -⟩ h
      replace h := hk l52 w12 h
      clear hk
      refine wpC_cond (b := l52) e73 (fun hc67 => ?_) (fun hc67 => ?_)
      · replace h := h.1 hc67
        refine wpC_seq ?_
        refine wpC_region ?_
        refine rv (Value.bool false) w12 rfl rfl rfl (x_assign rfl rfl) ?_
        refine wpR_nil ?_
        refine wpC_ret ?_
        exact ⟨.inl rfl, fun a ha => ⟨_, results_rep1 rfl ha rfl, false, rfl, h⟩⟩
      · replace h := h.2 hc67
        refine wpC_seq ?_
        refine wpC_region ?_
        refine rv (Value.pointer (some ((Addr.mk b9 0 none).add 10))) w12 rfl rfl rfl (x_fieldAddr rfl e1 FA_65_10) ?_
        obtain ⟨x68, q68, h⟩ := h
        refine rv (Value.int .i64 x68) w12 rfl rfl rfl (x_load1 rfl rfl SH_3 q68) ?_
        refine rv (Value.bool (decide (x68 = 0))) w12 rfl rfl rfl (x_eql rfl rfl rfl) ?_
        refine rv (Value.bool (decide (x68 = 0))) w12 rfl rfl rfl (x_assign rfl rfl) ?_
        refine wpR_nil ?_
        refine wpC_cond (b := decide (x68 = 0)) rfl (fun hc69 => ?_) (fun hc69 => ?_)
        · replace h := h.1 hc69
          refine wpC_seq ?_
          refine wpC_cut (fun ρ => ρ 1 = (Value.pointer (some (Addr.mk b9 0 none))) ∧ True) ⟨e1, trivial⟩ ?_
          rintro ρ ⟨e1, -⟩
          refine wpC_region ?_
          refine rv (Value.pointer (some ((Addr.mk b9 0 none).add 11))) w12 rfl rfl rfl (x_fieldAddr rfl e1 FA_65_11) ?_
          obtain ⟨x70, q70, h⟩ := h
          refine rv (Value.int .i64 x70) w12 rfl rfl rfl (x_load1 rfl rfl SH_3 q70) ?_
          refine rv (Value.bool (decide (x70 = 0))) w12 rfl rfl rfl (x_eql rfl rfl rfl) ?_
          refine rv (Value.bool (decide (x70 = 0))) w12 rfl rfl rfl (x_move rfl rfl) ?_
          obtain ⟨J71, h, hk⟩ := h
          refine wpR_joinJ 5 (fun x ρ => ρ 106 = Value.bool x ∧ True) (fun x w => J71 x ∧ w12 = w) ?_ ?_
          · clear hk
            rcases Bool.eq_false_or_eq_true (decide (x70 = 0)) with hc72 | hc72
            · replace h := h.1 hc72
              refine wpR_val (v := (Value.pointer (some ((Addr.mk b9 0 none).add 12)))) (w' := w12) (wantG rfl rfl rfl hc72) rfl rfl (x_fieldAddr rfl e1 FA_65_12) ?_
              obtain ⟨x73, q73, h⟩ := h
              refine wpR_val (v := (Sl.v x73)) (w' := w12) (wantG rfl rfl rfl hc72) rfl rfl (x_load1 rfl rfl SH_63 q73) ?_
              refine wpR_val (v := (Value.int .i64 (x73.len : Int))) (w' := w12) (wantG rfl rfl rfl hc72) rfl rfl (x_lenS (s := x73) rfl rfl isSliceT_63) ?_
              refine wpR_val (v := (Value.bool (decide ((x73.len : Int) = 0)))) (w' := w12) (wantG rfl rfl rfl hc72) rfl rfl (x_eql rfl rfl rfl) ?_
              refine rv (Value.bool (decide ((x73.len : Int) = 0))) w12 rfl rfl rfl (x_pickT (v := (Value.bool (decide ((x73.len : Int) = 0)))) rfl rfl hc72 rfl) ?_
              refine wpR_nil ?_
              exact ⟨decide ((x73.len : Int) = 0), ⟨rfl, trivial⟩, h, rfl⟩
            · replace h := h.2 hc72
              refine wpR_pass (wantN rfl rfl rfl hc72) rfl rfl ?_
              refine wpR_pass (wantN rfl rfl rfl hc72) rfl rfl ?_
              refine wpR_pass (wantN rfl rfl rfl hc72) rfl rfl ?_
              refine wpR_pass (wantN rfl rfl rfl hc72) rfl rfl ?_
              refine rv (Value.bool false) w12 rfl rfl rfl (x_pickF (v := (Value.bool false)) rfl rfl hc72 rfl) ?_
              refine wpR_nil ?_
              exact ⟨false, ⟨rfl, trivial⟩, h, rfl⟩
          clear h
          rintro c74 ρ wj ⟨e106, -⟩ ⟨h, rfl⟩
          replace h := hk c74 h
          clear hk
          refine rv (Value.bool c74) w12 rfl rfl rfl (x_assign rfl e106) ?_
          refine wpR_nil ?_
          refine wpC_ret ?_
          exact ⟨.inl rfl, fun a ha => ⟨_, results_rep1 rfl ha rfl, c74, rfl, h⟩⟩
        · replace h := h.2 hc69
          refine wpC_skip ?_
          refine wpC_seq ?_
          refine wpC_cut (fun ρ => ρ 1 = (Value.pointer (some (Addr.mk b9 0 none))) ∧ True) ⟨e1, trivial⟩ ?_
          rintro ρ ⟨e1, -⟩
          refine wpC_region ?_
          refine rv (Value.pointer (some ((Addr.mk b9 0 none).add 12))) w12 rfl rfl rfl (x_fieldAddr rfl e1 FA_65_12) ?_
          obtain ⟨x75, q75, h⟩ := h
          refine rv (Sl.v x75) w12 rfl rfl rfl (x_load1 rfl rfl SH_63 q75) ?_
          refine rv (Value.int .i64 (x75.len : Int)) w12 rfl rfl rfl (x_lenS (s := x75) rfl rfl isSliceT_63) ?_
          refine rv (Value.bool (decide (1 ≤ (x75.len : Int)))) w12 rfl rfl rfl (x_geq rfl rfl rfl) ?_
          refine rv (Value.bool (decide (1 ≤ (x75.len : Int)))) w12 rfl rfl rfl (x_move rfl rfl) ?_
          obtain ⟨J76, h, hk⟩ := h
          refine wpR_joinJ 5 (fun x ρ => ρ 116 = Value.bool x ∧ ρ 1 = (Value.pointer (some (Addr.mk b9 0 none))) ∧ True) (fun x w => J76 x ∧ w12 = w) ?_ ?_
          · clear hk
            rcases Bool.eq_false_or_eq_true (decide (1 ≤ (x75.len : Int))) with hc77 | hc77
            · replace h := h.1 hc77
              refine wpR_val (v := (Value.pointer (some ((Addr.mk b9 0 none).add 12)))) (w' := w12) (wantG rfl rfl rfl hc77) rfl rfl (x_fieldAddr rfl e1 FA_65_12) ?_
              obtain ⟨x78, q78, h⟩ := h
              refine wpR_val (v := (Sl.v x78)) (w' := w12) (wantG rfl rfl rfl hc77) rfl rfl (x_load1 rfl rfl SH_63 q78) ?_
              refine wpR_val (v := (Value.int .i64 (x78.len : Int))) (w' := w12) (wantG rfl rfl rfl hc77) rfl rfl (x_lenS (s := x78) rfl rfl isSliceT_63) ?_
              refine wpR_val (v := (Value.bool (decide ((x78.len : Int) ≤ 20)))) (w' := w12) (wantG rfl rfl rfl hc77) rfl rfl (x_leq rfl rfl rfl) ?_
              refine rv (Value.bool (decide ((x78.len : Int) ≤ 20))) w12 rfl rfl rfl (x_pickT (v := (Value.bool (decide ((x78.len : Int) ≤ 20)))) rfl rfl hc77 rfl) ?_
              refine wpR_nil ?_
              exact ⟨decide ((x78.len : Int) ≤ 20), ⟨rfl, e1, trivial⟩, h, rfl⟩
            · replace h := h.2 hc77
              refine wpR_pass (wantN rfl rfl rfl hc77) rfl rfl ?_
              refine wpR_pass (wantN rfl rfl rfl hc77) rfl rfl ?_
              refine wpR_pass (wantN rfl rfl rfl hc77) rfl rfl ?_
              refine wpR_pass (wantN rfl rfl rfl hc77) rfl rfl ?_
              refine rv (Value.bool false) w12 rfl rfl rfl (x_pickF (v := (Value.bool false)) rfl rfl hc77 rfl) ?_
              refine wpR_nil ?_
              exact ⟨false, ⟨rfl, e1, trivial⟩, h, rfl⟩
          clear h
          rintro c79 ρ wj ⟨e116, e1, -⟩ ⟨h, rfl⟩
          replace h := hk c79 h
          clear hk
          refine rv (Value.bool c79) w12 rfl rfl rfl (x_move rfl e116) ?_
          obtain ⟨J80, h, hk⟩ := h
          refine wpR_joinJ 5 (fun x ρ => ρ 122 = Value.bool x ∧ True) (J80) ?_ ?_
          · clear hk
            rcases Bool.eq_false_or_eq_true (c79) with hc81 | hc81
            · replace h := h.1 hc81
              refine wpR_val (v := (Value.pointer (some ((Addr.mk b9 0 none).add 12)))) (w' := w12) (wantG rfl rfl rfl hc81) rfl rfl (x_fieldAddr rfl e1 FA_65_12) ?_
              obtain ⟨x82, q82, h⟩ := h
              refine wpR_val (v := (Sl.v x82)) (w' := w12) (wantG rfl rfl rfl hc81) rfl rfl (x_load1 rfl rfl SH_63 q82) ?_
              refine wpR_enter (wantG rfl rfl rfl hc81) rfl rfl (x_call (vs := [(Sl.v x82), (Value.func (.func 91) #[] #[])]) rfl rfl (mapl_cons rfl (mapl_cons rfl mapl_nil)) Tryz.func90 NN_90 NB_90) (Calls.mono h ?_)
              rintro _ w14 ⟨r83, rfl, h⟩
              refine ⟨_, rfl, ?_⟩
              refine wpR_val (v := (Value.bool (!r83))) (w' := w14) (wantG rfl rfl rfl hc81) rfl rfl (x_not rfl rfl) ?_
              refine rv (Value.bool (!r83)) w14 rfl rfl rfl (x_pickT (v := (Value.bool (!r83))) rfl rfl hc81 rfl) ?_
              refine wpR_nil ?_
              exact ⟨!r83, ⟨rfl, trivial⟩, h⟩
            · replace h := h.2 hc81
              refine wpR_pass (wantN rfl rfl rfl hc81) rfl rfl ?_
              refine wpR_pass (wantN rfl rfl rfl hc81) rfl rfl ?_
              refine wpR_pass (wantN rfl rfl rfl hc81) rfl rfl ?_
              refine wpR_pass (wantN rfl rfl rfl hc81) rfl rfl ?_
              refine rv (Value.bool false) w12 rfl rfl rfl (x_pickF (v := (Value.bool false)) rfl rfl hc81 rfl) ?_
              refine wpR_nil ?_
              exact ⟨false, ⟨rfl, trivial⟩, h⟩
          clear h
          rintro c84 ρ w15 ⟨e122, -⟩ h
          replace h := hk c84 w15 h
          clear hk
          refine rv (Value.bool c84) w15 rfl rfl rfl (x_assign rfl e122) ?_
          refine wpR_nil ?_
          refine wpC_ret ?_
          exact ⟨.inl rfl, fun a ha => ⟨_, results_rep1 rfl ha rfl, c84, rfl, h⟩⟩

/-- profile.within -/
def F71 (p0 : Int) (p1 : Int) (p2 : Int) (w0 : World) (K : Bool → World → Prop) : Prop :=
  K ((decide (p1 ≤ p0)) && (decide (p0 ≤ p2))) w0
set_option maxRecDepth 100000 in
theorem D71 (p0 : Int) (p1 : Int) (p2 : Int) (w0 : World) (K : Bool → World → Prop) (h : F71 p0 p1 p2 w0 K) : callC Tryz.prog 71 #[(Value.int .i64 p0), (Value.int .i64 p1), (Value.int .i64 p2)] (fun (r : Bool) => (Value.bool r)) w0 K := by
  unfold F71 at h
  refine calls_of_wpC Tryz.func71 rfl 15 rfl (by simp) ?_
  intro ρ hρ
  have e0 : ρ 0 = (Value.int .i64 p0) := hρ 0
  have e1 : ρ 1 = (Value.int .i64 p1) := hρ 1
  have e2 : ρ 2 = (Value.int .i64 p2) := hρ 2
  clear hρ
  refine wpC_seq ?_
  refine wpC_region ?_
  refine rv (Value.bool false) w0 rfl rfl rfl (x_assign rfl rfl) ?_
  refine wpR_nil ?_
  refine wpC_seq ?_
  refine wpC_cut (fun ρ => ρ 0 = (Value.int .i64 p0) ∧ ρ 1 = (Value.int .i64 p1) ∧ ρ 2 = (Value.int .i64 p2) ∧ True) ⟨e0, e1, e2, trivial⟩ ?_
  rintro ρ ⟨e0, e1, e2, -⟩
  refine wpC_region ?_
  refine rv (Value.int .i64 p0) w0 rfl rfl rfl (x_move rfl e0) ?_
  refine rv (Value.int .i64 p1) w0 rfl rfl rfl (x_move rfl e1) ?_
  refine rv (Value.bool (decide (p1 ≤ p0))) w0 rfl rfl rfl (x_geq rfl rfl rfl) ?_
  refine rv (Value.bool (decide (p1 ≤ p0))) w0 rfl rfl rfl (x_move rfl rfl) ?_
  refine wpR_joinJ 4 (fun (_ : Unit) ρ => ρ 14 = Value.bool ((decide (p1 ≤ p0)) && (decide (p0 ≤ p2))) ∧ True) (fun _ w => w0 = w) ?_ ?_
  · clear h
    rcases Bool.eq_false_or_eq_true (decide (p1 ≤ p0)) with hc10 | hc10
    · skip
      refine wpR_val (v := (Value.int .i64 p0)) (w' := w0) (wantG rfl rfl rfl hc10) rfl rfl (x_move rfl e0) ?_
      refine wpR_val (v := (Value.int .i64 p2)) (w' := w0) (wantG rfl rfl rfl hc10) rfl rfl (x_move rfl e2) ?_
      refine wpR_val (v := (Value.bool (decide (p0 ≤ p2)))) (w' := w0) (wantG rfl rfl rfl hc10) rfl rfl (x_leq rfl rfl rfl) ?_
      refine rv (Value.bool (decide (p0 ≤ p2))) w0 rfl rfl rfl (x_pickT (v := (Value.bool (decide (p0 ≤ p2)))) rfl rfl hc10 rfl) ?_
      refine wpR_nil ?_
      exact ⟨(), ⟨(by rw [hc10]; rfl), trivial⟩, rfl⟩
    · skip
      refine wpR_pass (wantN rfl rfl rfl hc10) rfl rfl ?_
      refine wpR_pass (wantN rfl rfl rfl hc10) rfl rfl ?_
      refine wpR_pass (wantN rfl rfl rfl hc10) rfl rfl ?_
      refine rv (Value.bool false) w0 rfl rfl rfl (x_pickF (v := (Value.bool false)) rfl rfl hc10 rfl) ?_
      refine wpR_nil ?_
      exact ⟨(), ⟨(by rw [hc10]; rfl), trivial⟩, rfl⟩
  rintro _ ρ wj ⟨e14, -⟩ rfl
  refine rv (Value.bool ((decide (p1 ≤ p0)) && (decide (p0 ≤ p2)))) w0 rfl rfl rfl (x_assign rfl e14) ?_
  refine wpR_nil ?_
  refine wpC_ret ?_
  exact ⟨.inl rfl, fun a ha => ⟨_, results_rep1 rfl ha rfl, (decide (p1 ≤ p0)) && (decide (p0 ≤ p2)), rfl, h⟩⟩

/-- profile.together -/
def F72 (p0_0 : ByteArray) (p0_1 : Int) (p0_2 : Int) (p0_3 : Int) (p0_4 : Bool) (p0_5 : Int) (p0_6 : Bool) (p0_7 : Bool) (p0_8 : Int) (p0_9 : Int) (p0_10 : Int) (p0_11 : Int) (p0_12 : Sl) (p0_13 : Int) (p0_14 : Int) (p0_15 : Int) (p0_16 : Int) (p0_17 : Bool) (p0_18 : Int) (p0_19 : Int) (p0_20 : Int) (p0_21 : Int) (w0 : World) (K : Bool → World → Prop) : Prop :=
  nw 65 (A64 p0_0 p0_1 p0_2 p0_3 p0_4 p0_5 p0_6 p0_7 p0_8 p0_9 p0_10 p0_11 p0_12 p0_13 p0_14 p0_15 p0_16 p0_17 p0_18 p0_19 p0_20 p0_21) w0 fun b9 w1 =>
  ld (Value.int .i64) ((Addr.mk b9 0 none).add 10) w1 fun x10 =>
  ld (Value.int .i64) ((Addr.mk b9 0 none).add 11) w1 fun x11 =>
  jp (fun J12 => cnd ((decide (x10 = 0)) == (decide (x11 = 0)))
    (
    ld (Value.int .i64) ((Addr.mk b9 0 none).add 10) w1 fun x14 =>
    ld Sl.v ((Addr.mk b9 0 none).add 12) w1 fun x15 =>
    J12 ((decide (x14 = 0)) == (decide ((x15.len : Int) = 0)))
    )
    (
    J12 false
    ))
  fun c16 =>
  K c16 w1
set_option maxRecDepth 100000 in
theorem D72 (p0_0 : ByteArray) (p0_1 : Int) (p0_2 : Int) (p0_3 : Int) (p0_4 : Bool) (p0_5 : Int) (p0_6 : Bool) (p0_7 : Bool) (p0_8 : Int) (p0_9 : Int) (p0_10 : Int) (p0_11 : Int) (p0_12 : Sl) (p0_13 : Int) (p0_14 : Int) (p0_15 : Int) (p0_16 : Int) (p0_17 : Bool) (p0_18 : Int) (p0_19 : Int) (p0_20 : Int) (p0_21 : Int) (w0 : World) (K : Bool → World → Prop) (h : F72 p0_0 p0_1 p0_2 p0_3 p0_4 p0_5 p0_6 p0_7 p0_8 p0_9 p0_10 p0_11 p0_12 p0_13 p0_14 p0_15 p0_16 p0_17 p0_18 p0_19 p0_20 p0_21 w0 K) : callC Tryz.prog 72 #[(V64 p0_0 p0_1 p0_2 p0_3 p0_4 p0_5 p0_6 p0_7 p0_8 p0_9 p0_10 p0_11 p0_12 p0_13 p0_14 p0_15 p0_16 p0_17 p0_18 p0_19 p0_20 p0_21)] (fun (r : Bool) => (Value.bool r)) w0 K := by
  unfold F72 at h
  refine calls_of_wpC Tryz.func72 rfl 20 rfl (by simp) ?_
  intro ρ hρ
  have e0 : ρ 0 = (V64 p0_0 p0_1 p0_2 p0_3 p0_4 p0_5 p0_6 p0_7 p0_8 p0_9 p0_10 p0_11 p0_12 p0_13 p0_14 p0_15 p0_16 p0_17 p0_18 p0_19 p0_20 p0_21) := hρ 0
  clear hρ
  refine wpC_seq ?_
  refine wpC_region ?_
  obtain ⟨b9, hb9⟩ : ∃ u, u = w0.heap.size := ⟨_, rfl⟩
  obtain ⟨w1, hw9⟩ : ∃ u, u = w0.alloc (.cells (A64 p0_0 p0_1 p0_2 p0_3 p0_4 p0_5 p0_6 p0_7 p0_8 p0_9 p0_10 p0_11 p0_12 p0_13 p0_14 p0_15 p0_16 p0_17 p0_18 p0_19 p0_20 p0_21) 65) := ⟨_, rfl⟩
  replace h := h b9 w1 hb9 hw9
  refine rv (Value.pointer (some (Addr.mk b9 0 none))) w1 rfl rfl rfl ((x_box (v := (V64 p0_0 p0_1 p0_2 p0_3 p0_4 p0_5 p0_6 p0_7 p0_8 p0_9 p0_10 p0_11 p0_12 p0_13 p0_14 p0_15 p0_16 p0_17 p0_18 p0_19 p0_20 p0_21)) rfl e0).trans (by rw [hb9, hw9]; rfl)) ?_
  refine rv (Value.bool false) w1 rfl rfl rfl (x_assign rfl rfl) ?_
  refine wpR_nil ?_
  refine wpC_seq ?_
  refine wpC_cut (fun ρ => ρ 1 = (Value.pointer (some (Addr.mk b9 0 none))) ∧ True) ⟨rfl, trivial⟩ ?_
  rintro ρ ⟨e1, -⟩
  refine wpC_region ?_
  refine rv (Value.pointer (some ((Addr.mk b9 0 none).add 10))) w1 rfl rfl rfl (x_fieldAddr rfl e1 FA_65_10) ?_
  obtain ⟨x10, q10, h⟩ := h
  refine rv (Value.int .i64 x10) w1 rfl rfl rfl (x_load1 rfl rfl SH_3 q10) ?_
  refine rv (Value.bool (decide (x10 = 0))) w1 rfl rfl rfl (x_eql rfl rfl rfl) ?_
  refine rv (Value.pointer (some ((Addr.mk b9 0 none).add 11))) w1 rfl rfl rfl (x_fieldAddr rfl e1 FA_65_11) ?_
  obtain ⟨x11, q11, h⟩ := h
  refine rv (Value.int .i64 x11) w1 rfl rfl rfl (x_load1 rfl rfl SH_3 q11) ?_
  refine rv (Value.bool (decide (x11 = 0))) w1 rfl rfl rfl (x_eql rfl rfl rfl) ?_
  refine rv (Value.bool ((decide (x10 = 0)) == (decide (x11 = 0)))) w1 rfl rfl rfl (x_eqlB rfl rfl rfl isBoolT_4) ?_
  refine rv (Value.bool ((decide (x10 = 0)) == (decide (x11 = 0)))) w1 rfl rfl rfl (x_move rfl rfl) ?_
  obtain ⟨J12, h, hk⟩ := h
  refine wpR_joinJ 9 (fun x ρ => ρ 19 = Value.bool x ∧ True) (fun x w => J12 x ∧ w1 = w) ?_ ?_
  · clear hk
    rcases Bool.eq_false_or_eq_true ((decide (x10 = 0)) == (decide (x11 = 0))) with hc13 | hc13
    · replace h := h.1 hc13
      refine wpR_val (v := (Value.pointer (some ((Addr.mk b9 0 none).add 10)))) (w' := w1) (wantG rfl rfl rfl hc13) rfl rfl (x_fieldAddr rfl e1 FA_65_10) ?_
      obtain ⟨x14, q14, h⟩ := h
      refine wpR_val (v := (Value.int .i64 x14)) (w' := w1) (wantG rfl rfl rfl hc13) rfl rfl (x_load1 rfl rfl SH_3 q14) ?_
      refine wpR_val (v := (Value.bool (decide (x14 = 0)))) (w' := w1) (wantG rfl rfl rfl hc13) rfl rfl (x_eql rfl rfl rfl) ?_
      refine wpR_val (v := (Value.pointer (some ((Addr.mk b9 0 none).add 12)))) (w' := w1) (wantG rfl rfl rfl hc13) rfl rfl (x_fieldAddr rfl e1 FA_65_12) ?_
      obtain ⟨x15, q15, h⟩ := h
      refine wpR_val (v := (Sl.v x15)) (w' := w1) (wantG rfl rfl rfl hc13) rfl rfl (x_load1 rfl rfl SH_63 q15) ?_
      refine wpR_val (v := (Value.int .i64 (x15.len : Int))) (w' := w1) (wantG rfl rfl rfl hc13) rfl rfl (x_lenS (s := x15) rfl rfl isSliceT_63) ?_
      refine wpR_val (v := (Value.bool (decide ((x15.len : Int) = 0)))) (w' := w1) (wantG rfl rfl rfl hc13) rfl rfl (x_eql rfl rfl rfl) ?_
      refine wpR_val (v := (Value.bool ((decide (x14 = 0)) == (decide ((x15.len : Int) = 0))))) (w' := w1) (wantG rfl rfl rfl hc13) rfl rfl (x_eqlB rfl rfl rfl isBoolT_4) ?_
      refine rv (Value.bool ((decide (x14 = 0)) == (decide ((x15.len : Int) = 0)))) w1 rfl rfl rfl (x_pickT (v := (Value.bool ((decide (x14 = 0)) == (decide ((x15.len : Int) = 0))))) rfl rfl hc13 rfl) ?_
      refine wpR_nil ?_
      exact ⟨(decide (x14 = 0)) == (decide ((x15.len : Int) = 0)), ⟨rfl, trivial⟩, h, rfl⟩
    · replace h := h.2 hc13
      refine wpR_pass (wantN rfl rfl rfl hc13) rfl rfl ?_
      refine wpR_pass (wantN rfl rfl rfl hc13) rfl rfl ?_
      refine wpR_pass (wantN rfl rfl rfl hc13) rfl rfl ?_
      refine wpR_pass (wantN rfl rfl rfl hc13) rfl rfl ?_
      refine wpR_pass (wantN rfl rfl rfl hc13) rfl rfl ?_
      refine wpR_pass (wantN rfl rfl rfl hc13) rfl rfl ?_
      refine wpR_pass (wantN rfl rfl rfl hc13) rfl rfl ?_
      refine wpR_pass (wantN rfl rfl rfl hc13) rfl rfl ?_
      refine rv (Value.bool false) w1 rfl rfl rfl (x_pickF (v := (Value.bool false)) rfl rfl hc13 rfl) ?_
      refine wpR_nil ?_
      exact ⟨false, ⟨rfl, trivial⟩, h, rfl⟩
  clear h
  rintro c16 ρ wj ⟨e19, -⟩ ⟨h, rfl⟩
  replace h := hk c16 h
  clear hk
  refine rv (Value.bool c16) w1 rfl rfl rfl (x_assign rfl e19) ?_
  refine wpR_nil ?_
  refine wpC_ret ?_
  exact ⟨.inl rfl, fun a ha => ⟨_, results_rep1 rfl ha rfl, c16, rfl, h⟩⟩

/-- slices.Contains[[]string,string] -/
def F73 (p0 : Sl) (p1 : ByteArray) (w0 : World) (K : Bool → World → Prop) : Prop :=
  callC Tryz.prog 92 #[(Sl.v p0), (Value.string p1)] (fun (r : Int) => (Value.int .i64 r)) w0 fun r9 w1 =>
  K (decide (0 ≤ r9)) w1
set_option maxRecDepth 100000 in
theorem D73 (p0 : Sl) (p1 : ByteArray) (w0 : World) (K : Bool → World → Prop) (h : F73 p0 p1 w0 K) : callC Tryz.prog 73 #[(Sl.v p0), (Value.string p1)] (fun (r : Bool) => (Value.bool r)) w0 K := by
  unfold F73 at h
  refine calls_of_wpC Tryz.func73 rfl 9 rfl (by simp) ?_
  intro ρ hρ
  have e0 : ρ 0 = (Sl.v p0) := hρ 0
  have e1 : ρ 1 = (Value.string p1) := hρ 1
  clear hρ
  refine wpC_seq ?_
  refine wpC_region ?_
  refine rv (Value.bool false) w0 rfl rfl rfl (x_assign rfl rfl) ?_
  refine wpR_nil ?_
  refine wpC_seq ?_
  refine wpC_cut (fun ρ => ρ 0 = (Sl.v p0) ∧ ρ 1 = (Value.string p1) ∧ True) ⟨e0, e1, trivial⟩ ?_
  rintro ρ ⟨e0, e1, -⟩
  refine wpC_region ?_
  refine rv (Sl.v p0) w0 rfl rfl rfl (x_move rfl e0) ?_
  refine rv (Value.string p1) w0 rfl rfl rfl (x_move rfl e1) ?_
  refine wpR_enter rfl rfl rfl (x_call (vs := [(Sl.v p0), (Value.string p1)]) rfl rfl (mapl_cons rfl (mapl_cons rfl mapl_nil)) Tryz.func92 NN_92 NB_92) (Calls.mono h ?_)
  rintro _ w1 ⟨r9, rfl, h⟩
  refine ⟨_, rfl, ?_⟩
  refine rv (Value.bool (decide (0 ≤ r9))) w1 rfl rfl rfl (x_geq rfl rfl rfl) ?_
  refine rv (Value.bool (decide (0 ≤ r9))) w1 rfl rfl rfl (x_assign rfl rfl) ?_
  refine wpR_nil ?_
  refine wpC_ret ?_
  exact ⟨.inl rfl, fun a ha => ⟨_, results_rep1 rfl ha rfl, decide (0 ≤ r9), rfl, h⟩⟩

/-- cmp.isNaN[int] -/
def F76 (p0 : Int) (w0 : World) (K : Bool → World → Prop) : Prop :=
  K (!decide (p0 = p0)) w0
set_option maxRecDepth 100000 in
theorem D76 (p0 : Int) (w0 : World) (K : Bool → World → Prop) (h : F76 p0 w0 K) : callC Tryz.prog 76 #[(Value.int .i64 p0)] (fun (r : Bool) => (Value.bool r)) w0 K := by
  unfold F76 at h
  refine calls_of_wpC Tryz.func76 rfl 6 rfl (by simp) ?_
  intro ρ hρ
  have e0 : ρ 0 = (Value.int .i64 p0) := hρ 0
  clear hρ
  refine wpC_seq ?_
  refine wpC_region ?_
  refine rv (Value.bool false) w0 rfl rfl rfl (x_assign rfl rfl) ?_
  refine wpR_nil ?_
  refine wpC_seq ?_
  refine wpC_cut (fun ρ => ρ 0 = (Value.int .i64 p0) ∧ True) ⟨e0, trivial⟩ ?_
  rintro ρ ⟨e0, -⟩
  refine wpC_region ?_
  refine rv (Value.int .i64 p0) w0 rfl rfl rfl (x_move rfl e0) ?_
  refine rv (Value.int .i64 p0) w0 rfl rfl rfl (x_move rfl e0) ?_
  refine rv (Value.bool (!decide (p0 = p0))) w0 rfl rfl rfl (x_neq rfl rfl rfl) ?_
  refine rv (Value.bool (!decide (p0 = p0))) w0 rfl rfl rfl (x_assign rfl rfl) ?_
  refine wpR_nil ?_
  refine wpC_ret ?_
  exact ⟨.inl rfl, fun a ha => ⟨_, results_rep1 rfl ha rfl, !decide (p0 = p0), rfl, h⟩⟩

/-- slices.IndexFunc[[]api.Waiting,api.Waiting] -/
def F77 (p0 : Sl) (p1 : Value) (w0 : World) (K : Int → World → Prop) : Prop :=
  lp (fun (next9 : Int → World → Prop) l9 w1 =>
    cnd (decide (l9 < (p0.len : Int)))
      (
      ix p0 l9 4 fun p11 =>
      ld (Value.int .i64) (p11.add 0) w1 fun x12 =>
      ld (Value.int .i64) (p11.add 1) w1 fun x13 =>
      ld (Value.int .i64) (p11.add 2) w1 fun x14 =>
      ld (Value.int .i64) (p11.add 3) w1 fun x15 =>
      cv Tryz.prog p1 [(Value.agg #[(Value.int .i64 x12), (Value.int .i64 x13), (Value.int .i64 x14), (Value.int .i64 x15)])] (fun (r : Bool) => (Value.bool r)) w1 fun r16 w2 =>
      cnd (r16)
        (
        K l9 w2
        )
        (
        next9 (IntKind.i64.wrap (l9 + 1)) w2
        )
      )
      (
      K (-1) w1
      )
  ) 0 w0
set_option maxRecDepth 100000 in
theorem D77 (p0 : Sl) (p1 : Value) (w0 : World) (K : Int → World → Prop) (h : F77 p0 p1 w0 K) : callC Tryz.prog 77 #[(Sl.v p0), p1] (fun (r : Int) => (Value.int .i64 r)) w0 K := by
  unfold F77 at h
  refine calls_of_wpC Tryz.func77 rfl 19 rfl (by simp) ?_
  intro ρ hρ
  have e0 : ρ 0 = (Sl.v p0) := hρ 0
  have e1 : ρ 1 = p1 := hρ 1
  clear hρ
  refine wpC_seq ?_
  refine wpC_region ?_
  refine rv (Value.int .i64 0) w0 rfl rfl rfl (x_assign rfl rfl) ?_
  refine wpR_nil ?_
  refine wpC_seq ?_
  refine wpC_seq ?_
  refine wpC_cut (fun ρ => ρ 0 = (Sl.v p0) ∧ ρ 1 = p1 ∧ True) ⟨e0, e1, trivial⟩ ?_
  rintro ρ ⟨e0, e1, -⟩
  refine wpC_region ?_
  refine rv (Sl.v p0) w0 rfl rfl rfl (x_move rfl e0) ?_
  refine rv (Value.int .i64 (p0.len : Int)) w0 rfl rfl rfl (x_lenS (s := p0) rfl rfl isSliceT_66) ?_
  refine rv (Value.int .i64 0) w0 rfl rfl rfl (x_move rfl rfl) ?_
  refine wpR_nil ?_
  refine wpC_block ?_
  obtain ⟨I9, μ9, hI9, hr9⟩ := h
  refine wpC_loop (fun (x : Int) ρ => ρ 8 = (Value.int .i64 x) ∧ ρ 0 = (Sl.v p0) ∧ ρ 1 = p1 ∧ ρ 7 = (Value.int .i64 (p0.len : Int)) ∧ True) I9 μ9 0 ⟨rfl, e0, e1, rfl, trivial⟩ hI9 ?_
  rintro l9 ρ w1 ⟨e8, e0, e1, e7, -⟩ h
  replace h := hr9 l9 w1 h
  clear hr9 hI9
  refine wpC_seq ?_
  refine wpC_region ?_
  refine rv (Value.bool (decide (l9 < (p0.len : Int)))) w1 rfl rfl rfl (x_lss rfl e8 e7) ?_
  refine wpR_nil ?_
  refine wpC_seq ?_
  refine wpC_cond (b := decide (l9 < (p0.len : Int))) rfl (fun hc10 => ?_) (fun hc10 => ?_)
  · replace h := h.1 hc10
    refine wpC_skip ?_
    refine wpC_seq ?_
    refine wpC_block ?_
    refine wpC_seq ?_
    refine wpC_cut (fun ρ => ρ 0 = (Sl.v p0) ∧ ρ 1 = p1 ∧ ρ 7 = (Value.int .i64 (p0.len : Int)) ∧ ρ 8 = (Value.int .i64 l9) ∧ True) ⟨e0, e1, e7, e8, trivial⟩ ?_
    rintro ρ ⟨e0, e1, e7, e8, -⟩
    refine wpC_region ?_
    refine rv (Value.int .i64 l9) w1 rfl rfl rfl (x_move rfl e8) ?_
    refine rv (Value.int .i64 l9) w1 rfl rfl rfl (x_assign rfl rfl) ?_
    refine wpR_nil ?_
    refine wpC_seq ?_
    refine wpC_cut (fun ρ => ρ 0 = (Sl.v p0) ∧ ρ 1 = p1 ∧ ρ 5 = (Value.int .i64 l9) ∧ ρ 7 = (Value.int .i64 (p0.len : Int)) ∧ ρ 8 = (Value.int .i64 l9) ∧ True) ⟨e0, e1, rfl, e7, e8, trivial⟩ ?_
    rintro ρ ⟨e0, e1, e5, e7, e8, -⟩
    refine wpC_region ?_
    refine rv p1 w1 rfl rfl rfl (x_move rfl e1) ?_
    refine rv (Sl.v p0) w1 rfl rfl rfl (x_move rfl e0) ?_
    refine rv (Value.int .i64 l9) w1 rfl rfl rfl (x_move rfl e5) ?_
    obtain ⟨q11, z11, r11, h⟩ := h
    generalize hp11 : z11.add ((l9 : Int).toNat * 4) = p11 at h
    refine rv (Value.pointer (some p11)) w1 rfl rfl rfl ((x_indexAddr (s := p0) rfl rfl rfl ES_66 q11 r11).trans (by rw [hp11])) ?_
    obtain ⟨x12, q12, x13, q13, x14, q14, x15, q15, h⟩ := h
    refine rv (Value.agg #[(Value.int .i64 x12), (Value.int .i64 x13), (Value.int .i64 x14), (Value.int .i64 x15)]) w1 rfl rfl rfl (x_loadN [(Value.int .i64 x12), (Value.int .i64 x13), (Value.int .i64 x14), (Value.int .i64 x15)] rfl rfl SH_70 (CellsAt.out (CellsAt.cons q12 (CellsAt.cons q13 (CellsAt.cons q14 (CellsAt.cons q15 CellsAt.nil)))))) ?_
    obtain ⟨f16, fi16, ca16, fn16, qv16, qf16, qn16, qb16, h⟩ := h
    refine wpR_enter rfl rfl rfl (x_callv (vs := [(Value.agg #[(Value.int .i64 x12), (Value.int .i64 x13), (Value.int .i64 x14), (Value.int .i64 x15)])]) rfl ((show _ = p1 from rfl).trans qv16) (mapl_cons rfl mapl_nil) qf16 qn16 qb16) (Calls.mono h ?_)
    rintro _ w2 ⟨r16, rfl, h⟩
    refine ⟨_, rfl, ?_⟩
    refine wpR_nil ?_
    refine wpC_cond (b := r16) rfl (fun hc17 => ?_) (fun hc17 => ?_)
    · replace h := h.1 hc17
      refine wpC_seq ?_
      refine wpC_cut (fun ρ => ρ 5 = (Value.int .i64 l9) ∧ True) ⟨e5, trivial⟩ ?_
      rintro ρ ⟨e5, -⟩
      refine wpC_region ?_
      refine rv (Value.int .i64 l9) w2 rfl rfl rfl (x_move rfl e5) ?_
      refine rv (Value.int .i64 l9) w2 rfl rfl rfl (x_assign rfl rfl) ?_
      refine wpR_nil ?_
      refine wpC_ret ?_
      exact ⟨.inl rfl, fun a ha => ⟨_, results_rep1 rfl ha rfl, l9, rfl, h⟩⟩
    · replace h := h.2 hc17
      refine wpC_skip ?_
      refine wpC_cut (fun ρ => ρ 0 = (Sl.v p0) ∧ ρ 1 = p1 ∧ ρ 7 = (Value.int .i64 (p0.len : Int)) ∧ ρ 8 = (Value.int .i64 l9) ∧ True) ⟨e0, e1, e7, e8, trivial⟩ ?_
      rintro ρ ⟨e0, e1, e7, e8, -⟩
      refine wpC_region ?_
      refine rv (Value.int .i64 (IntKind.i64.wrap (l9 + 1))) w2 rfl rfl rfl (x_add rfl e8 rfl) ?_
      refine rv (Value.int .i64 (IntKind.i64.wrap (l9 + 1))) w2 rfl rfl rfl (x_move rfl rfl) ?_
      refine wpR_nil ?_
      exact ⟨IntKind.i64.wrap (l9 + 1), ⟨rfl, e0, e1, e7, trivial⟩, h⟩
  · replace h := h.2 hc10
    refine wpC_exit ?_
    refine wpC_seq ?_
    refine wpC_cut (fun ρ => True) trivial ?_
    rintro ρ -
    refine wpC_region ?_
    refine rv (Value.int .i64 (-1)) w1 rfl rfl rfl (x_assign rfl rfl) ?_
    refine wpR_nil ?_
    refine wpC_ret ?_
    exact ⟨.inl rfl, fun a ha => ⟨_, results_rep1 rfl ha rfl, (-1), rfl, h⟩⟩

/-- slices.IndexFunc[[]api.Bridge,api.Bridge] -/
def F79 (p0 : Sl) (p1 : Value) (w0 : World) (K : Int → World → Prop) : Prop :=
  lp (fun (next9 : Int → World → Prop) l9 w1 =>
    cnd (decide (l9 < (p0.len : Int)))
      (
      ix p0 l9 3 fun p11 =>
      ld (Value.int .i64) (p11.add 0) w1 fun x12 =>
      ld (Value.int .i64) (p11.add 1) w1 fun x13 =>
      ld Value.bool (p11.add 2) w1 fun x14 =>
      cv Tryz.prog p1 [(Value.agg #[(Value.int .i64 x12), (Value.int .i64 x13), (Value.bool x14)])] (fun (r : Bool) => (Value.bool r)) w1 fun r15 w2 =>
      cnd (r15)
        (
        K l9 w2
        )
        (
        next9 (IntKind.i64.wrap (l9 + 1)) w2
        )
      )
      (
      K (-1) w1
      )
  ) 0 w0
set_option maxRecDepth 100000 in
theorem D79 (p0 : Sl) (p1 : Value) (w0 : World) (K : Int → World → Prop) (h : F79 p0 p1 w0 K) : callC Tryz.prog 79 #[(Sl.v p0), p1] (fun (r : Int) => (Value.int .i64 r)) w0 K := by
  unfold F79 at h
  refine calls_of_wpC Tryz.func79 rfl 19 rfl (by simp) ?_
  intro ρ hρ
  have e0 : ρ 0 = (Sl.v p0) := hρ 0
  have e1 : ρ 1 = p1 := hρ 1
  clear hρ
  refine wpC_seq ?_
  refine wpC_region ?_
  refine rv (Value.int .i64 0) w0 rfl rfl rfl (x_assign rfl rfl) ?_
  refine wpR_nil ?_
  refine wpC_seq ?_
  refine wpC_seq ?_
  refine wpC_cut (fun ρ => ρ 0 = (Sl.v p0) ∧ ρ 1 = p1 ∧ True) ⟨e0, e1, trivial⟩ ?_
  rintro ρ ⟨e0, e1, -⟩
  refine wpC_region ?_
  refine rv (Sl.v p0) w0 rfl rfl rfl (x_move rfl e0) ?_
  refine rv (Value.int .i64 (p0.len : Int)) w0 rfl rfl rfl (x_lenS (s := p0) rfl rfl isSliceT_47) ?_
  refine rv (Value.int .i64 0) w0 rfl rfl rfl (x_move rfl rfl) ?_
  refine wpR_nil ?_
  refine wpC_block ?_
  obtain ⟨I9, μ9, hI9, hr9⟩ := h
  refine wpC_loop (fun (x : Int) ρ => ρ 8 = (Value.int .i64 x) ∧ ρ 0 = (Sl.v p0) ∧ ρ 1 = p1 ∧ ρ 7 = (Value.int .i64 (p0.len : Int)) ∧ True) I9 μ9 0 ⟨rfl, e0, e1, rfl, trivial⟩ hI9 ?_
  rintro l9 ρ w1 ⟨e8, e0, e1, e7, -⟩ h
  replace h := hr9 l9 w1 h
  clear hr9 hI9
  refine wpC_seq ?_
  refine wpC_region ?_
  refine rv (Value.bool (decide (l9 < (p0.len : Int)))) w1 rfl rfl rfl (x_lss rfl e8 e7) ?_
  refine wpR_nil ?_
  refine wpC_seq ?_
  refine wpC_cond (b := decide (l9 < (p0.len : Int))) rfl (fun hc10 => ?_) (fun hc10 => ?_)
  · replace h := h.1 hc10
    refine wpC_skip ?_
    refine wpC_seq ?_
    refine wpC_block ?_
    refine wpC_seq ?_
    refine wpC_cut (fun ρ => ρ 0 = (Sl.v p0) ∧ ρ 1 = p1 ∧ ρ 7 = (Value.int .i64 (p0.len : Int)) ∧ ρ 8 = (Value.int .i64 l9) ∧ True) ⟨e0, e1, e7, e8, trivial⟩ ?_
    rintro ρ ⟨e0, e1, e7, e8, -⟩
    refine wpC_region ?_
    refine rv (Value.int .i64 l9) w1 rfl rfl rfl (x_move rfl e8) ?_
    refine rv (Value.int .i64 l9) w1 rfl rfl rfl (x_assign rfl rfl) ?_
    refine wpR_nil ?_
    refine wpC_seq ?_
    refine wpC_cut (fun ρ => ρ 0 = (Sl.v p0) ∧ ρ 1 = p1 ∧ ρ 5 = (Value.int .i64 l9) ∧ ρ 7 = (Value.int .i64 (p0.len : Int)) ∧ ρ 8 = (Value.int .i64 l9) ∧ True) ⟨e0, e1, rfl, e7, e8, trivial⟩ ?_
    rintro ρ ⟨e0, e1, e5, e7, e8, -⟩
    refine wpC_region ?_
    refine rv p1 w1 rfl rfl rfl (x_move rfl e1) ?_
    refine rv (Sl.v p0) w1 rfl rfl rfl (x_move rfl e0) ?_
    refine rv (Value.int .i64 l9) w1 rfl rfl rfl (x_move rfl e5) ?_
    obtain ⟨q11, z11, r11, h⟩ := h
    generalize hp11 : z11.add ((l9 : Int).toNat * 3) = p11 at h
    refine rv (Value.pointer (some p11)) w1 rfl rfl rfl ((x_indexAddr (s := p0) rfl rfl rfl ES_47 q11 r11).trans (by rw [hp11])) ?_
    obtain ⟨x12, q12, x13, q13, x14, q14, h⟩ := h
    refine rv (Value.agg #[(Value.int .i64 x12), (Value.int .i64 x13), (Value.bool x14)]) w1 rfl rfl rfl (x_loadN [(Value.int .i64 x12), (Value.int .i64 x13), (Value.bool x14)] rfl rfl SH_56 (CellsAt.out (CellsAt.cons q12 (CellsAt.cons q13 (CellsAt.cons q14 CellsAt.nil))))) ?_
    obtain ⟨f15, fi15, ca15, fn15, qv15, qf15, qn15, qb15, h⟩ := h
    refine wpR_enter rfl rfl rfl (x_callv (vs := [(Value.agg #[(Value.int .i64 x12), (Value.int .i64 x13), (Value.bool x14)])]) rfl ((show _ = p1 from rfl).trans qv15) (mapl_cons rfl mapl_nil) qf15 qn15 qb15) (Calls.mono h ?_)
    rintro _ w2 ⟨r15, rfl, h⟩
    refine ⟨_, rfl, ?_⟩
    refine wpR_nil ?_
    refine wpC_cond (b := r15) rfl (fun hc16 => ?_) (fun hc16 => ?_)
    · replace h := h.1 hc16
      refine wpC_seq ?_
      refine wpC_cut (fun ρ => ρ 5 = (Value.int .i64 l9) ∧ True) ⟨e5, trivial⟩ ?_
      rintro ρ ⟨e5, -⟩
      refine wpC_region ?_
      refine rv (Value.int .i64 l9) w2 rfl rfl rfl (x_move rfl e5) ?_
      refine rv (Value.int .i64 l9) w2 rfl rfl rfl (x_assign rfl rfl) ?_
      refine wpR_nil ?_
      refine wpC_ret ?_
      exact ⟨.inl rfl, fun a ha => ⟨_, results_rep1 rfl ha rfl, l9, rfl, h⟩⟩
    · replace h := h.2 hc16
      refine wpC_skip ?_
      refine wpC_cut (fun ρ => ρ 0 = (Sl.v p0) ∧ ρ 1 = p1 ∧ ρ 7 = (Value.int .i64 (p0.len : Int)) ∧ ρ 8 = (Value.int .i64 l9) ∧ True) ⟨e0, e1, e7, e8, trivial⟩ ?_
      rintro ρ ⟨e0, e1, e7, e8, -⟩
      refine wpC_region ?_
      refine rv (Value.int .i64 (IntKind.i64.wrap (l9 + 1))) w2 rfl rfl rfl (x_add rfl e8 rfl) ?_
      refine rv (Value.int .i64 (IntKind.i64.wrap (l9 + 1))) w2 rfl rfl rfl (x_move rfl rfl) ?_
      refine wpR_nil ?_
      exact ⟨IntKind.i64.wrap (l9 + 1), ⟨rfl, e0, e1, e7, trivial⟩, h⟩
  · replace h := h.2 hc10
    refine wpC_exit ?_
    refine wpC_seq ?_
    refine wpC_cut (fun ρ => True) trivial ?_
    rintro ρ -
    refine wpC_region ?_
    refine rv (Value.int .i64 (-1)) w1 rfl rfl rfl (x_assign rfl rfl) ?_
    refine wpR_nil ?_
    refine wpC_ret ?_
    exact ⟨.inl rfl, fun a ha => ⟨_, results_rep1 rfl ha rfl, (-1), rfl, h⟩⟩

/-- echo.Score -/
def F80 (p0_0 : Int) (p0_1 : Int) (p0_2 : Int) (p0_3 : Int) (p0_4 : Int) (p1_0 : Int) (p1_1 : Int) (p1_2 : Int) (p1_3 : Int) (p1_4 : Int) (w0 : World) (K : Int → World → Prop) : Prop :=
  nw 52 #[(Value.int .i64 p0_0), (Value.int .i64 p0_1), (Value.int .i64 p0_2), (Value.int .i64 p0_3), (Value.int .i64 p0_4)] w0 fun b9 w1 =>
  nw 52 #[(Value.int .i64 p1_0), (Value.int .i64 p1_1), (Value.int .i64 p1_2), (Value.int .i64 p1_3), (Value.int .i64 p1_4)] w1 fun b10 w2 =>
  ld (Value.int .i64) ((Addr.mk b9 0 none).add 1) w2 fun x11 =>
  ld (Value.int .i64) ((Addr.mk b10 0 none).add 1) w2 fun x12 =>
  ld (Value.int .i64) ((Addr.mk b9 0 none).add 3) w2 fun x13 =>
  ld (Value.int .i64) ((Addr.mk b10 0 none).add 3) w2 fun x14 =>
  ld (Value.int .i64) ((Addr.mk b9 0 none).add 4) w2 fun x15 =>
  ld (Value.int .i64) ((Addr.mk b10 0 none).add 4) w2 fun x16 =>
  nw 4 #[(Value.bool (decide (x11 = x12))), (Value.bool (decide (x13 = x14))), (Value.bool (decide (x15 = x16)))] w2 fun b17 w3 =>
  lp (fun (next18 : (Int × Int) → World → Prop) l18 w4 =>
    cnd (decide (l18.2 < ((⟨some ⟨b17, 0, none⟩, 3, 3⟩ : Sl).len : Int)))
      (
      jn (fun (J20 : Int → World → Prop) =>
        ix (⟨some ⟨b17, 0, none⟩, 3, 3⟩ : Sl) l18.2 1 fun p22 =>
        ld Value.bool p22 w4 fun x23 =>
        cnd (x23)
          (
          J20 (IntKind.i64.wrap (l18.1 + 1)) w4
          )
          (
          J20 l18.1 w4
          )
      )
      fun l21 w5 =>
      next18 (l21, IntKind.i64.wrap (l18.2 + 1)) w5
      )
      (
      K l18.1 w4
      )
  ) (0, 0) w3
set_option maxRecDepth 100000 in
theorem D80 (p0_0 : Int) (p0_1 : Int) (p0_2 : Int) (p0_3 : Int) (p0_4 : Int) (p1_0 : Int) (p1_1 : Int) (p1_2 : Int) (p1_3 : Int) (p1_4 : Int) (w0 : World) (K : Int → World → Prop) (h : F80 p0_0 p0_1 p0_2 p0_3 p0_4 p1_0 p1_1 p1_2 p1_3 p1_4 w0 K) : callC Tryz.prog 80 #[(Value.agg #[(Value.int .i64 p0_0), (Value.int .i64 p0_1), (Value.int .i64 p0_2), (Value.int .i64 p0_3), (Value.int .i64 p0_4)]), (Value.agg #[(Value.int .i64 p1_0), (Value.int .i64 p1_1), (Value.int .i64 p1_2), (Value.int .i64 p1_3), (Value.int .i64 p1_4)])] (fun (r : Int) => (Value.int .i64 r)) w0 K := by
  unfold F80 at h
  refine calls_of_wpC Tryz.func80 rfl 34 rfl (by simp) ?_
  intro ρ hρ
  have e0 : ρ 0 = (Value.agg #[(Value.int .i64 p0_0), (Value.int .i64 p0_1), (Value.int .i64 p0_2), (Value.int .i64 p0_3), (Value.int .i64 p0_4)]) := hρ 0
  have e1 : ρ 1 = (Value.agg #[(Value.int .i64 p1_0), (Value.int .i64 p1_1), (Value.int .i64 p1_2), (Value.int .i64 p1_3), (Value.int .i64 p1_4)]) := hρ 1
  clear hρ
  refine wpC_seq ?_
  refine wpC_region ?_
  obtain ⟨b9, hb9⟩ : ∃ u, u = w0.heap.size := ⟨_, rfl⟩
  obtain ⟨w1, hw9⟩ : ∃ u, u = w0.alloc (.cells #[(Value.int .i64 p0_0), (Value.int .i64 p0_1), (Value.int .i64 p0_2), (Value.int .i64 p0_3), (Value.int .i64 p0_4)] 52) := ⟨_, rfl⟩
  replace h := h b9 w1 hb9 hw9
  refine rv (Value.pointer (some (Addr.mk b9 0 none))) w1 rfl rfl rfl ((x_box (v := (Value.agg #[(Value.int .i64 p0_0), (Value.int .i64 p0_1), (Value.int .i64 p0_2), (Value.int .i64 p0_3), (Value.int .i64 p0_4)])) rfl e0).trans (by rw [hb9, hw9]; rfl)) ?_
  obtain ⟨b10, hb10⟩ : ∃ u, u = w1.heap.size := ⟨_, rfl⟩
  obtain ⟨w2, hw10⟩ : ∃ u, u = w1.alloc (.cells #[(Value.int .i64 p1_0), (Value.int .i64 p1_1), (Value.int .i64 p1_2), (Value.int .i64 p1_3), (Value.int .i64 p1_4)] 52) := ⟨_, rfl⟩
  replace h := h b10 w2 hb10 hw10
  refine rv (Value.pointer (some (Addr.mk b10 0 none))) w2 rfl rfl rfl ((x_box (v := (Value.agg #[(Value.int .i64 p1_0), (Value.int .i64 p1_1), (Value.int .i64 p1_2), (Value.int .i64 p1_3), (Value.int .i64 p1_4)])) rfl e1).trans (by rw [hb10, hw10]; rfl)) ?_
  refine rv (Value.int .i64 0) w2 rfl rfl rfl (x_assign rfl rfl) ?_
  refine wpR_nil ?_
  refine wpC_seq ?_
  refine wpC_cut (fun ρ => ρ 2 = (Value.pointer (some (Addr.mk b9 0 none))) ∧ ρ 3 = (Value.pointer (some (Addr.mk b10 0 none))) ∧ True) ⟨rfl, rfl, trivial⟩ ?_
  rintro ρ ⟨e2, e3, -⟩
  refine wpC_region ?_
  refine rv (Value.int .i64 0) w2 rfl rfl rfl (x_assign rfl rfl) ?_
  refine wpR_nil ?_
  refine wpC_seq ?_
  refine wpC_seq ?_
  refine wpC_cut (fun ρ => ρ 2 = (Value.pointer (some (Addr.mk b9 0 none))) ∧ ρ 3 = (Value.pointer (some (Addr.mk b10 0 none))) ∧ ρ 5 = (Value.int .i64 0) ∧ True) ⟨e2, e3, rfl, trivial⟩ ?_
  rintro ρ ⟨e2, e3, e5, -⟩
  refine wpC_region ?_
  refine rv (Value.pointer (some ((Addr.mk b9 0 none).add 1))) w2 rfl rfl rfl (x_fieldAddr rfl e2 FA_52_1) ?_
  obtain ⟨x11, q11, h⟩ := h
  refine rv (Value.int .i64 x11) w2 rfl rfl rfl (x_load1 rfl rfl SH_3 q11) ?_
  refine rv (Value.pointer (some ((Addr.mk b10 0 none).add 1))) w2 rfl rfl rfl (x_fieldAddr rfl e3 FA_52_1) ?_
  obtain ⟨x12, q12, h⟩ := h
  refine rv (Value.int .i64 x12) w2 rfl rfl rfl (x_load1 rfl rfl SH_3 q12) ?_
  refine rv (Value.bool (decide (x11 = x12))) w2 rfl rfl rfl (x_eql rfl rfl rfl) ?_
  refine rv (Value.pointer (some ((Addr.mk b9 0 none).add 3))) w2 rfl rfl rfl (x_fieldAddr rfl e2 FA_52_3) ?_
  obtain ⟨x13, q13, h⟩ := h
  refine rv (Value.int .i64 x13) w2 rfl rfl rfl (x_load1 rfl rfl SH_3 q13) ?_
  refine rv (Value.pointer (some ((Addr.mk b10 0 none).add 3))) w2 rfl rfl rfl (x_fieldAddr rfl e3 FA_52_3) ?_
  obtain ⟨x14, q14, h⟩ := h
  refine rv (Value.int .i64 x14) w2 rfl rfl rfl (x_load1 rfl rfl SH_3 q14) ?_
  refine rv (Value.bool (decide (x13 = x14))) w2 rfl rfl rfl (x_eql rfl rfl rfl) ?_
  refine rv (Value.pointer (some ((Addr.mk b9 0 none).add 4))) w2 rfl rfl rfl (x_fieldAddr rfl e2 FA_52_4) ?_
  obtain ⟨x15, q15, h⟩ := h
  refine rv (Value.int .i64 x15) w2 rfl rfl rfl (x_load1 rfl rfl SH_3 q15) ?_
  refine rv (Value.pointer (some ((Addr.mk b10 0 none).add 4))) w2 rfl rfl rfl (x_fieldAddr rfl e3 FA_52_4) ?_
  obtain ⟨x16, q16, h⟩ := h
  refine rv (Value.int .i64 x16) w2 rfl rfl rfl (x_load1 rfl rfl SH_3 q16) ?_
  refine rv (Value.bool (decide (x15 = x16))) w2 rfl rfl rfl (x_eql rfl rfl rfl) ?_
  obtain ⟨b17, hb17⟩ : ∃ u, u = w2.heap.size := ⟨_, rfl⟩
  obtain ⟨w3, hw17⟩ : ∃ u, u = w2.alloc (.cells #[(Value.bool (decide (x11 = x12))), (Value.bool (decide (x13 = x14))), (Value.bool (decide (x15 = x16)))] 4) := ⟨_, rfl⟩
  replace h := h b17 w3 hb17 hw17
  refine rv (Sl.v (⟨some ⟨b17, 0, none⟩, 3, 3⟩ : Sl)) w3 rfl rfl rfl ((x_buildSlice (qs := [(0, (Value.bool (decide (x11 = x12)))), (1, (Value.bool (decide (x13 = x14)))), (2, (Value.bool (decide (x15 = x16))))]) rfl (by rfl) (BS_22_3_0_1_2 (decide (x11 = x12)) (decide (x13 = x14)) (decide (x15 = x16)))).trans (by rw [← hb17, ← hw17])) ?_
  refine rv (Value.int .i64 ((⟨some ⟨b17, 0, none⟩, 3, 3⟩ : Sl).len : Int)) w3 rfl rfl rfl (x_lenS (s := (⟨some ⟨b17, 0, none⟩, 3, 3⟩ : Sl)) rfl rfl isSliceT_22) ?_
  refine rv (Value.int .i64 0) w3 rfl rfl rfl (x_move rfl rfl) ?_
  refine wpR_nil ?_
  refine wpC_block ?_
  obtain ⟨I18, μ18, hI18, hr18⟩ := h
  refine wpC_loop (fun (x : Int × Int) ρ => ρ 5 = (Value.int .i64 x.1) ∧ ρ 25 = (Value.int .i64 x.2) ∧ ρ 23 = (Sl.v (⟨some ⟨b17, 0, none⟩, 3, 3⟩ : Sl)) ∧ ρ 24 = (Value.int .i64 ((⟨some ⟨b17, 0, none⟩, 3, 3⟩ : Sl).len : Int)) ∧ True) I18 μ18 (0, 0) ⟨e5, rfl, rfl, rfl, trivial⟩ hI18 ?_
  rintro l18 ρ w4 ⟨e5, e25, e23, e24, -⟩ h
  replace h := hr18 l18 w4 h
  clear hr18 hI18
  refine wpC_seq ?_
  refine wpC_region ?_
  refine rv (Value.bool (decide (l18.2 < ((⟨some ⟨b17, 0, none⟩, 3, 3⟩ : Sl).len : Int)))) w4 rfl rfl rfl (x_lss rfl e25 e24) ?_
  refine wpR_nil ?_
  refine wpC_seq ?_
  refine wpC_cond (b := decide (l18.2 < ((⟨some ⟨b17, 0, none⟩, 3, 3⟩ : Sl).len : Int))) rfl (fun hc19 => ?_) (fun hc19 => ?_)
  · replace h := h.1 hc19
    refine wpC_skip ?_
    obtain ⟨J20, h, hk⟩ := h
    refine wpC_seqJ (fun (x : Int) ρ => ρ 5 = (Value.int .i64 x) ∧ ρ 23 = (Sl.v (⟨some ⟨b17, 0, none⟩, 3, 3⟩ : Sl)) ∧ ρ 24 = (Value.int .i64 ((⟨some ⟨b17, 0, none⟩, 3, 3⟩ : Sl).len : Int)) ∧ ρ 25 = (Value.int .i64 l18.2) ∧ True) J20 ?_ ?_
    · clear hk
      refine wpC_block ?_
      refine wpC_seq ?_
      refine wpC_cut (fun ρ => ρ 5 = (Value.int .i64 l18.1) ∧ ρ 23 = (Sl.v (⟨some ⟨b17, 0, none⟩, 3, 3⟩ : Sl)) ∧ ρ 24 = (Value.int .i64 ((⟨some ⟨b17, 0, none⟩, 3, 3⟩ : Sl).len : Int)) ∧ ρ 25 = (Value.int .i64 l18.2) ∧ True) ⟨e5, e23, e24, e25, trivial⟩ ?_
      rintro ρ ⟨e5, e23, e24, e25, -⟩
      refine wpC_region ?_
      obtain ⟨q22, z22, r22, h⟩ := h
      generalize hp22 : z22.add ((l18.2 : Int).toNat * 1) = p22 at h
      refine rv (Value.pointer (some p22)) w4 rfl rfl rfl ((x_indexAddr (s := (⟨some ⟨b17, 0, none⟩, 3, 3⟩ : Sl)) rfl e23 e25 ES_22 q22 r22).trans (by rw [hp22])) ?_
      obtain ⟨x23, q23, h⟩ := h
      refine rv (Value.bool x23) w4 rfl rfl rfl (x_load1 rfl rfl SH_4 q23) ?_
      refine rv (Value.bool x23) w4 rfl rfl rfl (x_assign rfl rfl) ?_
      refine wpR_nil ?_
      refine wpC_seq ?_
      refine wpC_cut (fun ρ => ρ 5 = (Value.int .i64 l18.1) ∧ ρ 7 = (Value.bool x23) ∧ ρ 23 = (Sl.v (⟨some ⟨b17, 0, none⟩, 3, 3⟩ : Sl)) ∧ ρ 24 = (Value.int .i64 ((⟨some ⟨b17, 0, none⟩, 3, 3⟩ : Sl).len : Int)) ∧ ρ 25 = (Value.int .i64 l18.2) ∧ True) ⟨e5, rfl, e23, e24, e25, trivial⟩ ?_
      rintro ρ ⟨e5, e7, e23, e24, e25, -⟩
      refine wpC_region ?_
      refine rv (Value.bool x23) w4 rfl rfl rfl (x_move rfl e7) ?_
      refine wpR_nil ?_
      refine wpC_cond (b := x23) rfl (fun hc24 => ?_) (fun hc24 => ?_)
      · replace h := h.1 hc24
        refine wpC_cut (fun ρ => ρ 5 = (Value.int .i64 l18.1) ∧ ρ 23 = (Sl.v (⟨some ⟨b17, 0, none⟩, 3, 3⟩ : Sl)) ∧ ρ 24 = (Value.int .i64 ((⟨some ⟨b17, 0, none⟩, 3, 3⟩ : Sl).len : Int)) ∧ ρ 25 = (Value.int .i64 l18.2) ∧ True) ⟨e5, e23, e24, e25, trivial⟩ ?_
        rintro ρ ⟨e5, e23, e24, e25, -⟩
        refine wpC_region ?_
        refine rv (Value.int .i64 l18.1) w4 rfl rfl rfl (x_move rfl e5) ?_
        refine rv (Value.int .i64 (IntKind.i64.wrap (l18.1 + 1))) w4 rfl rfl rfl (x_add rfl rfl rfl) ?_
        refine rv (Value.int .i64 (IntKind.i64.wrap (l18.1 + 1))) w4 rfl rfl rfl (x_assign rfl rfl) ?_
        refine wpR_nil ?_
        exact ⟨IntKind.i64.wrap (l18.1 + 1), ⟨rfl, e23, e24, e25, trivial⟩, h⟩
      · replace h := h.2 hc24
        refine wpC_skip ?_
        exact ⟨l18.1, ⟨e5, e23, e24, e25, trivial⟩, h⟩
    clear h
    rintro l21 ρ w5 ⟨e5, e23, e24, e25, -⟩ h
    replace h := hk l21 w5 h
    clear hk
    refine wpC_region ?_
    refine rv (Value.int .i64 (IntKind.i64.wrap (l18.2 + 1))) w5 rfl rfl rfl (x_add rfl e25 rfl) ?_
    refine rv (Value.int .i64 (IntKind.i64.wrap (l18.2 + 1))) w5 rfl rfl rfl (x_move rfl rfl) ?_
    refine wpR_nil ?_
    exact ⟨(l21, IntKind.i64.wrap (l18.2 + 1)), ⟨e5, rfl, e23, e24, trivial⟩, h⟩
  · replace h := h.2 hc19
    refine wpC_exit ?_
    refine wpC_seq ?_
    refine wpC_cut (fun ρ => ρ 5 = (Value.int .i64 l18.1) ∧ True) ⟨e5, trivial⟩ ?_
    rintro ρ ⟨e5, -⟩
    refine wpC_region ?_
    refine rv (Value.int .i64 l18.1) w4 rfl rfl rfl (x_move rfl e5) ?_
    refine rv (Value.int .i64 l18.1) w4 rfl rfl rfl (x_assign rfl rfl) ?_
    refine wpR_nil ?_
    refine wpC_ret ?_
    exact ⟨.inl rfl, fun a ha => ⟨_, results_rep1 rfl ha rfl, l18.1, rfl, h⟩⟩

/-- admit.valid -/
def F84 (p0 : Sl) (w0 : World) (K : Bool → World → Prop) : Prop :=
  rn Tryz.prog (Instr.makeMap 78 none) (fun (r : (Option Nat)) => (Value.map r)) w0 fun r9 w1 =>
  lp (fun (next10 : Int → World → Prop) l10 w2 =>
    cnd (decide (l10 < (p0.len : Int)))
      (
      ix p0 l10 3 fun p12 =>
      ld (Value.int .i64) (p12.add 0) w2 fun x13 =>
      ld (Value.int .i64) (p12.add 1) w2 fun x14 =>
      ld (Value.int .i64) (p12.add 2) w2 fun x15 =>
      nw 103 #[(Value.int .i64 0), (Value.int .i64 0), (Value.int .i64 0)] w2 fun b16 w3 =>
      st (Addr.mk b16 0 none) [(Value.int .i64 x13), (Value.int .i64 x14), (Value.int .i64 x15)] w3 fun w4 =>
      ld (Value.int .i64) ((Addr.mk b16 0 none).add 0) w4 fun x18 =>
      jn (fun J19 => cnd (decide (x18 < 0))
        (
        J19 true w4
        )
        (
        ld (Value.int .i64) ((Addr.mk b16 0 none).add 0) w4 fun x21 =>
        rn Tryz.prog (Instr.lookup 78 (Value.map r9) (Value.int .i64 x21) false) (fun (r : Bool) => (Value.bool r)) w4 fun r22 w5 =>
        J19 r22 w5
        ))
      fun c23 w6 =>
      jp (fun J24 => cnd (c23)
        (
        J24 true
        )
        (
        ld (Value.int .i64) ((Addr.mk b16 0 none).add 1) w6 fun x26 =>
        J24 (decide (x26 < 1))
        ))
      fun c27 =>
      jp (fun J28 => cnd (c27)
        (
        J28 true
        )
        (
        ld (Value.int .i64) ((Addr.mk b16 0 none).add 1) w6 fun x30 =>
        J28 (decide (1099511627776 < x30))
        ))
      fun c31 =>
      jp (fun J32 => cnd (c31)
        (
        J32 true
        )
        (
        ld (Value.int .i64) ((Addr.mk b16 0 none).add 2) w6 fun x34 =>
        J32 (decide (x34 < 0))
        ))
      fun c35 =>
      jp (fun J36 => cnd (c35)
        (
        J36 true
        )
        (
        ld (Value.int .i64) ((Addr.mk b16 0 none).add 2) w6 fun x38 =>
        J36 (decide (1073741824 < x38))
        ))
      fun c39 =>
      cnd (c39)
        (
        K false w6
        )
        (
        ld (Value.int .i64) ((Addr.mk b16 0 none).add 0) w6 fun x41 =>
        rn0 Tryz.prog (Instr.mapUpdate 78 (Value.map r9) (Value.int .i64 x41) (Value.bool true)) w6 fun w7 =>
        next10 (IntKind.i64.wrap (l10 + 1)) w7
        )
      )
      (
      K (decide ((p0.len : Int) ≤ 1000)) w2
      )
  ) 0 w1
set_option maxRecDepth 100000 in
theorem D84 (p0 : Sl) (w0 : World) (K : Bool → World → Prop) (h : F84 p0 w0 K) : callC Tryz.prog 84 #[(Sl.v p0)] (fun (r : Bool) => (Value.bool r)) w0 K := by
  unfold F84 at h
  refine calls_of_wpC Tryz.func84 rfl 49 rfl (by simp) ?_
  intro ρ hρ
  have e0 : ρ 0 = (Sl.v p0) := hρ 0
  clear hρ
  refine wpC_seq ?_
  refine wpC_region ?_
  refine rv (Value.bool false) w0 rfl rfl rfl (x_assign rfl rfl) ?_
  refine wpR_nil ?_
  refine wpC_seq ?_
  refine wpC_cut (fun ρ => ρ 0 = (Sl.v p0) ∧ True) ⟨e0, trivial⟩ ?_
  rintro ρ ⟨e0, -⟩
  refine wpC_region ?_
  obtain ⟨r9, w1, q9, h⟩ := h
  refine rv (Value.map r9) w1 rfl rfl rfl (x_makeMap rfl rfl q9) ?_
  refine rv (Value.map r9) w1 rfl rfl rfl (x_assign rfl rfl) ?_
  refine wpR_nil ?_
  refine wpC_seq ?_
  refine wpC_seq ?_
  refine wpC_cut (fun ρ => ρ 0 = (Sl.v p0) ∧ ρ 3 = (Value.map r9) ∧ True) ⟨e0, rfl, trivial⟩ ?_
  rintro ρ ⟨e0, e3, -⟩
  refine wpC_region ?_
  refine rv (Sl.v p0) w1 rfl rfl rfl (x_move rfl e0) ?_
  refine rv (Value.int .i64 (p0.len : Int)) w1 rfl rfl rfl (x_lenS (s := p0) rfl rfl isSliceT_101) ?_
  refine rv (Value.int .i64 0) w1 rfl rfl rfl (x_move rfl rfl) ?_
  refine wpR_nil ?_
  refine wpC_block ?_
  obtain ⟨I10, μ10, hI10, hr10⟩ := h
  refine wpC_loop (fun (x : Int) ρ => ρ 9 = (Value.int .i64 x) ∧ ρ 0 = (Sl.v p0) ∧ ρ 3 = (Value.map r9) ∧ ρ 7 = (Sl.v p0) ∧ ρ 8 = (Value.int .i64 (p0.len : Int)) ∧ True) I10 μ10 0 ⟨rfl, e0, e3, rfl, rfl, trivial⟩ hI10 ?_
  rintro l10 ρ w2 ⟨e9, e0, e3, e7, e8, -⟩ h
  replace h := hr10 l10 w2 h
  clear hr10 hI10
  refine wpC_seq ?_
  refine wpC_region ?_
  refine rv (Value.bool (decide (l10 < (p0.len : Int)))) w2 rfl rfl rfl (x_lss rfl e9 e8) ?_
  refine wpR_nil ?_
  refine wpC_seq ?_
  refine wpC_cond (b := decide (l10 < (p0.len : Int))) rfl (fun hc11 => ?_) (fun hc11 => ?_)
  · replace h := h.1 hc11
    refine wpC_skip ?_
    refine wpC_seq ?_
    refine wpC_block ?_
    refine wpC_seq ?_
    refine wpC_cut (fun ρ => ρ 0 = (Sl.v p0) ∧ ρ 3 = (Value.map r9) ∧ ρ 7 = (Sl.v p0) ∧ ρ 8 = (Value.int .i64 (p0.len : Int)) ∧ ρ 9 = (Value.int .i64 l10) ∧ True) ⟨e0, e3, e7, e8, e9, trivial⟩ ?_
    rintro ρ ⟨e0, e3, e7, e8, e9, -⟩
    refine wpC_region ?_
    obtain ⟨q12, z12, r12, h⟩ := h
    generalize hp12 : z12.add ((l10 : Int).toNat * 3) = p12 at h
    refine rv (Value.pointer (some p12)) w2 rfl rfl rfl ((x_indexAddr (s := p0) rfl e7 e9 ES_101 q12 r12).trans (by rw [hp12])) ?_
    obtain ⟨x13, q13, x14, q14, x15, q15, h⟩ := h
    refine rv (Value.agg #[(Value.int .i64 x13), (Value.int .i64 x14), (Value.int .i64 x15)]) w2 rfl rfl rfl (x_loadN [(Value.int .i64 x13), (Value.int .i64 x14), (Value.int .i64 x15)] rfl rfl SH_103 (CellsAt.out (CellsAt.cons q13 (CellsAt.cons q14 (CellsAt.cons q15 CellsAt.nil))))) ?_
    obtain ⟨b16, hb16⟩ : ∃ u, u = w2.heap.size := ⟨_, rfl⟩
    obtain ⟨w3, hw16⟩ : ∃ u, u = w2.alloc (.cells #[(Value.int .i64 0), (Value.int .i64 0), (Value.int .i64 0)] 103) := ⟨_, rfl⟩
    replace h := h b16 w3 hb16 hw16
    refine rv (Value.pointer (some (Addr.mk b16 0 none))) w3 rfl rfl rfl ((x_alloc rfl ZV_103).trans (by rw [hb16, hw16]; rfl)) ?_
    obtain ⟨q17, h⟩ := h
    obtain ⟨w4, hw17⟩ : ∃ u, u = setAll w3 (Addr.mk b16 0 none) [(Value.int .i64 x13), (Value.int .i64 x14), (Value.int .i64 x15)] 0 := ⟨_, rfl⟩
    replace h := h w4 hw17
    refine wpR_skp (w' := w4) rfl rfl ((x_store (v := (Value.agg #[(Value.int .i64 x13), (Value.int .i64 x14), (Value.int .i64 x15)])) rfl rfl rfl SZ_103 (ones (by rfl)) q17).trans (by rw [hw17]; rfl)) ?_
    refine wpR_nil ?_
    refine wpC_seq ?_
    refine wpC_seq ?_
    refine wpC_cut (fun ρ => ρ 0 = (Sl.v p0) ∧ ρ 3 = (Value.map r9) ∧ ρ 5 = (Value.pointer (some (Addr.mk b16 0 none))) ∧ ρ 7 = (Sl.v p0) ∧ ρ 8 = (Value.int .i64 (p0.len : Int)) ∧ ρ 9 = (Value.int .i64 l10) ∧ True) ⟨e0, e3, rfl, e7, e8, e9, trivial⟩ ?_
    rintro ρ ⟨e0, e3, e5, e7, e8, e9, -⟩
    refine wpC_region ?_
    refine rv (Value.pointer (some ((Addr.mk b16 0 none).add 0))) w4 rfl rfl rfl (x_fieldAddr rfl e5 FA_103_0) ?_
    obtain ⟨x18, q18, h⟩ := h
    refine rv (Value.int .i64 x18) w4 rfl rfl rfl (x_load1 rfl rfl SH_3 q18) ?_
    refine rv (Value.bool (decide (x18 < 0))) w4 rfl rfl rfl (x_lss rfl rfl rfl) ?_
    refine rv (Value.bool (decide (x18 < 0))) w4 rfl rfl rfl (x_move rfl rfl) ?_
    obtain ⟨J19, h, hk⟩ := h
    refine wpR_joinJ 5 (fun x ρ => ρ 21 = Value.bool x ∧ ρ 0 = (Sl.v p0) ∧ ρ 3 = (Value.map r9) ∧ ρ 5 = (Value.pointer (some (Addr.mk b16 0 none))) ∧ ρ 7 = (Sl.v p0) ∧ ρ 8 = (Value.int .i64 (p0.len : Int)) ∧ ρ 9 = (Value.int .i64 l10) ∧ True) (J19) ?_ ?_
    · clear hk
      rcases Bool.eq_false_or_eq_true (decide (x18 < 0)) with hc20 | hc20
      · replace h := h.1 hc20
        refine wpR_pass (wantN rfl rfl rfl hc20) rfl rfl ?_
        refine wpR_pass (wantN rfl rfl rfl hc20) rfl rfl ?_
        refine wpR_pass (wantN rfl rfl rfl hc20) rfl rfl ?_
        refine wpR_pass (wantN rfl rfl rfl hc20) rfl rfl ?_
        refine rv (Value.bool true) w4 rfl rfl rfl (x_pickT (v := (Value.bool true)) rfl rfl hc20 rfl) ?_
        refine wpR_nil ?_
        exact ⟨true, ⟨rfl, e0, e3, e5, e7, e8, e9, trivial⟩, h⟩
      · replace h := h.2 hc20
        refine wpR_val (v := (Value.map r9)) (w' := w4) (wantG rfl rfl rfl hc20) rfl rfl (x_move rfl e3) ?_
        refine wpR_val (v := (Value.pointer (some ((Addr.mk b16 0 none).add 0)))) (w' := w4) (wantG rfl rfl rfl hc20) rfl rfl (x_fieldAddr rfl e5 FA_103_0) ?_
        obtain ⟨x21, q21, h⟩ := h
        refine wpR_val (v := (Value.int .i64 x21)) (w' := w4) (wantG rfl rfl rfl hc20) rfl rfl (x_load1 rfl rfl SH_3 q21) ?_
        obtain ⟨r22, w5, q22, h⟩ := h
        refine wpR_val (v := (Value.bool r22)) (w' := w5) (wantG rfl rfl rfl hc20) rfl rfl (x_lookup rfl rfl rfl q22) ?_
        refine rv (Value.bool r22) w5 rfl rfl rfl (x_pickF (v := (Value.bool r22)) rfl rfl hc20 rfl) ?_
        refine wpR_nil ?_
        exact ⟨r22, ⟨rfl, e0, e3, e5, e7, e8, e9, trivial⟩, h⟩
    clear h
    rintro c23 ρ w6 ⟨e21, e0, e3, e5, e7, e8, e9, -⟩ h
    replace h := hk c23 w6 h
    clear hk
    refine rv (Value.bool c23) w6 rfl rfl rfl (x_move rfl e21) ?_
    obtain ⟨J24, h, hk⟩ := h
    refine wpR_joinJ 4 (fun x ρ => ρ 26 = Value.bool x ∧ ρ 0 = (Sl.v p0) ∧ ρ 3 = (Value.map r9) ∧ ρ 5 = (Value.pointer (some (Addr.mk b16 0 none))) ∧ ρ 7 = (Sl.v p0) ∧ ρ 8 = (Value.int .i64 (p0.len : Int)) ∧ ρ 9 = (Value.int .i64 l10) ∧ True) (fun x w => J24 x ∧ w6 = w) ?_ ?_
    · clear hk
      rcases Bool.eq_false_or_eq_true (c23) with hc25 | hc25
      · replace h := h.1 hc25
        refine wpR_pass (wantN rfl rfl rfl hc25) rfl rfl ?_
        refine wpR_pass (wantN rfl rfl rfl hc25) rfl rfl ?_
        refine wpR_pass (wantN rfl rfl rfl hc25) rfl rfl ?_
        refine rv (Value.bool true) w6 rfl rfl rfl (x_pickT (v := (Value.bool true)) rfl rfl hc25 rfl) ?_
        refine wpR_nil ?_
        exact ⟨true, ⟨rfl, e0, e3, e5, e7, e8, e9, trivial⟩, h, rfl⟩
      · replace h := h.2 hc25
        refine wpR_val (v := (Value.pointer (some ((Addr.mk b16 0 none).add 1)))) (w' := w6) (wantG rfl rfl rfl hc25) rfl rfl (x_fieldAddr rfl e5 FA_103_1) ?_
        obtain ⟨x26, q26, h⟩ := h
        refine wpR_val (v := (Value.int .i64 x26)) (w' := w6) (wantG rfl rfl rfl hc25) rfl rfl (x_load1 rfl rfl SH_3 q26) ?_
        refine wpR_val (v := (Value.bool (decide (x26 < 1)))) (w' := w6) (wantG rfl rfl rfl hc25) rfl rfl (x_lss rfl rfl rfl) ?_
        refine rv (Value.bool (decide (x26 < 1))) w6 rfl rfl rfl (x_pickF (v := (Value.bool (decide (x26 < 1)))) rfl rfl hc25 rfl) ?_
        refine wpR_nil ?_
        exact ⟨decide (x26 < 1), ⟨rfl, e0, e3, e5, e7, e8, e9, trivial⟩, h, rfl⟩
    clear h
    rintro c27 ρ wj ⟨e26, e0, e3, e5, e7, e8, e9, -⟩ ⟨h, rfl⟩
    replace h := hk c27 h
    clear hk
    refine rv (Value.bool c27) w6 rfl rfl rfl (x_move rfl e26) ?_
    obtain ⟨J28, h, hk⟩ := h
    refine wpR_joinJ 4 (fun x ρ => ρ 31 = Value.bool x ∧ ρ 0 = (Sl.v p0) ∧ ρ 3 = (Value.map r9) ∧ ρ 5 = (Value.pointer (some (Addr.mk b16 0 none))) ∧ ρ 7 = (Sl.v p0) ∧ ρ 8 = (Value.int .i64 (p0.len : Int)) ∧ ρ 9 = (Value.int .i64 l10) ∧ True) (fun x w => J28 x ∧ w6 = w) ?_ ?_
    · clear hk
      rcases Bool.eq_false_or_eq_true (c27) with hc29 | hc29
      · replace h := h.1 hc29
        refine wpR_pass (wantN rfl rfl rfl hc29) rfl rfl ?_
        refine wpR_pass (wantN rfl rfl rfl hc29) rfl rfl ?_
        refine wpR_pass (wantN rfl rfl rfl hc29) rfl rfl ?_
        refine rv (Value.bool true) w6 rfl rfl rfl (x_pickT (v := (Value.bool true)) rfl rfl hc29 rfl) ?_
        refine wpR_nil ?_
        exact ⟨true, ⟨rfl, e0, e3, e5, e7, e8, e9, trivial⟩, h, rfl⟩
      · replace h := h.2 hc29
        refine wpR_val (v := (Value.pointer (some ((Addr.mk b16 0 none).add 1)))) (w' := w6) (wantG rfl rfl rfl hc29) rfl rfl (x_fieldAddr rfl e5 FA_103_1) ?_
        obtain ⟨x30, q30, h⟩ := h
        refine wpR_val (v := (Value.int .i64 x30)) (w' := w6) (wantG rfl rfl rfl hc29) rfl rfl (x_load1 rfl rfl SH_3 q30) ?_
        refine wpR_val (v := (Value.bool (decide (1099511627776 < x30)))) (w' := w6) (wantG rfl rfl rfl hc29) rfl rfl (x_gtr rfl rfl rfl) ?_
        refine rv (Value.bool (decide (1099511627776 < x30))) w6 rfl rfl rfl (x_pickF (v := (Value.bool (decide (1099511627776 < x30)))) rfl rfl hc29 rfl) ?_
        refine wpR_nil ?_
        exact ⟨decide (1099511627776 < x30), ⟨rfl, e0, e3, e5, e7, e8, e9, trivial⟩, h, rfl⟩
    clear h
    rintro c31 ρ wj ⟨e31, e0, e3, e5, e7, e8, e9, -⟩ ⟨h, rfl⟩
    replace h := hk c31 h
    clear hk
    refine rv (Value.bool c31) w6 rfl rfl rfl (x_move rfl e31) ?_
    obtain ⟨J32, h, hk⟩ := h
    refine wpR_joinJ 4 (fun x ρ => ρ 36 = Value.bool x ∧ ρ 0 = (Sl.v p0) ∧ ρ 3 = (Value.map r9) ∧ ρ 5 = (Value.pointer (some (Addr.mk b16 0 none))) ∧ ρ 7 = (Sl.v p0) ∧ ρ 8 = (Value.int .i64 (p0.len : Int)) ∧ ρ 9 = (Value.int .i64 l10) ∧ True) (fun x w => J32 x ∧ w6 = w) ?_ ?_
    · clear hk
      rcases Bool.eq_false_or_eq_true (c31) with hc33 | hc33
      · replace h := h.1 hc33
        refine wpR_pass (wantN rfl rfl rfl hc33) rfl rfl ?_
        refine wpR_pass (wantN rfl rfl rfl hc33) rfl rfl ?_
        refine wpR_pass (wantN rfl rfl rfl hc33) rfl rfl ?_
        refine rv (Value.bool true) w6 rfl rfl rfl (x_pickT (v := (Value.bool true)) rfl rfl hc33 rfl) ?_
        refine wpR_nil ?_
        exact ⟨true, ⟨rfl, e0, e3, e5, e7, e8, e9, trivial⟩, h, rfl⟩
      · replace h := h.2 hc33
        refine wpR_val (v := (Value.pointer (some ((Addr.mk b16 0 none).add 2)))) (w' := w6) (wantG rfl rfl rfl hc33) rfl rfl (x_fieldAddr rfl e5 FA_103_2) ?_
        obtain ⟨x34, q34, h⟩ := h
        refine wpR_val (v := (Value.int .i64 x34)) (w' := w6) (wantG rfl rfl rfl hc33) rfl rfl (x_load1 rfl rfl SH_3 q34) ?_
        refine wpR_val (v := (Value.bool (decide (x34 < 0)))) (w' := w6) (wantG rfl rfl rfl hc33) rfl rfl (x_lss rfl rfl rfl) ?_
        refine rv (Value.bool (decide (x34 < 0))) w6 rfl rfl rfl (x_pickF (v := (Value.bool (decide (x34 < 0)))) rfl rfl hc33 rfl) ?_
        refine wpR_nil ?_
        exact ⟨decide (x34 < 0), ⟨rfl, e0, e3, e5, e7, e8, e9, trivial⟩, h, rfl⟩
    clear h
    rintro c35 ρ wj ⟨e36, e0, e3, e5, e7, e8, e9, -⟩ ⟨h, rfl⟩
    replace h := hk c35 h
    clear hk
    refine rv (Value.bool c35) w6 rfl rfl rfl (x_move rfl e36) ?_
    obtain ⟨J36, h, hk⟩ := h
    refine wpR_joinJ 4 (fun x ρ => ρ 41 = Value.bool x ∧ ρ 0 = (Sl.v p0) ∧ ρ 3 = (Value.map r9) ∧ ρ 5 = (Value.pointer (some (Addr.mk b16 0 none))) ∧ ρ 7 = (Sl.v p0) ∧ ρ 8 = (Value.int .i64 (p0.len : Int)) ∧ ρ 9 = (Value.int .i64 l10) ∧ True) (fun x w => J36 x ∧ w6 = w) ?_ ?_
    · clear hk
      rcases Bool.eq_false_or_eq_true (c35) with hc37 | hc37
      · replace h := h.1 hc37
        refine wpR_pass (wantN rfl rfl rfl hc37) rfl rfl ?_
        refine wpR_pass (wantN rfl rfl rfl hc37) rfl rfl ?_
        refine wpR_pass (wantN rfl rfl rfl hc37) rfl rfl ?_
        refine rv (Value.bool true) w6 rfl rfl rfl (x_pickT (v := (Value.bool true)) rfl rfl hc37 rfl) ?_
        refine wpR_nil ?_
        exact ⟨true, ⟨rfl, e0, e3, e5, e7, e8, e9, trivial⟩, h, rfl⟩
      · replace h := h.2 hc37
        refine wpR_val (v := (Value.pointer (some ((Addr.mk b16 0 none).add 2)))) (w' := w6) (wantG rfl rfl rfl hc37) rfl rfl (x_fieldAddr rfl e5 FA_103_2) ?_
        obtain ⟨x38, q38, h⟩ := h
        refine wpR_val (v := (Value.int .i64 x38)) (w' := w6) (wantG rfl rfl rfl hc37) rfl rfl (x_load1 rfl rfl SH_3 q38) ?_
        refine wpR_val (v := (Value.bool (decide (1073741824 < x38)))) (w' := w6) (wantG rfl rfl rfl hc37) rfl rfl (x_gtr rfl rfl rfl) ?_
        refine rv (Value.bool (decide (1073741824 < x38))) w6 rfl rfl rfl (x_pickF (v := (Value.bool (decide (1073741824 < x38)))) rfl rfl hc37 rfl) ?_
        refine wpR_nil ?_
        exact ⟨decide (1073741824 < x38), ⟨rfl, e0, e3, e5, e7, e8, e9, trivial⟩, h, rfl⟩
    clear h
    rintro c39 ρ wj ⟨e41, e0, e3, e5, e7, e8, e9, -⟩ ⟨h, rfl⟩
    replace h := hk c39 h
    clear hk
    refine wpR_nil ?_
    refine wpC_cond (b := c39) e41 (fun hc40 => ?_) (fun hc40 => ?_)
    · replace h := h.1 hc40
      refine wpC_seq ?_
      refine wpC_region ?_
      refine rv (Value.bool false) w6 rfl rfl rfl (x_assign rfl rfl) ?_
      refine wpR_nil ?_
      refine wpC_ret ?_
      exact ⟨.inl rfl, fun a ha => ⟨_, results_rep1 rfl ha rfl, false, rfl, h⟩⟩
    · replace h := h.2 hc40
      refine wpC_skip ?_
      refine wpC_region ?_
      refine rv (Value.map r9) w6 rfl rfl rfl (x_move rfl e3) ?_
      refine rv (Value.pointer (some ((Addr.mk b16 0 none).add 0))) w6 rfl rfl rfl (x_fieldAddr rfl e5 FA_103_0) ?_
      obtain ⟨x41, q41, h⟩ := h
      refine rv (Value.int .i64 x41) w6 rfl rfl rfl (x_load1 rfl rfl SH_3 q41) ?_
      obtain ⟨w7, q42, h⟩ := h
      refine wpR_skp (w' := w7) rfl rfl (x_mapUpdate rfl rfl rfl rfl q42) ?_
      refine wpR_nil ?_
      refine wpC_cut (fun ρ => ρ 0 = (Sl.v p0) ∧ ρ 3 = (Value.map r9) ∧ ρ 7 = (Sl.v p0) ∧ ρ 8 = (Value.int .i64 (p0.len : Int)) ∧ ρ 9 = (Value.int .i64 l10) ∧ True) ⟨e0, e3, e7, e8, e9, trivial⟩ ?_
      rintro ρ ⟨e0, e3, e7, e8, e9, -⟩
      refine wpC_region ?_
      refine rv (Value.int .i64 (IntKind.i64.wrap (l10 + 1))) w7 rfl rfl rfl (x_add rfl e9 rfl) ?_
      refine rv (Value.int .i64 (IntKind.i64.wrap (l10 + 1))) w7 rfl rfl rfl (x_move rfl rfl) ?_
      refine wpR_nil ?_
      exact ⟨IntKind.i64.wrap (l10 + 1), ⟨rfl, e0, e3, e7, e8, trivial⟩, h⟩
  · replace h := h.2 hc11
    refine wpC_exit ?_
    refine wpC_seq ?_
    refine wpC_cut (fun ρ => ρ 0 = (Sl.v p0) ∧ True) ⟨e0, trivial⟩ ?_
    rintro ρ ⟨e0, -⟩
    refine wpC_region ?_
    refine rv (Sl.v p0) w2 rfl rfl rfl (x_move rfl e0) ?_
    refine rv (Value.int .i64 (p0.len : Int)) w2 rfl rfl rfl (x_lenS (s := p0) rfl rfl isSliceT_101) ?_
    refine rv (Value.bool (decide ((p0.len : Int) ≤ 1000))) w2 rfl rfl rfl (x_leq rfl rfl rfl) ?_
    refine rv (Value.bool (decide ((p0.len : Int) ≤ 1000))) w2 rfl rfl rfl (x_assign rfl rfl) ?_
    refine wpR_nil ?_
    refine wpC_ret ?_
    exact ⟨.inl rfl, fun a ha => ⟨_, results_rep1 rfl ha rfl, decide ((p0.len : Int) ≤ 1000), rfl, h⟩⟩

/-- slices.Clone[[]api.Job,api.Job] -/
def F85 (p0 : Sl) (w0 : World) (K : Sl → World → Prop) : Prop :=
  cnd (p0.a.isNone)
    (
    K Sl.nil w0
    )
    (
    nw 103 #[] w0 fun b10 w1 =>
    rn Tryz.prog (Builtin.append_ #[101, 101] 101 #[Sl.v (⟨some ⟨b10, 0, none⟩, 0, 0⟩ : Sl), Sl.v p0]) Sl.v w1 fun r11 w2 =>
    K r11 w2
    )
set_option maxRecDepth 100000 in
theorem D85 (p0 : Sl) (w0 : World) (K : Sl → World → Prop) (h : F85 p0 w0 K) : callC Tryz.prog 85 #[(Sl.v p0)] (fun (r : Sl) => (Sl.v r)) w0 K := by
  unfold F85 at h
  refine calls_of_wpC Tryz.func85 rfl 8 rfl (by simp) ?_
  intro ρ hρ
  have e0 : ρ 0 = (Sl.v p0) := hρ 0
  clear hρ
  refine wpC_seq ?_
  refine wpC_region ?_
  refine rv (Sl.v Sl.nil) w0 rfl rfl rfl (x_assign rfl rfl) ?_
  refine wpR_nil ?_
  refine wpC_seq ?_
  refine wpC_seq ?_
  refine wpC_cut (fun ρ => ρ 0 = (Sl.v p0) ∧ True) ⟨e0, trivial⟩ ?_
  rintro ρ ⟨e0, -⟩
  refine wpC_region ?_
  refine rv (Sl.v p0) w0 rfl rfl rfl (x_move rfl e0) ?_
  refine rv (Value.bool p0.a.isNone) w0 rfl rfl rfl (x_eqlNilS (s := p0) rfl rfl rfl isSliceT_101) ?_
  refine wpR_nil ?_
  refine wpC_cond (b := p0.a.isNone) rfl (fun hc9 => ?_) (fun hc9 => ?_)
  · replace h := h.1 hc9
    refine wpC_seq ?_
    refine wpC_cut (fun ρ => True) trivial ?_
    rintro ρ -
    refine wpC_region ?_
    refine rv (Sl.v Sl.nil) w0 rfl rfl rfl (x_assign rfl rfl) ?_
    refine wpR_nil ?_
    refine wpC_ret ?_
    exact ⟨.inl rfl, fun a ha => ⟨_, results_rep1 rfl ha rfl, Sl.nil, rfl, h⟩⟩
  · replace h := h.2 hc9
    refine wpC_skip ?_
    refine wpC_seq ?_
    refine wpC_cut (fun ρ => ρ 0 = (Sl.v p0) ∧ True) ⟨e0, trivial⟩ ?_
    rintro ρ ⟨e0, -⟩
    refine wpC_region ?_
    obtain ⟨b10, hb10⟩ : ∃ u, u = w0.heap.size := ⟨_, rfl⟩
    obtain ⟨w1, hw10⟩ : ∃ u, u = w0.alloc (.cells #[] 103) := ⟨_, rfl⟩
    replace h := h b10 w1 hb10 hw10
    refine rv (Sl.v (⟨some ⟨b10, 0, none⟩, 0, 0⟩ : Sl)) w1 rfl rfl rfl ((x_buildSlice (qs := []) rfl (by rfl) (BS_101_0_ )).trans (by rw [← hb10, ← hw10])) ?_
    refine rv (Sl.v p0) w1 rfl rfl rfl (x_move rfl e0) ?_
    obtain ⟨r11, w2, q11, h⟩ := h
    refine rv (Sl.v r11) w2 rfl rfl rfl (x_append (s := (⟨some ⟨b10, 0, none⟩, 0, 0⟩ : Sl)) (u := p0) rfl rfl rfl rfl q11) ?_
    refine rv (Sl.v r11) w2 rfl rfl rfl (x_assign rfl rfl) ?_
    refine wpR_nil ?_
    refine wpC_ret ?_
    exact ⟨.inl rfl, fun a ha => ⟨_, results_rep1 rfl ha rfl, r11, rfl, h⟩⟩

/-- admit.demands$1 -/
def F87 (p0_0 : Int) (p0_1 : Int) (p0_2 : Int) (p1_0 : Int) (p1_1 : Int) (p1_2 : Int) (w0 : World) (K : Int → World → Prop) : Prop :=
  nw 103 #[(Value.int .i64 p0_0), (Value.int .i64 p0_1), (Value.int .i64 p0_2)] w0 fun b9 w1 =>
  nw 103 #[(Value.int .i64 p1_0), (Value.int .i64 p1_1), (Value.int .i64 p1_2)] w1 fun b10 w2 =>
  jn (fun (J12 : Int → World → Prop) => tk w2 fun w3 =>
    ld (Value.int .i64) ((Addr.mk b9 0 none).add 2) w3 fun x13 =>
    ld (Value.int .i64) ((Addr.mk b10 0 none).add 2) w3 fun x14 =>
    ld (Value.int .i64) ((Addr.mk b9 0 none).add 0) w3 fun x15 =>
    ld (Value.int .i64) ((Addr.mk b10 0 none).add 0) w3 fun x16 =>
    callC Tryz.prog 51 #[(Value.int .i64 x13), (Value.int .i64 x14)] (fun (r : Int) => (Value.int .i64 r)) w3 fun r17 w4 =>
    (w4.cell? ((Addr.mk b10 0 none).add 0) = some (Value.int .i64 x16)) ∧
    (w4.cell? ((Addr.mk b9 0 none).add 0) = some (Value.int .i64 x15)) ∧
    callC Tryz.prog 51 #[(Value.int .i64 x15), (Value.int .i64 x16)] (fun (r : Int) => (Value.int .i64 r)) w4 fun r18 w5 =>
    nw 3 #[(Value.int .i64 r17), (Value.int .i64 r18)] w5 fun b19 w6 =>
    callC Tryz.prog 50 #[(Sl.v (⟨some ⟨b19, 0, none⟩, 2, 2⟩ : Sl))] (fun (r : Int) => (Value.int .i64 r)) w6 fun r20 w7 =>
    J12 r20 w7
  )
  fun l21 w8 =>
  K l21 w8
set_option maxRecDepth 100000 in
theorem D87 (p0_0 : Int) (p0_1 : Int) (p0_2 : Int) (p1_0 : Int) (p1_1 : Int) (p1_2 : Int) (w0 : World) (K : Int → World → Prop) (h : F87 p0_0 p0_1 p0_2 p1_0 p1_1 p1_2 w0 K) : callC Tryz.prog 87 #[(Value.agg #[(Value.int .i64 p0_0), (Value.int .i64 p0_1), (Value.int .i64 p0_2)]), (Value.agg #[(Value.int .i64 p1_0), (Value.int .i64 p1_1), (Value.int .i64 p1_2)])] (fun (r : Int) => (Value.int .i64 r)) w0 K := by
  unfold F87 at h
  refine calls_of_wpC Tryz.func87 rfl 17 rfl (by simp) ?_
  intro ρ hρ
  have e0 : ρ 0 = (Value.agg #[(Value.int .i64 p0_0), (Value.int .i64 p0_1), (Value.int .i64 p0_2)]) := hρ 0
  have e1 : ρ 1 = (Value.agg #[(Value.int .i64 p1_0), (Value.int .i64 p1_1), (Value.int .i64 p1_2)]) := hρ 1
  clear hρ
  refine wpC_seq ?_
  refine wpC_region ?_
  obtain ⟨b9, hb9⟩ : ∃ u, u = w0.heap.size := ⟨_, rfl⟩
  obtain ⟨w1, hw9⟩ : ∃ u, u = w0.alloc (.cells #[(Value.int .i64 p0_0), (Value.int .i64 p0_1), (Value.int .i64 p0_2)] 103) := ⟨_, rfl⟩
  replace h := h b9 w1 hb9 hw9
  refine rv (Value.pointer (some (Addr.mk b9 0 none))) w1 rfl rfl rfl ((x_box (v := (Value.agg #[(Value.int .i64 p0_0), (Value.int .i64 p0_1), (Value.int .i64 p0_2)])) rfl e0).trans (by rw [hb9, hw9]; rfl)) ?_
  obtain ⟨b10, hb10⟩ : ∃ u, u = w1.heap.size := ⟨_, rfl⟩
  obtain ⟨w2, hw10⟩ : ∃ u, u = w1.alloc (.cells #[(Value.int .i64 p1_0), (Value.int .i64 p1_1), (Value.int .i64 p1_2)] 103) := ⟨_, rfl⟩
  replace h := h b10 w2 hb10 hw10
  refine rv (Value.pointer (some (Addr.mk b10 0 none))) w2 rfl rfl rfl ((x_box (v := (Value.agg #[(Value.int .i64 p1_0), (Value.int .i64 p1_1), (Value.int .i64 p1_2)])) rfl e1).trans (by rw [hb10, hw10]; rfl)) ?_
  refine rv (Value.int .i64 0) w2 rfl rfl rfl (x_assign rfl rfl) ?_
  refine wpR_nil ?_
  refine wpC_seq ?_
  refine wpC_cut (fun ρ => ρ 2 = (Value.pointer (some (Addr.mk b9 0 none))) ∧ ρ 3 = (Value.pointer (some (Addr.mk b10 0 none))) ∧ True) ⟨rfl, rfl, trivial⟩ ?_
  rintro ρ ⟨e2, e3, -⟩
  obtain ⟨J12, h, hk⟩ := h
  refine wpC_drawJ (by kernel_rfl) (fun (x : Int) ρ => ρ 4 = (Value.int .i64 x) ∧ True) J12 ?_ ?_
  · clear hk
    unfold tk at h
    generalize w2.drew = w3 at h ⊢
    refine wpD_take (v := (Value.pointer (some ((Addr.mk b9 0 none).add 2)))) 0 (fun _ => True) rfl (by kernel_rfl) (by kernel_rfl) (by kernel_rfl) rfl rfl rfl trivial (fun w _ => (x_fieldAddr rfl e2 FA_103_2)) ?_
    obtain ⟨x13, q13, h⟩ := h
    refine wpD_take (v := (Value.int .i64 x13)) 1 (fun w => w.cell? ((Addr.mk b9 0 none).add 2) = some (Value.int .i64 x13)) rfl (by kernel_rfl) (by kernel_rfl) (by kernel_rfl) rfl rfl rfl q13 (fun w q13 => (x_load1 rfl rfl SH_3 q13)) ?_
    refine wpD_take (v := (Value.pointer (some ((Addr.mk b10 0 none).add 2)))) 2 (fun _ => True) rfl (by kernel_rfl) (by kernel_rfl) (by kernel_rfl) rfl rfl rfl trivial (fun w _ => (x_fieldAddr rfl e3 FA_103_2)) ?_
    obtain ⟨x14, q14, h⟩ := h
    refine wpD_take (v := (Value.int .i64 x14)) 3 (fun w => w.cell? ((Addr.mk b10 0 none).add 2) = some (Value.int .i64 x14)) rfl (by kernel_rfl) (by kernel_rfl) (by kernel_rfl) rfl rfl rfl q14 (fun w q14 => (x_load1 rfl rfl SH_3 q14)) ?_
    refine wpD_take (v := (Value.pointer (some ((Addr.mk b9 0 none).add 0)))) 5 (fun _ => True) rfl (by kernel_rfl) (by kernel_rfl) (by kernel_rfl) rfl rfl rfl trivial (fun w _ => (x_fieldAddr rfl e2 FA_103_0)) ?_
    obtain ⟨x15, q15, h⟩ := h
    refine wpD_take (v := (Value.int .i64 x15)) 6 (fun w => w.cell? ((Addr.mk b9 0 none).add 0) = some (Value.int .i64 x15)) rfl (by kernel_rfl) (by kernel_rfl) (by kernel_rfl) rfl rfl rfl q15 (fun w q15 => (x_load1 rfl rfl SH_3 q15)) ?_
    refine wpD_take (v := (Value.pointer (some ((Addr.mk b10 0 none).add 0)))) 7 (fun _ => True) rfl (by kernel_rfl) (by kernel_rfl) (by kernel_rfl) rfl rfl rfl trivial (fun w _ => (x_fieldAddr rfl e3 FA_103_0)) ?_
    obtain ⟨x16, q16, h⟩ := h
    refine wpD_take (v := (Value.int .i64 x16)) 8 (fun w => w.cell? ((Addr.mk b10 0 none).add 0) = some (Value.int .i64 x16)) rfl (by kernel_rfl) (by kernel_rfl) (by kernel_rfl) rfl rfl rfl q16 (fun w q16 => (x_load1 rfl rfl SH_3 q16)) ?_
    refine wpD_all (rs := [4]) (by kernel_rfl) (by simp) (allD_cons ?_ allD_nil)
    refine stepD_enterL (L' := [(8, fun w => w.cell? ((Addr.mk b10 0 none).add 0) = some (Value.int .i64 x16)), (7, fun _ => True), (6, fun w => w.cell? ((Addr.mk b9 0 none).add 0) = some (Value.int .i64 x15)), (5, fun _ => True), (2, fun _ => True), (0, fun _ => True)]) rfl rfl rfl rfl (x_call (vs := [(Value.int .i64 x13), (Value.int .i64 x14)]) rfl rfl (mapl_cons rfl (mapl_cons rfl mapl_nil)) Tryz.func51 NN_51 NB_51) (by kernel_rfl) (Calls.mono h ?_)
    rintro _ w4 ⟨r17, rfl, h⟩
    obtain ⟨o8, h⟩ := h
    obtain ⟨o6, h⟩ := h
    refine ⟨_, rfl, (held_cons o8 (held_cons trivial (held_cons o6 (held_cons trivial (held_cons trivial (held_cons trivial held_nil)))))), ?_⟩
    refine wpD_all (rs := [9]) (by kernel_rfl) (by simp) (allD_cons ?_ allD_nil)
    refine stepD_enterL (L' := [(7, fun _ => True), (5, fun _ => True), (2, fun _ => True), (0, fun _ => True)]) rfl rfl rfl rfl (x_call (vs := [(Value.int .i64 x15), (Value.int .i64 x16)]) rfl rfl (mapl_cons rfl (mapl_cons rfl mapl_nil)) Tryz.func51 NN_51 NB_51) (by kernel_rfl) (Calls.mono h ?_)
    rintro _ w5 ⟨r18, rfl, h⟩
    refine ⟨_, rfl, (held_cons trivial (held_cons trivial (held_cons trivial (held_cons trivial held_nil)))), ?_⟩
    refine wpD_all (rs := [10]) (by kernel_rfl) (by simp) (allD_cons ?_ allD_nil)
    obtain ⟨b19, hb19⟩ : ∃ u, u = w5.heap.size := ⟨_, rfl⟩
    obtain ⟨w6, hw19⟩ : ∃ u, u = w5.alloc (.cells #[(Value.int .i64 r17), (Value.int .i64 r18)] 3) := ⟨_, rfl⟩
    replace h := h b19 w6 hb19 hw19
    refine stepD_valL (L' := [(7, fun _ => True), (5, fun _ => True), (2, fun _ => True), (0, fun _ => True)]) (v := (Sl.v (⟨some ⟨b19, 0, none⟩, 2, 2⟩ : Sl))) (w' := w6) rfl rfl rfl rfl ((x_buildSlice (qs := [(0, (Value.int .i64 r17)), (1, (Value.int .i64 r18))]) rfl (by rfl) (BS_39_2_0_1 r17 r18)).trans (by rw [← hb19, ← hw19])) (by kernel_rfl) (held_cons trivial (held_cons trivial (held_cons trivial (held_cons trivial held_nil)))) ?_
    refine wpD_all (rs := [11]) (by kernel_rfl) (by simp) (allD_cons ?_ allD_nil)
    refine stepD_enterL (L' := [(7, fun _ => True), (5, fun _ => True), (2, fun _ => True), (0, fun _ => True)]) rfl rfl rfl rfl (x_call (vs := [(Sl.v (⟨some ⟨b19, 0, none⟩, 2, 2⟩ : Sl))]) rfl rfl (mapl_cons rfl mapl_nil) Tryz.func50 NN_50 NB_50) (by kernel_rfl) (Calls.mono h ?_)
    rintro _ w7 ⟨r20, rfl, h⟩
    refine ⟨_, rfl, (held_cons trivial (held_cons trivial (held_cons trivial (held_cons trivial held_nil)))), ?_⟩
    refine wpD_take (v := (Value.int .i64 r20)) 12 (fun _ => True) rfl (by kernel_rfl) (by kernel_rfl) (by kernel_rfl) rfl rfl rfl trivial (fun w _ => (x_assign (v := (Value.int .i64 r20)) rfl rfl)) ?_
    exact wpD_done (by kernel_rfl) ⟨r20, ⟨rfl, trivial⟩, h⟩
  clear h
  rintro l21 ρ w8 ⟨e4, -⟩ h
  replace h := hk l21 w8 h
  clear hk
  refine wpC_ret ?_
  exact ⟨.inl rfl, fun a ha => ⟨_, results_rep1 rfl ha e4, l21, rfl, h⟩⟩

/-- admit.gives -/
def F88 (p0_0 : ByteArray) (p0_1 : Int) (p0_2 : Int) (p0_3 : Int) (p0_4 : Bool) (p0_5 : Int) (p0_6 : Bool) (p0_7 : Bool) (p0_8 : Int) (p0_9 : Int) (p0_10 : Int) (p0_11 : Int) (p0_12 : Sl) (p0_13 : Int) (p0_14 : Int) (p0_15 : Int) (p0_16 : Int) (p0_17 : Bool) (p0_18 : Int) (p0_19 : Int) (p0_20 : Int) (p0_21 : Int) (p1 : Int) (p2 : Int) (w0 : World) (K : Int → World → Prop) : Prop :=
  nw 65 (A64 p0_0 p0_1 p0_2 p0_3 p0_4 p0_5 p0_6 p0_7 p0_8 p0_9 p0_10 p0_11 p0_12 p0_13 p0_14 p0_15 p0_16 p0_17 p0_18 p0_19 p0_20 p0_21) w0 fun b9 w1 =>
  cnd (decide (p2 < p1))
    (
    K 0 w1
    )
    (
    L64 (Addr.mk b9 0 none) w1 fun x11 x12 x13 x14 x15 x16 x17 x18 x19 x20 x21 x22 x23 x24 x25 x26 x27 x28 x29 x30 x31 x32 =>
    callC Tryz.prog 114 #[(V64 x11 x12 x13 x14 x15 x16 x17 x18 x19 x20 x21 x22 x23 x24 x25 x26 x27 x28 x29 x30 x31 x32), (Value.int .i64 (IntKind.i64.wrap (p2 - p1)))] (fun (r : Int × Int) => (Value.tuple #[(Value.int .i64 r.1), (Value.int .i64 r.2)])) w1 fun r33 w2 =>
    cnd (decide (r33.2 = 3))
      (
      K 4503599627370496 w2
      )
      (
      K r33.1 w2
      )
    )
set_option maxRecDepth 100000 in
theorem D88 (p0_0 : ByteArray) (p0_1 : Int) (p0_2 : Int) (p0_3 : Int) (p0_4 : Bool) (p0_5 : Int) (p0_6 : Bool) (p0_7 : Bool) (p0_8 : Int) (p0_9 : Int) (p0_10 : Int) (p0_11 : Int) (p0_12 : Sl) (p0_13 : Int) (p0_14 : Int) (p0_15 : Int) (p0_16 : Int) (p0_17 : Bool) (p0_18 : Int) (p0_19 : Int) (p0_20 : Int) (p0_21 : Int) (p1 : Int) (p2 : Int) (w0 : World) (K : Int → World → Prop) (h : F88 p0_0 p0_1 p0_2 p0_3 p0_4 p0_5 p0_6 p0_7 p0_8 p0_9 p0_10 p0_11 p0_12 p0_13 p0_14 p0_15 p0_16 p0_17 p0_18 p0_19 p0_20 p0_21 p1 p2 w0 K) : callC Tryz.prog 88 #[(V64 p0_0 p0_1 p0_2 p0_3 p0_4 p0_5 p0_6 p0_7 p0_8 p0_9 p0_10 p0_11 p0_12 p0_13 p0_14 p0_15 p0_16 p0_17 p0_18 p0_19 p0_20 p0_21), (Value.int .i64 p1), (Value.int .i64 p2)] (fun (r : Int) => (Value.int .i64 r)) w0 K := by
  unfold F88 at h
  refine calls_of_wpC Tryz.func88 rfl 23 rfl (by simp) ?_
  intro ρ hρ
  have e0 : ρ 0 = (V64 p0_0 p0_1 p0_2 p0_3 p0_4 p0_5 p0_6 p0_7 p0_8 p0_9 p0_10 p0_11 p0_12 p0_13 p0_14 p0_15 p0_16 p0_17 p0_18 p0_19 p0_20 p0_21) := hρ 0
  have e1 : ρ 1 = (Value.int .i64 p1) := hρ 1
  have e2 : ρ 2 = (Value.int .i64 p2) := hρ 2
  clear hρ
  refine wpC_seq ?_
  refine wpC_region ?_
  obtain ⟨b9, hb9⟩ : ∃ u, u = w0.heap.size := ⟨_, rfl⟩
  obtain ⟨w1, hw9⟩ : ∃ u, u = w0.alloc (.cells (A64 p0_0 p0_1 p0_2 p0_3 p0_4 p0_5 p0_6 p0_7 p0_8 p0_9 p0_10 p0_11 p0_12 p0_13 p0_14 p0_15 p0_16 p0_17 p0_18 p0_19 p0_20 p0_21) 65) := ⟨_, rfl⟩
  replace h := h b9 w1 hb9 hw9
  refine rv (Value.pointer (some (Addr.mk b9 0 none))) w1 rfl rfl rfl ((x_box (v := (V64 p0_0 p0_1 p0_2 p0_3 p0_4 p0_5 p0_6 p0_7 p0_8 p0_9 p0_10 p0_11 p0_12 p0_13 p0_14 p0_15 p0_16 p0_17 p0_18 p0_19 p0_20 p0_21)) rfl e0).trans (by rw [hb9, hw9]; rfl)) ?_
  refine rv (Value.int .i64 0) w1 rfl rfl rfl (x_assign rfl rfl) ?_
  refine wpR_nil ?_
  refine wpC_seq ?_
  refine wpC_seq ?_
  refine wpC_cut (fun ρ => ρ 1 = (Value.int .i64 p1) ∧ ρ 2 = (Value.int .i64 p2) ∧ ρ 3 = (Value.pointer (some (Addr.mk b9 0 none))) ∧ True) ⟨e1, e2, rfl, trivial⟩ ?_
  rintro ρ ⟨e1, e2, e3, -⟩
  refine wpC_region ?_
  refine rv (Value.int .i64 p2) w1 rfl rfl rfl (x_move rfl e2) ?_
  refine rv (Value.int .i64 p1) w1 rfl rfl rfl (x_move rfl e1) ?_
  refine rv (Value.bool (decide (p2 < p1))) w1 rfl rfl rfl (x_lss rfl rfl rfl) ?_
  refine wpR_nil ?_
  refine wpC_cond (b := decide (p2 < p1)) rfl (fun hc10 => ?_) (fun hc10 => ?_)
  · replace h := h.1 hc10
    refine wpC_seq ?_
    refine wpC_cut (fun ρ => True) trivial ?_
    rintro ρ -
    refine wpC_region ?_
    refine rv (Value.int .i64 0) w1 rfl rfl rfl (x_assign rfl rfl) ?_
    refine wpR_nil ?_
    refine wpC_ret ?_
    exact ⟨.inl rfl, fun a ha => ⟨_, results_rep1 rfl ha rfl, 0, rfl, h⟩⟩
  · replace h := h.2 hc10
    refine wpC_skip ?_
    refine wpC_seq ?_
    refine wpC_cut (fun ρ => ρ 1 = (Value.int .i64 p1) ∧ ρ 2 = (Value.int .i64 p2) ∧ ρ 3 = (Value.pointer (some (Addr.mk b9 0 none))) ∧ True) ⟨e1, e2, e3, trivial⟩ ?_
    rintro ρ ⟨e1, e2, e3, -⟩
    refine wpC_region ?_
    obtain ⟨x11, q11, x12, q12, x13, q13, x14, q14, x15, q15, x16, q16, x17, q17, x18, q18, x19, q19, x20, q20, x21, q21, x22, q22, x23, q23, x24, q24, x25, q25, x26, q26, x27, q27, x28, q28, x29, q29, x30, q30, x31, q31, x32, q32, h⟩ := h
    refine rv (V64 x11 x12 x13 x14 x15 x16 x17 x18 x19 x20 x21 x22 x23 x24 x25 x26 x27 x28 x29 x30 x31 x32) w1 rfl rfl rfl (x_loadN (S64 x11 x12 x13 x14 x15 x16 x17 x18 x19 x20 x21 x22 x23 x24 x25 x26 x27 x28 x29 x30 x31 x32) rfl e3 SH_65 (K64 ⟨q11, q12, q13, q14, q15, q16, q17, q18, q19, q20, q21, q22, q23, q24, q25, q26, q27, q28, q29, q30, q31, q32⟩)) ?_
    refine rv (Value.int .i64 p2) w1 rfl rfl rfl (x_move rfl e2) ?_
    refine rv (Value.int .i64 p1) w1 rfl rfl rfl (x_move rfl e1) ?_
    refine rv (Value.int .i64 (IntKind.i64.wrap (p2 - p1))) w1 rfl rfl rfl (x_sub rfl rfl rfl) ?_
    refine wpR_enter rfl rfl rfl (x_call (vs := [(V64 x11 x12 x13 x14 x15 x16 x17 x18 x19 x20 x21 x22 x23 x24 x25 x26 x27 x28 x29 x30 x31 x32), (Value.int .i64 (IntKind.i64.wrap (p2 - p1)))]) rfl rfl (mapl_cons rfl (mapl_cons rfl mapl_nil)) Tryz.func114 NN_114 NB_114) (Calls.mono h ?_)
    rintro _ w2 ⟨r33, rfl, h⟩
    refine ⟨_, rfl, ?_⟩
    refine rv (Value.tuple #[(Value.int .i64 r33.1), (Value.int .i64 r33.2)]) w2 rfl rfl rfl (x_move rfl rfl) ?_
    refine rv (Value.int .i64 r33.1) w2 rfl rfl rfl (x_extract rfl rfl rfl) ?_
    refine rv (Value.int .i64 r33.2) w2 rfl rfl rfl (x_extract rfl rfl rfl) ?_
    refine rv (Value.int .i64 r33.1) w2 rfl rfl rfl (x_assign rfl rfl) ?_
    refine rv (Value.int .i64 r33.2) w2 rfl rfl rfl (x_assign rfl rfl) ?_
    refine wpR_nil ?_
    refine wpC_seq ?_
    refine wpC_seq ?_
    refine wpC_cut (fun ρ => ρ 7 = (Value.int .i64 r33.1) ∧ ρ 8 = (Value.int .i64 r33.2) ∧ True) ⟨rfl, rfl, trivial⟩ ?_
    rintro ρ ⟨e7, e8, -⟩
    refine wpC_region ?_
    refine rv (Value.int .i64 r33.2) w2 rfl rfl rfl (x_move rfl e8) ?_
    refine rv (Value.bool (decide (r33.2 = 3))) w2 rfl rfl rfl (x_eql rfl rfl rfl) ?_
    refine wpR_nil ?_
    refine wpC_cond (b := decide (r33.2 = 3)) rfl (fun hc34 => ?_) (fun hc34 => ?_)
    · replace h := h.1 hc34
      refine wpC_seq ?_
      refine wpC_cut (fun ρ => True) trivial ?_
      rintro ρ -
      refine wpC_region ?_
      refine rv (Value.int .i64 4503599627370496) w2 rfl rfl rfl (x_assign rfl rfl) ?_
      refine wpR_nil ?_
      refine wpC_ret ?_
      exact ⟨.inl rfl, fun a ha => ⟨_, results_rep1 rfl ha rfl, 4503599627370496, rfl, h⟩⟩
    · replace h := h.2 hc34
      refine wpC_skip ?_
      refine wpC_seq ?_
      refine wpC_cut (fun ρ => ρ 7 = (Value.int .i64 r33.1) ∧ True) ⟨e7, trivial⟩ ?_
      rintro ρ ⟨e7, -⟩
      refine wpC_region ?_
      refine rv (Value.int .i64 r33.1) w2 rfl rfl rfl (x_move rfl e7) ?_
      refine rv (Value.int .i64 r33.1) w2 rfl rfl rfl (x_assign rfl rfl) ?_
      refine wpR_nil ?_
      refine wpC_ret ?_
      exact ⟨.inl rfl, fun a ha => ⟨_, results_rep1 rfl ha rfl, r33.1, rfl, h⟩⟩

/-- lex.Word -/
def F89 (p0 : ByteArray) (w0 : World) (K : Bool → World → Prop) : Prop :=
  jn (fun J9 => cnd (beqS p0 (ByteArray.mk #[]))
    (
    J9 true w0
    )
    (
    rn Tryz.prog (Instr.index 9 (Value.string p0) (Value.int .i64 0)) (fun (r : Int) => (Value.int .u8 r)) w0 fun r11 w1 =>
    callC Tryz.prog 115 #[(Value.int .u8 r11)] (fun (r : Bool) => (Value.bool r)) w1 fun r12 w2 =>
    J9 (!r12) w2
    ))
  fun c13 w3 =>
  cnd (c13 || (decide (20 < (p0.size : Int))))
    (
    K false w3
    )
    (
    callC Tryz.prog 116 #[(Value.string p0), (Value.func (.func 117) #[] #[])] (fun (r : Int) => (Value.int .i64 r)) w3 fun r17 w4 =>
    K (decide (r17 = (p0.size : Int))) w4
    )
set_option maxRecDepth 100000 in
theorem D89 (p0 : ByteArray) (w0 : World) (K : Bool → World → Prop) (h : F89 p0 w0 K) : callC Tryz.prog 89 #[(Value.string p0)] (fun (r : Bool) => (Value.bool r)) w0 K := by
  unfold F89 at h
  refine calls_of_wpC Tryz.func89 rfl 21 rfl (by simp) ?_
  intro ρ hρ
  have e0 : ρ 0 = (Value.string p0) := hρ 0
  clear hρ
  refine wpC_seq ?_
  refine wpC_region ?_
  refine rv (Value.bool false) w0 rfl rfl rfl (x_assign rfl rfl) ?_
  refine wpR_nil ?_
  refine wpC_seq ?_
  refine wpC_seq ?_
  refine wpC_cut (fun ρ => ρ 0 = (Value.string p0) ∧ True) ⟨e0, trivial⟩ ?_
  rintro ρ ⟨e0, -⟩
  refine wpC_region ?_
  refine rv (Value.string p0) w0 rfl rfl rfl (x_move rfl e0) ?_
  refine rv (Value.bool (beqS p0 (ByteArray.mk #[]))) w0 rfl rfl rfl (x_eqlS rfl rfl rfl) ?_
  refine rv (Value.bool (beqS p0 (ByteArray.mk #[]))) w0 rfl rfl rfl (x_move rfl rfl) ?_
  obtain ⟨J9, h, hk⟩ := h
  refine wpR_joinJ 5 (fun x ρ => ρ 10 = Value.bool x ∧ ρ 0 = (Value.string p0) ∧ True) (J9) ?_ ?_
  · clear hk
    rcases Bool.eq_false_or_eq_true (beqS p0 (ByteArray.mk #[])) with hc10 | hc10
    · replace h := h.1 hc10
      refine wpR_pass (wantN rfl rfl rfl hc10) rfl rfl ?_
      refine wpR_pass (wantN rfl rfl rfl hc10) rfl rfl ?_
      refine wpR_pass (wantN rfl rfl rfl hc10) rfl rfl ?_
      refine wpR_pass (wantN rfl rfl rfl hc10) rfl rfl ?_
      refine rv (Value.bool true) w0 rfl rfl rfl (x_pickT (v := (Value.bool true)) rfl rfl hc10 rfl) ?_
      refine wpR_nil ?_
      exact ⟨true, ⟨rfl, e0, trivial⟩, h⟩
    · replace h := h.2 hc10
      refine wpR_val (v := (Value.string p0)) (w' := w0) (wantG rfl rfl rfl hc10) rfl rfl (x_move rfl e0) ?_
      obtain ⟨r11, w1, q11, h⟩ := h
      refine wpR_val (v := (Value.int .u8 r11)) (w' := w1) (wantG rfl rfl rfl hc10) rfl rfl (x_index rfl rfl rfl q11) ?_
      refine wpR_enter (wantG rfl rfl rfl hc10) rfl rfl (x_call (vs := [(Value.int .u8 r11)]) rfl rfl (mapl_cons rfl mapl_nil) Tryz.func115 NN_115 NB_115) (Calls.mono h ?_)
      rintro _ w2 ⟨r12, rfl, h⟩
      refine ⟨_, rfl, ?_⟩
      refine wpR_val (v := (Value.bool (!r12))) (w' := w2) (wantG rfl rfl rfl hc10) rfl rfl (x_not rfl rfl) ?_
      refine rv (Value.bool (!r12)) w2 rfl rfl rfl (x_pickF (v := (Value.bool (!r12))) rfl rfl hc10 rfl) ?_
      refine wpR_nil ?_
      exact ⟨!r12, ⟨rfl, e0, trivial⟩, h⟩
  clear h
  rintro c13 ρ w3 ⟨e10, e0, -⟩ h
  replace h := hk c13 w3 h
  clear hk
  refine rv (Value.bool c13) w3 rfl rfl rfl (x_move rfl e10) ?_
  refine wpR_joinJ 4 (fun (_ : Unit) ρ => ρ 15 = Value.bool (c13 || (decide (20 < (p0.size : Int)))) ∧ ρ 0 = (Value.string p0) ∧ True) (fun _ w => w3 = w) ?_ ?_
  · clear h
    rcases Bool.eq_false_or_eq_true (c13) with hc15 | hc15
    · skip
      refine wpR_pass (wantN rfl rfl rfl hc15) rfl rfl ?_
      refine wpR_pass (wantN rfl rfl rfl hc15) rfl rfl ?_
      refine wpR_pass (wantN rfl rfl rfl hc15) rfl rfl ?_
      refine rv (Value.bool true) w3 rfl rfl rfl (x_pickT (v := (Value.bool true)) rfl rfl hc15 rfl) ?_
      refine wpR_nil ?_
      exact ⟨(), ⟨(by rw [hc15]; rfl), e0, trivial⟩, rfl⟩
    · skip
      refine wpR_val (v := (Value.string p0)) (w' := w3) (wantG rfl rfl rfl hc15) rfl rfl (x_move rfl e0) ?_
      refine wpR_val (v := (Value.int .i64 (p0.size : Int))) (w' := w3) (wantG rfl rfl rfl hc15) rfl rfl (x_lenStr rfl rfl isStrT_9) ?_
      refine wpR_val (v := (Value.bool (decide (20 < (p0.size : Int))))) (w' := w3) (wantG rfl rfl rfl hc15) rfl rfl (x_gtr rfl rfl rfl) ?_
      refine rv (Value.bool (decide (20 < (p0.size : Int)))) w3 rfl rfl rfl (x_pickF (v := (Value.bool (decide (20 < (p0.size : Int))))) rfl rfl hc15 rfl) ?_
      refine wpR_nil ?_
      exact ⟨(), ⟨(by rw [hc15]; rfl), e0, trivial⟩, rfl⟩
  rintro _ ρ wj ⟨e15, e0, -⟩ rfl
  refine wpR_nil ?_
  refine wpC_cond (b := c13 || (decide (20 < (p0.size : Int)))) e15 (fun hc16 => ?_) (fun hc16 => ?_)
  · replace h := h.1 hc16
    refine wpC_seq ?_
    refine wpC_region ?_
    refine rv (Value.bool false) w3 rfl rfl rfl (x_assign rfl rfl) ?_
    refine wpR_nil ?_
    refine wpC_ret ?_
    exact ⟨.inl rfl, fun a ha => ⟨_, results_rep1 rfl ha rfl, false, rfl, h⟩⟩
  · replace h := h.2 hc16
    refine wpC_skip ?_
    refine wpC_seq ?_
    refine wpC_region ?_
    refine rv (Value.string p0) w3 rfl rfl rfl (x_move rfl e0) ?_
    refine wpR_enter rfl rfl rfl (x_call (vs := [(Value.string p0), (Value.func (.func 117) #[] #[])]) rfl rfl (mapl_cons rfl (mapl_cons rfl mapl_nil)) Tryz.func116 NN_116 NB_116) (Calls.mono h ?_)
    rintro _ w4 ⟨r17, rfl, h⟩
    refine ⟨_, rfl, ?_⟩
    refine rv (Value.string p0) w4 rfl rfl rfl (x_move rfl e0) ?_
    refine rv (Value.int .i64 (p0.size : Int)) w4 rfl rfl rfl (x_lenStr rfl rfl isStrT_9) ?_
    refine rv (Value.bool (decide (r17 = (p0.size : Int)))) w4 rfl rfl rfl (x_eql rfl rfl rfl) ?_
    refine rv (Value.bool (decide (r17 = (p0.size : Int)))) w4 rfl rfl rfl (x_assign rfl rfl) ?_
    refine wpR_nil ?_
    refine wpC_ret ?_
    exact ⟨.inl rfl, fun a ha => ⟨_, results_rep1 rfl ha rfl, decide (r17 = (p0.size : Int)), rfl, h⟩⟩

/-- slices.ContainsFunc[[]string,string] -/
def F90 (p0 : Sl) (p1 : Value) (w0 : World) (K : Bool → World → Prop) : Prop :=
  callC Tryz.prog 119 #[(Sl.v p0), p1] (fun (r : Int) => (Value.int .i64 r)) w0 fun r9 w1 =>
  K (decide (0 ≤ r9)) w1
set_option maxRecDepth 100000 in
theorem D90 (p0 : Sl) (p1 : Value) (w0 : World) (K : Bool → World → Prop) (h : F90 p0 p1 w0 K) : callC Tryz.prog 90 #[(Sl.v p0), p1] (fun (r : Bool) => (Value.bool r)) w0 K := by
  unfold F90 at h
  refine calls_of_wpC Tryz.func90 rfl 9 rfl (by simp) ?_
  intro ρ hρ
  have e0 : ρ 0 = (Sl.v p0) := hρ 0
  have e1 : ρ 1 = p1 := hρ 1
  clear hρ
  refine wpC_seq ?_
  refine wpC_region ?_
  refine rv (Value.bool false) w0 rfl rfl rfl (x_assign rfl rfl) ?_
  refine wpR_nil ?_
  refine wpC_seq ?_
  refine wpC_cut (fun ρ => ρ 0 = (Sl.v p0) ∧ ρ 1 = p1 ∧ True) ⟨e0, e1, trivial⟩ ?_
  rintro ρ ⟨e0, e1, -⟩
  refine wpC_region ?_
  refine rv (Sl.v p0) w0 rfl rfl rfl (x_move rfl e0) ?_
  refine rv p1 w0 rfl rfl rfl (x_move rfl e1) ?_
  refine wpR_enter rfl rfl rfl (x_call (vs := [(Sl.v p0), p1]) rfl rfl (mapl_cons rfl (mapl_cons rfl mapl_nil)) Tryz.func119 NN_119 NB_119) (Calls.mono h ?_)
  rintro _ w1 ⟨r9, rfl, h⟩
  refine ⟨_, rfl, ?_⟩
  refine rv (Value.bool (decide (0 ≤ r9))) w1 rfl rfl rfl (x_geq rfl rfl rfl) ?_
  refine rv (Value.bool (decide (0 ≤ r9))) w1 rfl rfl rfl (x_assign rfl rfl) ?_
  refine wpR_nil ?_
  refine wpC_ret ?_
  exact ⟨.inl rfl, fun a ha => ⟨_, results_rep1 rfl ha rfl, decide (0 ≤ r9), rfl, h⟩⟩

/-- syntax.Right$1 -/
def F91 (p0 : ByteArray) (w0 : World) (K : Bool → World → Prop) : Prop :=
  callC Tryz.prog 89 #[(Value.string p0)] (fun (r : Bool) => (Value.bool r)) w0 fun r9 w1 =>
  K (!r9) w1
set_option maxRecDepth 100000 in
theorem D91 (p0 : ByteArray) (w0 : World) (K : Bool → World → Prop) (h : F91 p0 w0 K) : callC Tryz.prog 91 #[(Value.string p0)] (fun (r : Bool) => (Value.bool r)) w0 K := by
  unfold F91 at h
  refine calls_of_wpC Tryz.func91 rfl 6 rfl (by simp) ?_
  intro ρ hρ
  have e0 : ρ 0 = (Value.string p0) := hρ 0
  clear hρ
  refine wpC_seq ?_
  refine wpC_region ?_
  refine rv (Value.bool false) w0 rfl rfl rfl (x_assign rfl rfl) ?_
  refine wpR_nil ?_
  refine wpC_seq ?_
  refine wpC_cut (fun ρ => ρ 0 = (Value.string p0) ∧ True) ⟨e0, trivial⟩ ?_
  rintro ρ ⟨e0, -⟩
  refine wpC_region ?_
  refine rv (Value.string p0) w0 rfl rfl rfl (x_move rfl e0) ?_
  refine wpR_enter rfl rfl rfl (x_call (vs := [(Value.string p0)]) rfl rfl (mapl_cons rfl mapl_nil) Tryz.func89 NN_89 NB_89) (Calls.mono h ?_)
  rintro _ w1 ⟨r9, rfl, h⟩
  refine ⟨_, rfl, ?_⟩
  refine rv (Value.bool (!r9)) w1 rfl rfl rfl (x_not rfl rfl) ?_
  refine rv (Value.bool (!r9)) w1 rfl rfl rfl (x_assign rfl rfl) ?_
  refine wpR_nil ?_
  refine wpC_ret ?_
  exact ⟨.inl rfl, fun a ha => ⟨_, results_rep1 rfl ha rfl, !r9, rfl, h⟩⟩

/-- slices.Index[[]string,string] -/
def F92 (p0 : Sl) (p1 : ByteArray) (w0 : World) (K : Int → World → Prop) : Prop :=
  lp (fun (next9 : Int → World → Prop) l9 w1 =>
    cnd (decide (l9 < (p0.len : Int)))
      (
      ix p0 l9 1 fun p11 =>
      ld Value.string p11 w1 fun x12 =>
      cnd (beqS p1 x12)
        (
        K l9 w1
        )
        (
        next9 (IntKind.i64.wrap (l9 + 1)) w1
        )
      )
      (
      K (-1) w1
      )
  ) 0 w0
set_option maxRecDepth 100000 in
theorem D92 (p0 : Sl) (p1 : ByteArray) (w0 : World) (K : Int → World → Prop) (h : F92 p0 p1 w0 K) : callC Tryz.prog 92 #[(Sl.v p0), (Value.string p1)] (fun (r : Int) => (Value.int .i64 r)) w0 K := by
  unfold F92 at h
  refine calls_of_wpC Tryz.func92 rfl 19 rfl (by simp) ?_
  intro ρ hρ
  have e0 : ρ 0 = (Sl.v p0) := hρ 0
  have e1 : ρ 1 = (Value.string p1) := hρ 1
  clear hρ
  refine wpC_seq ?_
  refine wpC_region ?_
  refine rv (Value.int .i64 0) w0 rfl rfl rfl (x_assign rfl rfl) ?_
  refine wpR_nil ?_
  refine wpC_seq ?_
  refine wpC_seq ?_
  refine wpC_cut (fun ρ => ρ 0 = (Sl.v p0) ∧ ρ 1 = (Value.string p1) ∧ True) ⟨e0, e1, trivial⟩ ?_
  rintro ρ ⟨e0, e1, -⟩
  refine wpC_region ?_
  refine rv (Sl.v p0) w0 rfl rfl rfl (x_move rfl e0) ?_
  refine rv (Value.int .i64 (p0.len : Int)) w0 rfl rfl rfl (x_lenS (s := p0) rfl rfl isSliceT_63) ?_
  refine rv (Value.int .i64 0) w0 rfl rfl rfl (x_move rfl rfl) ?_
  refine wpR_nil ?_
  refine wpC_block ?_
  obtain ⟨I9, μ9, hI9, hr9⟩ := h
  refine wpC_loop (fun (x : Int) ρ => ρ 8 = (Value.int .i64 x) ∧ ρ 0 = (Sl.v p0) ∧ ρ 1 = (Value.string p1) ∧ ρ 7 = (Value.int .i64 (p0.len : Int)) ∧ True) I9 μ9 0 ⟨rfl, e0, e1, rfl, trivial⟩ hI9 ?_
  rintro l9 ρ w1 ⟨e8, e0, e1, e7, -⟩ h
  replace h := hr9 l9 w1 h
  clear hr9 hI9
  refine wpC_seq ?_
  refine wpC_region ?_
  refine rv (Value.bool (decide (l9 < (p0.len : Int)))) w1 rfl rfl rfl (x_lss rfl e8 e7) ?_
  refine wpR_nil ?_
  refine wpC_seq ?_
  refine wpC_cond (b := decide (l9 < (p0.len : Int))) rfl (fun hc10 => ?_) (fun hc10 => ?_)
  · replace h := h.1 hc10
    refine wpC_skip ?_
    refine wpC_seq ?_
    refine wpC_block ?_
    refine wpC_seq ?_
    refine wpC_cut (fun ρ => ρ 0 = (Sl.v p0) ∧ ρ 1 = (Value.string p1) ∧ ρ 7 = (Value.int .i64 (p0.len : Int)) ∧ ρ 8 = (Value.int .i64 l9) ∧ True) ⟨e0, e1, e7, e8, trivial⟩ ?_
    rintro ρ ⟨e0, e1, e7, e8, -⟩
    refine wpC_region ?_
    refine rv (Value.int .i64 l9) w1 rfl rfl rfl (x_move rfl e8) ?_
    refine rv (Value.int .i64 l9) w1 rfl rfl rfl (x_assign rfl rfl) ?_
    refine wpR_nil ?_
    refine wpC_seq ?_
    refine wpC_cut (fun ρ => ρ 0 = (Sl.v p0) ∧ ρ 1 = (Value.string p1) ∧ ρ 5 = (Value.int .i64 l9) ∧ ρ 7 = (Value.int .i64 (p0.len : Int)) ∧ ρ 8 = (Value.int .i64 l9) ∧ True) ⟨e0, e1, rfl, e7, e8, trivial⟩ ?_
    rintro ρ ⟨e0, e1, e5, e7, e8, -⟩
    refine wpC_region ?_
    refine rv (Value.string p1) w1 rfl rfl rfl (x_move rfl e1) ?_
    refine rv (Sl.v p0) w1 rfl rfl rfl (x_move rfl e0) ?_
    refine rv (Value.int .i64 l9) w1 rfl rfl rfl (x_move rfl e5) ?_
    obtain ⟨q11, z11, r11, h⟩ := h
    generalize hp11 : z11.add ((l9 : Int).toNat * 1) = p11 at h
    refine rv (Value.pointer (some p11)) w1 rfl rfl rfl ((x_indexAddr (s := p0) rfl rfl rfl ES_63 q11 r11).trans (by rw [hp11])) ?_
    obtain ⟨x12, q12, h⟩ := h
    refine rv (Value.string x12) w1 rfl rfl rfl (x_load1 rfl rfl SH_9 q12) ?_
    refine rv (Value.bool (beqS p1 x12)) w1 rfl rfl rfl (x_eqlS rfl rfl rfl) ?_
    refine wpR_nil ?_
    refine wpC_cond (b := beqS p1 x12) rfl (fun hc13 => ?_) (fun hc13 => ?_)
    · replace h := h.1 hc13
      refine wpC_seq ?_
      refine wpC_cut (fun ρ => ρ 5 = (Value.int .i64 l9) ∧ True) ⟨e5, trivial⟩ ?_
      rintro ρ ⟨e5, -⟩
      refine wpC_region ?_
      refine rv (Value.int .i64 l9) w1 rfl rfl rfl (x_move rfl e5) ?_
      refine rv (Value.int .i64 l9) w1 rfl rfl rfl (x_assign rfl rfl) ?_
      refine wpR_nil ?_
      refine wpC_ret ?_
      exact ⟨.inl rfl, fun a ha => ⟨_, results_rep1 rfl ha rfl, l9, rfl, h⟩⟩
    · replace h := h.2 hc13
      refine wpC_skip ?_
      refine wpC_cut (fun ρ => ρ 0 = (Sl.v p0) ∧ ρ 1 = (Value.string p1) ∧ ρ 7 = (Value.int .i64 (p0.len : Int)) ∧ ρ 8 = (Value.int .i64 l9) ∧ True) ⟨e0, e1, e7, e8, trivial⟩ ?_
      rintro ρ ⟨e0, e1, e7, e8, -⟩
      refine wpC_region ?_
      refine rv (Value.int .i64 (IntKind.i64.wrap (l9 + 1))) w1 rfl rfl rfl (x_add rfl e8 rfl) ?_
      refine rv (Value.int .i64 (IntKind.i64.wrap (l9 + 1))) w1 rfl rfl rfl (x_move rfl rfl) ?_
      refine wpR_nil ?_
      exact ⟨IntKind.i64.wrap (l9 + 1), ⟨rfl, e0, e1, e7, trivial⟩, h⟩
  · replace h := h.2 hc10
    refine wpC_exit ?_
    refine wpC_seq ?_
    refine wpC_cut (fun ρ => True) trivial ?_
    rintro ρ -
    refine wpC_region ?_
    refine rv (Value.int .i64 (-1)) w1 rfl rfl rfl (x_assign rfl rfl) ?_
    refine wpR_nil ?_
    refine wpC_ret ?_
    exact ⟨.inl rfl, fun a ha => ⟨_, results_rep1 rfl ha rfl, (-1), rfl, h⟩⟩


end Go.Proofs.YtgbhghoppjfofaaGreat
