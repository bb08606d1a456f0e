import Derived.Test.YtgbhghoppjfofaaRows
import Derived.Test.YtgbhghoppjfofaaFs1
import Derived.Test.YtgbhghoppjfofaaDecRaw
namespace Go.Proofs.Ytgbhghoppjfofaa
open Go.Dec
set_option maxHeartbeats 400000
set_option maxRecDepth 100000

/-- slices.Reverse[[]int,int] -/
def F49 (p0 : Sl) (w0 : World) (K : Unit → World → Prop) : Prop :=
  lp (fun (next9 : (Int × Int) → World → Prop) l9 w1 =>
    cnd (decide (l9.1 < l9.2))
      (
      jn (fun (J12 : Unit → World → Prop) => tk w1 fun w2 =>
        ix p0 l9.2 1 fun p13 =>
        ld (Value.int .i64) p13 w2 fun x14 =>
        ix p0 l9.1 1 fun p15 =>
        ld (Value.int .i64) p15 w2 fun x16 =>
        ix p0 l9.1 1 fun p17 =>
        st p17 [(Value.int .i64 x14)] w2 fun w3 =>
        ix p0 l9.2 1 fun p19 =>
        st p19 [(Value.int .i64 x16)] w3 fun w4 =>
        J12 () w4
      )
      fun _l21 w5 =>
      next9 (IntKind.i64.wrap (l9.1 + 1), IntKind.i64.wrap (l9.2 - 1)) w5
      )
      (
      K () w1
      )
  ) (0, IntKind.i64.wrap ((p0.len : Int) - 1)) w0
set_option maxRecDepth 100000 in
theorem D49 (p0 : Sl) (w0 : World) (K : Unit → World → Prop) (h : F49 p0 w0 K) : callC Try.prog 49 #[(Sl.v p0)] (fun (_ : Unit) => (Value.tuple #[])) w0 K := by
  unfold F49 at h
  refine calls_of_wpC Try.func49 rfl 28 rfl (by simp) ?_
  intro ρ hρ
  have e0 : ρ 0 = (Sl.v p0) := hρ 0
  clear hρ
  refine wpC_seq ?_
  refine wpC_region ?_
  refine wpR_val (v := (Sl.v p0)) (w' := w0) rfl rfl rfl (x_move (v := (Sl.v p0)) rfl e0) ?_
  refine wpR_val (v := (Value.int .i64 (p0.len : Int))) (w' := w0) rfl rfl rfl (x_lenS (s := p0) rfl rfl isSliceT_38) ?_
  refine wpR_val (v := (Value.int .i64 (IntKind.i64.wrap ((p0.len : Int) - 1)))) (w' := w0) rfl rfl rfl (x_sub rfl rfl rfl) ?_
  refine wpR_val (v := (Value.int .i64 0)) (w' := w0) rfl rfl rfl (x_assign (v := (Value.int .i64 0)) rfl rfl) ?_
  refine wpR_val (v := (Value.int .i64 (IntKind.i64.wrap ((p0.len : Int) - 1)))) (w' := w0) rfl rfl rfl (x_assign (v := (Value.int .i64 (IntKind.i64.wrap ((p0.len : Int) - 1)))) rfl rfl) ?_
  refine wpR_nil ?_
  refine wpC_block ?_
  obtain ⟨I9, μ9, hI9, hr9⟩ := h
  refine wpC_loop (fun (x : Int × Int) ρ => ρ 2 = (Value.int .i64 x.1) ∧ ρ 3 = (Value.int .i64 x.2) ∧ ρ 0 = (Sl.v p0) ∧ True) I9 μ9 (0, IntKind.i64.wrap ((p0.len : Int) - 1)) ⟨rfl, rfl, e0, trivial⟩ hI9 ?_
  rintro l9 ρ w1 ⟨e2, e3, e0, -⟩ h
  replace h := hr9 l9 w1 h
  clear hr9 hI9
  refine wpC_seq ?_
  refine wpC_seq ?_
  refine wpC_region ?_
  refine wpR_val (v := (Value.int .i64 l9.1)) (w' := w1) rfl rfl rfl (x_move (v := (Value.int .i64 l9.1)) rfl e2) ?_
  refine wpR_val (v := (Value.int .i64 l9.2)) (w' := w1) rfl rfl rfl (x_move (v := (Value.int .i64 l9.2)) rfl e3) ?_
  refine wpR_val (v := (Value.bool (decide (l9.1 < l9.2)))) (w' := w1) rfl rfl rfl (x_lss rfl rfl rfl) ?_
  refine wpR_nil ?_
  refine wpC_cond (b := decide (l9.1 < l9.2)) rfl (fun hc10 => ?_) (fun hc10 => ?_)
  · replace h := h.1 hc10
    refine wpC_skip ?_
    refine wpC_seq ?_
    refine wpC_block ?_
    refine wpC_cut (fun ρ => ρ 0 = (Sl.v p0) ∧ ρ 2 = (Value.int .i64 l9.1) ∧ ρ 3 = (Value.int .i64 l9.2) ∧ True) ⟨e0, e2, e3, trivial⟩ ?_
    rintro ρ ⟨e0, e2, e3, -⟩
    obtain ⟨J12, h, hk⟩ := h
    refine wpC_drawJ (by kernel_rfl) (fun (x : Unit) ρ => ρ 0 = (Sl.v p0) ∧ ρ 2 = (Value.int .i64 l9.1) ∧ ρ 3 = (Value.int .i64 l9.2) ∧ True) J12 ?_ ?_
    · clear hk
      unfold tk at h
      generalize w1.drew = w2 at h ⊢
      refine wpD_take (v := (Sl.v p0)) 0 (fun _ => True) rfl (by kernel_rfl) (by kernel_rfl) (by kernel_rfl) rfl rfl rfl trivial (fun w _ => (x_move (v := (Sl.v p0)) rfl e0)) ?_
      refine wpD_take (v := (Value.int .i64 l9.1)) 1 (fun _ => True) rfl (by kernel_rfl) (by kernel_rfl) (by kernel_rfl) rfl rfl rfl trivial (fun w _ => (x_move (v := (Value.int .i64 l9.1)) rfl e2)) ?_
      refine wpD_take (v := (Sl.v p0)) 2 (fun _ => True) rfl (by kernel_rfl) (by kernel_rfl) (by kernel_rfl) rfl rfl rfl trivial (fun w _ => (x_move (v := (Sl.v p0)) rfl e0)) ?_
      refine wpD_take (v := (Value.int .i64 l9.2)) 3 (fun _ => True) rfl (by kernel_rfl) (by kernel_rfl) (by kernel_rfl) rfl rfl rfl trivial (fun w _ => (x_move (v := (Value.int .i64 l9.2)) rfl e3)) ?_
      refine wpD_take (v := (Sl.v p0)) 4 (fun _ => True) rfl (by kernel_rfl) (by kernel_rfl) (by kernel_rfl) rfl rfl rfl trivial (fun w _ => (x_move (v := (Sl.v p0)) rfl e0)) ?_
      refine wpD_take (v := (Value.int .i64 l9.2)) 5 (fun _ => True) rfl (by kernel_rfl) (by kernel_rfl) (by kernel_rfl) rfl rfl rfl trivial (fun w _ => (x_move (v := (Value.int .i64 l9.2)) rfl e3)) ?_
      obtain ⟨q13, z13, r13, h⟩ := h
      generalize hp13 : z13.add ((l9.2 : Int).toNat * 1) = p13 at h
      refine wpD_take (v := (Value.pointer (some p13))) 6 (fun _ => True) rfl (by kernel_rfl) (by kernel_rfl) (by kernel_rfl) rfl rfl rfl trivial (fun w _ => ((x_indexAddr (s := p0) rfl rfl rfl ES_38 q13 r13).trans (by rw [hp13]))) ?_
      obtain ⟨x14, q14, h⟩ := h
      refine wpD_take (v := (Value.int .i64 x14)) 7 (fun w => w.cell? p13 = some (Value.int .i64 x14)) rfl (by kernel_rfl) (by kernel_rfl) (by kernel_rfl) rfl rfl rfl q14 (fun w q14 => (x_load1 rfl rfl SH_3 q14)) ?_
      refine wpD_take (v := (Sl.v p0)) 8 (fun _ => True) rfl (by kernel_rfl) (by kernel_rfl) (by kernel_rfl) rfl rfl rfl trivial (fun w _ => (x_move (v := (Sl.v p0)) rfl e0)) ?_
      refine wpD_take (v := (Value.int .i64 l9.1)) 9 (fun _ => True) rfl (by kernel_rfl) (by kernel_rfl) (by kernel_rfl) rfl rfl rfl trivial (fun w _ => (x_move (v := (Value.int .i64 l9.1)) rfl e2)) ?_
      obtain ⟨q15, z15, r15, h⟩ := h
      generalize hp15 : z15.add ((l9.1 : Int).toNat * 1) = p15 at h
      refine wpD_take (v := (Value.pointer (some p15))) 10 (fun _ => True) rfl (by kernel_rfl) (by kernel_rfl) (by kernel_rfl) rfl rfl rfl trivial (fun w _ => ((x_indexAddr (s := p0) rfl rfl rfl ES_38 q15 r15).trans (by rw [hp15]))) ?_
      obtain ⟨x16, q16, h⟩ := h
      refine wpD_take (v := (Value.int .i64 x16)) 11 (fun w => w.cell? p15 = some (Value.int .i64 x16)) rfl (by kernel_rfl) (by kernel_rfl) (by kernel_rfl) rfl rfl rfl q16 (fun w q16 => (x_load1 rfl rfl SH_3 q16)) ?_
      obtain ⟨q17, z17, r17, h⟩ := h
      generalize hp17 : z17.add ((l9.1 : Int).toNat * 1) = p17 at h
      refine wpD_take (v := (Value.pointer (some p17))) 12 (fun _ => True) rfl (by kernel_rfl) (by kernel_rfl) (by kernel_rfl) rfl rfl rfl trivial (fun w _ => ((x_indexAddr (s := p0) rfl rfl rfl ES_38 q17 r17).trans (by rw [hp17]))) ?_
      refine wpD_all (rs := [13]) (by kernel_rfl) (by simp) (allD_cons ?_ allD_nil)
      obtain ⟨q18, h⟩ := h
      obtain ⟨w3, hw18⟩ : ∃ u, u = setAll w2 p17 [(Value.int .i64 x14)] 0 := ⟨_, rfl⟩
      replace h := h w3 hw18
      refine stepD_skpL (L' := [(10, fun _ => True), (9, fun _ => True), (8, fun _ => True), (3, fun _ => True), (2, fun _ => True)]) (w' := w3) rfl rfl rfl ((x_store (v := (Value.int .i64 x14)) rfl rfl rfl SZ_3 (ones (by rfl)) q18).trans (by rw [hw18]; rfl)) (by kernel_rfl) (held_cons trivial (held_cons trivial (held_cons trivial (held_cons trivial (held_cons trivial held_nil))))) ?_
      obtain ⟨q19, z19, r19, h⟩ := h
      generalize hp19 : z19.add ((l9.2 : Int).toNat * 1) = p19 at h
      refine wpD_take (v := (Value.pointer (some p19))) 14 (fun _ => True) rfl (by kernel_rfl) (by kernel_rfl) (by kernel_rfl) rfl rfl rfl trivial (fun w _ => ((x_indexAddr (s := p0) rfl rfl rfl ES_38 q19 r19).trans (by rw [hp19]))) ?_
      refine wpD_all (rs := [15]) (by kernel_rfl) (by simp) (allD_cons ?_ allD_nil)
      obtain ⟨q20, h⟩ := h
      obtain ⟨w4, hw20⟩ : ∃ u, u = setAll w3 p19 [(Value.int .i64 x16)] 0 := ⟨_, rfl⟩
      replace h := h w4 hw20
      refine stepD_skpL (L' := []) (w' := w4) rfl rfl rfl ((x_store (v := (Value.int .i64 x16)) rfl rfl rfl SZ_3 (ones (by rfl)) q20).trans (by rw [hw20]; rfl)) (by kernel_rfl) held_nil ?_
      exact wpD_done (by kernel_rfl) ⟨(), ⟨e0, e2, e3, trivial⟩, h⟩
    clear h
    rintro l21 ρ w5 ⟨e0, e2, e3, -⟩ h
    replace h := hk l21 w5 h
    clear hk
    refine wpC_region ?_
    refine wpR_val (v := (Value.int .i64 l9.1)) (w' := w5) rfl rfl rfl (x_move (v := (Value.int .i64 l9.1)) rfl e2) ?_
    refine wpR_val (v := (Value.int .i64 (IntKind.i64.wrap (l9.1 + 1)))) (w' := w5) rfl rfl rfl (x_add rfl rfl rfl) ?_
    refine wpR_val (v := (Value.int .i64 l9.2)) (w' := w5) rfl rfl rfl (x_move (v := (Value.int .i64 l9.2)) rfl e3) ?_
    refine wpR_val (v := (Value.int .i64 (IntKind.i64.wrap (l9.2 - 1)))) (w' := w5) rfl rfl rfl (x_sub rfl rfl rfl) ?_
    refine wpR_val (v := (Value.int .i64 (IntKind.i64.wrap (l9.1 + 1)))) (w' := w5) rfl rfl rfl (x_assign (v := (Value.int .i64 (IntKind.i64.wrap (l9.1 + 1)))) rfl rfl) ?_
    refine wpR_val (v := (Value.int .i64 (IntKind.i64.wrap (l9.2 - 1)))) (w' := w5) rfl rfl rfl (x_assign (v := (Value.int .i64 (IntKind.i64.wrap (l9.2 - 1)))) rfl rfl) ?_
    refine wpR_nil ?_
    exact ⟨(IntKind.i64.wrap (l9.1 + 1), IntKind.i64.wrap (l9.2 - 1)), ⟨rfl, rfl, e0, trivial⟩, h⟩
  · replace h := h.2 hc10
    refine wpC_exit ?_
    exact ⟨.inr rfl, fun a ha => ⟨_, results_rep0 rfl ha , (), rfl, h⟩⟩

/-- echo.may -/
def F50 (p0_0 : Int) (p0_1 : Int) (p0_2 : Int) (p0_3 : Int) (p0_4 : Int) (p1_0 : Int) (p1_1 : Int) (p1_2 : Int) (p1_3 : Int) (p1_4 : Int) (p2 : Int) (w0 : World) (K : Bool → World → Prop) : Prop :=
  nw 63 #[(Value.int .i64 p0_0), (Value.int .i64 p0_1), (Value.int .i64 p0_2), (Value.int .i64 p0_3), (Value.int .i64 p0_4)] w0 fun b9 w1 =>
  nw 63 #[(Value.int .i64 p1_0), (Value.int .i64 p1_1), (Value.int .i64 p1_2), (Value.int .i64 p1_3), (Value.int .i64 p1_4)] w1 fun b10 w2 =>
  jn (fun (J12 : Bool → World → Prop) => tk w2 fun w3 =>
    cnd (decide (p2 < 0))
      (
      J12 true w3
      )
      (
      ld (Value.int .i64) ((Addr.mk b9 0 none).add 0) w3 fun x14 =>
      ld (Value.int .i64) ((Addr.mk b9 0 none).add 1) w3 fun x15 =>
      ld (Value.int .i64) ((Addr.mk b9 0 none).add 2) w3 fun x16 =>
      ld (Value.int .i64) ((Addr.mk b9 0 none).add 3) w3 fun x17 =>
      ld (Value.int .i64) ((Addr.mk b9 0 none).add 4) w3 fun x18 =>
      ld (Value.int .i64) ((Addr.mk b10 0 none).add 0) w3 fun x19 =>
      ld (Value.int .i64) ((Addr.mk b10 0 none).add 1) w3 fun x20 =>
      ld (Value.int .i64) ((Addr.mk b10 0 none).add 2) w3 fun x21 =>
      ld (Value.int .i64) ((Addr.mk b10 0 none).add 3) w3 fun x22 =>
      ld (Value.int .i64) ((Addr.mk b10 0 none).add 4) w3 fun x23 =>
      callC Try.prog 71 #[(Value.agg #[(Value.int .i64 x14), (Value.int .i64 x15), (Value.int .i64 x16), (Value.int .i64 x17), (Value.int .i64 x18)]), (Value.agg #[(Value.int .i64 x19), (Value.int .i64 x20), (Value.int .i64 x21), (Value.int .i64 x22), (Value.int .i64 x23)])] (fun (r : Int) => (Value.int .i64 r)) w3 fun r24 w4 =>
      cnd (decide (r24 < 3))
        (
        J12 true w4
        )
        (
        ld (Value.int .i64) ((Addr.mk b9 0 none).add 0) w4 fun x26 =>
        ld (Value.int .i64) ((Addr.mk b10 0 none).add 0) w4 fun x27 =>
        callC Try.prog 72 #[(Value.int .i64 x26)] (fun (r : Int) => (Value.int .i64 r)) w4 fun r28 w5 =>
        (w5.cell? ((Addr.mk b10 0 none).add 0) = some (Value.int .i64 x27)) ∧
        callC Try.prog 72 #[(Value.int .i64 x27)] (fun (r : Int) => (Value.int .i64 r)) w5 fun r29 w6 =>
        cnd (decide (r28 = r29))
          (
          J12 true w6
          )
          (
          ld (Value.int .i64) ((Addr.mk b9 0 none).add 2) w6 fun x31 =>
          ld (Value.int .i64) ((Addr.mk b10 0 none).add 2) w6 fun x32 =>
          J12 (decide (x32 < x31)) w6
          )
        )
      )
  )
  fun l33 w7 =>
  cnd (l33)
    (
    K false w7
    )
    (
    ld (Value.int .i64) ((Addr.mk b10 0 none).add 2) w7 fun x35 =>
    ld (Value.int .i64) ((Addr.mk b9 0 none).add 2) w7 fun x36 =>
    K (decide ((IntKind.u64.wrap ((IntKind.u64.wrap x35) - (IntKind.u64.wrap x36))) ≤ (IntKind.u64.wrap p2))) w7
    )
set_option maxRecDepth 100000 in
theorem D50 (p0_0 : Int) (p0_1 : Int) (p0_2 : Int) (p0_3 : Int) (p0_4 : Int) (p1_0 : Int) (p1_1 : Int) (p1_2 : Int) (p1_3 : Int) (p1_4 : Int) (p2 : Int) (w0 : World) (K : Bool → World → Prop) (h : F50 p0_0 p0_1 p0_2 p0_3 p0_4 p1_0 p1_1 p1_2 p1_3 p1_4 p2 w0 K) : callC Try.prog 50 #[(Value.agg #[(Value.int .i64 p0_0), (Value.int .i64 p0_1), (Value.int .i64 p0_2), (Value.int .i64 p0_3), (Value.int .i64 p0_4)]), (Value.agg #[(Value.int .i64 p1_0), (Value.int .i64 p1_1), (Value.int .i64 p1_2), (Value.int .i64 p1_3), (Value.int .i64 p1_4)]), (Value.int .i64 p2)] (fun (r : Bool) => (Value.bool r)) w0 K := by
  unfold F50 at h
  refine calls_of_wpC Try.func50 rfl 41 rfl (by simp) ?_
  intro ρ hρ
  have e0 : ρ 0 = (Value.agg #[(Value.int .i64 p0_0), (Value.int .i64 p0_1), (Value.int .i64 p0_2), (Value.int .i64 p0_3), (Value.int .i64 p0_4)]) := hρ 0
  have e1 : ρ 1 = (Value.agg #[(Value.int .i64 p1_0), (Value.int .i64 p1_1), (Value.int .i64 p1_2), (Value.int .i64 p1_3), (Value.int .i64 p1_4)]) := hρ 1
  have e2 : ρ 2 = (Value.int .i64 p2) := hρ 2
  clear hρ
  refine wpC_seq ?_
  refine wpC_region ?_
  obtain ⟨b9, hb9⟩ : ∃ u, u = w0.heap.size := ⟨_, rfl⟩
  obtain ⟨w1, hw9⟩ : ∃ u, u = w0.alloc (.cells #[(Value.int .i64 p0_0), (Value.int .i64 p0_1), (Value.int .i64 p0_2), (Value.int .i64 p0_3), (Value.int .i64 p0_4)] 63) := ⟨_, rfl⟩
  replace h := h b9 w1 hb9 hw9
  refine wpR_val (v := (Value.pointer (some (Addr.mk b9 0 none)))) (w' := w1) rfl rfl rfl ((x_box (v := (Value.agg #[(Value.int .i64 p0_0), (Value.int .i64 p0_1), (Value.int .i64 p0_2), (Value.int .i64 p0_3), (Value.int .i64 p0_4)])) rfl e0).trans (by rw [hb9, hw9]; rfl)) ?_
  obtain ⟨b10, hb10⟩ : ∃ u, u = w1.heap.size := ⟨_, rfl⟩
  obtain ⟨w2, hw10⟩ : ∃ u, u = w1.alloc (.cells #[(Value.int .i64 p1_0), (Value.int .i64 p1_1), (Value.int .i64 p1_2), (Value.int .i64 p1_3), (Value.int .i64 p1_4)] 63) := ⟨_, rfl⟩
  replace h := h b10 w2 hb10 hw10
  refine wpR_val (v := (Value.pointer (some (Addr.mk b10 0 none)))) (w' := w2) rfl rfl rfl ((x_box (v := (Value.agg #[(Value.int .i64 p1_0), (Value.int .i64 p1_1), (Value.int .i64 p1_2), (Value.int .i64 p1_3), (Value.int .i64 p1_4)])) rfl e1).trans (by rw [hb10, hw10]; rfl)) ?_
  refine wpR_val (v := (Value.bool false)) (w' := w2) rfl rfl rfl (x_assign (v := (Value.bool false)) rfl rfl) ?_
  refine wpR_nil ?_
  refine wpC_seq ?_
  refine wpC_seq ?_
  refine wpC_cut (fun ρ => ρ 2 = (Value.int .i64 p2) ∧ ρ 3 = (Value.pointer (some (Addr.mk b9 0 none))) ∧ ρ 4 = (Value.pointer (some (Addr.mk b10 0 none))) ∧ True) ⟨e2, rfl, rfl, trivial⟩ ?_
  rintro ρ ⟨e2, e3, e4, -⟩
  obtain ⟨J12, h, hk⟩ := h
  refine wpC_drawJ (by kernel_rfl) (fun (x : Bool) ρ => ρ 30 = (Value.bool x) ∧ ρ 2 = (Value.int .i64 p2) ∧ ρ 3 = (Value.pointer (some (Addr.mk b9 0 none))) ∧ ρ 4 = (Value.pointer (some (Addr.mk b10 0 none))) ∧ True) J12 ?_ ?_
  · clear hk
    unfold tk at h
    generalize w2.drew = w3 at h ⊢
    refine wpD_take (v := (Value.int .i64 p2)) 0 (fun _ => True) rfl (by kernel_rfl) (by kernel_rfl) (by kernel_rfl) rfl rfl rfl trivial (fun w _ => (x_move (v := (Value.int .i64 p2)) rfl e2)) ?_
    refine wpD_take (v := (Value.bool (decide (p2 < 0)))) 1 (fun _ => True) rfl (by kernel_rfl) (by kernel_rfl) (by kernel_rfl) rfl rfl rfl trivial (fun w _ => (x_lss rfl rfl rfl)) ?_
    refine wpD_take (v := (Value.bool (decide (p2 < 0)))) 2 (fun _ => True) rfl (by kernel_rfl) (by kernel_rfl) (by kernel_rfl) rfl rfl rfl trivial (fun w _ => (x_move (v := (Value.bool (decide (p2 < 0)))) rfl rfl)) ?_
    rcases Bool.eq_false_or_eq_true (decide (p2 < 0)) with hc13 | hc13
    · replace h := h.1 hc13
      refine wpD_pass 3 rfl (by kernel_rfl) (by kernel_rfl) (by kernel_rfl) (wantN rfl rfl rfl hc13) rfl rfl ?_
      refine wpD_pass 4 rfl (by kernel_rfl) (by kernel_rfl) (by kernel_rfl) (wantN rfl rfl rfl hc13) rfl rfl ?_
      refine wpD_pass 5 rfl (by kernel_rfl) (by kernel_rfl) (by kernel_rfl) (wantN rfl rfl rfl hc13) rfl rfl ?_
      refine wpD_pass 6 rfl (by kernel_rfl) (by kernel_rfl) (by kernel_rfl) (wantN rfl rfl rfl hc13) rfl rfl ?_
      refine wpD_take (v := (Value.bool true)) 7 (fun _ => True) rfl (by kernel_rfl) (by kernel_rfl) (by kernel_rfl) rfl rfl rfl trivial (fun w _ => (x_pickT (v := (Value.bool true)) rfl rfl hc13 rfl)) ?_
      refine wpD_take (v := (Value.bool true)) 8 (fun _ => True) rfl (by kernel_rfl) (by kernel_rfl) (by kernel_rfl) rfl rfl rfl trivial (fun w _ => (x_move (v := (Value.bool true)) rfl rfl)) ?_
      refine wpD_pass 9 rfl (by kernel_rfl) (by kernel_rfl) (by kernel_rfl) (wantN rfl rfl rfl rfl) rfl rfl ?_
      refine wpD_pass 10 rfl (by kernel_rfl) (by kernel_rfl) (by kernel_rfl) (wantN rfl rfl rfl rfl) rfl rfl ?_
      refine wpD_pass 11 rfl (by kernel_rfl) (by kernel_rfl) (by kernel_rfl) (wantN rfl rfl rfl rfl) rfl rfl ?_
      refine wpD_pass 12 rfl (by kernel_rfl) (by kernel_rfl) (by kernel_rfl) (wantN rfl rfl rfl rfl) rfl rfl ?_
      refine wpD_pass 13 rfl (by kernel_rfl) (by kernel_rfl) (by kernel_rfl) (wantN rfl rfl rfl rfl) rfl rfl ?_
      refine wpD_pass 14 rfl (by kernel_rfl) (by kernel_rfl) (by kernel_rfl) (wantN rfl rfl rfl rfl) rfl rfl ?_
      refine wpD_pass 15 rfl (by kernel_rfl) (by kernel_rfl) (by kernel_rfl) (wantN rfl rfl rfl rfl) rfl rfl ?_
      refine wpD_take (v := (Value.bool true)) 16 (fun _ => True) rfl (by kernel_rfl) (by kernel_rfl) (by kernel_rfl) rfl rfl rfl trivial (fun w _ => (x_pickT (v := (Value.bool true)) rfl rfl rfl rfl)) ?_
      refine wpD_take (v := (Value.bool true)) 17 (fun _ => True) rfl (by kernel_rfl) (by kernel_rfl) (by kernel_rfl) rfl rfl rfl trivial (fun w _ => (x_move (v := (Value.bool true)) rfl rfl)) ?_
      refine wpD_pass 18 rfl (by kernel_rfl) (by kernel_rfl) (by kernel_rfl) (wantN rfl rfl rfl rfl) rfl rfl ?_
      refine wpD_pass 19 rfl (by kernel_rfl) (by kernel_rfl) (by kernel_rfl) (wantN rfl rfl rfl rfl) rfl rfl ?_
      refine wpD_pass 20 rfl (by kernel_rfl) (by kernel_rfl) (by kernel_rfl) (wantN rfl rfl rfl rfl) rfl rfl ?_
      refine wpD_pass 21 rfl (by kernel_rfl) (by kernel_rfl) (by kernel_rfl) (wantN rfl rfl rfl rfl) rfl rfl ?_
      refine wpD_pass 22 rfl (by kernel_rfl) (by kernel_rfl) (by kernel_rfl) (wantN rfl rfl rfl rfl) rfl rfl ?_
      refine wpD_take (v := (Value.bool true)) 23 (fun _ => True) rfl (by kernel_rfl) (by kernel_rfl) (by kernel_rfl) rfl rfl rfl trivial (fun w _ => (x_pickT (v := (Value.bool true)) rfl rfl rfl rfl)) ?_
      exact wpD_done (by kernel_rfl) ⟨true, ⟨rfl, e2, e3, e4, trivial⟩, h⟩
    · replace h := h.2 hc13
      obtain ⟨x14, q14, x15, q15, x16, q16, x17, q17, x18, q18, h⟩ := h
      refine wpD_take (v := (Value.agg #[(Value.int .i64 x14), (Value.int .i64 x15), (Value.int .i64 x16), (Value.int .i64 x17), (Value.int .i64 x18)])) 3 (fun w => w.cell? ((Addr.mk b9 0 none).add 0) = some (Value.int .i64 x14) ∧ w.cell? ((Addr.mk b9 0 none).add 1) = some (Value.int .i64 x15) ∧ w.cell? ((Addr.mk b9 0 none).add 2) = some (Value.int .i64 x16) ∧ w.cell? ((Addr.mk b9 0 none).add 3) = some (Value.int .i64 x17) ∧ w.cell? ((Addr.mk b9 0 none).add 4) = some (Value.int .i64 x18)) rfl (by kernel_rfl) (by kernel_rfl) (by kernel_rfl) (wantG rfl rfl rfl hc13) rfl rfl ⟨q14, q15, q16, q17, q18⟩ (fun w ⟨q14, q15, q16, q17, q18⟩ => (x_loadN [(Value.int .i64 x14), (Value.int .i64 x15), (Value.int .i64 x16), (Value.int .i64 x17), (Value.int .i64 x18)] rfl e3 SH_63 (CellsAt.out (CellsAt.cons q14 (CellsAt.cons q15 (CellsAt.cons q16 (CellsAt.cons q17 (CellsAt.cons q18 CellsAt.nil)))))))) ?_
      obtain ⟨x19, q19, x20, q20, x21, q21, x22, q22, x23, q23, h⟩ := h
      refine wpD_take (v := (Value.agg #[(Value.int .i64 x19), (Value.int .i64 x20), (Value.int .i64 x21), (Value.int .i64 x22), (Value.int .i64 x23)])) 4 (fun w => w.cell? ((Addr.mk b10 0 none).add 0) = some (Value.int .i64 x19) ∧ w.cell? ((Addr.mk b10 0 none).add 1) = some (Value.int .i64 x20) ∧ w.cell? ((Addr.mk b10 0 none).add 2) = some (Value.int .i64 x21) ∧ w.cell? ((Addr.mk b10 0 none).add 3) = some (Value.int .i64 x22) ∧ w.cell? ((Addr.mk b10 0 none).add 4) = some (Value.int .i64 x23)) rfl (by kernel_rfl) (by kernel_rfl) (by kernel_rfl) (wantG rfl rfl rfl hc13) rfl rfl ⟨q19, q20, q21, q22, q23⟩ (fun w ⟨q19, q20, q21, q22, q23⟩ => (x_loadN [(Value.int .i64 x19), (Value.int .i64 x20), (Value.int .i64 x21), (Value.int .i64 x22), (Value.int .i64 x23)] rfl e4 SH_63 (CellsAt.out (CellsAt.cons q19 (CellsAt.cons q20 (CellsAt.cons q21 (CellsAt.cons q22 (CellsAt.cons q23 CellsAt.nil)))))))) ?_
      refine wpD_all (rs := [5]) (by kernel_rfl) (by simp) (allD_cons ?_ allD_nil)
      refine stepD_enterL (L' := [(1, fun _ => True), (0, fun _ => True)]) rfl (wantG rfl rfl rfl hc13) rfl rfl (x_call (vs := [(Value.agg #[(Value.int .i64 x14), (Value.int .i64 x15), (Value.int .i64 x16), (Value.int .i64 x17), (Value.int .i64 x18)]), (Value.agg #[(Value.int .i64 x19), (Value.int .i64 x20), (Value.int .i64 x21), (Value.int .i64 x22), (Value.int .i64 x23)])]) rfl rfl (mapl_cons rfl (mapl_cons rfl mapl_nil)) Try.func71 NN_71 NB_71) (by kernel_rfl) (Calls.mono h ?_)
      rintro _ w4 ⟨r24, rfl, h⟩
      refine ⟨_, rfl, (held_cons trivial (held_cons trivial held_nil)), ?_⟩
      refine wpD_take (v := (Value.bool (decide (r24 < 3)))) 6 (fun _ => True) rfl (by kernel_rfl) (by kernel_rfl) (by kernel_rfl) (wantG rfl rfl rfl hc13) rfl rfl trivial (fun w _ => (x_lss rfl rfl rfl)) ?_
      refine wpD_take (v := (Value.bool (decide (r24 < 3)))) 7 (fun _ => True) rfl (by kernel_rfl) (by kernel_rfl) (by kernel_rfl) rfl rfl rfl trivial (fun w _ => (x_pickF (v := (Value.bool (decide (r24 < 3)))) rfl rfl hc13 rfl)) ?_
      refine wpD_take (v := (Value.bool (decide (r24 < 3)))) 8 (fun _ => True) rfl (by kernel_rfl) (by kernel_rfl) (by kernel_rfl) rfl rfl rfl trivial (fun w _ => (x_move (v := (Value.bool (decide (r24 < 3)))) rfl rfl)) ?_
      rcases Bool.eq_false_or_eq_true (decide (r24 < 3)) with hc25 | hc25
      · replace h := h.1 hc25
        refine wpD_pass 9 rfl (by kernel_rfl) (by kernel_rfl) (by kernel_rfl) (wantN rfl rfl rfl hc25) rfl rfl ?_
        refine wpD_pass 10 rfl (by kernel_rfl) (by kernel_rfl) (by kernel_rfl) (wantN rfl rfl rfl hc25) rfl rfl ?_
        refine wpD_pass 11 rfl (by kernel_rfl) (by kernel_rfl) (by kernel_rfl) (wantN rfl rfl rfl hc25) rfl rfl ?_
        refine wpD_pass 12 rfl (by kernel_rfl) (by kernel_rfl) (by kernel_rfl) (wantN rfl rfl rfl hc25) rfl rfl ?_
        refine wpD_pass 13 rfl (by kernel_rfl) (by kernel_rfl) (by kernel_rfl) (wantN rfl rfl rfl hc25) rfl rfl ?_
        refine wpD_pass 14 rfl (by kernel_rfl) (by kernel_rfl) (by kernel_rfl) (wantN rfl rfl rfl hc25) rfl rfl ?_
        refine wpD_pass 15 rfl (by kernel_rfl) (by kernel_rfl) (by kernel_rfl) (wantN rfl rfl rfl hc25) rfl rfl ?_
        refine wpD_take (v := (Value.bool true)) 16 (fun _ => True) rfl (by kernel_rfl) (by kernel_rfl) (by kernel_rfl) rfl rfl rfl trivial (fun w _ => (x_pickT (v := (Value.bool true)) rfl rfl hc25 rfl)) ?_
        refine wpD_take (v := (Value.bool true)) 17 (fun _ => True) rfl (by kernel_rfl) (by kernel_rfl) (by kernel_rfl) rfl rfl rfl trivial (fun w _ => (x_move (v := (Value.bool true)) rfl rfl)) ?_
        refine wpD_pass 18 rfl (by kernel_rfl) (by kernel_rfl) (by kernel_rfl) (wantN rfl rfl rfl rfl) rfl rfl ?_
        refine wpD_pass 19 rfl (by kernel_rfl) (by kernel_rfl) (by kernel_rfl) (wantN rfl rfl rfl rfl) rfl rfl ?_
        refine wpD_pass 20 rfl (by kernel_rfl) (by kernel_rfl) (by kernel_rfl) (wantN rfl rfl rfl rfl) rfl rfl ?_
        refine wpD_pass 21 rfl (by kernel_rfl) (by kernel_rfl) (by kernel_rfl) (wantN rfl rfl rfl rfl) rfl rfl ?_
        refine wpD_pass 22 rfl (by kernel_rfl) (by kernel_rfl) (by kernel_rfl) (wantN rfl rfl rfl rfl) rfl rfl ?_
        refine wpD_take (v := (Value.bool true)) 23 (fun _ => True) rfl (by kernel_rfl) (by kernel_rfl) (by kernel_rfl) rfl rfl rfl trivial (fun w _ => (x_pickT (v := (Value.bool true)) rfl rfl rfl rfl)) ?_
        exact wpD_done (by kernel_rfl) ⟨true, ⟨rfl, e2, e3, e4, trivial⟩, h⟩
      · replace h := h.2 hc25
        refine wpD_take (v := (Value.pointer (some ((Addr.mk b9 0 none).add 0)))) 9 (fun _ => True) rfl (by kernel_rfl) (by kernel_rfl) (by kernel_rfl) (wantG rfl rfl rfl hc25) rfl rfl trivial (fun w _ => (x_fieldAddr rfl e3 FA_63_0)) ?_
        obtain ⟨x26, q26, h⟩ := h
        refine wpD_take (v := (Value.int .i64 x26)) 10 (fun w => w.cell? ((Addr.mk b9 0 none).add 0) = some (Value.int .i64 x26)) rfl (by kernel_rfl) (by kernel_rfl) (by kernel_rfl) (wantG rfl rfl rfl hc25) rfl rfl q26 (fun w q26 => (x_load1 rfl rfl SH_3 q26)) ?_
        refine wpD_take (v := (Value.pointer (some ((Addr.mk b10 0 none).add 0)))) 12 (fun _ => True) rfl (by kernel_rfl) (by kernel_rfl) (by kernel_rfl) (wantG rfl rfl rfl hc25) rfl rfl trivial (fun w _ => (x_fieldAddr rfl e4 FA_63_0)) ?_
        obtain ⟨x27, q27, h⟩ := h
        refine wpD_take (v := (Value.int .i64 x27)) 13 (fun w => w.cell? ((Addr.mk b10 0 none).add 0) = some (Value.int .i64 x27)) rfl (by kernel_rfl) (by kernel_rfl) (by kernel_rfl) (wantG rfl rfl rfl hc25) rfl rfl q27 (fun w q27 => (x_load1 rfl rfl SH_3 q27)) ?_
        refine wpD_all (rs := [11]) (by kernel_rfl) (by simp) (allD_cons ?_ allD_nil)
        refine stepD_enterL (L' := [(13, fun w => w.cell? ((Addr.mk b10 0 none).add 0) = some (Value.int .i64 x27)), (12, fun _ => True), (9, fun _ => True), (7, fun _ => True), (6, fun _ => True), (1, fun _ => True), (0, fun _ => True)]) rfl (wantG rfl rfl rfl hc25) rfl rfl (x_call (vs := [(Value.int .i64 x26)]) rfl rfl (mapl_cons rfl mapl_nil) Try.func72 NN_72 NB_72) (by kernel_rfl) (Calls.mono h ?_)
        rintro _ w5 ⟨r28, rfl, h⟩
        obtain ⟨o13, h⟩ := h
        refine ⟨_, rfl, (held_cons o13 (held_cons trivial (held_cons trivial (held_cons trivial (held_cons trivial (held_cons trivial (held_cons trivial held_nil))))))), ?_⟩
        refine wpD_all (rs := [14]) (by kernel_rfl) (by simp) (allD_cons ?_ allD_nil)
        refine stepD_enterL (L' := [(12, fun _ => True), (9, fun _ => True), (7, fun _ => True), (6, fun _ => True), (1, fun _ => True), (0, fun _ => True)]) rfl (wantG rfl rfl rfl hc25) rfl rfl (x_call (vs := [(Value.int .i64 x27)]) rfl rfl (mapl_cons rfl mapl_nil) Try.func72 NN_72 NB_72) (by kernel_rfl) (Calls.mono h ?_)
        rintro _ w6 ⟨r29, rfl, h⟩
        refine ⟨_, rfl, (held_cons trivial (held_cons trivial (held_cons trivial (held_cons trivial (held_cons trivial (held_cons trivial held_nil)))))), ?_⟩
        refine wpD_take (v := (Value.bool (decide (r28 = r29)))) 15 (fun _ => True) rfl (by kernel_rfl) (by kernel_rfl) (by kernel_rfl) (wantG rfl rfl rfl hc25) rfl rfl trivial (fun w _ => (x_eql rfl rfl rfl)) ?_
        refine wpD_take (v := (Value.bool (decide (r28 = r29)))) 16 (fun _ => True) rfl (by kernel_rfl) (by kernel_rfl) (by kernel_rfl) rfl rfl rfl trivial (fun w _ => (x_pickF (v := (Value.bool (decide (r28 = r29)))) rfl rfl hc25 rfl)) ?_
        refine wpD_take (v := (Value.bool (decide (r28 = r29)))) 17 (fun _ => True) rfl (by kernel_rfl) (by kernel_rfl) (by kernel_rfl) rfl rfl rfl trivial (fun w _ => (x_move (v := (Value.bool (decide (r28 = r29)))) rfl rfl)) ?_
        rcases Bool.eq_false_or_eq_true (decide (r28 = r29)) with hc30 | hc30
        · replace h := h.1 hc30
          refine wpD_pass 18 rfl (by kernel_rfl) (by kernel_rfl) (by kernel_rfl) (wantN rfl rfl rfl hc30) rfl rfl ?_
          refine wpD_pass 19 rfl (by kernel_rfl) (by kernel_rfl) (by kernel_rfl) (wantN rfl rfl rfl hc30) rfl rfl ?_
          refine wpD_pass 20 rfl (by kernel_rfl) (by kernel_rfl) (by kernel_rfl) (wantN rfl rfl rfl hc30) rfl rfl ?_
          refine wpD_pass 21 rfl (by kernel_rfl) (by kernel_rfl) (by kernel_rfl) (wantN rfl rfl rfl hc30) rfl rfl ?_
          refine wpD_pass 22 rfl (by kernel_rfl) (by kernel_rfl) (by kernel_rfl) (wantN rfl rfl rfl hc30) rfl rfl ?_
          refine wpD_take (v := (Value.bool true)) 23 (fun _ => True) rfl (by kernel_rfl) (by kernel_rfl) (by kernel_rfl) rfl rfl rfl trivial (fun w _ => (x_pickT (v := (Value.bool true)) rfl rfl hc30 rfl)) ?_
          exact wpD_done (by kernel_rfl) ⟨true, ⟨rfl, e2, e3, e4, trivial⟩, h⟩
        · replace h := h.2 hc30
          refine wpD_take (v := (Value.pointer (some ((Addr.mk b9 0 none).add 2)))) 18 (fun _ => True) rfl (by kernel_rfl) (by kernel_rfl) (by kernel_rfl) (wantG rfl rfl rfl hc30) rfl rfl trivial (fun w _ => (x_fieldAddr rfl e3 FA_63_2)) ?_
          obtain ⟨x31, q31, h⟩ := h
          refine wpD_take (v := (Value.int .i64 x31)) 19 (fun w => w.cell? ((Addr.mk b9 0 none).add 2) = some (Value.int .i64 x31)) rfl (by kernel_rfl) (by kernel_rfl) (by kernel_rfl) (wantG rfl rfl rfl hc30) rfl rfl q31 (fun w q31 => (x_load1 rfl rfl SH_3 q31)) ?_
          refine wpD_take (v := (Value.pointer (some ((Addr.mk b10 0 none).add 2)))) 20 (fun _ => True) rfl (by kernel_rfl) (by kernel_rfl) (by kernel_rfl) (wantG rfl rfl rfl hc30) rfl rfl trivial (fun w _ => (x_fieldAddr rfl e4 FA_63_2)) ?_
          obtain ⟨x32, q32, h⟩ := h
          refine wpD_take (v := (Value.int .i64 x32)) 21 (fun w => w.cell? ((Addr.mk b10 0 none).add 2) = some (Value.int .i64 x32)) rfl (by kernel_rfl) (by kernel_rfl) (by kernel_rfl) (wantG rfl rfl rfl hc30) rfl rfl q32 (fun w q32 => (x_load1 rfl rfl SH_3 q32)) ?_
          refine wpD_take (v := (Value.bool (decide (x32 < x31)))) 22 (fun _ => True) rfl (by kernel_rfl) (by kernel_rfl) (by kernel_rfl) (wantG rfl rfl rfl hc30) rfl rfl trivial (fun w _ => (x_gtr rfl rfl rfl)) ?_
          refine wpD_take (v := (Value.bool (decide (x32 < x31)))) 23 (fun _ => True) rfl (by kernel_rfl) (by kernel_rfl) (by kernel_rfl) rfl rfl rfl trivial (fun w _ => (x_pickF (v := (Value.bool (decide (x32 < x31)))) rfl rfl hc30 rfl)) ?_
          exact wpD_done (by kernel_rfl) ⟨decide (x32 < x31), ⟨rfl, e2, e3, e4, trivial⟩, h⟩
  clear h
  rintro l33 ρ w7 ⟨e30, e2, e3, e4, -⟩ h
  replace h := hk l33 w7 h
  clear hk
  refine wpC_cond (b := l33) e30 (fun hc34 => ?_) (fun hc34 => ?_)
  · replace h := h.1 hc34
    refine wpC_seq ?_
    refine wpC_region ?_
    refine wpR_val (v := (Value.bool false)) (w' := w7) rfl rfl rfl (x_assign (v := (Value.bool false)) rfl rfl) ?_
    refine wpR_nil ?_
    refine wpC_ret ?_
    exact ⟨.inl rfl, fun a ha => ⟨_, results_rep1 rfl ha rfl, false, rfl, h⟩⟩
  · replace h := h.2 hc34
    refine wpC_skip ?_
    refine wpC_seq ?_
    refine wpC_region ?_
    refine wpR_val (v := (Value.pointer (some ((Addr.mk b10 0 none).add 2)))) (w' := w7) rfl rfl rfl (x_fieldAddr rfl e4 FA_63_2) ?_
    obtain ⟨x35, q35, h⟩ := h
    refine wpR_val (v := (Value.int .i64 x35)) (w' := w7) rfl rfl rfl (x_load1 rfl rfl SH_3 q35) ?_
    refine wpR_val (v := (Value.int .u64 (IntKind.u64.wrap x35))) (w' := w7) rfl rfl rfl (x_convI rfl rfl IK_102 IK_3) ?_
    refine wpR_val (v := (Value.pointer (some ((Addr.mk b9 0 none).add 2)))) (w' := w7) rfl rfl rfl (x_fieldAddr rfl e3 FA_63_2) ?_
    obtain ⟨x36, q36, h⟩ := h
    refine wpR_val (v := (Value.int .i64 x36)) (w' := w7) rfl rfl rfl (x_load1 rfl rfl SH_3 q36) ?_
    refine wpR_val (v := (Value.int .u64 (IntKind.u64.wrap x36))) (w' := w7) rfl rfl rfl (x_convI rfl rfl IK_102 IK_3) ?_
    refine wpR_val (v := (Value.int .u64 (IntKind.u64.wrap ((IntKind.u64.wrap x35) - (IntKind.u64.wrap x36))))) (w' := w7) rfl rfl rfl (x_sub rfl rfl rfl) ?_
    refine wpR_val (v := (Value.int .i64 p2)) (w' := w7) rfl rfl rfl (x_move (v := (Value.int .i64 p2)) rfl e2) ?_
    refine wpR_val (v := (Value.int .u64 (IntKind.u64.wrap p2))) (w' := w7) rfl rfl rfl (x_convI rfl rfl IK_102 IK_3) ?_
    refine wpR_val (v := (Value.bool (decide ((IntKind.u64.wrap ((IntKind.u64.wrap x35) - (IntKind.u64.wrap x36))) ≤ (IntKind.u64.wrap p2))))) (w' := w7) rfl rfl rfl (x_leq rfl rfl rfl) ?_
    refine wpR_val (v := (Value.bool (decide ((IntKind.u64.wrap ((IntKind.u64.wrap x35) - (IntKind.u64.wrap x36))) ≤ (IntKind.u64.wrap p2))))) (w' := w7) rfl rfl rfl (x_assign (v := (Value.bool (decide ((IntKind.u64.wrap ((IntKind.u64.wrap x35) - (IntKind.u64.wrap x36))) ≤ (IntKind.u64.wrap p2))))) rfl rfl) ?_
    refine wpR_nil ?_
    refine wpC_ret ?_
    exact ⟨.inl rfl, fun a ha => ⟨_, results_rep1 rfl ha rfl, decide ((IntKind.u64.wrap ((IntKind.u64.wrap x35) - (IntKind.u64.wrap x36))) ≤ (IntKind.u64.wrap p2)), rfl, h⟩⟩

/-- admit.valid -/
def F51 (p0 : Sl) (w0 : World) (K : Bool → World → Prop) : Prop :=
  rn Try.prog (Instr.makeMap 83 none) (fun (r : (Option Nat)) => (Value.map r)) w0 fun r9 w1 =>
  lp (fun (next10 : Int → World → Prop) l10 w2 =>
    cnd (decide (l10 < (p0.len : Int)))
      (
      ix p0 l10 3 fun p12 =>
      ld (Value.int .i64) (p12.add 0) w2 fun x13 =>
      ld (Value.int .i64) (p12.add 1) w2 fun x14 =>
      ld (Value.int .i64) (p12.add 2) w2 fun x15 =>
      nw 73 #[(Value.int .i64 0), (Value.int .i64 0), (Value.int .i64 0)] w2 fun b16 w3 =>
      st (Addr.mk b16 0 none) [(Value.int .i64 x13), (Value.int .i64 x14), (Value.int .i64 x15)] w3 fun w4 =>
      ld (Value.int .i64) ((Addr.mk b16 0 none).add 0) w4 fun x18 =>
      jn (fun J19 => cnd (decide (x18 < 0))
        (
        J19 true w4
        )
        (
        ld (Value.int .i64) ((Addr.mk b16 0 none).add 0) w4 fun x21 =>
        rn Try.prog (Instr.lookup 83 (Value.map r9) (Value.int .i64 x21) false) (fun (r : Bool) => (Value.bool r)) w4 fun r22 w5 =>
        J19 r22 w5
        ))
      fun c23 w6 =>
      jp (fun J24 => cnd (c23)
        (
        J24 true
        )
        (
        ld (Value.int .i64) ((Addr.mk b16 0 none).add 1) w6 fun x26 =>
        J24 (decide (x26 < 1))
        ))
      fun c27 =>
      jp (fun J28 => cnd (c27)
        (
        J28 true
        )
        (
        ld (Value.int .i64) ((Addr.mk b16 0 none).add 1) w6 fun x30 =>
        J28 (decide (1099511627776 < x30))
        ))
      fun c31 =>
      jp (fun J32 => cnd (c31)
        (
        J32 true
        )
        (
        ld (Value.int .i64) ((Addr.mk b16 0 none).add 2) w6 fun x34 =>
        J32 (decide (x34 < 0))
        ))
      fun c35 =>
      jp (fun J36 => cnd (c35)
        (
        J36 true
        )
        (
        ld (Value.int .i64) ((Addr.mk b16 0 none).add 2) w6 fun x38 =>
        J36 (decide (1073741824 < x38))
        ))
      fun c39 =>
      cnd (c39)
        (
        K false w6
        )
        (
        ld (Value.int .i64) ((Addr.mk b16 0 none).add 0) w6 fun x41 =>
        rn0 Try.prog (Instr.mapUpdate 83 (Value.map r9) (Value.int .i64 x41) (Value.bool true)) w6 fun w7 =>
        next10 (IntKind.i64.wrap (l10 + 1)) w7
        )
      )
      (
      K (decide ((p0.len : Int) ≤ 1000)) w2
      )
  ) 0 w1
set_option maxRecDepth 100000 in
theorem D51 (p0 : Sl) (w0 : World) (K : Bool → World → Prop) (h : F51 p0 w0 K) : callC Try.prog 51 #[(Sl.v p0)] (fun (r : Bool) => (Value.bool r)) w0 K := by
  unfold F51 at h
  refine calls_of_wpC Try.func51 rfl 49 rfl (by simp) ?_
  intro ρ hρ
  have e0 : ρ 0 = (Sl.v p0) := hρ 0
  clear hρ
  refine wpC_seq ?_
  refine wpC_region ?_
  refine wpR_val (v := (Value.bool false)) (w' := w0) rfl rfl rfl (x_assign (v := (Value.bool false)) rfl rfl) ?_
  refine wpR_nil ?_
  refine wpC_seq ?_
  refine wpC_cut (fun ρ => ρ 0 = (Sl.v p0) ∧ True) ⟨e0, trivial⟩ ?_
  rintro ρ ⟨e0, -⟩
  refine wpC_region ?_
  obtain ⟨r9, w1, q9, h⟩ := h
  refine wpR_val (v := (Value.map r9)) (w' := w1) rfl rfl rfl (x_makeMap rfl rfl q9) ?_
  refine wpR_val (v := (Value.map r9)) (w' := w1) rfl rfl rfl (x_assign (v := (Value.map r9)) rfl rfl) ?_
  refine wpR_nil ?_
  refine wpC_seq ?_
  refine wpC_seq ?_
  refine wpC_cut (fun ρ => ρ 0 = (Sl.v p0) ∧ ρ 3 = (Value.map r9) ∧ True) ⟨e0, rfl, trivial⟩ ?_
  rintro ρ ⟨e0, e3, -⟩
  refine wpC_region ?_
  refine wpR_val (v := (Sl.v p0)) (w' := w1) rfl rfl rfl (x_move (v := (Sl.v p0)) rfl e0) ?_
  refine wpR_val (v := (Value.int .i64 (p0.len : Int))) (w' := w1) rfl rfl rfl (x_lenS (s := p0) rfl rfl isSliceT_71) ?_
  refine wpR_val (v := (Value.int .i64 0)) (w' := w1) rfl rfl rfl (x_move (v := (Value.int .i64 0)) rfl rfl) ?_
  refine wpR_nil ?_
  refine wpC_block ?_
  obtain ⟨I10, μ10, hI10, hr10⟩ := h
  refine wpC_loop (fun (x : Int) ρ => ρ 9 = (Value.int .i64 x) ∧ ρ 0 = (Sl.v p0) ∧ ρ 3 = (Value.map r9) ∧ ρ 7 = (Sl.v p0) ∧ ρ 8 = (Value.int .i64 (p0.len : Int)) ∧ True) I10 μ10 0 ⟨rfl, e0, e3, rfl, rfl, trivial⟩ hI10 ?_
  rintro l10 ρ w2 ⟨e9, e0, e3, e7, e8, -⟩ h
  replace h := hr10 l10 w2 h
  clear hr10 hI10
  refine wpC_seq ?_
  refine wpC_region ?_
  refine wpR_val (v := (Value.bool (decide (l10 < (p0.len : Int))))) (w' := w2) rfl rfl rfl (x_lss rfl e9 e8) ?_
  refine wpR_nil ?_
  refine wpC_seq ?_
  refine wpC_cond (b := decide (l10 < (p0.len : Int))) rfl (fun hc11 => ?_) (fun hc11 => ?_)
  · replace h := h.1 hc11
    refine wpC_skip ?_
    refine wpC_seq ?_
    refine wpC_block ?_
    refine wpC_seq ?_
    refine wpC_cut (fun ρ => ρ 0 = (Sl.v p0) ∧ ρ 3 = (Value.map r9) ∧ ρ 7 = (Sl.v p0) ∧ ρ 8 = (Value.int .i64 (p0.len : Int)) ∧ ρ 9 = (Value.int .i64 l10) ∧ True) ⟨e0, e3, e7, e8, e9, trivial⟩ ?_
    rintro ρ ⟨e0, e3, e7, e8, e9, -⟩
    refine wpC_region ?_
    obtain ⟨q12, z12, r12, h⟩ := h
    generalize hp12 : z12.add ((l10 : Int).toNat * 3) = p12 at h
    refine wpR_val (v := (Value.pointer (some p12))) (w' := w2) rfl rfl rfl ((x_indexAddr (s := p0) rfl e7 e9 ES_71 q12 r12).trans (by rw [hp12])) ?_
    obtain ⟨x13, q13, x14, q14, x15, q15, h⟩ := h
    refine wpR_val (v := (Value.agg #[(Value.int .i64 x13), (Value.int .i64 x14), (Value.int .i64 x15)])) (w' := w2) rfl rfl rfl (x_loadN [(Value.int .i64 x13), (Value.int .i64 x14), (Value.int .i64 x15)] rfl rfl SH_73 (CellsAt.out (CellsAt.cons q13 (CellsAt.cons q14 (CellsAt.cons q15 CellsAt.nil))))) ?_
    obtain ⟨b16, hb16⟩ : ∃ u, u = w2.heap.size := ⟨_, rfl⟩
    obtain ⟨w3, hw16⟩ : ∃ u, u = w2.alloc (.cells #[(Value.int .i64 0), (Value.int .i64 0), (Value.int .i64 0)] 73) := ⟨_, rfl⟩
    replace h := h b16 w3 hb16 hw16
    refine wpR_val (v := (Value.pointer (some (Addr.mk b16 0 none)))) (w' := w3) rfl rfl rfl ((x_alloc rfl ZV_73).trans (by rw [hb16, hw16]; rfl)) ?_
    obtain ⟨q17, h⟩ := h
    obtain ⟨w4, hw17⟩ : ∃ u, u = setAll w3 (Addr.mk b16 0 none) [(Value.int .i64 x13), (Value.int .i64 x14), (Value.int .i64 x15)] 0 := ⟨_, rfl⟩
    replace h := h w4 hw17
    refine wpR_skp (w' := w4) rfl rfl ((x_store (v := (Value.agg #[(Value.int .i64 x13), (Value.int .i64 x14), (Value.int .i64 x15)])) rfl rfl rfl SZ_73 (ones (by rfl)) q17).trans (by rw [hw17]; rfl)) ?_
    refine wpR_nil ?_
    refine wpC_seq ?_
    refine wpC_seq ?_
    refine wpC_cut (fun ρ => ρ 0 = (Sl.v p0) ∧ ρ 3 = (Value.map r9) ∧ ρ 5 = (Value.pointer (some (Addr.mk b16 0 none))) ∧ ρ 7 = (Sl.v p0) ∧ ρ 8 = (Value.int .i64 (p0.len : Int)) ∧ ρ 9 = (Value.int .i64 l10) ∧ True) ⟨e0, e3, rfl, e7, e8, e9, trivial⟩ ?_
    rintro ρ ⟨e0, e3, e5, e7, e8, e9, -⟩
    refine wpC_region ?_
    refine wpR_val (v := (Value.pointer (some ((Addr.mk b16 0 none).add 0)))) (w' := w4) rfl rfl rfl (x_fieldAddr rfl e5 FA_73_0) ?_
    obtain ⟨x18, q18, h⟩ := h
    refine wpR_val (v := (Value.int .i64 x18)) (w' := w4) rfl rfl rfl (x_load1 rfl rfl SH_3 q18) ?_
    refine wpR_val (v := (Value.bool (decide (x18 < 0)))) (w' := w4) rfl rfl rfl (x_lss rfl rfl rfl) ?_
    refine wpR_val (v := (Value.bool (decide (x18 < 0)))) (w' := w4) rfl rfl rfl (x_move (v := (Value.bool (decide (x18 < 0)))) rfl rfl) ?_
    obtain ⟨J19, h, hk⟩ := h
    refine wpR_joinJ 5 (fun x ρ => ρ 21 = Value.bool x ∧ ρ 0 = (Sl.v p0) ∧ ρ 3 = (Value.map r9) ∧ ρ 5 = (Value.pointer (some (Addr.mk b16 0 none))) ∧ ρ 7 = (Sl.v p0) ∧ ρ 8 = (Value.int .i64 (p0.len : Int)) ∧ ρ 9 = (Value.int .i64 l10) ∧ True) (J19) ?_ ?_
    · clear hk
      rcases Bool.eq_false_or_eq_true (decide (x18 < 0)) with hc20 | hc20
      · replace h := h.1 hc20
        refine wpR_pass (wantN rfl rfl rfl hc20) rfl rfl ?_
        refine wpR_pass (wantN rfl rfl rfl hc20) rfl rfl ?_
        refine wpR_pass (wantN rfl rfl rfl hc20) rfl rfl ?_
        refine wpR_pass (wantN rfl rfl rfl hc20) rfl rfl ?_
        refine wpR_val (v := (Value.bool true)) (w' := w4) rfl rfl rfl (x_pickT (v := (Value.bool true)) rfl rfl hc20 rfl) ?_
        refine wpR_nil ?_
        exact ⟨true, ⟨rfl, e0, e3, e5, e7, e8, e9, trivial⟩, h⟩
      · replace h := h.2 hc20
        refine wpR_val (v := (Value.map r9)) (w' := w4) (wantG rfl rfl rfl hc20) rfl rfl (x_move (v := (Value.map r9)) rfl e3) ?_
        refine wpR_val (v := (Value.pointer (some ((Addr.mk b16 0 none).add 0)))) (w' := w4) (wantG rfl rfl rfl hc20) rfl rfl (x_fieldAddr rfl e5 FA_73_0) ?_
        obtain ⟨x21, q21, h⟩ := h
        refine wpR_val (v := (Value.int .i64 x21)) (w' := w4) (wantG rfl rfl rfl hc20) rfl rfl (x_load1 rfl rfl SH_3 q21) ?_
        obtain ⟨r22, w5, q22, h⟩ := h
        refine wpR_val (v := (Value.bool r22)) (w' := w5) (wantG rfl rfl rfl hc20) rfl rfl (x_lookup rfl rfl rfl q22) ?_
        refine wpR_val (v := (Value.bool r22)) (w' := w5) rfl rfl rfl (x_pickF (v := (Value.bool r22)) rfl rfl hc20 rfl) ?_
        refine wpR_nil ?_
        exact ⟨r22, ⟨rfl, e0, e3, e5, e7, e8, e9, trivial⟩, h⟩
    clear h
    rintro c23 ρ w6 ⟨e21, e0, e3, e5, e7, e8, e9, -⟩ h
    replace h := hk c23 w6 h
    clear hk
    refine wpR_val (v := (Value.bool c23)) (w' := w6) rfl rfl rfl (x_move (v := (Value.bool c23)) rfl e21) ?_
    obtain ⟨J24, h, hk⟩ := h
    refine wpR_joinJ 4 (fun x ρ => ρ 26 = Value.bool x ∧ ρ 0 = (Sl.v p0) ∧ ρ 3 = (Value.map r9) ∧ ρ 5 = (Value.pointer (some (Addr.mk b16 0 none))) ∧ ρ 7 = (Sl.v p0) ∧ ρ 8 = (Value.int .i64 (p0.len : Int)) ∧ ρ 9 = (Value.int .i64 l10) ∧ True) (fun x w => J24 x ∧ w6 = w) ?_ ?_
    · clear hk
      rcases Bool.eq_false_or_eq_true (c23) with hc25 | hc25
      · replace h := h.1 hc25
        refine wpR_pass (wantN rfl rfl rfl hc25) rfl rfl ?_
        refine wpR_pass (wantN rfl rfl rfl hc25) rfl rfl ?_
        refine wpR_pass (wantN rfl rfl rfl hc25) rfl rfl ?_
        refine wpR_val (v := (Value.bool true)) (w' := w6) rfl rfl rfl (x_pickT (v := (Value.bool true)) rfl rfl hc25 rfl) ?_
        refine wpR_nil ?_
        exact ⟨true, ⟨rfl, e0, e3, e5, e7, e8, e9, trivial⟩, h, rfl⟩
      · replace h := h.2 hc25
        refine wpR_val (v := (Value.pointer (some ((Addr.mk b16 0 none).add 1)))) (w' := w6) (wantG rfl rfl rfl hc25) rfl rfl (x_fieldAddr rfl e5 FA_73_1) ?_
        obtain ⟨x26, q26, h⟩ := h
        refine wpR_val (v := (Value.int .i64 x26)) (w' := w6) (wantG rfl rfl rfl hc25) rfl rfl (x_load1 rfl rfl SH_3 q26) ?_
        refine wpR_val (v := (Value.bool (decide (x26 < 1)))) (w' := w6) (wantG rfl rfl rfl hc25) rfl rfl (x_lss rfl rfl rfl) ?_
        refine wpR_val (v := (Value.bool (decide (x26 < 1)))) (w' := w6) rfl rfl rfl (x_pickF (v := (Value.bool (decide (x26 < 1)))) rfl rfl hc25 rfl) ?_
        refine wpR_nil ?_
        exact ⟨decide (x26 < 1), ⟨rfl, e0, e3, e5, e7, e8, e9, trivial⟩, h, rfl⟩
    clear h
    rintro c27 ρ wj ⟨e26, e0, e3, e5, e7, e8, e9, -⟩ ⟨h, rfl⟩
    replace h := hk c27 h
    clear hk
    refine wpR_val (v := (Value.bool c27)) (w' := w6) rfl rfl rfl (x_move (v := (Value.bool c27)) rfl e26) ?_
    obtain ⟨J28, h, hk⟩ := h
    refine wpR_joinJ 4 (fun x ρ => ρ 31 = Value.bool x ∧ ρ 0 = (Sl.v p0) ∧ ρ 3 = (Value.map r9) ∧ ρ 5 = (Value.pointer (some (Addr.mk b16 0 none))) ∧ ρ 7 = (Sl.v p0) ∧ ρ 8 = (Value.int .i64 (p0.len : Int)) ∧ ρ 9 = (Value.int .i64 l10) ∧ True) (fun x w => J28 x ∧ w6 = w) ?_ ?_
    · clear hk
      rcases Bool.eq_false_or_eq_true (c27) with hc29 | hc29
      · replace h := h.1 hc29
        refine wpR_pass (wantN rfl rfl rfl hc29) rfl rfl ?_
        refine wpR_pass (wantN rfl rfl rfl hc29) rfl rfl ?_
        refine wpR_pass (wantN rfl rfl rfl hc29) rfl rfl ?_
        refine wpR_val (v := (Value.bool true)) (w' := w6) rfl rfl rfl (x_pickT (v := (Value.bool true)) rfl rfl hc29 rfl) ?_
        refine wpR_nil ?_
        exact ⟨true, ⟨rfl, e0, e3, e5, e7, e8, e9, trivial⟩, h, rfl⟩
      · replace h := h.2 hc29
        refine wpR_val (v := (Value.pointer (some ((Addr.mk b16 0 none).add 1)))) (w' := w6) (wantG rfl rfl rfl hc29) rfl rfl (x_fieldAddr rfl e5 FA_73_1) ?_
        obtain ⟨x30, q30, h⟩ := h
        refine wpR_val (v := (Value.int .i64 x30)) (w' := w6) (wantG rfl rfl rfl hc29) rfl rfl (x_load1 rfl rfl SH_3 q30) ?_
        refine wpR_val (v := (Value.bool (decide (1099511627776 < x30)))) (w' := w6) (wantG rfl rfl rfl hc29) rfl rfl (x_gtr rfl rfl rfl) ?_
        refine wpR_val (v := (Value.bool (decide (1099511627776 < x30)))) (w' := w6) rfl rfl rfl (x_pickF (v := (Value.bool (decide (1099511627776 < x30)))) rfl rfl hc29 rfl) ?_
        refine wpR_nil ?_
        exact ⟨decide (1099511627776 < x30), ⟨rfl, e0, e3, e5, e7, e8, e9, trivial⟩, h, rfl⟩
    clear h
    rintro c31 ρ wj ⟨e31, e0, e3, e5, e7, e8, e9, -⟩ ⟨h, rfl⟩
    replace h := hk c31 h
    clear hk
    refine wpR_val (v := (Value.bool c31)) (w' := w6) rfl rfl rfl (x_move (v := (Value.bool c31)) rfl e31) ?_
    obtain ⟨J32, h, hk⟩ := h
    refine wpR_joinJ 4 (fun x ρ => ρ 36 = Value.bool x ∧ ρ 0 = (Sl.v p0) ∧ ρ 3 = (Value.map r9) ∧ ρ 5 = (Value.pointer (some (Addr.mk b16 0 none))) ∧ ρ 7 = (Sl.v p0) ∧ ρ 8 = (Value.int .i64 (p0.len : Int)) ∧ ρ 9 = (Value.int .i64 l10) ∧ True) (fun x w => J32 x ∧ w6 = w) ?_ ?_
    · clear hk
      rcases Bool.eq_false_or_eq_true (c31) with hc33 | hc33
      · replace h := h.1 hc33
        refine wpR_pass (wantN rfl rfl rfl hc33) rfl rfl ?_
        refine wpR_pass (wantN rfl rfl rfl hc33) rfl rfl ?_
        refine wpR_pass (wantN rfl rfl rfl hc33) rfl rfl ?_
        refine wpR_val (v := (Value.bool true)) (w' := w6) rfl rfl rfl (x_pickT (v := (Value.bool true)) rfl rfl hc33 rfl) ?_
        refine wpR_nil ?_
        exact ⟨true, ⟨rfl, e0, e3, e5, e7, e8, e9, trivial⟩, h, rfl⟩
      · replace h := h.2 hc33
        refine wpR_val (v := (Value.pointer (some ((Addr.mk b16 0 none).add 2)))) (w' := w6) (wantG rfl rfl rfl hc33) rfl rfl (x_fieldAddr rfl e5 FA_73_2) ?_
        obtain ⟨x34, q34, h⟩ := h
        refine wpR_val (v := (Value.int .i64 x34)) (w' := w6) (wantG rfl rfl rfl hc33) rfl rfl (x_load1 rfl rfl SH_3 q34) ?_
        refine wpR_val (v := (Value.bool (decide (x34 < 0)))) (w' := w6) (wantG rfl rfl rfl hc33) rfl rfl (x_lss rfl rfl rfl) ?_
        refine wpR_val (v := (Value.bool (decide (x34 < 0)))) (w' := w6) rfl rfl rfl (x_pickF (v := (Value.bool (decide (x34 < 0)))) rfl rfl hc33 rfl) ?_
        refine wpR_nil ?_
        exact ⟨decide (x34 < 0), ⟨rfl, e0, e3, e5, e7, e8, e9, trivial⟩, h, rfl⟩
    clear h
    rintro c35 ρ wj ⟨e36, e0, e3, e5, e7, e8, e9, -⟩ ⟨h, rfl⟩
    replace h := hk c35 h
    clear hk
    refine wpR_val (v := (Value.bool c35)) (w' := w6) rfl rfl rfl (x_move (v := (Value.bool c35)) rfl e36) ?_
    obtain ⟨J36, h, hk⟩ := h
    refine wpR_joinJ 4 (fun x ρ => ρ 41 = Value.bool x ∧ ρ 0 = (Sl.v p0) ∧ ρ 3 = (Value.map r9) ∧ ρ 5 = (Value.pointer (some (Addr.mk b16 0 none))) ∧ ρ 7 = (Sl.v p0) ∧ ρ 8 = (Value.int .i64 (p0.len : Int)) ∧ ρ 9 = (Value.int .i64 l10) ∧ True) (fun x w => J36 x ∧ w6 = w) ?_ ?_
    · clear hk
      rcases Bool.eq_false_or_eq_true (c35) with hc37 | hc37
      · replace h := h.1 hc37
        refine wpR_pass (wantN rfl rfl rfl hc37) rfl rfl ?_
        refine wpR_pass (wantN rfl rfl rfl hc37) rfl rfl ?_
        refine wpR_pass (wantN rfl rfl rfl hc37) rfl rfl ?_
        refine wpR_val (v := (Value.bool true)) (w' := w6) rfl rfl rfl (x_pickT (v := (Value.bool true)) rfl rfl hc37 rfl) ?_
        refine wpR_nil ?_
        exact ⟨true, ⟨rfl, e0, e3, e5, e7, e8, e9, trivial⟩, h, rfl⟩
      · replace h := h.2 hc37
        refine wpR_val (v := (Value.pointer (some ((Addr.mk b16 0 none).add 2)))) (w' := w6) (wantG rfl rfl rfl hc37) rfl rfl (x_fieldAddr rfl e5 FA_73_2) ?_
        obtain ⟨x38, q38, h⟩ := h
        refine wpR_val (v := (Value.int .i64 x38)) (w' := w6) (wantG rfl rfl rfl hc37) rfl rfl (x_load1 rfl rfl SH_3 q38) ?_
        refine wpR_val (v := (Value.bool (decide (1073741824 < x38)))) (w' := w6) (wantG rfl rfl rfl hc37) rfl rfl (x_gtr rfl rfl rfl) ?_
        refine wpR_val (v := (Value.bool (decide (1073741824 < x38)))) (w' := w6) rfl rfl rfl (x_pickF (v := (Value.bool (decide (1073741824 < x38)))) rfl rfl hc37 rfl) ?_
        refine wpR_nil ?_
        exact ⟨decide (1073741824 < x38), ⟨rfl, e0, e3, e5, e7, e8, e9, trivial⟩, h, rfl⟩
    clear h
    rintro c39 ρ wj ⟨e41, e0, e3, e5, e7, e8, e9, -⟩ ⟨h, rfl⟩
    replace h := hk c39 h
    clear hk
    refine wpR_nil ?_
    refine wpC_cond (b := c39) e41 (fun hc40 => ?_) (fun hc40 => ?_)
    · replace h := h.1 hc40
      refine wpC_seq ?_
      refine wpC_region ?_
      refine wpR_val (v := (Value.bool false)) (w' := w6) rfl rfl rfl (x_assign (v := (Value.bool false)) rfl rfl) ?_
      refine wpR_nil ?_
      refine wpC_ret ?_
      exact ⟨.inl rfl, fun a ha => ⟨_, results_rep1 rfl ha rfl, false, rfl, h⟩⟩
    · replace h := h.2 hc40
      refine wpC_skip ?_
      refine wpC_region ?_
      refine wpR_val (v := (Value.map r9)) (w' := w6) rfl rfl rfl (x_move (v := (Value.map r9)) rfl e3) ?_
      refine wpR_val (v := (Value.pointer (some ((Addr.mk b16 0 none).add 0)))) (w' := w6) rfl rfl rfl (x_fieldAddr rfl e5 FA_73_0) ?_
      obtain ⟨x41, q41, h⟩ := h
      refine wpR_val (v := (Value.int .i64 x41)) (w' := w6) rfl rfl rfl (x_load1 rfl rfl SH_3 q41) ?_
      obtain ⟨w7, q42, h⟩ := h
      refine wpR_skp (w' := w7) rfl rfl (x_mapUpdate rfl rfl rfl rfl q42) ?_
      refine wpR_nil ?_
      refine wpC_cut (fun ρ => ρ 0 = (Sl.v p0) ∧ ρ 3 = (Value.map r9) ∧ ρ 7 = (Sl.v p0) ∧ ρ 8 = (Value.int .i64 (p0.len : Int)) ∧ ρ 9 = (Value.int .i64 l10) ∧ True) ⟨e0, e3, e7, e8, e9, trivial⟩ ?_
      rintro ρ ⟨e0, e3, e7, e8, e9, -⟩
      refine wpC_region ?_
      refine wpR_val (v := (Value.int .i64 (IntKind.i64.wrap (l10 + 1)))) (w' := w7) rfl rfl rfl (x_add rfl e9 rfl) ?_
      refine wpR_val (v := (Value.int .i64 (IntKind.i64.wrap (l10 + 1)))) (w' := w7) rfl rfl rfl (x_move (v := (Value.int .i64 (IntKind.i64.wrap (l10 + 1)))) rfl rfl) ?_
      refine wpR_nil ?_
      exact ⟨IntKind.i64.wrap (l10 + 1), ⟨rfl, e0, e3, e7, e8, trivial⟩, h⟩
  · replace h := h.2 hc11
    refine wpC_exit ?_
    refine wpC_seq ?_
    refine wpC_cut (fun ρ => ρ 0 = (Sl.v p0) ∧ True) ⟨e0, trivial⟩ ?_
    rintro ρ ⟨e0, -⟩
    refine wpC_region ?_
    refine wpR_val (v := (Sl.v p0)) (w' := w2) rfl rfl rfl (x_move (v := (Sl.v p0)) rfl e0) ?_
    refine wpR_val (v := (Value.int .i64 (p0.len : Int))) (w' := w2) rfl rfl rfl (x_lenS (s := p0) rfl rfl isSliceT_71) ?_
    refine wpR_val (v := (Value.bool (decide ((p0.len : Int) ≤ 1000)))) (w' := w2) rfl rfl rfl (x_leq rfl rfl rfl) ?_
    refine wpR_val (v := (Value.bool (decide ((p0.len : Int) ≤ 1000)))) (w' := w2) rfl rfl rfl (x_assign (v := (Value.bool (decide ((p0.len : Int) ≤ 1000)))) rfl rfl) ?_
    refine wpR_nil ?_
    refine wpC_ret ?_
    exact ⟨.inl rfl, fun a ha => ⟨_, results_rep1 rfl ha rfl, decide ((p0.len : Int) ≤ 1000), rfl, h⟩⟩

/-- slices.Clone[[]api.Job,api.Job] -/
def F52 (p0 : Sl) (w0 : World) (K : Sl → World → Prop) : Prop :=
  cnd (p0.a.isNone)
    (
    K Sl.nil w0
    )
    (
    nw 73 #[] w0 fun b10 w1 =>
    rn Try.prog (Builtin.append_ #[71, 71] 71 #[Sl.v (⟨some ⟨b10, 0, none⟩, 0, 0⟩ : Sl), Sl.v p0]) Sl.v w1 fun r11 w2 =>
    K r11 w2
    )
set_option maxRecDepth 100000 in
theorem D52 (p0 : Sl) (w0 : World) (K : Sl → World → Prop) (h : F52 p0 w0 K) : callC Try.prog 52 #[(Sl.v p0)] (fun (r : Sl) => (Sl.v r)) w0 K := by
  unfold F52 at h
  refine calls_of_wpC Try.func52 rfl 8 rfl (by simp) ?_
  intro ρ hρ
  have e0 : ρ 0 = (Sl.v p0) := hρ 0
  clear hρ
  refine wpC_seq ?_
  refine wpC_region ?_
  refine wpR_val (v := (Sl.v Sl.nil)) (w' := w0) rfl rfl rfl (x_assign (v := (Sl.v Sl.nil)) rfl rfl) ?_
  refine wpR_nil ?_
  refine wpC_seq ?_
  refine wpC_seq ?_
  refine wpC_cut (fun ρ => ρ 0 = (Sl.v p0) ∧ True) ⟨e0, trivial⟩ ?_
  rintro ρ ⟨e0, -⟩
  refine wpC_region ?_
  refine wpR_val (v := (Sl.v p0)) (w' := w0) rfl rfl rfl (x_move (v := (Sl.v p0)) rfl e0) ?_
  refine wpR_val (v := (Value.bool p0.a.isNone)) (w' := w0) rfl rfl rfl (x_eqlNilS (s := p0) rfl rfl rfl isSliceT_71) ?_
  refine wpR_nil ?_
  refine wpC_cond (b := p0.a.isNone) rfl (fun hc9 => ?_) (fun hc9 => ?_)
  · replace h := h.1 hc9
    refine wpC_seq ?_
    refine wpC_cut (fun ρ => True) trivial ?_
    rintro ρ -
    refine wpC_region ?_
    refine wpR_val (v := (Sl.v Sl.nil)) (w' := w0) rfl rfl rfl (x_assign (v := (Sl.v Sl.nil)) rfl rfl) ?_
    refine wpR_nil ?_
    refine wpC_ret ?_
    exact ⟨.inl rfl, fun a ha => ⟨_, results_rep1 rfl ha rfl, Sl.nil, rfl, h⟩⟩
  · replace h := h.2 hc9
    refine wpC_skip ?_
    refine wpC_seq ?_
    refine wpC_cut (fun ρ => ρ 0 = (Sl.v p0) ∧ True) ⟨e0, trivial⟩ ?_
    rintro ρ ⟨e0, -⟩
    refine wpC_region ?_
    obtain ⟨b10, hb10⟩ : ∃ u, u = w0.heap.size := ⟨_, rfl⟩
    obtain ⟨w1, hw10⟩ : ∃ u, u = w0.alloc (.cells #[] 73) := ⟨_, rfl⟩
    replace h := h b10 w1 hb10 hw10
    refine wpR_val (v := (Sl.v (⟨some ⟨b10, 0, none⟩, 0, 0⟩ : Sl))) (w' := w1) rfl rfl rfl ((x_buildSlice (qs := []) rfl (by rfl) (BS_71_0_ )).trans (by rw [← hb10, ← hw10])) ?_
    refine wpR_val (v := (Sl.v p0)) (w' := w1) rfl rfl rfl (x_move (v := (Sl.v p0)) rfl e0) ?_
    obtain ⟨r11, w2, q11, h⟩ := h
    refine wpR_val (v := (Sl.v r11)) (w' := w2) rfl rfl rfl (x_append (s := (⟨some ⟨b10, 0, none⟩, 0, 0⟩ : Sl)) (u := p0) rfl rfl rfl rfl q11) ?_
    refine wpR_val (v := (Sl.v r11)) (w' := w2) rfl rfl rfl (x_assign (v := (Sl.v r11)) rfl rfl) ?_
    refine wpR_nil ?_
    refine wpC_ret ?_
    exact ⟨.inl rfl, fun a ha => ⟨_, results_rep1 rfl ha rfl, r11, rfl, h⟩⟩

/-- admit.demands$1 -/
def F54 (p0_0 : Int) (p0_1 : Int) (p0_2 : Int) (p1_0 : Int) (p1_1 : Int) (p1_2 : Int) (w0 : World) (K : Int → World → Prop) : Prop :=
  nw 73 #[(Value.int .i64 p0_0), (Value.int .i64 p0_1), (Value.int .i64 p0_2)] w0 fun b9 w1 =>
  nw 73 #[(Value.int .i64 p1_0), (Value.int .i64 p1_1), (Value.int .i64 p1_2)] w1 fun b10 w2 =>
  jn (fun (J12 : Int → World → Prop) => tk w2 fun w3 =>
    ld (Value.int .i64) ((Addr.mk b9 0 none).add 2) w3 fun x13 =>
    ld (Value.int .i64) ((Addr.mk b10 0 none).add 2) w3 fun x14 =>
    ld (Value.int .i64) ((Addr.mk b9 0 none).add 0) w3 fun x15 =>
    ld (Value.int .i64) ((Addr.mk b10 0 none).add 0) w3 fun x16 =>
    callC Try.prog 27 #[(Value.int .i64 x13), (Value.int .i64 x14)] (fun (r : Int) => (Value.int .i64 r)) w3 fun r17 w4 =>
    (w4.cell? ((Addr.mk b10 0 none).add 0) = some (Value.int .i64 x16)) ∧
    (w4.cell? ((Addr.mk b9 0 none).add 0) = some (Value.int .i64 x15)) ∧
    callC Try.prog 27 #[(Value.int .i64 x15), (Value.int .i64 x16)] (fun (r : Int) => (Value.int .i64 r)) w4 fun r18 w5 =>
    nw 3 #[(Value.int .i64 r17), (Value.int .i64 r18)] w5 fun b19 w6 =>
    callC Try.prog 26 #[(Sl.v (⟨some ⟨b19, 0, none⟩, 2, 2⟩ : Sl))] (fun (r : Int) => (Value.int .i64 r)) w6 fun r20 w7 =>
    J12 r20 w7
  )
  fun l21 w8 =>
  K l21 w8
set_option maxRecDepth 100000 in
theorem D54 (p0_0 : Int) (p0_1 : Int) (p0_2 : Int) (p1_0 : Int) (p1_1 : Int) (p1_2 : Int) (w0 : World) (K : Int → World → Prop) (h : F54 p0_0 p0_1 p0_2 p1_0 p1_1 p1_2 w0 K) : callC Try.prog 54 #[(Value.agg #[(Value.int .i64 p0_0), (Value.int .i64 p0_1), (Value.int .i64 p0_2)]), (Value.agg #[(Value.int .i64 p1_0), (Value.int .i64 p1_1), (Value.int .i64 p1_2)])] (fun (r : Int) => (Value.int .i64 r)) w0 K := by
  unfold F54 at h
  refine calls_of_wpC Try.func54 rfl 17 rfl (by simp) ?_
  intro ρ hρ
  have e0 : ρ 0 = (Value.agg #[(Value.int .i64 p0_0), (Value.int .i64 p0_1), (Value.int .i64 p0_2)]) := hρ 0
  have e1 : ρ 1 = (Value.agg #[(Value.int .i64 p1_0), (Value.int .i64 p1_1), (Value.int .i64 p1_2)]) := hρ 1
  clear hρ
  refine wpC_seq ?_
  refine wpC_region ?_
  obtain ⟨b9, hb9⟩ : ∃ u, u = w0.heap.size := ⟨_, rfl⟩
  obtain ⟨w1, hw9⟩ : ∃ u, u = w0.alloc (.cells #[(Value.int .i64 p0_0), (Value.int .i64 p0_1), (Value.int .i64 p0_2)] 73) := ⟨_, rfl⟩
  replace h := h b9 w1 hb9 hw9
  refine wpR_val (v := (Value.pointer (some (Addr.mk b9 0 none)))) (w' := w1) rfl rfl rfl ((x_box (v := (Value.agg #[(Value.int .i64 p0_0), (Value.int .i64 p0_1), (Value.int .i64 p0_2)])) rfl e0).trans (by rw [hb9, hw9]; rfl)) ?_
  obtain ⟨b10, hb10⟩ : ∃ u, u = w1.heap.size := ⟨_, rfl⟩
  obtain ⟨w2, hw10⟩ : ∃ u, u = w1.alloc (.cells #[(Value.int .i64 p1_0), (Value.int .i64 p1_1), (Value.int .i64 p1_2)] 73) := ⟨_, rfl⟩
  replace h := h b10 w2 hb10 hw10
  refine wpR_val (v := (Value.pointer (some (Addr.mk b10 0 none)))) (w' := w2) rfl rfl rfl ((x_box (v := (Value.agg #[(Value.int .i64 p1_0), (Value.int .i64 p1_1), (Value.int .i64 p1_2)])) rfl e1).trans (by rw [hb10, hw10]; rfl)) ?_
  refine wpR_val (v := (Value.int .i64 0)) (w' := w2) rfl rfl rfl (x_assign (v := (Value.int .i64 0)) rfl rfl) ?_
  refine wpR_nil ?_
  refine wpC_seq ?_
  refine wpC_cut (fun ρ => ρ 2 = (Value.pointer (some (Addr.mk b9 0 none))) ∧ ρ 3 = (Value.pointer (some (Addr.mk b10 0 none))) ∧ True) ⟨rfl, rfl, trivial⟩ ?_
  rintro ρ ⟨e2, e3, -⟩
  obtain ⟨J12, h, hk⟩ := h
  refine wpC_drawJ (by kernel_rfl) (fun (x : Int) ρ => ρ 4 = (Value.int .i64 x) ∧ True) J12 ?_ ?_
  · clear hk
    unfold tk at h
    generalize w2.drew = w3 at h ⊢
    refine wpD_take (v := (Value.pointer (some ((Addr.mk b9 0 none).add 2)))) 0 (fun _ => True) rfl (by kernel_rfl) (by kernel_rfl) (by kernel_rfl) rfl rfl rfl trivial (fun w _ => (x_fieldAddr rfl e2 FA_73_2)) ?_
    obtain ⟨x13, q13, h⟩ := h
    refine wpD_take (v := (Value.int .i64 x13)) 1 (fun w => w.cell? ((Addr.mk b9 0 none).add 2) = some (Value.int .i64 x13)) rfl (by kernel_rfl) (by kernel_rfl) (by kernel_rfl) rfl rfl rfl q13 (fun w q13 => (x_load1 rfl rfl SH_3 q13)) ?_
    refine wpD_take (v := (Value.pointer (some ((Addr.mk b10 0 none).add 2)))) 2 (fun _ => True) rfl (by kernel_rfl) (by kernel_rfl) (by kernel_rfl) rfl rfl rfl trivial (fun w _ => (x_fieldAddr rfl e3 FA_73_2)) ?_
    obtain ⟨x14, q14, h⟩ := h
    refine wpD_take (v := (Value.int .i64 x14)) 3 (fun w => w.cell? ((Addr.mk b10 0 none).add 2) = some (Value.int .i64 x14)) rfl (by kernel_rfl) (by kernel_rfl) (by kernel_rfl) rfl rfl rfl q14 (fun w q14 => (x_load1 rfl rfl SH_3 q14)) ?_
    refine wpD_take (v := (Value.pointer (some ((Addr.mk b9 0 none).add 0)))) 5 (fun _ => True) rfl (by kernel_rfl) (by kernel_rfl) (by kernel_rfl) rfl rfl rfl trivial (fun w _ => (x_fieldAddr rfl e2 FA_73_0)) ?_
    obtain ⟨x15, q15, h⟩ := h
    refine wpD_take (v := (Value.int .i64 x15)) 6 (fun w => w.cell? ((Addr.mk b9 0 none).add 0) = some (Value.int .i64 x15)) rfl (by kernel_rfl) (by kernel_rfl) (by kernel_rfl) rfl rfl rfl q15 (fun w q15 => (x_load1 rfl rfl SH_3 q15)) ?_
    refine wpD_take (v := (Value.pointer (some ((Addr.mk b10 0 none).add 0)))) 7 (fun _ => True) rfl (by kernel_rfl) (by kernel_rfl) (by kernel_rfl) rfl rfl rfl trivial (fun w _ => (x_fieldAddr rfl e3 FA_73_0)) ?_
    obtain ⟨x16, q16, h⟩ := h
    refine wpD_take (v := (Value.int .i64 x16)) 8 (fun w => w.cell? ((Addr.mk b10 0 none).add 0) = some (Value.int .i64 x16)) rfl (by kernel_rfl) (by kernel_rfl) (by kernel_rfl) rfl rfl rfl q16 (fun w q16 => (x_load1 rfl rfl SH_3 q16)) ?_
    refine wpD_all (rs := [4]) (by kernel_rfl) (by simp) (allD_cons ?_ allD_nil)
    refine stepD_enterL (L' := [(8, fun w => w.cell? ((Addr.mk b10 0 none).add 0) = some (Value.int .i64 x16)), (7, fun _ => True), (6, fun w => w.cell? ((Addr.mk b9 0 none).add 0) = some (Value.int .i64 x15)), (5, fun _ => True), (2, fun _ => True), (0, fun _ => True)]) rfl rfl rfl rfl (x_call (vs := [(Value.int .i64 x13), (Value.int .i64 x14)]) rfl rfl (mapl_cons rfl (mapl_cons rfl mapl_nil)) Try.func27 NN_27 NB_27) (by kernel_rfl) (Calls.mono h ?_)
    rintro _ w4 ⟨r17, rfl, h⟩
    obtain ⟨o8, h⟩ := h
    obtain ⟨o6, h⟩ := h
    refine ⟨_, rfl, (held_cons o8 (held_cons trivial (held_cons o6 (held_cons trivial (held_cons trivial (held_cons trivial held_nil)))))), ?_⟩
    refine wpD_all (rs := [9]) (by kernel_rfl) (by simp) (allD_cons ?_ allD_nil)
    refine stepD_enterL (L' := [(7, fun _ => True), (5, fun _ => True), (2, fun _ => True), (0, fun _ => True)]) rfl rfl rfl rfl (x_call (vs := [(Value.int .i64 x15), (Value.int .i64 x16)]) rfl rfl (mapl_cons rfl (mapl_cons rfl mapl_nil)) Try.func27 NN_27 NB_27) (by kernel_rfl) (Calls.mono h ?_)
    rintro _ w5 ⟨r18, rfl, h⟩
    refine ⟨_, rfl, (held_cons trivial (held_cons trivial (held_cons trivial (held_cons trivial held_nil)))), ?_⟩
    refine wpD_all (rs := [10]) (by kernel_rfl) (by simp) (allD_cons ?_ allD_nil)
    obtain ⟨b19, hb19⟩ : ∃ u, u = w5.heap.size := ⟨_, rfl⟩
    obtain ⟨w6, hw19⟩ : ∃ u, u = w5.alloc (.cells #[(Value.int .i64 r17), (Value.int .i64 r18)] 3) := ⟨_, rfl⟩
    replace h := h b19 w6 hb19 hw19
    refine stepD_valL (L' := [(7, fun _ => True), (5, fun _ => True), (2, fun _ => True), (0, fun _ => True)]) (v := (Sl.v (⟨some ⟨b19, 0, none⟩, 2, 2⟩ : Sl))) (w' := w6) rfl rfl rfl rfl ((x_buildSlice (qs := [(0, (Value.int .i64 r17)), (1, (Value.int .i64 r18))]) rfl (by rfl) (BS_38_2_0_1 r17 r18)).trans (by rw [← hb19, ← hw19])) (by kernel_rfl) (held_cons trivial (held_cons trivial (held_cons trivial (held_cons trivial held_nil)))) ?_
    refine wpD_all (rs := [11]) (by kernel_rfl) (by simp) (allD_cons ?_ allD_nil)
    refine stepD_enterL (L' := [(7, fun _ => True), (5, fun _ => True), (2, fun _ => True), (0, fun _ => True)]) rfl rfl rfl rfl (x_call (vs := [(Sl.v (⟨some ⟨b19, 0, none⟩, 2, 2⟩ : Sl))]) rfl rfl (mapl_cons rfl mapl_nil) Try.func26 NN_26 NB_26) (by kernel_rfl) (Calls.mono h ?_)
    rintro _ w7 ⟨r20, rfl, h⟩
    refine ⟨_, rfl, (held_cons trivial (held_cons trivial (held_cons trivial (held_cons trivial held_nil)))), ?_⟩
    refine wpD_take (v := (Value.int .i64 r20)) 12 (fun _ => True) rfl (by kernel_rfl) (by kernel_rfl) (by kernel_rfl) rfl rfl rfl trivial (fun w _ => (x_assign (v := (Value.int .i64 r20)) rfl rfl)) ?_
    exact wpD_done (by kernel_rfl) ⟨r20, ⟨rfl, trivial⟩, h⟩
  clear h
  rintro l21 ρ w8 ⟨e4, -⟩ h
  replace h := hk l21 w8 h
  clear hk
  refine wpC_ret ?_
  exact ⟨.inl rfl, fun a ha => ⟨_, results_rep1 rfl ha e4, l21, rfl, h⟩⟩

/-- admit.gives -/
def F55 (p0_0 : ByteArray) (p0_1 : Int) (p0_2 : Int) (p0_3 : Int) (p0_4 : Bool) (p0_5 : Int) (p0_6 : Bool) (p0_7 : Bool) (p0_8 : Int) (p0_9 : Int) (p0_10 : Int) (p0_11 : Int) (p0_12 : Sl) (p0_13 : Int) (p0_14 : Int) (p0_15 : Int) (p0_16 : Int) (p0_17 : Bool) (p0_18 : Int) (p0_19 : Int) (p0_20 : Int) (p0_21 : Int) (p1 : Int) (p2 : Int) (w0 : World) (K : Int → World → Prop) : Prop :=
  nw 24 (A23 p0_0 p0_1 p0_2 p0_3 p0_4 p0_5 p0_6 p0_7 p0_8 p0_9 p0_10 p0_11 p0_12 p0_13 p0_14 p0_15 p0_16 p0_17 p0_18 p0_19 p0_20 p0_21) w0 fun b9 w1 =>
  cnd (decide (p2 < p1))
    (
    K 0 w1
    )
    (
    L23 (Addr.mk b9 0 none) w1 fun x11 x12 x13 x14 x15 x16 x17 x18 x19 x20 x21 x22 x23 x24 x25 x26 x27 x28 x29 x30 x31 x32 =>
    callC Try.prog 74 #[(V23 x11 x12 x13 x14 x15 x16 x17 x18 x19 x20 x21 x22 x23 x24 x25 x26 x27 x28 x29 x30 x31 x32), (Value.int .i64 (IntKind.i64.wrap (p2 - p1)))] (fun (r : Int × Int) => (Value.tuple #[(Value.int .i64 r.1), (Value.int .i64 r.2)])) w1 fun r33 w2 =>
    cnd (decide (r33.2 = 3))
      (
      K 4503599627370496 w2
      )
      (
      K r33.1 w2
      )
    )
set_option maxRecDepth 100000 in
theorem D55 (p0_0 : ByteArray) (p0_1 : Int) (p0_2 : Int) (p0_3 : Int) (p0_4 : Bool) (p0_5 : Int) (p0_6 : Bool) (p0_7 : Bool) (p0_8 : Int) (p0_9 : Int) (p0_10 : Int) (p0_11 : Int) (p0_12 : Sl) (p0_13 : Int) (p0_14 : Int) (p0_15 : Int) (p0_16 : Int) (p0_17 : Bool) (p0_18 : Int) (p0_19 : Int) (p0_20 : Int) (p0_21 : Int) (p1 : Int) (p2 : Int) (w0 : World) (K : Int → World → Prop) (h : F55 p0_0 p0_1 p0_2 p0_3 p0_4 p0_5 p0_6 p0_7 p0_8 p0_9 p0_10 p0_11 p0_12 p0_13 p0_14 p0_15 p0_16 p0_17 p0_18 p0_19 p0_20 p0_21 p1 p2 w0 K) : callC Try.prog 55 #[(V23 p0_0 p0_1 p0_2 p0_3 p0_4 p0_5 p0_6 p0_7 p0_8 p0_9 p0_10 p0_11 p0_12 p0_13 p0_14 p0_15 p0_16 p0_17 p0_18 p0_19 p0_20 p0_21), (Value.int .i64 p1), (Value.int .i64 p2)] (fun (r : Int) => (Value.int .i64 r)) w0 K := by
  unfold F55 at h
  refine calls_of_wpC Try.func55 rfl 23 rfl (by simp) ?_
  intro ρ hρ
  have e0 : ρ 0 = (V23 p0_0 p0_1 p0_2 p0_3 p0_4 p0_5 p0_6 p0_7 p0_8 p0_9 p0_10 p0_11 p0_12 p0_13 p0_14 p0_15 p0_16 p0_17 p0_18 p0_19 p0_20 p0_21) := hρ 0
  have e1 : ρ 1 = (Value.int .i64 p1) := hρ 1
  have e2 : ρ 2 = (Value.int .i64 p2) := hρ 2
  clear hρ
  refine wpC_seq ?_
  refine wpC_region ?_
  obtain ⟨b9, hb9⟩ : ∃ u, u = w0.heap.size := ⟨_, rfl⟩
  obtain ⟨w1, hw9⟩ : ∃ u, u = w0.alloc (.cells (A23 p0_0 p0_1 p0_2 p0_3 p0_4 p0_5 p0_6 p0_7 p0_8 p0_9 p0_10 p0_11 p0_12 p0_13 p0_14 p0_15 p0_16 p0_17 p0_18 p0_19 p0_20 p0_21) 24) := ⟨_, rfl⟩
  replace h := h b9 w1 hb9 hw9
  refine wpR_val (v := (Value.pointer (some (Addr.mk b9 0 none)))) (w' := w1) rfl rfl rfl ((x_box (v := (V23 p0_0 p0_1 p0_2 p0_3 p0_4 p0_5 p0_6 p0_7 p0_8 p0_9 p0_10 p0_11 p0_12 p0_13 p0_14 p0_15 p0_16 p0_17 p0_18 p0_19 p0_20 p0_21)) rfl e0).trans (by rw [hb9, hw9]; rfl)) ?_
  refine wpR_val (v := (Value.int .i64 0)) (w' := w1) rfl rfl rfl (x_assign (v := (Value.int .i64 0)) rfl rfl) ?_
  refine wpR_nil ?_
  refine wpC_seq ?_
  refine wpC_seq ?_
  refine wpC_cut (fun ρ => ρ 1 = (Value.int .i64 p1) ∧ ρ 2 = (Value.int .i64 p2) ∧ ρ 3 = (Value.pointer (some (Addr.mk b9 0 none))) ∧ True) ⟨e1, e2, rfl, trivial⟩ ?_
  rintro ρ ⟨e1, e2, e3, -⟩
  refine wpC_region ?_
  refine wpR_val (v := (Value.int .i64 p2)) (w' := w1) rfl rfl rfl (x_move (v := (Value.int .i64 p2)) rfl e2) ?_
  refine wpR_val (v := (Value.int .i64 p1)) (w' := w1) rfl rfl rfl (x_move (v := (Value.int .i64 p1)) rfl e1) ?_
  refine wpR_val (v := (Value.bool (decide (p2 < p1)))) (w' := w1) rfl rfl rfl (x_lss rfl rfl rfl) ?_
  refine wpR_nil ?_
  refine wpC_cond (b := decide (p2 < p1)) rfl (fun hc10 => ?_) (fun hc10 => ?_)
  · replace h := h.1 hc10
    refine wpC_seq ?_
    refine wpC_cut (fun ρ => True) trivial ?_
    rintro ρ -
    refine wpC_region ?_
    refine wpR_val (v := (Value.int .i64 0)) (w' := w1) rfl rfl rfl (x_assign (v := (Value.int .i64 0)) rfl rfl) ?_
    refine wpR_nil ?_
    refine wpC_ret ?_
    exact ⟨.inl rfl, fun a ha => ⟨_, results_rep1 rfl ha rfl, 0, rfl, h⟩⟩
  · replace h := h.2 hc10
    refine wpC_skip ?_
    refine wpC_seq ?_
    refine wpC_cut (fun ρ => ρ 1 = (Value.int .i64 p1) ∧ ρ 2 = (Value.int .i64 p2) ∧ ρ 3 = (Value.pointer (some (Addr.mk b9 0 none))) ∧ True) ⟨e1, e2, e3, trivial⟩ ?_
    rintro ρ ⟨e1, e2, e3, -⟩
    refine wpC_region ?_
    obtain ⟨x11, q11, x12, q12, x13, q13, x14, q14, x15, q15, x16, q16, x17, q17, x18, q18, x19, q19, x20, q20, x21, q21, x22, q22, x23, q23, x24, q24, x25, q25, x26, q26, x27, q27, x28, q28, x29, q29, x30, q30, x31, q31, x32, q32, h⟩ := h
    refine wpR_val (v := (V23 x11 x12 x13 x14 x15 x16 x17 x18 x19 x20 x21 x22 x23 x24 x25 x26 x27 x28 x29 x30 x31 x32)) (w' := w1) rfl rfl rfl (x_loadN (S23 x11 x12 x13 x14 x15 x16 x17 x18 x19 x20 x21 x22 x23 x24 x25 x26 x27 x28 x29 x30 x31 x32) rfl e3 SH_24 (K23 ⟨q11, q12, q13, q14, q15, q16, q17, q18, q19, q20, q21, q22, q23, q24, q25, q26, q27, q28, q29, q30, q31, q32⟩)) ?_
    refine wpR_val (v := (Value.int .i64 p2)) (w' := w1) rfl rfl rfl (x_move (v := (Value.int .i64 p2)) rfl e2) ?_
    refine wpR_val (v := (Value.int .i64 p1)) (w' := w1) rfl rfl rfl (x_move (v := (Value.int .i64 p1)) rfl e1) ?_
    refine wpR_val (v := (Value.int .i64 (IntKind.i64.wrap (p2 - p1)))) (w' := w1) rfl rfl rfl (x_sub rfl rfl rfl) ?_
    refine wpR_enter rfl rfl rfl (x_call (vs := [(V23 x11 x12 x13 x14 x15 x16 x17 x18 x19 x20 x21 x22 x23 x24 x25 x26 x27 x28 x29 x30 x31 x32), (Value.int .i64 (IntKind.i64.wrap (p2 - p1)))]) rfl rfl (mapl_cons rfl (mapl_cons rfl mapl_nil)) Try.func74 NN_74 NB_74) (Calls.mono h ?_)
    rintro _ w2 ⟨r33, rfl, h⟩
    refine ⟨_, rfl, ?_⟩
    refine wpR_val (v := (Value.tuple #[(Value.int .i64 r33.1), (Value.int .i64 r33.2)])) (w' := w2) rfl rfl rfl (x_move (v := (Value.tuple #[(Value.int .i64 r33.1), (Value.int .i64 r33.2)])) rfl rfl) ?_
    refine wpR_val (v := (Value.int .i64 r33.1)) (w' := w2) rfl rfl rfl (x_extract rfl rfl rfl) ?_
    refine wpR_val (v := (Value.int .i64 r33.2)) (w' := w2) rfl rfl rfl (x_extract rfl rfl rfl) ?_
    refine wpR_val (v := (Value.int .i64 r33.1)) (w' := w2) rfl rfl rfl (x_assign (v := (Value.int .i64 r33.1)) rfl rfl) ?_
    refine wpR_val (v := (Value.int .i64 r33.2)) (w' := w2) rfl rfl rfl (x_assign (v := (Value.int .i64 r33.2)) rfl rfl) ?_
    refine wpR_nil ?_
    refine wpC_seq ?_
    refine wpC_seq ?_
    refine wpC_cut (fun ρ => ρ 7 = (Value.int .i64 r33.1) ∧ ρ 8 = (Value.int .i64 r33.2) ∧ True) ⟨rfl, rfl, trivial⟩ ?_
    rintro ρ ⟨e7, e8, -⟩
    refine wpC_region ?_
    refine wpR_val (v := (Value.int .i64 r33.2)) (w' := w2) rfl rfl rfl (x_move (v := (Value.int .i64 r33.2)) rfl e8) ?_
    refine wpR_val (v := (Value.bool (decide (r33.2 = 3)))) (w' := w2) rfl rfl rfl (x_eql rfl rfl rfl) ?_
    refine wpR_nil ?_
    refine wpC_cond (b := decide (r33.2 = 3)) rfl (fun hc34 => ?_) (fun hc34 => ?_)
    · replace h := h.1 hc34
      refine wpC_seq ?_
      refine wpC_cut (fun ρ => True) trivial ?_
      rintro ρ -
      refine wpC_region ?_
      refine wpR_val (v := (Value.int .i64 4503599627370496)) (w' := w2) rfl rfl rfl (x_assign (v := (Value.int .i64 4503599627370496)) rfl rfl) ?_
      refine wpR_nil ?_
      refine wpC_ret ?_
      exact ⟨.inl rfl, fun a ha => ⟨_, results_rep1 rfl ha rfl, 4503599627370496, rfl, h⟩⟩
    · replace h := h.2 hc34
      refine wpC_skip ?_
      refine wpC_seq ?_
      refine wpC_cut (fun ρ => ρ 7 = (Value.int .i64 r33.1) ∧ True) ⟨e7, trivial⟩ ?_
      rintro ρ ⟨e7, -⟩
      refine wpC_region ?_
      refine wpR_val (v := (Value.int .i64 r33.1)) (w' := w2) rfl rfl rfl (x_move (v := (Value.int .i64 r33.1)) rfl e7) ?_
      refine wpR_val (v := (Value.int .i64 r33.1)) (w' := w2) rfl rfl rfl (x_assign (v := (Value.int .i64 r33.1)) rfl rfl) ?_
      refine wpR_nil ?_
      refine wpC_ret ?_
      exact ⟨.inl rfl, fun a ha => ⟨_, results_rep1 rfl ha rfl, r33.1, rfl, h⟩⟩

/-- lex.Word -/
def F56 (p0 : ByteArray) (w0 : World) (K : Bool → World → Prop) : Prop :=
  jn (fun J9 => cnd (beqS p0 (ByteArray.mk #[]))
    (
    J9 true w0
    )
    (
    rn Try.prog (Instr.index 9 (Value.string p0) (Value.int .i64 0)) (fun (r : Int) => (Value.int .u8 r)) w0 fun r11 w1 =>
    callC Try.prog 75 #[(Value.int .u8 r11)] (fun (r : Bool) => (Value.bool r)) w1 fun r12 w2 =>
    J9 (!r12) w2
    ))
  fun c13 w3 =>
  cnd (c13 || (decide (20 < (p0.size : Int))))
    (
    K false w3
    )
    (
    callC Try.prog 76 #[(Value.string p0), (Value.func (.func 77) #[] #[])] (fun (r : Int) => (Value.int .i64 r)) w3 fun r17 w4 =>
    K (decide (r17 = (p0.size : Int))) w4
    )
set_option maxRecDepth 100000 in
theorem D56 (p0 : ByteArray) (w0 : World) (K : Bool → World → Prop) (h : F56 p0 w0 K) : callC Try.prog 56 #[(Value.string p0)] (fun (r : Bool) => (Value.bool r)) w0 K := by
  unfold F56 at h
  refine calls_of_wpC Try.func56 rfl 21 rfl (by simp) ?_
  intro ρ hρ
  have e0 : ρ 0 = (Value.string p0) := hρ 0
  clear hρ
  refine wpC_seq ?_
  refine wpC_region ?_
  refine wpR_val (v := (Value.bool false)) (w' := w0) rfl rfl rfl (x_assign (v := (Value.bool false)) rfl rfl) ?_
  refine wpR_nil ?_
  refine wpC_seq ?_
  refine wpC_seq ?_
  refine wpC_cut (fun ρ => ρ 0 = (Value.string p0) ∧ True) ⟨e0, trivial⟩ ?_
  rintro ρ ⟨e0, -⟩
  refine wpC_region ?_
  refine wpR_val (v := (Value.string p0)) (w' := w0) rfl rfl rfl (x_move (v := (Value.string p0)) rfl e0) ?_
  refine wpR_val (v := (Value.bool (beqS p0 (ByteArray.mk #[])))) (w' := w0) rfl rfl rfl (x_eqlS rfl rfl rfl) ?_
  refine wpR_val (v := (Value.bool (beqS p0 (ByteArray.mk #[])))) (w' := w0) rfl rfl rfl (x_move (v := (Value.bool (beqS p0 (ByteArray.mk #[])))) rfl rfl) ?_
  obtain ⟨J9, h, hk⟩ := h
  refine wpR_joinJ 5 (fun x ρ => ρ 10 = Value.bool x ∧ ρ 0 = (Value.string p0) ∧ True) (J9) ?_ ?_
  · clear hk
    rcases Bool.eq_false_or_eq_true (beqS p0 (ByteArray.mk #[])) with hc10 | hc10
    · replace h := h.1 hc10
      refine wpR_pass (wantN rfl rfl rfl hc10) rfl rfl ?_
      refine wpR_pass (wantN rfl rfl rfl hc10) rfl rfl ?_
      refine wpR_pass (wantN rfl rfl rfl hc10) rfl rfl ?_
      refine wpR_pass (wantN rfl rfl rfl hc10) rfl rfl ?_
      refine wpR_val (v := (Value.bool true)) (w' := w0) rfl rfl rfl (x_pickT (v := (Value.bool true)) rfl rfl hc10 rfl) ?_
      refine wpR_nil ?_
      exact ⟨true, ⟨rfl, e0, trivial⟩, h⟩
    · replace h := h.2 hc10
      refine wpR_val (v := (Value.string p0)) (w' := w0) (wantG rfl rfl rfl hc10) rfl rfl (x_move (v := (Value.string p0)) rfl e0) ?_
      obtain ⟨r11, w1, q11, h⟩ := h
      refine wpR_val (v := (Value.int .u8 r11)) (w' := w1) (wantG rfl rfl rfl hc10) rfl rfl (x_index rfl rfl rfl q11) ?_
      refine wpR_enter (wantG rfl rfl rfl hc10) rfl rfl (x_call (vs := [(Value.int .u8 r11)]) rfl rfl (mapl_cons rfl mapl_nil) Try.func75 NN_75 NB_75) (Calls.mono h ?_)
      rintro _ w2 ⟨r12, rfl, h⟩
      refine ⟨_, rfl, ?_⟩
      refine wpR_val (v := (Value.bool (!r12))) (w' := w2) (wantG rfl rfl rfl hc10) rfl rfl (x_not rfl rfl) ?_
      refine wpR_val (v := (Value.bool (!r12))) (w' := w2) rfl rfl rfl (x_pickF (v := (Value.bool (!r12))) rfl rfl hc10 rfl) ?_
      refine wpR_nil ?_
      exact ⟨!r12, ⟨rfl, e0, trivial⟩, h⟩
  clear h
  rintro c13 ρ w3 ⟨e10, e0, -⟩ h
  replace h := hk c13 w3 h
  clear hk
  refine wpR_val (v := (Value.bool c13)) (w' := w3) rfl rfl rfl (x_move (v := (Value.bool c13)) rfl e10) ?_
  refine wpR_joinJ 4 (fun (_ : Unit) ρ => ρ 15 = Value.bool (c13 || (decide (20 < (p0.size : Int)))) ∧ ρ 0 = (Value.string p0) ∧ True) (fun _ w => w3 = w) ?_ ?_
  · clear h
    rcases Bool.eq_false_or_eq_true (c13) with hc15 | hc15
    · skip
      refine wpR_pass (wantN rfl rfl rfl hc15) rfl rfl ?_
      refine wpR_pass (wantN rfl rfl rfl hc15) rfl rfl ?_
      refine wpR_pass (wantN rfl rfl rfl hc15) rfl rfl ?_
      refine wpR_val (v := (Value.bool true)) (w' := w3) rfl rfl rfl (x_pickT (v := (Value.bool true)) rfl rfl hc15 rfl) ?_
      refine wpR_nil ?_
      exact ⟨(), ⟨(by rw [hc15]; rfl), e0, trivial⟩, rfl⟩
    · skip
      refine wpR_val (v := (Value.string p0)) (w' := w3) (wantG rfl rfl rfl hc15) rfl rfl (x_move (v := (Value.string p0)) rfl e0) ?_
      refine wpR_val (v := (Value.int .i64 (p0.size : Int))) (w' := w3) (wantG rfl rfl rfl hc15) rfl rfl (x_lenStr rfl rfl isStrT_9) ?_
      refine wpR_val (v := (Value.bool (decide (20 < (p0.size : Int))))) (w' := w3) (wantG rfl rfl rfl hc15) rfl rfl (x_gtr rfl rfl rfl) ?_
      refine wpR_val (v := (Value.bool (decide (20 < (p0.size : Int))))) (w' := w3) rfl rfl rfl (x_pickF (v := (Value.bool (decide (20 < (p0.size : Int))))) rfl rfl hc15 rfl) ?_
      refine wpR_nil ?_
      exact ⟨(), ⟨(by rw [hc15]; rfl), e0, trivial⟩, rfl⟩
  rintro _ ρ wj ⟨e15, e0, -⟩ rfl
  refine wpR_nil ?_
  refine wpC_cond (b := c13 || (decide (20 < (p0.size : Int)))) e15 (fun hc16 => ?_) (fun hc16 => ?_)
  · replace h := h.1 hc16
    refine wpC_seq ?_
    refine wpC_region ?_
    refine wpR_val (v := (Value.bool false)) (w' := w3) rfl rfl rfl (x_assign (v := (Value.bool false)) rfl rfl) ?_
    refine wpR_nil ?_
    refine wpC_ret ?_
    exact ⟨.inl rfl, fun a ha => ⟨_, results_rep1 rfl ha rfl, false, rfl, h⟩⟩
  · replace h := h.2 hc16
    refine wpC_skip ?_
    refine wpC_seq ?_
    refine wpC_region ?_
    refine wpR_val (v := (Value.string p0)) (w' := w3) rfl rfl rfl (x_move (v := (Value.string p0)) rfl e0) ?_
    refine wpR_enter rfl rfl rfl (x_call (vs := [(Value.string p0), (Value.func (.func 77) #[] #[])]) rfl rfl (mapl_cons rfl (mapl_cons rfl mapl_nil)) Try.func76 NN_76 NB_76) (Calls.mono h ?_)
    rintro _ w4 ⟨r17, rfl, h⟩
    refine ⟨_, rfl, ?_⟩
    refine wpR_val (v := (Value.string p0)) (w' := w4) rfl rfl rfl (x_move (v := (Value.string p0)) rfl e0) ?_
    refine wpR_val (v := (Value.int .i64 (p0.size : Int))) (w' := w4) rfl rfl rfl (x_lenStr rfl rfl isStrT_9) ?_
    refine wpR_val (v := (Value.bool (decide (r17 = (p0.size : Int))))) (w' := w4) rfl rfl rfl (x_eql rfl rfl rfl) ?_
    refine wpR_val (v := (Value.bool (decide (r17 = (p0.size : Int))))) (w' := w4) rfl rfl rfl (x_assign (v := (Value.bool (decide (r17 = (p0.size : Int))))) rfl rfl) ?_
    refine wpR_nil ?_
    refine wpC_ret ?_
    exact ⟨.inl rfl, fun a ha => ⟨_, results_rep1 rfl ha rfl, decide (r17 = (p0.size : Int)), rfl, h⟩⟩

/-- slices.ContainsFunc[[]string,string] -/
def F57 (p0 : Sl) (p1 : Value) (w0 : World) (K : Bool → World → Prop) : Prop :=
  callC Try.prog 79 #[(Sl.v p0), p1] (fun (r : Int) => (Value.int .i64 r)) w0 fun r9 w1 =>
  K (decide (0 ≤ r9)) w1
set_option maxRecDepth 100000 in
theorem D57 (p0 : Sl) (p1 : Value) (w0 : World) (K : Bool → World → Prop) (h : F57 p0 p1 w0 K) : callC Try.prog 57 #[(Sl.v p0), p1] (fun (r : Bool) => (Value.bool r)) w0 K := by
  unfold F57 at h
  refine calls_of_wpC Try.func57 rfl 9 rfl (by simp) ?_
  intro ρ hρ
  have e0 : ρ 0 = (Sl.v p0) := hρ 0
  have e1 : ρ 1 = p1 := hρ 1
  clear hρ
  refine wpC_seq ?_
  refine wpC_region ?_
  refine wpR_val (v := (Value.bool false)) (w' := w0) rfl rfl rfl (x_assign (v := (Value.bool false)) rfl rfl) ?_
  refine wpR_nil ?_
  refine wpC_seq ?_
  refine wpC_cut (fun ρ => ρ 0 = (Sl.v p0) ∧ ρ 1 = p1 ∧ True) ⟨e0, e1, trivial⟩ ?_
  rintro ρ ⟨e0, e1, -⟩
  refine wpC_region ?_
  refine wpR_val (v := (Sl.v p0)) (w' := w0) rfl rfl rfl (x_move (v := (Sl.v p0)) rfl e0) ?_
  refine wpR_val (v := p1) (w' := w0) rfl rfl rfl (x_move (v := p1) rfl e1) ?_
  refine wpR_enter rfl rfl rfl (x_call (vs := [(Sl.v p0), p1]) rfl rfl (mapl_cons rfl (mapl_cons rfl mapl_nil)) Try.func79 NN_79 NB_79) (Calls.mono h ?_)
  rintro _ w1 ⟨r9, rfl, h⟩
  refine ⟨_, rfl, ?_⟩
  refine wpR_val (v := (Value.bool (decide (0 ≤ r9)))) (w' := w1) rfl rfl rfl (x_geq rfl rfl rfl) ?_
  refine wpR_val (v := (Value.bool (decide (0 ≤ r9)))) (w' := w1) rfl rfl rfl (x_assign (v := (Value.bool (decide (0 ≤ r9)))) rfl rfl) ?_
  refine wpR_nil ?_
  refine wpC_ret ?_
  exact ⟨.inl rfl, fun a ha => ⟨_, results_rep1 rfl ha rfl, decide (0 ≤ r9), rfl, h⟩⟩

/-- syntax.Right$1 -/
def F58 (p0 : ByteArray) (w0 : World) (K : Bool → World → Prop) : Prop :=
  callC Try.prog 56 #[(Value.string p0)] (fun (r : Bool) => (Value.bool r)) w0 fun r9 w1 =>
  K (!r9) w1
set_option maxRecDepth 100000 in
theorem D58 (p0 : ByteArray) (w0 : World) (K : Bool → World → Prop) (h : F58 p0 w0 K) : callC Try.prog 58 #[(Value.string p0)] (fun (r : Bool) => (Value.bool r)) w0 K := by
  unfold F58 at h
  refine calls_of_wpC Try.func58 rfl 6 rfl (by simp) ?_
  intro ρ hρ
  have e0 : ρ 0 = (Value.string p0) := hρ 0
  clear hρ
  refine wpC_seq ?_
  refine wpC_region ?_
  refine wpR_val (v := (Value.bool false)) (w' := w0) rfl rfl rfl (x_assign (v := (Value.bool false)) rfl rfl) ?_
  refine wpR_nil ?_
  refine wpC_seq ?_
  refine wpC_cut (fun ρ => ρ 0 = (Value.string p0) ∧ True) ⟨e0, trivial⟩ ?_
  rintro ρ ⟨e0, -⟩
  refine wpC_region ?_
  refine wpR_val (v := (Value.string p0)) (w' := w0) rfl rfl rfl (x_move (v := (Value.string p0)) rfl e0) ?_
  refine wpR_enter rfl rfl rfl (x_call (vs := [(Value.string p0)]) rfl rfl (mapl_cons rfl mapl_nil) Try.func56 NN_56 NB_56) (Calls.mono h ?_)
  rintro _ w1 ⟨r9, rfl, h⟩
  refine ⟨_, rfl, ?_⟩
  refine wpR_val (v := (Value.bool (!r9))) (w' := w1) rfl rfl rfl (x_not rfl rfl) ?_
  refine wpR_val (v := (Value.bool (!r9))) (w' := w1) rfl rfl rfl (x_assign (v := (Value.bool (!r9))) rfl rfl) ?_
  refine wpR_nil ?_
  refine wpC_ret ?_
  exact ⟨.inl rfl, fun a ha => ⟨_, results_rep1 rfl ha rfl, !r9, rfl, h⟩⟩

/-- slices.Index[[]string,string] -/
def F59 (p0 : Sl) (p1 : ByteArray) (w0 : World) (K : Int → World → Prop) : Prop :=
  lp (fun (next9 : Int → World → Prop) l9 w1 =>
    cnd (decide (l9 < (p0.len : Int)))
      (
      ix p0 l9 1 fun p11 =>
      ld Value.string p11 w1 fun x12 =>
      cnd (beqS p1 x12)
        (
        K l9 w1
        )
        (
        next9 (IntKind.i64.wrap (l9 + 1)) w1
        )
      )
      (
      K (-1) w1
      )
  ) 0 w0
set_option maxRecDepth 100000 in
theorem D59 (p0 : Sl) (p1 : ByteArray) (w0 : World) (K : Int → World → Prop) (h : F59 p0 p1 w0 K) : callC Try.prog 59 #[(Sl.v p0), (Value.string p1)] (fun (r : Int) => (Value.int .i64 r)) w0 K := by
  unfold F59 at h
  refine calls_of_wpC Try.func59 rfl 19 rfl (by simp) ?_
  intro ρ hρ
  have e0 : ρ 0 = (Sl.v p0) := hρ 0
  have e1 : ρ 1 = (Value.string p1) := hρ 1
  clear hρ
  refine wpC_seq ?_
  refine wpC_region ?_
  refine wpR_val (v := (Value.int .i64 0)) (w' := w0) rfl rfl rfl (x_assign (v := (Value.int .i64 0)) rfl rfl) ?_
  refine wpR_nil ?_
  refine wpC_seq ?_
  refine wpC_seq ?_
  refine wpC_cut (fun ρ => ρ 0 = (Sl.v p0) ∧ ρ 1 = (Value.string p1) ∧ True) ⟨e0, e1, trivial⟩ ?_
  rintro ρ ⟨e0, e1, -⟩
  refine wpC_region ?_
  refine wpR_val (v := (Sl.v p0)) (w' := w0) rfl rfl rfl (x_move (v := (Sl.v p0)) rfl e0) ?_
  refine wpR_val (v := (Value.int .i64 (p0.len : Int))) (w' := w0) rfl rfl rfl (x_lenS (s := p0) rfl rfl isSliceT_22) ?_
  refine wpR_val (v := (Value.int .i64 0)) (w' := w0) rfl rfl rfl (x_move (v := (Value.int .i64 0)) rfl rfl) ?_
  refine wpR_nil ?_
  refine wpC_block ?_
  obtain ⟨I9, μ9, hI9, hr9⟩ := h
  refine wpC_loop (fun (x : Int) ρ => ρ 8 = (Value.int .i64 x) ∧ ρ 0 = (Sl.v p0) ∧ ρ 1 = (Value.string p1) ∧ ρ 7 = (Value.int .i64 (p0.len : Int)) ∧ True) I9 μ9 0 ⟨rfl, e0, e1, rfl, trivial⟩ hI9 ?_
  rintro l9 ρ w1 ⟨e8, e0, e1, e7, -⟩ h
  replace h := hr9 l9 w1 h
  clear hr9 hI9
  refine wpC_seq ?_
  refine wpC_region ?_
  refine wpR_val (v := (Value.bool (decide (l9 < (p0.len : Int))))) (w' := w1) rfl rfl rfl (x_lss rfl e8 e7) ?_
  refine wpR_nil ?_
  refine wpC_seq ?_
  refine wpC_cond (b := decide (l9 < (p0.len : Int))) rfl (fun hc10 => ?_) (fun hc10 => ?_)
  · replace h := h.1 hc10
    refine wpC_skip ?_
    refine wpC_seq ?_
    refine wpC_block ?_
    refine wpC_seq ?_
    refine wpC_cut (fun ρ => ρ 0 = (Sl.v p0) ∧ ρ 1 = (Value.string p1) ∧ ρ 7 = (Value.int .i64 (p0.len : Int)) ∧ ρ 8 = (Value.int .i64 l9) ∧ True) ⟨e0, e1, e7, e8, trivial⟩ ?_
    rintro ρ ⟨e0, e1, e7, e8, -⟩
    refine wpC_region ?_
    refine wpR_val (v := (Value.int .i64 l9)) (w' := w1) rfl rfl rfl (x_move (v := (Value.int .i64 l9)) rfl e8) ?_
    refine wpR_val (v := (Value.int .i64 l9)) (w' := w1) rfl rfl rfl (x_assign (v := (Value.int .i64 l9)) rfl rfl) ?_
    refine wpR_nil ?_
    refine wpC_seq ?_
    refine wpC_cut (fun ρ => ρ 0 = (Sl.v p0) ∧ ρ 1 = (Value.string p1) ∧ ρ 5 = (Value.int .i64 l9) ∧ ρ 7 = (Value.int .i64 (p0.len : Int)) ∧ ρ 8 = (Value.int .i64 l9) ∧ True) ⟨e0, e1, rfl, e7, e8, trivial⟩ ?_
    rintro ρ ⟨e0, e1, e5, e7, e8, -⟩
    refine wpC_region ?_
    refine wpR_val (v := (Value.string p1)) (w' := w1) rfl rfl rfl (x_move (v := (Value.string p1)) rfl e1) ?_
    refine wpR_val (v := (Sl.v p0)) (w' := w1) rfl rfl rfl (x_move (v := (Sl.v p0)) rfl e0) ?_
    refine wpR_val (v := (Value.int .i64 l9)) (w' := w1) rfl rfl rfl (x_move (v := (Value.int .i64 l9)) rfl e5) ?_
    obtain ⟨q11, z11, r11, h⟩ := h
    generalize hp11 : z11.add ((l9 : Int).toNat * 1) = p11 at h
    refine wpR_val (v := (Value.pointer (some p11))) (w' := w1) rfl rfl rfl ((x_indexAddr (s := p0) rfl rfl rfl ES_22 q11 r11).trans (by rw [hp11])) ?_
    obtain ⟨x12, q12, h⟩ := h
    refine wpR_val (v := (Value.string x12)) (w' := w1) rfl rfl rfl (x_load1 rfl rfl SH_9 q12) ?_
    refine wpR_val (v := (Value.bool (beqS p1 x12))) (w' := w1) rfl rfl rfl (x_eqlS rfl rfl rfl) ?_
    refine wpR_nil ?_
    refine wpC_cond (b := beqS p1 x12) rfl (fun hc13 => ?_) (fun hc13 => ?_)
    · replace h := h.1 hc13
      refine wpC_seq ?_
      refine wpC_cut (fun ρ => ρ 5 = (Value.int .i64 l9) ∧ True) ⟨e5, trivial⟩ ?_
      rintro ρ ⟨e5, -⟩
      refine wpC_region ?_
      refine wpR_val (v := (Value.int .i64 l9)) (w' := w1) rfl rfl rfl (x_move (v := (Value.int .i64 l9)) rfl e5) ?_
      refine wpR_val (v := (Value.int .i64 l9)) (w' := w1) rfl rfl rfl (x_assign (v := (Value.int .i64 l9)) rfl rfl) ?_
      refine wpR_nil ?_
      refine wpC_ret ?_
      exact ⟨.inl rfl, fun a ha => ⟨_, results_rep1 rfl ha rfl, l9, rfl, h⟩⟩
    · replace h := h.2 hc13
      refine wpC_skip ?_
      refine wpC_cut (fun ρ => ρ 0 = (Sl.v p0) ∧ ρ 1 = (Value.string p1) ∧ ρ 7 = (Value.int .i64 (p0.len : Int)) ∧ ρ 8 = (Value.int .i64 l9) ∧ True) ⟨e0, e1, e7, e8, trivial⟩ ?_
      rintro ρ ⟨e0, e1, e7, e8, -⟩
      refine wpC_region ?_
      refine wpR_val (v := (Value.int .i64 (IntKind.i64.wrap (l9 + 1)))) (w' := w1) rfl rfl rfl (x_add rfl e8 rfl) ?_
      refine wpR_val (v := (Value.int .i64 (IntKind.i64.wrap (l9 + 1)))) (w' := w1) rfl rfl rfl (x_move (v := (Value.int .i64 (IntKind.i64.wrap (l9 + 1)))) rfl rfl) ?_
      refine wpR_nil ?_
      exact ⟨IntKind.i64.wrap (l9 + 1), ⟨rfl, e0, e1, e7, trivial⟩, h⟩
  · replace h := h.2 hc10
    refine wpC_exit ?_
    refine wpC_seq ?_
    refine wpC_cut (fun ρ => True) trivial ?_
    rintro ρ -
    refine wpC_region ?_
    refine wpR_val (v := (Value.int .i64 (-1))) (w' := w1) rfl rfl rfl (x_assign (v := (Value.int .i64 (-1))) rfl rfl) ?_
    refine wpR_nil ?_
    refine wpC_ret ?_
    exact ⟨.inl rfl, fun a ha => ⟨_, results_rep1 rfl ha rfl, (-1), rfl, h⟩⟩

/-- slices.IndexFunc[[]api.Bridge,api.Bridge] -/
def F70 (p0 : Sl) (p1 : Value) (w0 : World) (K : Int → World → Prop) : Prop :=
  lp (fun (next9 : Int → World → Prop) l9 w1 =>
    cnd (decide (l9 < (p0.len : Int)))
      (
      ix p0 l9 3 fun p11 =>
      ld (Value.int .i64) (p11.add 0) w1 fun x12 =>
      ld (Value.int .i64) (p11.add 1) w1 fun x13 =>
      ld Value.bool (p11.add 2) w1 fun x14 =>
      cv Try.prog p1 [(Value.agg #[(Value.int .i64 x12), (Value.int .i64 x13), (Value.bool x14)])] (fun (r : Bool) => (Value.bool r)) w1 fun r15 w2 =>
      cnd (r15)
        (
        K l9 w2
        )
        (
        next9 (IntKind.i64.wrap (l9 + 1)) w2
        )
      )
      (
      K (-1) w1
      )
  ) 0 w0
set_option maxRecDepth 100000 in
theorem D70 (p0 : Sl) (p1 : Value) (w0 : World) (K : Int → World → Prop) (h : F70 p0 p1 w0 K) : callC Try.prog 70 #[(Sl.v p0), p1] (fun (r : Int) => (Value.int .i64 r)) w0 K := by
  unfold F70 at h
  refine calls_of_wpC Try.func70 rfl 19 rfl (by simp) ?_
  intro ρ hρ
  have e0 : ρ 0 = (Sl.v p0) := hρ 0
  have e1 : ρ 1 = p1 := hρ 1
  clear hρ
  refine wpC_seq ?_
  refine wpC_region ?_
  refine wpR_val (v := (Value.int .i64 0)) (w' := w0) rfl rfl rfl (x_assign (v := (Value.int .i64 0)) rfl rfl) ?_
  refine wpR_nil ?_
  refine wpC_seq ?_
  refine wpC_seq ?_
  refine wpC_cut (fun ρ => ρ 0 = (Sl.v p0) ∧ ρ 1 = p1 ∧ True) ⟨e0, e1, trivial⟩ ?_
  rintro ρ ⟨e0, e1, -⟩
  refine wpC_region ?_
  refine wpR_val (v := (Sl.v p0)) (w' := w0) rfl rfl rfl (x_move (v := (Sl.v p0)) rfl e0) ?_
  refine wpR_val (v := (Value.int .i64 (p0.len : Int))) (w' := w0) rfl rfl rfl (x_lenS (s := p0) rfl rfl isSliceT_55) ?_
  refine wpR_val (v := (Value.int .i64 0)) (w' := w0) rfl rfl rfl (x_move (v := (Value.int .i64 0)) rfl rfl) ?_
  refine wpR_nil ?_
  refine wpC_block ?_
  obtain ⟨I9, μ9, hI9, hr9⟩ := h
  refine wpC_loop (fun (x : Int) ρ => ρ 8 = (Value.int .i64 x) ∧ ρ 0 = (Sl.v p0) ∧ ρ 1 = p1 ∧ ρ 7 = (Value.int .i64 (p0.len : Int)) ∧ True) I9 μ9 0 ⟨rfl, e0, e1, rfl, trivial⟩ hI9 ?_
  rintro l9 ρ w1 ⟨e8, e0, e1, e7, -⟩ h
  replace h := hr9 l9 w1 h
  clear hr9 hI9
  refine wpC_seq ?_
  refine wpC_region ?_
  refine wpR_val (v := (Value.bool (decide (l9 < (p0.len : Int))))) (w' := w1) rfl rfl rfl (x_lss rfl e8 e7) ?_
  refine wpR_nil ?_
  refine wpC_seq ?_
  refine wpC_cond (b := decide (l9 < (p0.len : Int))) rfl (fun hc10 => ?_) (fun hc10 => ?_)
  · replace h := h.1 hc10
    refine wpC_skip ?_
    refine wpC_seq ?_
    refine wpC_block ?_
    refine wpC_seq ?_
    refine wpC_cut (fun ρ => ρ 0 = (Sl.v p0) ∧ ρ 1 = p1 ∧ ρ 7 = (Value.int .i64 (p0.len : Int)) ∧ ρ 8 = (Value.int .i64 l9) ∧ True) ⟨e0, e1, e7, e8, trivial⟩ ?_
    rintro ρ ⟨e0, e1, e7, e8, -⟩
    refine wpC_region ?_
    refine wpR_val (v := (Value.int .i64 l9)) (w' := w1) rfl rfl rfl (x_move (v := (Value.int .i64 l9)) rfl e8) ?_
    refine wpR_val (v := (Value.int .i64 l9)) (w' := w1) rfl rfl rfl (x_assign (v := (Value.int .i64 l9)) rfl rfl) ?_
    refine wpR_nil ?_
    refine wpC_seq ?_
    refine wpC_cut (fun ρ => ρ 0 = (Sl.v p0) ∧ ρ 1 = p1 ∧ ρ 5 = (Value.int .i64 l9) ∧ ρ 7 = (Value.int .i64 (p0.len : Int)) ∧ ρ 8 = (Value.int .i64 l9) ∧ True) ⟨e0, e1, rfl, e7, e8, trivial⟩ ?_
    rintro ρ ⟨e0, e1, e5, e7, e8, -⟩
    refine wpC_region ?_
    refine wpR_val (v := p1) (w' := w1) rfl rfl rfl (x_move (v := p1) rfl e1) ?_
    refine wpR_val (v := (Sl.v p0)) (w' := w1) rfl rfl rfl (x_move (v := (Sl.v p0)) rfl e0) ?_
    refine wpR_val (v := (Value.int .i64 l9)) (w' := w1) rfl rfl rfl (x_move (v := (Value.int .i64 l9)) rfl e5) ?_
    obtain ⟨q11, z11, r11, h⟩ := h
    generalize hp11 : z11.add ((l9 : Int).toNat * 3) = p11 at h
    refine wpR_val (v := (Value.pointer (some p11))) (w' := w1) rfl rfl rfl ((x_indexAddr (s := p0) rfl rfl rfl ES_55 q11 r11).trans (by rw [hp11])) ?_
    obtain ⟨x12, q12, x13, q13, x14, q14, h⟩ := h
    refine wpR_val (v := (Value.agg #[(Value.int .i64 x12), (Value.int .i64 x13), (Value.bool x14)])) (w' := w1) rfl rfl rfl (x_loadN [(Value.int .i64 x12), (Value.int .i64 x13), (Value.bool x14)] rfl rfl SH_54 (CellsAt.out (CellsAt.cons q12 (CellsAt.cons q13 (CellsAt.cons q14 CellsAt.nil))))) ?_
    obtain ⟨f15, fi15, ca15, fn15, qv15, qf15, qn15, qb15, h⟩ := h
    refine wpR_enter rfl rfl rfl (x_callv (vs := [(Value.agg #[(Value.int .i64 x12), (Value.int .i64 x13), (Value.bool x14)])]) rfl ((show _ = p1 from rfl).trans qv15) (mapl_cons rfl mapl_nil) qf15 qn15 qb15) (Calls.mono h ?_)
    rintro _ w2 ⟨r15, rfl, h⟩
    refine ⟨_, rfl, ?_⟩
    refine wpR_nil ?_
    refine wpC_cond (b := r15) rfl (fun hc16 => ?_) (fun hc16 => ?_)
    · replace h := h.1 hc16
      refine wpC_seq ?_
      refine wpC_cut (fun ρ => ρ 5 = (Value.int .i64 l9) ∧ True) ⟨e5, trivial⟩ ?_
      rintro ρ ⟨e5, -⟩
      refine wpC_region ?_
      refine wpR_val (v := (Value.int .i64 l9)) (w' := w2) rfl rfl rfl (x_move (v := (Value.int .i64 l9)) rfl e5) ?_
      refine wpR_val (v := (Value.int .i64 l9)) (w' := w2) rfl rfl rfl (x_assign (v := (Value.int .i64 l9)) rfl rfl) ?_
      refine wpR_nil ?_
      refine wpC_ret ?_
      exact ⟨.inl rfl, fun a ha => ⟨_, results_rep1 rfl ha rfl, l9, rfl, h⟩⟩
    · replace h := h.2 hc16
      refine wpC_skip ?_
      refine wpC_cut (fun ρ => ρ 0 = (Sl.v p0) ∧ ρ 1 = p1 ∧ ρ 7 = (Value.int .i64 (p0.len : Int)) ∧ ρ 8 = (Value.int .i64 l9) ∧ True) ⟨e0, e1, e7, e8, trivial⟩ ?_
      rintro ρ ⟨e0, e1, e7, e8, -⟩
      refine wpC_region ?_
      refine wpR_val (v := (Value.int .i64 (IntKind.i64.wrap (l9 + 1)))) (w' := w2) rfl rfl rfl (x_add rfl e8 rfl) ?_
      refine wpR_val (v := (Value.int .i64 (IntKind.i64.wrap (l9 + 1)))) (w' := w2) rfl rfl rfl (x_move (v := (Value.int .i64 (IntKind.i64.wrap (l9 + 1)))) rfl rfl) ?_
      refine wpR_nil ?_
      exact ⟨IntKind.i64.wrap (l9 + 1), ⟨rfl, e0, e1, e7, trivial⟩, h⟩
  · replace h := h.2 hc10
    refine wpC_exit ?_
    refine wpC_seq ?_
    refine wpC_cut (fun ρ => True) trivial ?_
    rintro ρ -
    refine wpC_region ?_
    refine wpR_val (v := (Value.int .i64 (-1))) (w' := w1) rfl rfl rfl (x_assign (v := (Value.int .i64 (-1))) rfl rfl) ?_
    refine wpR_nil ?_
    refine wpC_ret ?_
    exact ⟨.inl rfl, fun a ha => ⟨_, results_rep1 rfl ha rfl, (-1), rfl, h⟩⟩

/-- echo.Score -/
def F71 (p0_0 : Int) (p0_1 : Int) (p0_2 : Int) (p0_3 : Int) (p0_4 : Int) (p1_0 : Int) (p1_1 : Int) (p1_2 : Int) (p1_3 : Int) (p1_4 : Int) (w0 : World) (K : Int → World → Prop) : Prop :=
  nw 63 #[(Value.int .i64 p0_0), (Value.int .i64 p0_1), (Value.int .i64 p0_2), (Value.int .i64 p0_3), (Value.int .i64 p0_4)] w0 fun b9 w1 =>
  nw 63 #[(Value.int .i64 p1_0), (Value.int .i64 p1_1), (Value.int .i64 p1_2), (Value.int .i64 p1_3), (Value.int .i64 p1_4)] w1 fun b10 w2 =>
  ld (Value.int .i64) ((Addr.mk b9 0 none).add 1) w2 fun x11 =>
  ld (Value.int .i64) ((Addr.mk b10 0 none).add 1) w2 fun x12 =>
  ld (Value.int .i64) ((Addr.mk b9 0 none).add 3) w2 fun x13 =>
  ld (Value.int .i64) ((Addr.mk b10 0 none).add 3) w2 fun x14 =>
  ld (Value.int .i64) ((Addr.mk b9 0 none).add 4) w2 fun x15 =>
  ld (Value.int .i64) ((Addr.mk b10 0 none).add 4) w2 fun x16 =>
  nw 4 #[(Value.bool (decide (x11 = x12))), (Value.bool (decide (x13 = x14))), (Value.bool (decide (x15 = x16)))] w2 fun b17 w3 =>
  lp (fun (next18 : (Int × Int) → World → Prop) l18 w4 =>
    cnd (decide (l18.2 < ((⟨some ⟨b17, 0, none⟩, 3, 3⟩ : Sl).len : Int)))
      (
      jn (fun (J20 : Int → World → Prop) =>
        ix (⟨some ⟨b17, 0, none⟩, 3, 3⟩ : Sl) l18.2 1 fun p22 =>
        ld Value.bool p22 w4 fun x23 =>
        cnd (x23)
          (
          J20 (IntKind.i64.wrap (l18.1 + 1)) w4
          )
          (
          J20 l18.1 w4
          )
      )
      fun l21 w5 =>
      next18 (l21, IntKind.i64.wrap (l18.2 + 1)) w5
      )
      (
      K l18.1 w4
      )
  ) (0, 0) w3
set_option maxRecDepth 100000 in
theorem D71 (p0_0 : Int) (p0_1 : Int) (p0_2 : Int) (p0_3 : Int) (p0_4 : Int) (p1_0 : Int) (p1_1 : Int) (p1_2 : Int) (p1_3 : Int) (p1_4 : Int) (w0 : World) (K : Int → World → Prop) (h : F71 p0_0 p0_1 p0_2 p0_3 p0_4 p1_0 p1_1 p1_2 p1_3 p1_4 w0 K) : callC Try.prog 71 #[(Value.agg #[(Value.int .i64 p0_0), (Value.int .i64 p0_1), (Value.int .i64 p0_2), (Value.int .i64 p0_3), (Value.int .i64 p0_4)]), (Value.agg #[(Value.int .i64 p1_0), (Value.int .i64 p1_1), (Value.int .i64 p1_2), (Value.int .i64 p1_3), (Value.int .i64 p1_4)])] (fun (r : Int) => (Value.int .i64 r)) w0 K := by
  unfold F71 at h
  refine calls_of_wpC Try.func71 rfl 34 rfl (by simp) ?_
  intro ρ hρ
  have e0 : ρ 0 = (Value.agg #[(Value.int .i64 p0_0), (Value.int .i64 p0_1), (Value.int .i64 p0_2), (Value.int .i64 p0_3), (Value.int .i64 p0_4)]) := hρ 0
  have e1 : ρ 1 = (Value.agg #[(Value.int .i64 p1_0), (Value.int .i64 p1_1), (Value.int .i64 p1_2), (Value.int .i64 p1_3), (Value.int .i64 p1_4)]) := hρ 1
  clear hρ
  refine wpC_seq ?_
  refine wpC_region ?_
  obtain ⟨b9, hb9⟩ : ∃ u, u = w0.heap.size := ⟨_, rfl⟩
  obtain ⟨w1, hw9⟩ : ∃ u, u = w0.alloc (.cells #[(Value.int .i64 p0_0), (Value.int .i64 p0_1), (Value.int .i64 p0_2), (Value.int .i64 p0_3), (Value.int .i64 p0_4)] 63) := ⟨_, rfl⟩
  replace h := h b9 w1 hb9 hw9
  refine wpR_val (v := (Value.pointer (some (Addr.mk b9 0 none)))) (w' := w1) rfl rfl rfl ((x_box (v := (Value.agg #[(Value.int .i64 p0_0), (Value.int .i64 p0_1), (Value.int .i64 p0_2), (Value.int .i64 p0_3), (Value.int .i64 p0_4)])) rfl e0).trans (by rw [hb9, hw9]; rfl)) ?_
  obtain ⟨b10, hb10⟩ : ∃ u, u = w1.heap.size := ⟨_, rfl⟩
  obtain ⟨w2, hw10⟩ : ∃ u, u = w1.alloc (.cells #[(Value.int .i64 p1_0), (Value.int .i64 p1_1), (Value.int .i64 p1_2), (Value.int .i64 p1_3), (Value.int .i64 p1_4)] 63) := ⟨_, rfl⟩
  replace h := h b10 w2 hb10 hw10
  refine wpR_val (v := (Value.pointer (some (Addr.mk b10 0 none)))) (w' := w2) rfl rfl rfl ((x_box (v := (Value.agg #[(Value.int .i64 p1_0), (Value.int .i64 p1_1), (Value.int .i64 p1_2), (Value.int .i64 p1_3), (Value.int .i64 p1_4)])) rfl e1).trans (by rw [hb10, hw10]; rfl)) ?_
  refine wpR_val (v := (Value.int .i64 0)) (w' := w2) rfl rfl rfl (x_assign (v := (Value.int .i64 0)) rfl rfl) ?_
  refine wpR_nil ?_
  refine wpC_seq ?_
  refine wpC_cut (fun ρ => ρ 2 = (Value.pointer (some (Addr.mk b9 0 none))) ∧ ρ 3 = (Value.pointer (some (Addr.mk b10 0 none))) ∧ True) ⟨rfl, rfl, trivial⟩ ?_
  rintro ρ ⟨e2, e3, -⟩
  refine wpC_region ?_
  refine wpR_val (v := (Value.int .i64 0)) (w' := w2) rfl rfl rfl (x_assign (v := (Value.int .i64 0)) rfl rfl) ?_
  refine wpR_nil ?_
  refine wpC_seq ?_
  refine wpC_seq ?_
  refine wpC_cut (fun ρ => ρ 2 = (Value.pointer (some (Addr.mk b9 0 none))) ∧ ρ 3 = (Value.pointer (some (Addr.mk b10 0 none))) ∧ ρ 5 = (Value.int .i64 0) ∧ True) ⟨e2, e3, rfl, trivial⟩ ?_
  rintro ρ ⟨e2, e3, e5, -⟩
  refine wpC_region ?_
  refine wpR_val (v := (Value.pointer (some ((Addr.mk b9 0 none).add 1)))) (w' := w2) rfl rfl rfl (x_fieldAddr rfl e2 FA_63_1) ?_
  obtain ⟨x11, q11, h⟩ := h
  refine wpR_val (v := (Value.int .i64 x11)) (w' := w2) rfl rfl rfl (x_load1 rfl rfl SH_3 q11) ?_
  refine wpR_val (v := (Value.pointer (some ((Addr.mk b10 0 none).add 1)))) (w' := w2) rfl rfl rfl (x_fieldAddr rfl e3 FA_63_1) ?_
  obtain ⟨x12, q12, h⟩ := h
  refine wpR_val (v := (Value.int .i64 x12)) (w' := w2) rfl rfl rfl (x_load1 rfl rfl SH_3 q12) ?_
  refine wpR_val (v := (Value.bool (decide (x11 = x12)))) (w' := w2) rfl rfl rfl (x_eql rfl rfl rfl) ?_
  refine wpR_val (v := (Value.pointer (some ((Addr.mk b9 0 none).add 3)))) (w' := w2) rfl rfl rfl (x_fieldAddr rfl e2 FA_63_3) ?_
  obtain ⟨x13, q13, h⟩ := h
  refine wpR_val (v := (Value.int .i64 x13)) (w' := w2) rfl rfl rfl (x_load1 rfl rfl SH_3 q13) ?_
  refine wpR_val (v := (Value.pointer (some ((Addr.mk b10 0 none).add 3)))) (w' := w2) rfl rfl rfl (x_fieldAddr rfl e3 FA_63_3) ?_
  obtain ⟨x14, q14, h⟩ := h
  refine wpR_val (v := (Value.int .i64 x14)) (w' := w2) rfl rfl rfl (x_load1 rfl rfl SH_3 q14) ?_
  refine wpR_val (v := (Value.bool (decide (x13 = x14)))) (w' := w2) rfl rfl rfl (x_eql rfl rfl rfl) ?_
  refine wpR_val (v := (Value.pointer (some ((Addr.mk b9 0 none).add 4)))) (w' := w2) rfl rfl rfl (x_fieldAddr rfl e2 FA_63_4) ?_
  obtain ⟨x15, q15, h⟩ := h
  refine wpR_val (v := (Value.int .i64 x15)) (w' := w2) rfl rfl rfl (x_load1 rfl rfl SH_3 q15) ?_
  refine wpR_val (v := (Value.pointer (some ((Addr.mk b10 0 none).add 4)))) (w' := w2) rfl rfl rfl (x_fieldAddr rfl e3 FA_63_4) ?_
  obtain ⟨x16, q16, h⟩ := h
  refine wpR_val (v := (Value.int .i64 x16)) (w' := w2) rfl rfl rfl (x_load1 rfl rfl SH_3 q16) ?_
  refine wpR_val (v := (Value.bool (decide (x15 = x16)))) (w' := w2) rfl rfl rfl (x_eql rfl rfl rfl) ?_
  obtain ⟨b17, hb17⟩ : ∃ u, u = w2.heap.size := ⟨_, rfl⟩
  obtain ⟨w3, hw17⟩ : ∃ u, u = w2.alloc (.cells #[(Value.bool (decide (x11 = x12))), (Value.bool (decide (x13 = x14))), (Value.bool (decide (x15 = x16)))] 4) := ⟨_, rfl⟩
  replace h := h b17 w3 hb17 hw17
  refine wpR_val (v := (Sl.v (⟨some ⟨b17, 0, none⟩, 3, 3⟩ : Sl))) (w' := w3) rfl rfl rfl ((x_buildSlice (qs := [(0, (Value.bool (decide (x11 = x12)))), (1, (Value.bool (decide (x13 = x14)))), (2, (Value.bool (decide (x15 = x16))))]) rfl (by rfl) (BS_27_3_0_1_2 (decide (x11 = x12)) (decide (x13 = x14)) (decide (x15 = x16)))).trans (by rw [← hb17, ← hw17])) ?_
  refine wpR_val (v := (Value.int .i64 ((⟨some ⟨b17, 0, none⟩, 3, 3⟩ : Sl).len : Int))) (w' := w3) rfl rfl rfl (x_lenS (s := (⟨some ⟨b17, 0, none⟩, 3, 3⟩ : Sl)) rfl rfl isSliceT_27) ?_
  refine wpR_val (v := (Value.int .i64 0)) (w' := w3) rfl rfl rfl (x_move (v := (Value.int .i64 0)) rfl rfl) ?_
  refine wpR_nil ?_
  refine wpC_block ?_
  obtain ⟨I18, μ18, hI18, hr18⟩ := h
  refine wpC_loop (fun (x : Int × Int) ρ => ρ 5 = (Value.int .i64 x.1) ∧ ρ 25 = (Value.int .i64 x.2) ∧ ρ 23 = (Sl.v (⟨some ⟨b17, 0, none⟩, 3, 3⟩ : Sl)) ∧ ρ 24 = (Value.int .i64 ((⟨some ⟨b17, 0, none⟩, 3, 3⟩ : Sl).len : Int)) ∧ True) I18 μ18 (0, 0) ⟨e5, rfl, rfl, rfl, trivial⟩ hI18 ?_
  rintro l18 ρ w4 ⟨e5, e25, e23, e24, -⟩ h
  replace h := hr18 l18 w4 h
  clear hr18 hI18
  refine wpC_seq ?_
  refine wpC_region ?_
  refine wpR_val (v := (Value.bool (decide (l18.2 < ((⟨some ⟨b17, 0, none⟩, 3, 3⟩ : Sl).len : Int))))) (w' := w4) rfl rfl rfl (x_lss rfl e25 e24) ?_
  refine wpR_nil ?_
  refine wpC_seq ?_
  refine wpC_cond (b := decide (l18.2 < ((⟨some ⟨b17, 0, none⟩, 3, 3⟩ : Sl).len : Int))) rfl (fun hc19 => ?_) (fun hc19 => ?_)
  · replace h := h.1 hc19
    refine wpC_skip ?_
    obtain ⟨J20, h, hk⟩ := h
    refine wpC_seqJ (fun (x : Int) ρ => ρ 5 = (Value.int .i64 x) ∧ ρ 23 = (Sl.v (⟨some ⟨b17, 0, none⟩, 3, 3⟩ : Sl)) ∧ ρ 24 = (Value.int .i64 ((⟨some ⟨b17, 0, none⟩, 3, 3⟩ : Sl).len : Int)) ∧ ρ 25 = (Value.int .i64 l18.2) ∧ True) J20 ?_ ?_
    · clear hk
      refine wpC_block ?_
      refine wpC_seq ?_
      refine wpC_cut (fun ρ => ρ 5 = (Value.int .i64 l18.1) ∧ ρ 23 = (Sl.v (⟨some ⟨b17, 0, none⟩, 3, 3⟩ : Sl)) ∧ ρ 24 = (Value.int .i64 ((⟨some ⟨b17, 0, none⟩, 3, 3⟩ : Sl).len : Int)) ∧ ρ 25 = (Value.int .i64 l18.2) ∧ True) ⟨e5, e23, e24, e25, trivial⟩ ?_
      rintro ρ ⟨e5, e23, e24, e25, -⟩
      refine wpC_region ?_
      obtain ⟨q22, z22, r22, h⟩ := h
      generalize hp22 : z22.add ((l18.2 : Int).toNat * 1) = p22 at h
      refine wpR_val (v := (Value.pointer (some p22))) (w' := w4) rfl rfl rfl ((x_indexAddr (s := (⟨some ⟨b17, 0, none⟩, 3, 3⟩ : Sl)) rfl e23 e25 ES_27 q22 r22).trans (by rw [hp22])) ?_
      obtain ⟨x23, q23, h⟩ := h
      refine wpR_val (v := (Value.bool x23)) (w' := w4) rfl rfl rfl (x_load1 rfl rfl SH_4 q23) ?_
      refine wpR_val (v := (Value.bool x23)) (w' := w4) rfl rfl rfl (x_assign (v := (Value.bool x23)) rfl rfl) ?_
      refine wpR_nil ?_
      refine wpC_seq ?_
      refine wpC_cut (fun ρ => ρ 5 = (Value.int .i64 l18.1) ∧ ρ 7 = (Value.bool x23) ∧ ρ 23 = (Sl.v (⟨some ⟨b17, 0, none⟩, 3, 3⟩ : Sl)) ∧ ρ 24 = (Value.int .i64 ((⟨some ⟨b17, 0, none⟩, 3, 3⟩ : Sl).len : Int)) ∧ ρ 25 = (Value.int .i64 l18.2) ∧ True) ⟨e5, rfl, e23, e24, e25, trivial⟩ ?_
      rintro ρ ⟨e5, e7, e23, e24, e25, -⟩
      refine wpC_region ?_
      refine wpR_val (v := (Value.bool x23)) (w' := w4) rfl rfl rfl (x_move (v := (Value.bool x23)) rfl e7) ?_
      refine wpR_nil ?_
      refine wpC_cond (b := x23) rfl (fun hc24 => ?_) (fun hc24 => ?_)
      · replace h := h.1 hc24
        refine wpC_cut (fun ρ => ρ 5 = (Value.int .i64 l18.1) ∧ ρ 23 = (Sl.v (⟨some ⟨b17, 0, none⟩, 3, 3⟩ : Sl)) ∧ ρ 24 = (Value.int .i64 ((⟨some ⟨b17, 0, none⟩, 3, 3⟩ : Sl).len : Int)) ∧ ρ 25 = (Value.int .i64 l18.2) ∧ True) ⟨e5, e23, e24, e25, trivial⟩ ?_
        rintro ρ ⟨e5, e23, e24, e25, -⟩
        refine wpC_region ?_
        refine wpR_val (v := (Value.int .i64 l18.1)) (w' := w4) rfl rfl rfl (x_move (v := (Value.int .i64 l18.1)) rfl e5) ?_
        refine wpR_val (v := (Value.int .i64 (IntKind.i64.wrap (l18.1 + 1)))) (w' := w4) rfl rfl rfl (x_add rfl rfl rfl) ?_
        refine wpR_val (v := (Value.int .i64 (IntKind.i64.wrap (l18.1 + 1)))) (w' := w4) rfl rfl rfl (x_assign (v := (Value.int .i64 (IntKind.i64.wrap (l18.1 + 1)))) rfl rfl) ?_
        refine wpR_nil ?_
        exact ⟨IntKind.i64.wrap (l18.1 + 1), ⟨rfl, e23, e24, e25, trivial⟩, h⟩
      · replace h := h.2 hc24
        refine wpC_skip ?_
        exact ⟨l18.1, ⟨e5, e23, e24, e25, trivial⟩, h⟩
    clear h
    rintro l21 ρ w5 ⟨e5, e23, e24, e25, -⟩ h
    replace h := hk l21 w5 h
    clear hk
    refine wpC_region ?_
    refine wpR_val (v := (Value.int .i64 (IntKind.i64.wrap (l18.2 + 1)))) (w' := w5) rfl rfl rfl (x_add rfl e25 rfl) ?_
    refine wpR_val (v := (Value.int .i64 (IntKind.i64.wrap (l18.2 + 1)))) (w' := w5) rfl rfl rfl (x_move (v := (Value.int .i64 (IntKind.i64.wrap (l18.2 + 1)))) rfl rfl) ?_
    refine wpR_nil ?_
    exact ⟨(l21, IntKind.i64.wrap (l18.2 + 1)), ⟨e5, rfl, e23, e24, trivial⟩, h⟩
  · replace h := h.2 hc19
    refine wpC_exit ?_
    refine wpC_seq ?_
    refine wpC_cut (fun ρ => ρ 5 = (Value.int .i64 l18.1) ∧ True) ⟨e5, trivial⟩ ?_
    rintro ρ ⟨e5, -⟩
    refine wpC_region ?_
    refine wpR_val (v := (Value.int .i64 l18.1)) (w' := w4) rfl rfl rfl (x_move (v := (Value.int .i64 l18.1)) rfl e5) ?_
    refine wpR_val (v := (Value.int .i64 l18.1)) (w' := w4) rfl rfl rfl (x_assign (v := (Value.int .i64 l18.1)) rfl rfl) ?_
    refine wpR_nil ?_
    refine wpC_ret ?_
    exact ⟨.inl rfl, fun a ha => ⟨_, results_rep1 rfl ha rfl, l18.1, rfl, h⟩⟩

/-- event.Net -/
def F72 (p0 : Int) (w0 : World) (K : Int → World → Prop) : Prop :=
  callC Try.prog 85 #[(Value.int .i64 p0), (Value.int .i64 2000)] (fun (r : Bool) => (Value.bool r)) w0 fun r9 w1 =>
  cnd (!r9)
    (
    K (-1) w1
    )
    (
    K (p0.tmod 12) w1
    )
set_option maxRecDepth 100000 in
theorem D72 (p0 : Int) (w0 : World) (K : Int → World → Prop) (h : F72 p0 w0 K) : callC Try.prog 72 #[(Value.int .i64 p0)] (fun (r : Int) => (Value.int .i64 r)) w0 K := by
  unfold F72 at h
  refine calls_of_wpC Try.func72 rfl 8 rfl (by simp) ?_
  intro ρ hρ
  have e0 : ρ 0 = (Value.int .i64 p0) := hρ 0
  clear hρ
  refine wpC_seq ?_
  refine wpC_region ?_
  refine wpR_val (v := (Value.int .i64 0)) (w' := w0) rfl rfl rfl (x_assign (v := (Value.int .i64 0)) rfl rfl) ?_
  refine wpR_nil ?_
  refine wpC_seq ?_
  refine wpC_seq ?_
  refine wpC_cut (fun ρ => ρ 0 = (Value.int .i64 p0) ∧ True) ⟨e0, trivial⟩ ?_
  rintro ρ ⟨e0, -⟩
  refine wpC_region ?_
  refine wpR_val (v := (Value.int .i64 p0)) (w' := w0) rfl rfl rfl (x_move (v := (Value.int .i64 p0)) rfl e0) ?_
  refine wpR_enter rfl rfl rfl (x_call (vs := [(Value.int .i64 p0), (Value.int .i64 2000)]) rfl rfl (mapl_cons rfl (mapl_cons rfl mapl_nil)) Try.func85 NN_85 NB_85) (Calls.mono h ?_)
  rintro _ w1 ⟨r9, rfl, h⟩
  refine ⟨_, rfl, ?_⟩
  refine wpR_val (v := (Value.bool (!r9))) (w' := w1) rfl rfl rfl (x_not rfl rfl) ?_
  refine wpR_nil ?_
  refine wpC_cond (b := !r9) rfl (fun hc10 => ?_) (fun hc10 => ?_)
  · replace h := h.1 hc10
    refine wpC_seq ?_
    refine wpC_cut (fun ρ => True) trivial ?_
    rintro ρ -
    refine wpC_region ?_
    refine wpR_val (v := (Value.int .i64 (-1))) (w' := w1) rfl rfl rfl (x_assign (v := (Value.int .i64 (-1))) rfl rfl) ?_
    refine wpR_nil ?_
    refine wpC_ret ?_
    exact ⟨.inl rfl, fun a ha => ⟨_, results_rep1 rfl ha rfl, (-1), rfl, h⟩⟩
  · replace h := h.2 hc10
    refine wpC_skip ?_
    refine wpC_seq ?_
    refine wpC_cut (fun ρ => ρ 0 = (Value.int .i64 p0) ∧ True) ⟨e0, trivial⟩ ?_
    rintro ρ ⟨e0, -⟩
    refine wpC_region ?_
    refine wpR_val (v := (Value.int .i64 p0)) (w' := w1) rfl rfl rfl (x_move (v := (Value.int .i64 p0)) rfl e0) ?_
    refine wpR_val (v := (Value.int .i64 (p0.tmod 12))) (w' := w1) rfl rfl rfl (x_rem rfl rfl rfl (by decide)) ?_
    refine wpR_val (v := (Value.int .i64 (p0.tmod 12))) (w' := w1) rfl rfl rfl (x_assign (v := (Value.int .i64 (p0.tmod 12))) rfl rfl) ?_
    refine wpR_nil ?_
    refine wpC_ret ?_
    exact ⟨.inl rfl, fun a ha => ⟨_, results_rep1 rfl ha rfl, p0.tmod 12, rfl, h⟩⟩

/-- supply.Least -/
def F74 (p0_0 : ByteArray) (p0_1 : Int) (p0_2 : Int) (p0_3 : Int) (p0_4 : Bool) (p0_5 : Int) (p0_6 : Bool) (p0_7 : Bool) (p0_8 : Int) (p0_9 : Int) (p0_10 : Int) (p0_11 : Int) (p0_12 : Sl) (p0_13 : Int) (p0_14 : Int) (p0_15 : Int) (p0_16 : Int) (p0_17 : Bool) (p0_18 : Int) (p0_19 : Int) (p0_20 : Int) (p0_21 : Int) (p1 : Int) (w0 : World) (K : (Int × Int) → World → Prop) : Prop :=
  nw 24 (A23 p0_0 p0_1 p0_2 p0_3 p0_4 p0_5 p0_6 p0_7 p0_8 p0_9 p0_10 p0_11 p0_12 p0_13 p0_14 p0_15 p0_16 p0_17 p0_18 p0_19 p0_20 p0_21) w0 fun b9 w1 =>
  L23 (Addr.mk b9 0 none) w1 fun x10 x11 x12 x13 x14 x15 x16 x17 x18 x19 x20 x21 x22 x23 x24 x25 x26 x27 x28 x29 x30 x31 =>
  callC Try.prog 23 #[(V23 x10 x11 x12 x13 x14 x15 x16 x17 x18 x19 x20 x21 x22 x23 x24 x25 x26 x27 x28 x29 x30 x31)] (fun (r : Int) => (Value.int .i64 r)) w1 fun r32 w2 =>
  cnd (((!decide (r32 = 0)) || (decide (p1 < 0))) || (decide (1073741824 < p1)))
    (
    K (0, 1) w2
    )
    (
    jn (fun (J38 : Int → World → Prop) =>
      ld (Value.int .i64) ((Addr.mk b9 0 none).add 19) w2 fun x40 =>
      cnd (decide (0 < x40))
        (
        jn (fun (J43 : Int → World → Prop) => tk w2 fun w4 =>
          ld (Value.int .i64) ((Addr.mk b9 0 none).add 20) w4 fun x44 =>
          x44 ≠ 0 ∧
          ld (Value.int .i64) ((Addr.mk b9 0 none).add 19) w4 fun x46 =>
          ld (Value.int .i64) ((Addr.mk b9 0 none).add 20) w4 fun x47 =>
          x47 ≠ 0 ∧
          ld (Value.int .i64) ((Addr.mk b9 0 none).add 19) w4 fun x49 =>
          J43 (IntKind.i64.wrap ((IntKind.i64.wrap ((IntKind.i64.wrap (p1.tdiv x44)) * x46)) + (min (p1.tmod x47) x49))) w4
        )
        fun l50 w5 =>
        J38 l50 w5
        )
        (
        J38 0 w2
        )
    )
    fun l39 w3 =>
    L23 (Addr.mk b9 0 none) w3 fun x51 x52 x53 x54 x55 x56 x57 x58 x59 x60 x61 x62 x63 x64 x65 x66 x67 x68 x69 x70 x71 x72 =>
    callC Try.prog 94 #[(V23 x51 x52 x53 x54 x55 x56 x57 x58 x59 x60 x61 x62 x63 x64 x65 x66 x67 x68 x69 x70 x71 x72), (Value.int .i64 (IntKind.i64.wrap (p1 - l39)))] (fun (r : Int × Int) => (Value.tuple #[(Value.int .i64 r.1), (Value.int .i64 r.2)])) w3 fun r73 w6 =>
    K (r73.1, r73.2) w6
    )
set_option maxRecDepth 100000 in
theorem D74 (p0_0 : ByteArray) (p0_1 : Int) (p0_2 : Int) (p0_3 : Int) (p0_4 : Bool) (p0_5 : Int) (p0_6 : Bool) (p0_7 : Bool) (p0_8 : Int) (p0_9 : Int) (p0_10 : Int) (p0_11 : Int) (p0_12 : Sl) (p0_13 : Int) (p0_14 : Int) (p0_15 : Int) (p0_16 : Int) (p0_17 : Bool) (p0_18 : Int) (p0_19 : Int) (p0_20 : Int) (p0_21 : Int) (p1 : Int) (w0 : World) (K : (Int × Int) → World → Prop) (h : F74 p0_0 p0_1 p0_2 p0_3 p0_4 p0_5 p0_6 p0_7 p0_8 p0_9 p0_10 p0_11 p0_12 p0_13 p0_14 p0_15 p0_16 p0_17 p0_18 p0_19 p0_20 p0_21 p1 w0 K) : callC Try.prog 74 #[(V23 p0_0 p0_1 p0_2 p0_3 p0_4 p0_5 p0_6 p0_7 p0_8 p0_9 p0_10 p0_11 p0_12 p0_13 p0_14 p0_15 p0_16 p0_17 p0_18 p0_19 p0_20 p0_21), (Value.int .i64 p1)] (fun (r : Int × Int) => (Value.tuple #[(Value.int .i64 r.1), (Value.int .i64 r.2)])) w0 K := by
  unfold F74 at h
  refine calls_of_wpC Try.func74 rfl 43 rfl (by simp) ?_
  intro ρ hρ
  have e0 : ρ 0 = (V23 p0_0 p0_1 p0_2 p0_3 p0_4 p0_5 p0_6 p0_7 p0_8 p0_9 p0_10 p0_11 p0_12 p0_13 p0_14 p0_15 p0_16 p0_17 p0_18 p0_19 p0_20 p0_21) := hρ 0
  have e1 : ρ 1 = (Value.int .i64 p1) := hρ 1
  clear hρ
  refine wpC_seq ?_
  refine wpC_region ?_
  obtain ⟨b9, hb9⟩ : ∃ u, u = w0.heap.size := ⟨_, rfl⟩
  obtain ⟨w1, hw9⟩ : ∃ u, u = w0.alloc (.cells (A23 p0_0 p0_1 p0_2 p0_3 p0_4 p0_5 p0_6 p0_7 p0_8 p0_9 p0_10 p0_11 p0_12 p0_13 p0_14 p0_15 p0_16 p0_17 p0_18 p0_19 p0_20 p0_21) 24) := ⟨_, rfl⟩
  replace h := h b9 w1 hb9 hw9
  refine wpR_val (v := (Value.pointer (some (Addr.mk b9 0 none)))) (w' := w1) rfl rfl rfl ((x_box (v := (V23 p0_0 p0_1 p0_2 p0_3 p0_4 p0_5 p0_6 p0_7 p0_8 p0_9 p0_10 p0_11 p0_12 p0_13 p0_14 p0_15 p0_16 p0_17 p0_18 p0_19 p0_20 p0_21)) rfl e0).trans (by rw [hb9, hw9]; rfl)) ?_
  refine wpR_val (v := (Value.int .i64 0)) (w' := w1) rfl rfl rfl (x_assign (v := (Value.int .i64 0)) rfl rfl) ?_
  refine wpR_val (v := (Value.int .i64 0)) (w' := w1) rfl rfl rfl (x_assign (v := (Value.int .i64 0)) rfl rfl) ?_
  refine wpR_nil ?_
  refine wpC_seq ?_
  refine wpC_seq ?_
  refine wpC_cut (fun ρ => ρ 1 = (Value.int .i64 p1) ∧ ρ 2 = (Value.pointer (some (Addr.mk b9 0 none))) ∧ True) ⟨e1, rfl, trivial⟩ ?_
  rintro ρ ⟨e1, e2, -⟩
  refine wpC_region ?_
  obtain ⟨x10, q10, x11, q11, x12, q12, x13, q13, x14, q14, x15, q15, x16, q16, x17, q17, x18, q18, x19, q19, x20, q20, x21, q21, x22, q22, x23, q23, x24, q24, x25, q25, x26, q26, x27, q27, x28, q28, x29, q29, x30, q30, x31, q31, h⟩ := h
  refine wpR_val (v := (V23 x10 x11 x12 x13 x14 x15 x16 x17 x18 x19 x20 x21 x22 x23 x24 x25 x26 x27 x28 x29 x30 x31)) (w' := w1) rfl rfl rfl (x_loadN (S23 x10 x11 x12 x13 x14 x15 x16 x17 x18 x19 x20 x21 x22 x23 x24 x25 x26 x27 x28 x29 x30 x31) rfl e2 SH_24 (K23 ⟨q10, q11, q12, q13, q14, q15, q16, q17, q18, q19, q20, q21, q22, q23, q24, q25, q26, q27, q28, q29, q30, q31⟩)) ?_
  refine wpR_enter rfl rfl rfl (x_call (vs := [(V23 x10 x11 x12 x13 x14 x15 x16 x17 x18 x19 x20 x21 x22 x23 x24 x25 x26 x27 x28 x29 x30 x31)]) rfl rfl (mapl_cons rfl mapl_nil) Try.func23 NN_23 NB_23) (Calls.mono h ?_)
  rintro _ w2 ⟨r32, rfl, h⟩
  refine ⟨_, rfl, ?_⟩
  refine wpR_val (v := (Value.bool (!decide (r32 = 0)))) (w' := w2) rfl rfl rfl (x_neq rfl rfl rfl) ?_
  refine wpR_val (v := (Value.bool (!decide (r32 = 0)))) (w' := w2) rfl rfl rfl (x_move (v := (Value.bool (!decide (r32 = 0)))) rfl rfl) ?_
  refine wpR_joinJ 3 (fun (_ : Unit) ρ => ρ 13 = Value.bool ((!decide (r32 = 0)) || (decide (p1 < 0))) ∧ ρ 1 = (Value.int .i64 p1) ∧ ρ 2 = (Value.pointer (some (Addr.mk b9 0 none))) ∧ True) (fun _ w => w2 = w) ?_ ?_
  · clear h
    rcases Bool.eq_false_or_eq_true (!decide (r32 = 0)) with hc34 | hc34
    · skip
      refine wpR_pass (wantN rfl rfl rfl hc34) rfl rfl ?_
      refine wpR_pass (wantN rfl rfl rfl hc34) rfl rfl ?_
      refine wpR_val (v := (Value.bool true)) (w' := w2) rfl rfl rfl (x_pickT (v := (Value.bool true)) rfl rfl hc34 rfl) ?_
      refine wpR_nil ?_
      exact ⟨(), ⟨(by rw [hc34]; rfl), e1, e2, trivial⟩, rfl⟩
    · skip
      refine wpR_val (v := (Value.int .i64 p1)) (w' := w2) (wantG rfl rfl rfl hc34) rfl rfl (x_move (v := (Value.int .i64 p1)) rfl e1) ?_
      refine wpR_val (v := (Value.bool (decide (p1 < 0)))) (w' := w2) (wantG rfl rfl rfl hc34) rfl rfl (x_lss rfl rfl rfl) ?_
      refine wpR_val (v := (Value.bool (decide (p1 < 0)))) (w' := w2) rfl rfl rfl (x_pickF (v := (Value.bool (decide (p1 < 0)))) rfl rfl hc34 rfl) ?_
      refine wpR_nil ?_
      exact ⟨(), ⟨(by rw [hc34]; rfl), e1, e2, trivial⟩, rfl⟩
  rintro _ ρ wj ⟨e13, e1, e2, -⟩ rfl
  refine wpR_val (v := (Value.bool ((!decide (r32 = 0)) || (decide (p1 < 0))))) (w' := w2) rfl rfl rfl (x_move (v := (Value.bool ((!decide (r32 = 0)) || (decide (p1 < 0))))) rfl e13) ?_
  refine wpR_joinJ 3 (fun (_ : Unit) ρ => ρ 17 = Value.bool (((!decide (r32 = 0)) || (decide (p1 < 0))) || (decide (1073741824 < p1))) ∧ ρ 1 = (Value.int .i64 p1) ∧ ρ 2 = (Value.pointer (some (Addr.mk b9 0 none))) ∧ True) (fun _ w => w2 = w) ?_ ?_
  · clear h
    rcases Bool.eq_false_or_eq_true ((!decide (r32 = 0)) || (decide (p1 < 0))) with hc36 | hc36
    · skip
      refine wpR_pass (wantN rfl rfl rfl hc36) rfl rfl ?_
      refine wpR_pass (wantN rfl rfl rfl hc36) rfl rfl ?_
      refine wpR_val (v := (Value.bool true)) (w' := w2) rfl rfl rfl (x_pickT (v := (Value.bool true)) rfl rfl hc36 rfl) ?_
      refine wpR_nil ?_
      exact ⟨(), ⟨(by rw [hc36]; rfl), e1, e2, trivial⟩, rfl⟩
    · skip
      refine wpR_val (v := (Value.int .i64 p1)) (w' := w2) (wantG rfl rfl rfl hc36) rfl rfl (x_move (v := (Value.int .i64 p1)) rfl e1) ?_
      refine wpR_val (v := (Value.bool (decide (1073741824 < p1)))) (w' := w2) (wantG rfl rfl rfl hc36) rfl rfl (x_gtr rfl rfl rfl) ?_
      refine wpR_val (v := (Value.bool (decide (1073741824 < p1)))) (w' := w2) rfl rfl rfl (x_pickF (v := (Value.bool (decide (1073741824 < p1)))) rfl rfl hc36 rfl) ?_
      refine wpR_nil ?_
      exact ⟨(), ⟨(by rw [hc36]; rfl), e1, e2, trivial⟩, rfl⟩
  rintro _ ρ wj ⟨e17, e1, e2, -⟩ rfl
  refine wpR_nil ?_
  refine wpC_cond (b := ((!decide (r32 = 0)) || (decide (p1 < 0))) || (decide (1073741824 < p1))) e17 (fun hc37 => ?_) (fun hc37 => ?_)
  · replace h := h.1 hc37
    refine wpC_seq ?_
    refine wpC_region ?_
    refine wpR_val (v := (Value.int .i64 0)) (w' := w2) rfl rfl rfl (x_assign (v := (Value.int .i64 0)) rfl rfl) ?_
    refine wpR_val (v := (Value.int .i64 1)) (w' := w2) rfl rfl rfl (x_assign (v := (Value.int .i64 1)) rfl rfl) ?_
    refine wpR_nil ?_
    refine wpC_ret ?_
    exact ⟨.inl rfl, fun a ha => ⟨_, results_rep2 rfl ha rfl rfl, (0, 1), rfl, h⟩⟩
  · replace h := h.2 hc37
    refine wpC_skip ?_
    refine wpC_seq ?_
    refine wpC_region ?_
    refine wpR_val (v := (Value.int .i64 0)) (w' := w2) rfl rfl rfl (x_assign (v := (Value.int .i64 0)) rfl rfl) ?_
    refine wpR_nil ?_
    obtain ⟨J38, h, hk⟩ := h
    refine wpC_seqJ (fun (x : Int) ρ => ρ 6 = (Value.int .i64 x) ∧ ρ 1 = (Value.int .i64 p1) ∧ ρ 2 = (Value.pointer (some (Addr.mk b9 0 none))) ∧ True) J38 ?_ ?_
    · clear hk
      refine wpC_seq ?_
      refine wpC_cut (fun ρ => ρ 1 = (Value.int .i64 p1) ∧ ρ 2 = (Value.pointer (some (Addr.mk b9 0 none))) ∧ ρ 6 = (Value.int .i64 0) ∧ True) ⟨e1, e2, rfl, trivial⟩ ?_
      rintro ρ ⟨e1, e2, e6, -⟩
      refine wpC_region ?_
      refine wpR_val (v := (Value.pointer (some ((Addr.mk b9 0 none).add 19)))) (w' := w2) rfl rfl rfl (x_fieldAddr rfl e2 FA_24_19) ?_
      obtain ⟨x40, q40, h⟩ := h
      refine wpR_val (v := (Value.int .i64 x40)) (w' := w2) rfl rfl rfl (x_load1 rfl rfl SH_3 q40) ?_
      refine wpR_val (v := (Value.bool (decide (0 < x40)))) (w' := w2) rfl rfl rfl (x_gtr rfl rfl rfl) ?_
      refine wpR_nil ?_
      refine wpC_cond (b := decide (0 < x40)) rfl (fun hc41 => ?_) (fun hc41 => ?_)
      · replace h := h.1 hc41
        refine wpC_cut (fun ρ => ρ 1 = (Value.int .i64 p1) ∧ ρ 2 = (Value.pointer (some (Addr.mk b9 0 none))) ∧ True) ⟨e1, e2, trivial⟩ ?_
        rintro ρ ⟨e1, e2, -⟩
        obtain ⟨J43, h, hk⟩ := h
        refine wpC_drawJ (by kernel_rfl) (fun (x : Int) ρ => ρ 6 = (Value.int .i64 x) ∧ ρ 1 = (Value.int .i64 p1) ∧ ρ 2 = (Value.pointer (some (Addr.mk b9 0 none))) ∧ True) J43 ?_ ?_
        · clear hk
          unfold tk at h
          generalize w2.drew = w4 at h ⊢
          refine wpD_take (v := (Value.int .i64 p1)) 0 (fun _ => True) rfl (by kernel_rfl) (by kernel_rfl) (by kernel_rfl) rfl rfl rfl trivial (fun w _ => (x_move (v := (Value.int .i64 p1)) rfl e1)) ?_
          refine wpD_take (v := (Value.pointer (some ((Addr.mk b9 0 none).add 20)))) 1 (fun _ => True) rfl (by kernel_rfl) (by kernel_rfl) (by kernel_rfl) rfl rfl rfl trivial (fun w _ => (x_fieldAddr rfl e2 FA_24_20)) ?_
          obtain ⟨x44, q44, h⟩ := h
          refine wpD_take (v := (Value.int .i64 x44)) 2 (fun w => w.cell? ((Addr.mk b9 0 none).add 20) = some (Value.int .i64 x44)) rfl (by kernel_rfl) (by kernel_rfl) (by kernel_rfl) rfl rfl rfl q44 (fun w q44 => (x_load1 rfl rfl SH_3 q44)) ?_
          obtain ⟨q45, h⟩ := h
          refine wpD_take (v := (Value.int .i64 (IntKind.i64.wrap (p1.tdiv x44)))) 3 (fun _ => True) rfl (by kernel_rfl) (by kernel_rfl) (by kernel_rfl) rfl rfl rfl trivial (fun w _ => (x_quo rfl rfl rfl q45)) ?_
          refine wpD_take (v := (Value.pointer (some ((Addr.mk b9 0 none).add 19)))) 4 (fun _ => True) rfl (by kernel_rfl) (by kernel_rfl) (by kernel_rfl) rfl rfl rfl trivial (fun w _ => (x_fieldAddr rfl e2 FA_24_19)) ?_
          obtain ⟨x46, q46, h⟩ := h
          refine wpD_take (v := (Value.int .i64 x46)) 5 (fun w => w.cell? ((Addr.mk b9 0 none).add 19) = some (Value.int .i64 x46)) rfl (by kernel_rfl) (by kernel_rfl) (by kernel_rfl) rfl rfl rfl q46 (fun w q46 => (x_load1 rfl rfl SH_3 q46)) ?_
          refine wpD_take (v := (Value.int .i64 (IntKind.i64.wrap ((IntKind.i64.wrap (p1.tdiv x44)) * x46)))) 6 (fun _ => True) rfl (by kernel_rfl) (by kernel_rfl) (by kernel_rfl) rfl rfl rfl trivial (fun w _ => (x_mul rfl rfl rfl)) ?_
          refine wpD_take (v := (Value.int .i64 p1)) 7 (fun _ => True) rfl (by kernel_rfl) (by kernel_rfl) (by kernel_rfl) rfl rfl rfl trivial (fun w _ => (x_move (v := (Value.int .i64 p1)) rfl e1)) ?_
          refine wpD_take (v := (Value.pointer (some ((Addr.mk b9 0 none).add 20)))) 8 (fun _ => True) rfl (by kernel_rfl) (by kernel_rfl) (by kernel_rfl) rfl rfl rfl trivial (fun w _ => (x_fieldAddr rfl e2 FA_24_20)) ?_
          obtain ⟨x47, q47, h⟩ := h
          refine wpD_take (v := (Value.int .i64 x47)) 9 (fun w => w.cell? ((Addr.mk b9 0 none).add 20) = some (Value.int .i64 x47)) rfl (by kernel_rfl) (by kernel_rfl) (by kernel_rfl) rfl rfl rfl q47 (fun w q47 => (x_load1 rfl rfl SH_3 q47)) ?_
          obtain ⟨q48, h⟩ := h
          refine wpD_take (v := (Value.int .i64 (p1.tmod x47))) 10 (fun _ => True) rfl (by kernel_rfl) (by kernel_rfl) (by kernel_rfl) rfl rfl rfl trivial (fun w _ => (x_rem rfl rfl rfl q48)) ?_
          refine wpD_take (v := (Value.pointer (some ((Addr.mk b9 0 none).add 19)))) 11 (fun _ => True) rfl (by kernel_rfl) (by kernel_rfl) (by kernel_rfl) rfl rfl rfl trivial (fun w _ => (x_fieldAddr rfl e2 FA_24_19)) ?_
          obtain ⟨x49, q49, h⟩ := h
          refine wpD_take (v := (Value.int .i64 x49)) 12 (fun w => w.cell? ((Addr.mk b9 0 none).add 19) = some (Value.int .i64 x49)) rfl (by kernel_rfl) (by kernel_rfl) (by kernel_rfl) rfl rfl rfl q49 (fun w q49 => (x_load1 rfl rfl SH_3 q49)) ?_
          refine wpD_take (v := (Value.int .i64 (min (p1.tmod x47) x49))) 13 (fun _ => True) rfl (by kernel_rfl) (by kernel_rfl) (by kernel_rfl) rfl rfl rfl trivial (fun w _ => (x_min rfl rfl rfl)) ?_
          refine wpD_take (v := (Value.int .i64 (IntKind.i64.wrap ((IntKind.i64.wrap ((IntKind.i64.wrap (p1.tdiv x44)) * x46)) + (min (p1.tmod x47) x49))))) 14 (fun _ => True) rfl (by kernel_rfl) (by kernel_rfl) (by kernel_rfl) rfl rfl rfl trivial (fun w _ => (x_add rfl rfl rfl)) ?_
          refine wpD_take (v := (Value.int .i64 (IntKind.i64.wrap ((IntKind.i64.wrap ((IntKind.i64.wrap (p1.tdiv x44)) * x46)) + (min (p1.tmod x47) x49))))) 15 (fun _ => True) rfl (by kernel_rfl) (by kernel_rfl) (by kernel_rfl) rfl rfl rfl trivial (fun w _ => (x_assign (v := (Value.int .i64 (IntKind.i64.wrap ((IntKind.i64.wrap ((IntKind.i64.wrap (p1.tdiv x44)) * x46)) + (min (p1.tmod x47) x49))))) rfl rfl)) ?_
          exact wpD_done (by kernel_rfl) ⟨IntKind.i64.wrap ((IntKind.i64.wrap ((IntKind.i64.wrap (p1.tdiv x44)) * x46)) + (min (p1.tmod x47) x49)), ⟨rfl, e1, e2, trivial⟩, h⟩
        clear h
        rintro l50 ρ w5 ⟨e6, e1, e2, -⟩ h
        replace h := hk l50 w5 h
        clear hk
        exact ⟨l50, ⟨e6, e1, e2, trivial⟩, h⟩
      · replace h := h.2 hc41
        refine wpC_skip ?_
        exact ⟨0, ⟨e6, e1, e2, trivial⟩, h⟩
    clear h
    rintro l39 ρ w3 ⟨e6, e1, e2, -⟩ h
    replace h := hk l39 w3 h
    clear hk
    refine wpC_seq ?_
    refine wpC_region ?_
    obtain ⟨x51, q51, x52, q52, x53, q53, x54, q54, x55, q55, x56, q56, x57, q57, x58, q58, x59, q59, x60, q60, x61, q61, x62, q62, x63, q63, x64, q64, x65, q65, x66, q66, x67, q67, x68, q68, x69, q69, x70, q70, x71, q71, x72, q72, h⟩ := h
    refine wpR_val (v := (V23 x51 x52 x53 x54 x55 x56 x57 x58 x59 x60 x61 x62 x63 x64 x65 x66 x67 x68 x69 x70 x71 x72)) (w' := w3) rfl rfl rfl (x_loadN (S23 x51 x52 x53 x54 x55 x56 x57 x58 x59 x60 x61 x62 x63 x64 x65 x66 x67 x68 x69 x70 x71 x72) rfl e2 SH_24 (K23 ⟨q51, q52, q53, q54, q55, q56, q57, q58, q59, q60, q61, q62, q63, q64, q65, q66, q67, q68, q69, q70, q71, q72⟩)) ?_
    refine wpR_val (v := (Value.int .i64 p1)) (w' := w3) rfl rfl rfl (x_move (v := (Value.int .i64 p1)) rfl e1) ?_
    refine wpR_val (v := (Value.int .i64 l39)) (w' := w3) rfl rfl rfl (x_move (v := (Value.int .i64 l39)) rfl e6) ?_
    refine wpR_val (v := (Value.int .i64 (IntKind.i64.wrap (p1 - l39)))) (w' := w3) rfl rfl rfl (x_sub rfl rfl rfl) ?_
    refine wpR_enter rfl rfl rfl (x_call (vs := [(V23 x51 x52 x53 x54 x55 x56 x57 x58 x59 x60 x61 x62 x63 x64 x65 x66 x67 x68 x69 x70 x71 x72), (Value.int .i64 (IntKind.i64.wrap (p1 - l39)))]) rfl rfl (mapl_cons rfl (mapl_cons rfl mapl_nil)) Try.func94 NN_94 NB_94) (Calls.mono h ?_)
    rintro _ w6 ⟨r73, rfl, h⟩
    refine ⟨_, rfl, ?_⟩
    refine wpR_val (v := (Value.int .i64 r73.1)) (w' := w6) rfl rfl rfl (x_extract rfl rfl rfl) ?_
    refine wpR_val (v := (Value.int .i64 r73.2)) (w' := w6) rfl rfl rfl (x_extract rfl rfl rfl) ?_
    refine wpR_val (v := (Value.int .i64 r73.1)) (w' := w6) rfl rfl rfl (x_assign (v := (Value.int .i64 r73.1)) rfl rfl) ?_
    refine wpR_val (v := (Value.int .i64 r73.2)) (w' := w6) rfl rfl rfl (x_assign (v := (Value.int .i64 r73.2)) rfl rfl) ?_
    refine wpR_nil ?_
    refine wpC_ret ?_
    exact ⟨.inl rfl, fun a ha => ⟨_, results_rep2 rfl ha rfl rfl, (r73.1, r73.2), rfl, h⟩⟩

/-- lex.letter -/
def F75 (p0 : Int) (w0 : World) (K : Bool → World → Prop) : Prop :=
  K ((decide (97 ≤ p0)) && (decide (p0 ≤ 122))) w0
set_option maxRecDepth 100000 in
theorem D75 (p0 : Int) (w0 : World) (K : Bool → World → Prop) (h : F75 p0 w0 K) : callC Try.prog 75 #[(Value.int .u8 p0)] (fun (r : Bool) => (Value.bool r)) w0 K := by
  unfold F75 at h
  refine calls_of_wpC Try.func75 rfl 9 rfl (by simp) ?_
  intro ρ hρ
  have e0 : ρ 0 = (Value.int .u8 p0) := hρ 0
  clear hρ
  refine wpC_seq ?_
  refine wpC_region ?_
  refine wpR_val (v := (Value.bool false)) (w' := w0) rfl rfl rfl (x_assign (v := (Value.bool false)) rfl rfl) ?_
  refine wpR_nil ?_
  refine wpC_seq ?_
  refine wpC_cut (fun ρ => ρ 0 = (Value.int .u8 p0) ∧ True) ⟨e0, trivial⟩ ?_
  rintro ρ ⟨e0, -⟩
  refine wpC_region ?_
  refine wpR_val (v := (Value.int .u8 p0)) (w' := w0) rfl rfl rfl (x_move (v := (Value.int .u8 p0)) rfl e0) ?_
  refine wpR_val (v := (Value.bool (decide (97 ≤ p0)))) (w' := w0) rfl rfl rfl (x_geq rfl rfl rfl) ?_
  refine wpR_val (v := (Value.bool (decide (97 ≤ p0)))) (w' := w0) rfl rfl rfl (x_move (v := (Value.bool (decide (97 ≤ p0)))) rfl rfl) ?_
  refine wpR_joinJ 3 (fun (_ : Unit) ρ => ρ 8 = Value.bool ((decide (97 ≤ p0)) && (decide (p0 ≤ 122))) ∧ True) (fun _ w => w0 = w) ?_ ?_
  · clear h
    rcases Bool.eq_false_or_eq_true (decide (97 ≤ p0)) with hc10 | hc10
    · skip
      refine wpR_val (v := (Value.int .u8 p0)) (w' := w0) (wantG rfl rfl rfl hc10) rfl rfl (x_move (v := (Value.int .u8 p0)) rfl e0) ?_
      refine wpR_val (v := (Value.bool (decide (p0 ≤ 122)))) (w' := w0) (wantG rfl rfl rfl hc10) rfl rfl (x_leq rfl rfl rfl) ?_
      refine wpR_val (v := (Value.bool (decide (p0 ≤ 122)))) (w' := w0) rfl rfl rfl (x_pickT (v := (Value.bool (decide (p0 ≤ 122)))) rfl rfl hc10 rfl) ?_
      refine wpR_nil ?_
      exact ⟨(), ⟨(by rw [hc10]; rfl), trivial⟩, rfl⟩
    · skip
      refine wpR_pass (wantN rfl rfl rfl hc10) rfl rfl ?_
      refine wpR_pass (wantN rfl rfl rfl hc10) rfl rfl ?_
      refine wpR_val (v := (Value.bool false)) (w' := w0) rfl rfl rfl (x_pickF (v := (Value.bool false)) rfl rfl hc10 rfl) ?_
      refine wpR_nil ?_
      exact ⟨(), ⟨(by rw [hc10]; rfl), trivial⟩, rfl⟩
  rintro _ ρ wj ⟨e8, -⟩ rfl
  refine wpR_val (v := (Value.bool ((decide (97 ≤ p0)) && (decide (p0 ≤ 122))))) (w' := w0) rfl rfl rfl (x_assign (v := (Value.bool ((decide (97 ≤ p0)) && (decide (p0 ≤ 122))))) rfl e8) ?_
  refine wpR_nil ?_
  refine wpC_ret ?_
  exact ⟨.inl rfl, fun a ha => ⟨_, results_rep1 rfl ha rfl, (decide (97 ≤ p0)) && (decide (p0 ≤ 122)), rfl, h⟩⟩

/-- lex.span -/
def F76 (p0 : ByteArray) (p1 : Value) (w0 : World) (K : Int → World → Prop) : Prop :=
  lp (fun (next9 : Int → World → Prop) l9 w1 =>
    jn (fun J10 => cnd (decide (l9 < (p0.size : Int)))
      (
      rn Try.prog (Instr.index 9 (Value.string p0) (Value.int .i64 l9)) (fun (r : Int) => (Value.int .u8 r)) w1 fun r12 w2 =>
      cv Try.prog p1 [(Value.int .u8 r12)] (fun (r : Bool) => (Value.bool r)) w2 fun r13 w3 =>
      J10 r13 w3
      )
      (
      J10 false w1
      ))
    fun c14 w4 =>
    cnd (c14)
      (
      next9 (IntKind.i64.wrap (l9 + 1)) w4
      )
      (
      K l9 w4
      )
  ) 0 w0
set_option maxRecDepth 100000 in
theorem D76 (p0 : ByteArray) (p1 : Value) (w0 : World) (K : Int → World → Prop) (h : F76 p0 p1 w0 K) : callC Try.prog 76 #[(Value.string p0), p1] (fun (r : Int) => (Value.int .i64 r)) w0 K := by
  unfold F76 at h
  refine calls_of_wpC Try.func76 rfl 20 rfl (by simp) ?_
  intro ρ hρ
  have e0 : ρ 0 = (Value.string p0) := hρ 0
  have e1 : ρ 1 = p1 := hρ 1
  clear hρ
  refine wpC_seq ?_
  refine wpC_region ?_
  refine wpR_val (v := (Value.int .i64 0)) (w' := w0) rfl rfl rfl (x_assign (v := (Value.int .i64 0)) rfl rfl) ?_
  refine wpR_nil ?_
  refine wpC_seq ?_
  refine wpC_cut (fun ρ => ρ 0 = (Value.string p0) ∧ ρ 1 = p1 ∧ True) ⟨e0, e1, trivial⟩ ?_
  rintro ρ ⟨e0, e1, -⟩
  refine wpC_region ?_
  refine wpR_val (v := (Value.int .i64 0)) (w' := w0) rfl rfl rfl (x_assign (v := (Value.int .i64 0)) rfl rfl) ?_
  refine wpR_nil ?_
  refine wpC_seq ?_
  refine wpC_block ?_
  obtain ⟨I9, μ9, hI9, hr9⟩ := h
  refine wpC_loop (fun (x : Int) ρ => ρ 5 = (Value.int .i64 x) ∧ ρ 0 = (Value.string p0) ∧ ρ 1 = p1 ∧ True) I9 μ9 0 ⟨rfl, e0, e1, trivial⟩ hI9 ?_
  rintro l9 ρ w1 ⟨e5, e0, e1, -⟩ h
  replace h := hr9 l9 w1 h
  clear hr9 hI9
  refine wpC_seq ?_
  refine wpC_seq ?_
  refine wpC_region ?_
  refine wpR_val (v := (Value.int .i64 l9)) (w' := w1) rfl rfl rfl (x_move (v := (Value.int .i64 l9)) rfl e5) ?_
  refine wpR_val (v := (Value.string p0)) (w' := w1) rfl rfl rfl (x_move (v := (Value.string p0)) rfl e0) ?_
  refine wpR_val (v := (Value.int .i64 (p0.size : Int))) (w' := w1) rfl rfl rfl (x_lenStr rfl rfl isStrT_9) ?_
  refine wpR_val (v := (Value.bool (decide (l9 < (p0.size : Int))))) (w' := w1) rfl rfl rfl (x_lss rfl rfl rfl) ?_
  refine wpR_val (v := (Value.bool (decide (l9 < (p0.size : Int))))) (w' := w1) rfl rfl rfl (x_move (v := (Value.bool (decide (l9 < (p0.size : Int))))) rfl rfl) ?_
  obtain ⟨J10, h, hk⟩ := h
  refine wpR_joinJ 6 (fun x ρ => ρ 16 = Value.bool x ∧ ρ 0 = (Value.string p0) ∧ ρ 1 = p1 ∧ ρ 5 = (Value.int .i64 l9) ∧ True) (J10) ?_ ?_
  · clear hk
    rcases Bool.eq_false_or_eq_true (decide (l9 < (p0.size : Int))) with hc11 | hc11
    · replace h := h.1 hc11
      refine wpR_val (v := p1) (w' := w1) (wantG rfl rfl rfl hc11) rfl rfl (x_move (v := p1) rfl e1) ?_
      refine wpR_val (v := (Value.string p0)) (w' := w1) (wantG rfl rfl rfl hc11) rfl rfl (x_move (v := (Value.string p0)) rfl e0) ?_
      refine wpR_val (v := (Value.int .i64 l9)) (w' := w1) (wantG rfl rfl rfl hc11) rfl rfl (x_move (v := (Value.int .i64 l9)) rfl e5) ?_
      obtain ⟨r12, w2, q12, h⟩ := h
      refine wpR_val (v := (Value.int .u8 r12)) (w' := w2) (wantG rfl rfl rfl hc11) rfl rfl (x_index rfl rfl rfl q12) ?_
      obtain ⟨f13, fi13, ca13, fn13, qv13, qf13, qn13, qb13, h⟩ := h
      refine wpR_enter (wantG rfl rfl rfl hc11) rfl rfl (x_callv (vs := [(Value.int .u8 r12)]) rfl ((show _ = p1 from rfl).trans qv13) (mapl_cons rfl mapl_nil) qf13 qn13 qb13) (Calls.mono h ?_)
      rintro _ w3 ⟨r13, rfl, h⟩
      refine ⟨_, rfl, ?_⟩
      refine wpR_val (v := (Value.bool r13)) (w' := w3) rfl rfl rfl (x_pickT (v := (Value.bool r13)) rfl rfl hc11 rfl) ?_
      refine wpR_nil ?_
      exact ⟨r13, ⟨rfl, e0, e1, e5, trivial⟩, h⟩
    · replace h := h.2 hc11
      refine wpR_pass (wantN rfl rfl rfl hc11) rfl rfl ?_
      refine wpR_pass (wantN rfl rfl rfl hc11) rfl rfl ?_
      refine wpR_pass (wantN rfl rfl rfl hc11) rfl rfl ?_
      refine wpR_pass (wantN rfl rfl rfl hc11) rfl rfl ?_
      refine wpR_pass (wantN rfl rfl rfl hc11) rfl rfl ?_
      refine wpR_val (v := (Value.bool false)) (w' := w1) rfl rfl rfl (x_pickF (v := (Value.bool false)) rfl rfl hc11 rfl) ?_
      refine wpR_nil ?_
      exact ⟨false, ⟨rfl, e0, e1, e5, trivial⟩, h⟩
  clear h
  rintro c14 ρ w4 ⟨e16, e0, e1, e5, -⟩ h
  replace h := hk c14 w4 h
  clear hk
  refine wpR_nil ?_
  refine wpC_cond (b := c14) e16 (fun hc15 => ?_) (fun hc15 => ?_)
  · replace h := h.1 hc15
    refine wpC_skip ?_
    refine wpC_block ?_
    refine wpC_region ?_
    refine wpR_val (v := (Value.int .i64 l9)) (w' := w4) rfl rfl rfl (x_move (v := (Value.int .i64 l9)) rfl e5) ?_
    refine wpR_val (v := (Value.int .i64 (IntKind.i64.wrap (l9 + 1)))) (w' := w4) rfl rfl rfl (x_add rfl rfl rfl) ?_
    refine wpR_val (v := (Value.int .i64 (IntKind.i64.wrap (l9 + 1)))) (w' := w4) rfl rfl rfl (x_assign (v := (Value.int .i64 (IntKind.i64.wrap (l9 + 1)))) rfl rfl) ?_
    refine wpR_nil ?_
    exact ⟨IntKind.i64.wrap (l9 + 1), ⟨rfl, e0, e1, trivial⟩, h⟩
  · replace h := h.2 hc15
    refine wpC_exit ?_
    refine wpC_seq ?_
    refine wpC_region ?_
    refine wpR_val (v := (Value.int .i64 l9)) (w' := w4) rfl rfl rfl (x_move (v := (Value.int .i64 l9)) rfl e5) ?_
    refine wpR_val (v := (Value.int .i64 l9)) (w' := w4) rfl rfl rfl (x_assign (v := (Value.int .i64 l9)) rfl rfl) ?_
    refine wpR_nil ?_
    refine wpC_ret ?_
    exact ⟨.inl rfl, fun a ha => ⟨_, results_rep1 rfl ha rfl, l9, rfl, h⟩⟩

/-- lex.Word$1 -/
def F77 (p0 : Int) (w0 : World) (K : Bool → World → Prop) : Prop :=
  callC Try.prog 75 #[(Value.int .u8 p0)] (fun (r : Bool) => (Value.bool r)) w0 fun r9 w1 =>
  jn (fun J10 => cnd (r9)
    (
    J10 true w1
    )
    (
    callC Try.prog 78 #[(Value.int .u8 p0)] (fun (r : Bool) => (Value.bool r)) w1 fun r12 w2 =>
    J10 r12 w2
    ))
  fun c13 w3 =>
  K c13 w3
set_option maxRecDepth 100000 in
theorem D77 (p0 : Int) (w0 : World) (K : Bool → World → Prop) (h : F77 p0 w0 K) : callC Try.prog 77 #[(Value.int .u8 p0)] (fun (r : Bool) => (Value.bool r)) w0 K := by
  unfold F77 at h
  refine calls_of_wpC Try.func77 rfl 9 rfl (by simp) ?_
  intro ρ hρ
  have e0 : ρ 0 = (Value.int .u8 p0) := hρ 0
  clear hρ
  refine wpC_seq ?_
  refine wpC_region ?_
  refine wpR_val (v := (Value.bool false)) (w' := w0) rfl rfl rfl (x_assign (v := (Value.bool false)) rfl rfl) ?_
  refine wpR_nil ?_
  refine wpC_seq ?_
  refine wpC_cut (fun ρ => ρ 0 = (Value.int .u8 p0) ∧ True) ⟨e0, trivial⟩ ?_
  rintro ρ ⟨e0, -⟩
  refine wpC_region ?_
  refine wpR_val (v := (Value.int .u8 p0)) (w' := w0) rfl rfl rfl (x_move (v := (Value.int .u8 p0)) rfl e0) ?_
  refine wpR_enter rfl rfl rfl (x_call (vs := [(Value.int .u8 p0)]) rfl rfl (mapl_cons rfl mapl_nil) Try.func75 NN_75 NB_75) (Calls.mono h ?_)
  rintro _ w1 ⟨r9, rfl, h⟩
  refine ⟨_, rfl, ?_⟩
  refine wpR_val (v := (Value.bool r9)) (w' := w1) rfl rfl rfl (x_move (v := (Value.bool r9)) rfl rfl) ?_
  obtain ⟨J10, h, hk⟩ := h
  refine wpR_joinJ 3 (fun x ρ => ρ 8 = Value.bool x ∧ True) (J10) ?_ ?_
  · clear hk
    rcases Bool.eq_false_or_eq_true (r9) with hc11 | hc11
    · replace h := h.1 hc11
      refine wpR_pass (wantN rfl rfl rfl hc11) rfl rfl ?_
      refine wpR_pass (wantN rfl rfl rfl hc11) rfl rfl ?_
      refine wpR_val (v := (Value.bool true)) (w' := w1) rfl rfl rfl (x_pickT (v := (Value.bool true)) rfl rfl hc11 rfl) ?_
      refine wpR_nil ?_
      exact ⟨true, ⟨rfl, trivial⟩, h⟩
    · replace h := h.2 hc11
      refine wpR_val (v := (Value.int .u8 p0)) (w' := w1) (wantG rfl rfl rfl hc11) rfl rfl (x_move (v := (Value.int .u8 p0)) rfl e0) ?_
      refine wpR_enter (wantG rfl rfl rfl hc11) rfl rfl (x_call (vs := [(Value.int .u8 p0)]) rfl rfl (mapl_cons rfl mapl_nil) Try.func78 NN_78 NB_78) (Calls.mono h ?_)
      rintro _ w2 ⟨r12, rfl, h⟩
      refine ⟨_, rfl, ?_⟩
      refine wpR_val (v := (Value.bool r12)) (w' := w2) rfl rfl rfl (x_pickF (v := (Value.bool r12)) rfl rfl hc11 rfl) ?_
      refine wpR_nil ?_
      exact ⟨r12, ⟨rfl, trivial⟩, h⟩
  clear h
  rintro c13 ρ w3 ⟨e8, -⟩ h
  replace h := hk c13 w3 h
  clear hk
  refine wpR_val (v := (Value.bool c13)) (w' := w3) rfl rfl rfl (x_assign (v := (Value.bool c13)) rfl e8) ?_
  refine wpR_nil ?_
  refine wpC_ret ?_
  exact ⟨.inl rfl, fun a ha => ⟨_, results_rep1 rfl ha rfl, c13, rfl, h⟩⟩

/-- lex.digit -/
def F78 (p0 : Int) (w0 : World) (K : Bool → World → Prop) : Prop :=
  K ((decide (48 ≤ p0)) && (decide (p0 ≤ 57))) w0
set_option maxRecDepth 100000 in
theorem D78 (p0 : Int) (w0 : World) (K : Bool → World → Prop) (h : F78 p0 w0 K) : callC Try.prog 78 #[(Value.int .u8 p0)] (fun (r : Bool) => (Value.bool r)) w0 K := by
  unfold F78 at h
  refine calls_of_wpC Try.func78 rfl 9 rfl (by simp) ?_
  intro ρ hρ
  have e0 : ρ 0 = (Value.int .u8 p0) := hρ 0
  clear hρ
  refine wpC_seq ?_
  refine wpC_region ?_
  refine wpR_val (v := (Value.bool false)) (w' := w0) rfl rfl rfl (x_assign (v := (Value.bool false)) rfl rfl) ?_
  refine wpR_nil ?_
  refine wpC_seq ?_
  refine wpC_cut (fun ρ => ρ 0 = (Value.int .u8 p0) ∧ True) ⟨e0, trivial⟩ ?_
  rintro ρ ⟨e0, -⟩
  refine wpC_region ?_
  refine wpR_val (v := (Value.int .u8 p0)) (w' := w0) rfl rfl rfl (x_move (v := (Value.int .u8 p0)) rfl e0) ?_
  refine wpR_val (v := (Value.bool (decide (48 ≤ p0)))) (w' := w0) rfl rfl rfl (x_geq rfl rfl rfl) ?_
  refine wpR_val (v := (Value.bool (decide (48 ≤ p0)))) (w' := w0) rfl rfl rfl (x_move (v := (Value.bool (decide (48 ≤ p0)))) rfl rfl) ?_
  refine wpR_joinJ 3 (fun (_ : Unit) ρ => ρ 8 = Value.bool ((decide (48 ≤ p0)) && (decide (p0 ≤ 57))) ∧ True) (fun _ w => w0 = w) ?_ ?_
  · clear h
    rcases Bool.eq_false_or_eq_true (decide (48 ≤ p0)) with hc10 | hc10
    · skip
      refine wpR_val (v := (Value.int .u8 p0)) (w' := w0) (wantG rfl rfl rfl hc10) rfl rfl (x_move (v := (Value.int .u8 p0)) rfl e0) ?_
      refine wpR_val (v := (Value.bool (decide (p0 ≤ 57)))) (w' := w0) (wantG rfl rfl rfl hc10) rfl rfl (x_leq rfl rfl rfl) ?_
      refine wpR_val (v := (Value.bool (decide (p0 ≤ 57)))) (w' := w0) rfl rfl rfl (x_pickT (v := (Value.bool (decide (p0 ≤ 57)))) rfl rfl hc10 rfl) ?_
      refine wpR_nil ?_
      exact ⟨(), ⟨(by rw [hc10]; rfl), trivial⟩, rfl⟩
    · skip
      refine wpR_pass (wantN rfl rfl rfl hc10) rfl rfl ?_
      refine wpR_pass (wantN rfl rfl rfl hc10) rfl rfl ?_
      refine wpR_val (v := (Value.bool false)) (w' := w0) rfl rfl rfl (x_pickF (v := (Value.bool false)) rfl rfl hc10 rfl) ?_
      refine wpR_nil ?_
      exact ⟨(), ⟨(by rw [hc10]; rfl), trivial⟩, rfl⟩
  rintro _ ρ wj ⟨e8, -⟩ rfl
  refine wpR_val (v := (Value.bool ((decide (48 ≤ p0)) && (decide (p0 ≤ 57))))) (w' := w0) rfl rfl rfl (x_assign (v := (Value.bool ((decide (48 ≤ p0)) && (decide (p0 ≤ 57))))) rfl e8) ?_
  refine wpR_nil ?_
  refine wpC_ret ?_
  exact ⟨.inl rfl, fun a ha => ⟨_, results_rep1 rfl ha rfl, (decide (48 ≤ p0)) && (decide (p0 ≤ 57)), rfl, h⟩⟩

/-- slices.IndexFunc[[]string,string] -/
def F79 (p0 : Sl) (p1 : Value) (w0 : World) (K : Int → World → Prop) : Prop :=
  lp (fun (next9 : Int → World → Prop) l9 w1 =>
    cnd (decide (l9 < (p0.len : Int)))
      (
      ix p0 l9 1 fun p11 =>
      ld Value.string p11 w1 fun x12 =>
      cv Try.prog p1 [(Value.string x12)] (fun (r : Bool) => (Value.bool r)) w1 fun r13 w2 =>
      cnd (r13)
        (
        K l9 w2
        )
        (
        next9 (IntKind.i64.wrap (l9 + 1)) w2
        )
      )
      (
      K (-1) w1
      )
  ) 0 w0
set_option maxRecDepth 100000 in
theorem D79 (p0 : Sl) (p1 : Value) (w0 : World) (K : Int → World → Prop) (h : F79 p0 p1 w0 K) : callC Try.prog 79 #[(Sl.v p0), p1] (fun (r : Int) => (Value.int .i64 r)) w0 K := by
  unfold F79 at h
  refine calls_of_wpC Try.func79 rfl 19 rfl (by simp) ?_
  intro ρ hρ
  have e0 : ρ 0 = (Sl.v p0) := hρ 0
  have e1 : ρ 1 = p1 := hρ 1
  clear hρ
  refine wpC_seq ?_
  refine wpC_region ?_
  refine wpR_val (v := (Value.int .i64 0)) (w' := w0) rfl rfl rfl (x_assign (v := (Value.int .i64 0)) rfl rfl) ?_
  refine wpR_nil ?_
  refine wpC_seq ?_
  refine wpC_seq ?_
  refine wpC_cut (fun ρ => ρ 0 = (Sl.v p0) ∧ ρ 1 = p1 ∧ True) ⟨e0, e1, trivial⟩ ?_
  rintro ρ ⟨e0, e1, -⟩
  refine wpC_region ?_
  refine wpR_val (v := (Sl.v p0)) (w' := w0) rfl rfl rfl (x_move (v := (Sl.v p0)) rfl e0) ?_
  refine wpR_val (v := (Value.int .i64 (p0.len : Int))) (w' := w0) rfl rfl rfl (x_lenS (s := p0) rfl rfl isSliceT_22) ?_
  refine wpR_val (v := (Value.int .i64 0)) (w' := w0) rfl rfl rfl (x_move (v := (Value.int .i64 0)) rfl rfl) ?_
  refine wpR_nil ?_
  refine wpC_block ?_
  obtain ⟨I9, μ9, hI9, hr9⟩ := h
  refine wpC_loop (fun (x : Int) ρ => ρ 8 = (Value.int .i64 x) ∧ ρ 0 = (Sl.v p0) ∧ ρ 1 = p1 ∧ ρ 7 = (Value.int .i64 (p0.len : Int)) ∧ True) I9 μ9 0 ⟨rfl, e0, e1, rfl, trivial⟩ hI9 ?_
  rintro l9 ρ w1 ⟨e8, e0, e1, e7, -⟩ h
  replace h := hr9 l9 w1 h
  clear hr9 hI9
  refine wpC_seq ?_
  refine wpC_region ?_
  refine wpR_val (v := (Value.bool (decide (l9 < (p0.len : Int))))) (w' := w1) rfl rfl rfl (x_lss rfl e8 e7) ?_
  refine wpR_nil ?_
  refine wpC_seq ?_
  refine wpC_cond (b := decide (l9 < (p0.len : Int))) rfl (fun hc10 => ?_) (fun hc10 => ?_)
  · replace h := h.1 hc10
    refine wpC_skip ?_
    refine wpC_seq ?_
    refine wpC_block ?_
    refine wpC_seq ?_
    refine wpC_cut (fun ρ => ρ 0 = (Sl.v p0) ∧ ρ 1 = p1 ∧ ρ 7 = (Value.int .i64 (p0.len : Int)) ∧ ρ 8 = (Value.int .i64 l9) ∧ True) ⟨e0, e1, e7, e8, trivial⟩ ?_
    rintro ρ ⟨e0, e1, e7, e8, -⟩
    refine wpC_region ?_
    refine wpR_val (v := (Value.int .i64 l9)) (w' := w1) rfl rfl rfl (x_move (v := (Value.int .i64 l9)) rfl e8) ?_
    refine wpR_val (v := (Value.int .i64 l9)) (w' := w1) rfl rfl rfl (x_assign (v := (Value.int .i64 l9)) rfl rfl) ?_
    refine wpR_nil ?_
    refine wpC_seq ?_
    refine wpC_cut (fun ρ => ρ 0 = (Sl.v p0) ∧ ρ 1 = p1 ∧ ρ 5 = (Value.int .i64 l9) ∧ ρ 7 = (Value.int .i64 (p0.len : Int)) ∧ ρ 8 = (Value.int .i64 l9) ∧ True) ⟨e0, e1, rfl, e7, e8, trivial⟩ ?_
    rintro ρ ⟨e0, e1, e5, e7, e8, -⟩
    refine wpC_region ?_
    refine wpR_val (v := p1) (w' := w1) rfl rfl rfl (x_move (v := p1) rfl e1) ?_
    refine wpR_val (v := (Sl.v p0)) (w' := w1) rfl rfl rfl (x_move (v := (Sl.v p0)) rfl e0) ?_
    refine wpR_val (v := (Value.int .i64 l9)) (w' := w1) rfl rfl rfl (x_move (v := (Value.int .i64 l9)) rfl e5) ?_
    obtain ⟨q11, z11, r11, h⟩ := h
    generalize hp11 : z11.add ((l9 : Int).toNat * 1) = p11 at h
    refine wpR_val (v := (Value.pointer (some p11))) (w' := w1) rfl rfl rfl ((x_indexAddr (s := p0) rfl rfl rfl ES_22 q11 r11).trans (by rw [hp11])) ?_
    obtain ⟨x12, q12, h⟩ := h
    refine wpR_val (v := (Value.string x12)) (w' := w1) rfl rfl rfl (x_load1 rfl rfl SH_9 q12) ?_
    obtain ⟨f13, fi13, ca13, fn13, qv13, qf13, qn13, qb13, h⟩ := h
    refine wpR_enter rfl rfl rfl (x_callv (vs := [(Value.string x12)]) rfl ((show _ = p1 from rfl).trans qv13) (mapl_cons rfl mapl_nil) qf13 qn13 qb13) (Calls.mono h ?_)
    rintro _ w2 ⟨r13, rfl, h⟩
    refine ⟨_, rfl, ?_⟩
    refine wpR_nil ?_
    refine wpC_cond (b := r13) rfl (fun hc14 => ?_) (fun hc14 => ?_)
    · replace h := h.1 hc14
      refine wpC_seq ?_
      refine wpC_cut (fun ρ => ρ 5 = (Value.int .i64 l9) ∧ True) ⟨e5, trivial⟩ ?_
      rintro ρ ⟨e5, -⟩
      refine wpC_region ?_
      refine wpR_val (v := (Value.int .i64 l9)) (w' := w2) rfl rfl rfl (x_move (v := (Value.int .i64 l9)) rfl e5) ?_
      refine wpR_val (v := (Value.int .i64 l9)) (w' := w2) rfl rfl rfl (x_assign (v := (Value.int .i64 l9)) rfl rfl) ?_
      refine wpR_nil ?_
      refine wpC_ret ?_
      exact ⟨.inl rfl, fun a ha => ⟨_, results_rep1 rfl ha rfl, l9, rfl, h⟩⟩
    · replace h := h.2 hc14
      refine wpC_skip ?_
      refine wpC_cut (fun ρ => ρ 0 = (Sl.v p0) ∧ ρ 1 = p1 ∧ ρ 7 = (Value.int .i64 (p0.len : Int)) ∧ ρ 8 = (Value.int .i64 l9) ∧ True) ⟨e0, e1, e7, e8, trivial⟩ ?_
      rintro ρ ⟨e0, e1, e7, e8, -⟩
      refine wpC_region ?_
      refine wpR_val (v := (Value.int .i64 (IntKind.i64.wrap (l9 + 1)))) (w' := w2) rfl rfl rfl (x_add rfl e8 rfl) ?_
      refine wpR_val (v := (Value.int .i64 (IntKind.i64.wrap (l9 + 1)))) (w' := w2) rfl rfl rfl (x_move (v := (Value.int .i64 (IntKind.i64.wrap (l9 + 1)))) rfl rfl) ?_
      refine wpR_nil ?_
      exact ⟨IntKind.i64.wrap (l9 + 1), ⟨rfl, e0, e1, e7, trivial⟩, h⟩
  · replace h := h.2 hc10
    refine wpC_exit ?_
    refine wpC_seq ?_
    refine wpC_cut (fun ρ => True) trivial ?_
    rintro ρ -
    refine wpC_region ?_
    refine wpR_val (v := (Value.int .i64 (-1))) (w' := w1) rfl rfl rfl (x_assign (v := (Value.int .i64 (-1))) rfl rfl) ?_
    refine wpR_nil ?_
    refine wpC_ret ?_
    exact ⟨.inl rfl, fun a ha => ⟨_, results_rep1 rfl ha rfl, (-1), rfl, h⟩⟩

/-- event.below -/
def F85 (p0 : Int) (p1 : Int) (w0 : World) (K : Bool → World → Prop) : Prop :=
  K ((decide (0 ≤ p0)) && (decide (p0 < p1))) w0
set_option maxRecDepth 100000 in
theorem D85 (p0 : Int) (p1 : Int) (w0 : World) (K : Bool → World → Prop) (h : F85 p0 p1 w0 K) : callC Try.prog 85 #[(Value.int .i64 p0), (Value.int .i64 p1)] (fun (r : Bool) => (Value.bool r)) w0 K := by
  unfold F85 at h
  refine calls_of_wpC Try.func85 rfl 12 rfl (by simp) ?_
  intro ρ hρ
  have e0 : ρ 0 = (Value.int .i64 p0) := hρ 0
  have e1 : ρ 1 = (Value.int .i64 p1) := hρ 1
  clear hρ
  refine wpC_seq ?_
  refine wpC_region ?_
  refine wpR_val (v := (Value.bool false)) (w' := w0) rfl rfl rfl (x_assign (v := (Value.bool false)) rfl rfl) ?_
  refine wpR_nil ?_
  refine wpC_seq ?_
  refine wpC_cut (fun ρ => ρ 0 = (Value.int .i64 p0) ∧ ρ 1 = (Value.int .i64 p1) ∧ True) ⟨e0, e1, trivial⟩ ?_
  rintro ρ ⟨e0, e1, -⟩
  refine wpC_region ?_
  refine wpR_val (v := (Value.int .i64 p0)) (w' := w0) rfl rfl rfl (x_move (v := (Value.int .i64 p0)) rfl e0) ?_
  refine wpR_val (v := (Value.bool (decide (0 ≤ p0)))) (w' := w0) rfl rfl rfl (x_leq rfl rfl rfl) ?_
  refine wpR_val (v := (Value.bool (decide (0 ≤ p0)))) (w' := w0) rfl rfl rfl (x_move (v := (Value.bool (decide (0 ≤ p0)))) rfl rfl) ?_
  refine wpR_joinJ 4 (fun (_ : Unit) ρ => ρ 11 = Value.bool ((decide (0 ≤ p0)) && (decide (p0 < p1))) ∧ True) (fun _ w => w0 = w) ?_ ?_
  · clear h
    rcases Bool.eq_false_or_eq_true (decide (0 ≤ p0)) with hc10 | hc10
    · skip
      refine wpR_val (v := (Value.int .i64 p0)) (w' := w0) (wantG rfl rfl rfl hc10) rfl rfl (x_move (v := (Value.int .i64 p0)) rfl e0) ?_
      refine wpR_val (v := (Value.int .i64 p1)) (w' := w0) (wantG rfl rfl rfl hc10) rfl rfl (x_move (v := (Value.int .i64 p1)) rfl e1) ?_
      refine wpR_val (v := (Value.bool (decide (p0 < p1)))) (w' := w0) (wantG rfl rfl rfl hc10) rfl rfl (x_lss rfl rfl rfl) ?_
      refine wpR_val (v := (Value.bool (decide (p0 < p1)))) (w' := w0) rfl rfl rfl (x_pickT (v := (Value.bool (decide (p0 < p1)))) rfl rfl hc10 rfl) ?_
      refine wpR_nil ?_
      exact ⟨(), ⟨(by rw [hc10]; rfl), trivial⟩, rfl⟩
    · skip
      refine wpR_pass (wantN rfl rfl rfl hc10) rfl rfl ?_
      refine wpR_pass (wantN rfl rfl rfl hc10) rfl rfl ?_
      refine wpR_pass (wantN rfl rfl rfl hc10) rfl rfl ?_
      refine wpR_val (v := (Value.bool false)) (w' := w0) rfl rfl rfl (x_pickF (v := (Value.bool false)) rfl rfl hc10 rfl) ?_
      refine wpR_nil ?_
      exact ⟨(), ⟨(by rw [hc10]; rfl), trivial⟩, rfl⟩
  rintro _ ρ wj ⟨e11, -⟩ rfl
  refine wpR_val (v := (Value.bool ((decide (0 ≤ p0)) && (decide (p0 < p1))))) (w' := w0) rfl rfl rfl (x_assign (v := (Value.bool ((decide (0 ≤ p0)) && (decide (p0 < p1))))) rfl e11) ?_
  refine wpR_nil ?_
  refine wpC_ret ?_
  exact ⟨.inl rfl, fun a ha => ⟨_, results_rep1 rfl ha rfl, (decide (0 ≤ p0)) && (decide (p0 < p1)), rfl, h⟩⟩

/-- supply.places -/
def F94 (p0_0 : ByteArray) (p0_1 : Int) (p0_2 : Int) (p0_3 : Int) (p0_4 : Bool) (p0_5 : Int) (p0_6 : Bool) (p0_7 : Bool) (p0_8 : Int) (p0_9 : Int) (p0_10 : Int) (p0_11 : Int) (p0_12 : Sl) (p0_13 : Int) (p0_14 : Int) (p0_15 : Int) (p0_16 : Int) (p0_17 : Bool) (p0_18 : Int) (p0_19 : Int) (p0_20 : Int) (p0_21 : Int) (p1 : Int) (w0 : World) (K : (Int × Int) → World → Prop) : Prop :=
  nw 24 (A23 p0_0 p0_1 p0_2 p0_3 p0_4 p0_5 p0_6 p0_7 p0_8 p0_9 p0_10 p0_11 p0_12 p0_13 p0_14 p0_15 p0_16 p0_17 p0_18 p0_19 p0_20 p0_21) w0 fun b9 w1 =>
  jn (fun (J11 : Bool → World → Prop) => tk w1 fun w2 =>
    cnd (decide (0 < p1))
      (
      ld (Value.int .i64) ((Addr.mk b9 0 none).add 18) w2 fun x13 =>
      p1 ≠ 0 ∧
      J11 (decide ((IntKind.i64.wrap ((4503599627370496 : Int).tdiv p1)) < x13)) w2
      )
      (
      J11 false w2
      )
  )
  fun l15 w3 =>
  cnd (l15)
    (
    K (0, 3) w3
    )
    (
    ld (Value.int .i64) ((Addr.mk b9 0 none).add 18) w3 fun x17 =>
    K (IntKind.i64.wrap (x17 * p1), 0) w3
    )
set_option maxRecDepth 100000 in
theorem D94 (p0_0 : ByteArray) (p0_1 : Int) (p0_2 : Int) (p0_3 : Int) (p0_4 : Bool) (p0_5 : Int) (p0_6 : Bool) (p0_7 : Bool) (p0_8 : Int) (p0_9 : Int) (p0_10 : Int) (p0_11 : Int) (p0_12 : Sl) (p0_13 : Int) (p0_14 : Int) (p0_15 : Int) (p0_16 : Int) (p0_17 : Bool) (p0_18 : Int) (p0_19 : Int) (p0_20 : Int) (p0_21 : Int) (p1 : Int) (w0 : World) (K : (Int × Int) → World → Prop) (h : F94 p0_0 p0_1 p0_2 p0_3 p0_4 p0_5 p0_6 p0_7 p0_8 p0_9 p0_10 p0_11 p0_12 p0_13 p0_14 p0_15 p0_16 p0_17 p0_18 p0_19 p0_20 p0_21 p1 w0 K) : callC Try.prog 94 #[(V23 p0_0 p0_1 p0_2 p0_3 p0_4 p0_5 p0_6 p0_7 p0_8 p0_9 p0_10 p0_11 p0_12 p0_13 p0_14 p0_15 p0_16 p0_17 p0_18 p0_19 p0_20 p0_21), (Value.int .i64 p1)] (fun (r : Int × Int) => (Value.tuple #[(Value.int .i64 r.1), (Value.int .i64 r.2)])) w0 K := by
  unfold F94 at h
  refine calls_of_wpC Try.func94 rfl 19 rfl (by simp) ?_
  intro ρ hρ
  have e0 : ρ 0 = (V23 p0_0 p0_1 p0_2 p0_3 p0_4 p0_5 p0_6 p0_7 p0_8 p0_9 p0_10 p0_11 p0_12 p0_13 p0_14 p0_15 p0_16 p0_17 p0_18 p0_19 p0_20 p0_21) := hρ 0
  have e1 : ρ 1 = (Value.int .i64 p1) := hρ 1
  clear hρ
  refine wpC_seq ?_
  refine wpC_region ?_
  obtain ⟨b9, hb9⟩ : ∃ u, u = w0.heap.size := ⟨_, rfl⟩
  obtain ⟨w1, hw9⟩ : ∃ u, u = w0.alloc (.cells (A23 p0_0 p0_1 p0_2 p0_3 p0_4 p0_5 p0_6 p0_7 p0_8 p0_9 p0_10 p0_11 p0_12 p0_13 p0_14 p0_15 p0_16 p0_17 p0_18 p0_19 p0_20 p0_21) 24) := ⟨_, rfl⟩
  replace h := h b9 w1 hb9 hw9
  refine wpR_val (v := (Value.pointer (some (Addr.mk b9 0 none)))) (w' := w1) rfl rfl rfl ((x_box (v := (V23 p0_0 p0_1 p0_2 p0_3 p0_4 p0_5 p0_6 p0_7 p0_8 p0_9 p0_10 p0_11 p0_12 p0_13 p0_14 p0_15 p0_16 p0_17 p0_18 p0_19 p0_20 p0_21)) rfl e0).trans (by rw [hb9, hw9]; rfl)) ?_
  refine wpR_val (v := (Value.int .i64 0)) (w' := w1) rfl rfl rfl (x_assign (v := (Value.int .i64 0)) rfl rfl) ?_
  refine wpR_val (v := (Value.int .i64 0)) (w' := w1) rfl rfl rfl (x_assign (v := (Value.int .i64 0)) rfl rfl) ?_
  refine wpR_nil ?_
  refine wpC_seq ?_
  refine wpC_seq ?_
  refine wpC_cut (fun ρ => ρ 1 = (Value.int .i64 p1) ∧ ρ 2 = (Value.pointer (some (Addr.mk b9 0 none))) ∧ True) ⟨e1, rfl, trivial⟩ ?_
  rintro ρ ⟨e1, e2, -⟩
  obtain ⟨J11, h, hk⟩ := h
  refine wpC_drawJ (by kernel_rfl) (fun (x : Bool) ρ => ρ 14 = (Value.bool x) ∧ ρ 1 = (Value.int .i64 p1) ∧ ρ 2 = (Value.pointer (some (Addr.mk b9 0 none))) ∧ True) J11 ?_ ?_
  · clear hk
    unfold tk at h
    generalize w1.drew = w2 at h ⊢
    refine wpD_take (v := (Value.int .i64 p1)) 0 (fun _ => True) rfl (by kernel_rfl) (by kernel_rfl) (by kernel_rfl) rfl rfl rfl trivial (fun w _ => (x_move (v := (Value.int .i64 p1)) rfl e1)) ?_
    refine wpD_take (v := (Value.bool (decide (0 < p1)))) 1 (fun _ => True) rfl (by kernel_rfl) (by kernel_rfl) (by kernel_rfl) rfl rfl rfl trivial (fun w _ => (x_gtr rfl rfl rfl)) ?_
    refine wpD_take (v := (Value.bool (decide (0 < p1)))) 2 (fun _ => True) rfl (by kernel_rfl) (by kernel_rfl) (by kernel_rfl) rfl rfl rfl trivial (fun w _ => (x_move (v := (Value.bool (decide (0 < p1)))) rfl rfl)) ?_
    rcases Bool.eq_false_or_eq_true (decide (0 < p1)) with hc12 | hc12
    · replace h := h.1 hc12
      refine wpD_take (v := (Value.pointer (some ((Addr.mk b9 0 none).add 18)))) 3 (fun _ => True) rfl (by kernel_rfl) (by kernel_rfl) (by kernel_rfl) (wantG rfl rfl rfl hc12) rfl rfl trivial (fun w _ => (x_fieldAddr rfl e2 FA_24_18)) ?_
      obtain ⟨x13, q13, h⟩ := h
      refine wpD_take (v := (Value.int .i64 x13)) 4 (fun w => w.cell? ((Addr.mk b9 0 none).add 18) = some (Value.int .i64 x13)) rfl (by kernel_rfl) (by kernel_rfl) (by kernel_rfl) (wantG rfl rfl rfl hc12) rfl rfl q13 (fun w q13 => (x_load1 rfl rfl SH_3 q13)) ?_
      refine wpD_take (v := (Value.int .i64 p1)) 5 (fun _ => True) rfl (by kernel_rfl) (by kernel_rfl) (by kernel_rfl) (wantG rfl rfl rfl hc12) rfl rfl trivial (fun w _ => (x_move (v := (Value.int .i64 p1)) rfl e1)) ?_
      obtain ⟨q14, h⟩ := h
      refine wpD_take (v := (Value.int .i64 (IntKind.i64.wrap ((4503599627370496 : Int).tdiv p1)))) 6 (fun _ => True) rfl (by kernel_rfl) (by kernel_rfl) (by kernel_rfl) (wantG rfl rfl rfl hc12) rfl rfl trivial (fun w _ => (x_quo rfl rfl rfl q14)) ?_
      refine wpD_take (v := (Value.bool (decide ((IntKind.i64.wrap ((4503599627370496 : Int).tdiv p1)) < x13)))) 7 (fun _ => True) rfl (by kernel_rfl) (by kernel_rfl) (by kernel_rfl) (wantG rfl rfl rfl hc12) rfl rfl trivial (fun w _ => (x_gtr rfl rfl rfl)) ?_
      refine wpD_take (v := (Value.bool (decide ((IntKind.i64.wrap ((4503599627370496 : Int).tdiv p1)) < x13)))) 8 (fun _ => True) rfl (by kernel_rfl) (by kernel_rfl) (by kernel_rfl) rfl rfl rfl trivial (fun w _ => (x_pickT (v := (Value.bool (decide ((IntKind.i64.wrap ((4503599627370496 : Int).tdiv p1)) < x13)))) rfl rfl hc12 rfl)) ?_
      exact wpD_done (by kernel_rfl) ⟨decide ((IntKind.i64.wrap ((4503599627370496 : Int).tdiv p1)) < x13), ⟨rfl, e1, e2, trivial⟩, h⟩
    · replace h := h.2 hc12
      refine wpD_pass 3 rfl (by kernel_rfl) (by kernel_rfl) (by kernel_rfl) (wantN rfl rfl rfl hc12) rfl rfl ?_
      refine wpD_pass 4 rfl (by kernel_rfl) (by kernel_rfl) (by kernel_rfl) (wantN rfl rfl rfl hc12) rfl rfl ?_
      refine wpD_pass 5 rfl (by kernel_rfl) (by kernel_rfl) (by kernel_rfl) (wantN rfl rfl rfl hc12) rfl rfl ?_
      refine wpD_pass 6 rfl (by kernel_rfl) (by kernel_rfl) (by kernel_rfl) (wantN rfl rfl rfl hc12) rfl rfl ?_
      refine wpD_pass 7 rfl (by kernel_rfl) (by kernel_rfl) (by kernel_rfl) (wantN rfl rfl rfl hc12) rfl rfl ?_
      refine wpD_take (v := (Value.bool false)) 8 (fun _ => True) rfl (by kernel_rfl) (by kernel_rfl) (by kernel_rfl) rfl rfl rfl trivial (fun w _ => (x_pickF (v := (Value.bool false)) rfl rfl hc12 rfl)) ?_
      exact wpD_done (by kernel_rfl) ⟨false, ⟨rfl, e1, e2, trivial⟩, h⟩
  clear h
  rintro l15 ρ w3 ⟨e14, e1, e2, -⟩ h
  replace h := hk l15 w3 h
  clear hk
  refine wpC_cond (b := l15) e14 (fun hc16 => ?_) (fun hc16 => ?_)
  · replace h := h.1 hc16
    refine wpC_seq ?_
    refine wpC_region ?_
    refine wpR_val (v := (Value.int .i64 0)) (w' := w3) rfl rfl rfl (x_assign (v := (Value.int .i64 0)) rfl rfl) ?_
    refine wpR_val (v := (Value.int .i64 3)) (w' := w3) rfl rfl rfl (x_assign (v := (Value.int .i64 3)) rfl rfl) ?_
    refine wpR_nil ?_
    refine wpC_ret ?_
    exact ⟨.inl rfl, fun a ha => ⟨_, results_rep2 rfl ha rfl rfl, (0, 3), rfl, h⟩⟩
  · replace h := h.2 hc16
    refine wpC_skip ?_
    refine wpC_seq ?_
    refine wpC_region ?_
    refine wpR_val (v := (Value.pointer (some ((Addr.mk b9 0 none).add 18)))) (w' := w3) rfl rfl rfl (x_fieldAddr rfl e2 FA_24_18) ?_
    obtain ⟨x17, q17, h⟩ := h
    refine wpR_val (v := (Value.int .i64 x17)) (w' := w3) rfl rfl rfl (x_load1 rfl rfl SH_3 q17) ?_
    refine wpR_val (v := (Value.int .i64 p1)) (w' := w3) rfl rfl rfl (x_move (v := (Value.int .i64 p1)) rfl e1) ?_
    refine wpR_val (v := (Value.int .i64 (IntKind.i64.wrap (x17 * p1)))) (w' := w3) rfl rfl rfl (x_mul rfl rfl rfl) ?_
    refine wpR_val (v := (Value.int .i64 (IntKind.i64.wrap (x17 * p1)))) (w' := w3) rfl rfl rfl (x_assign (v := (Value.int .i64 (IntKind.i64.wrap (x17 * p1)))) rfl rfl) ?_
    refine wpR_val (v := (Value.int .i64 0)) (w' := w3) rfl rfl rfl (x_assign (v := (Value.int .i64 0)) rfl rfl) ?_
    refine wpR_nil ?_
    refine wpC_ret ?_
    exact ⟨.inl rfl, fun a ha => ⟨_, results_rep2 rfl ha rfl rfl, (IntKind.i64.wrap (x17 * p1), 0), rfl, h⟩⟩


end Go.Proofs.Ytgbhghoppjfofaa
