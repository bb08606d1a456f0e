import Derived.Test.YtnoahloppffndaaRows
import Derived.Test.YtnoahloppffndaaFs1
import Derived.Test.YtnoahloppffndaaDecRaw
namespace Go.Proofs.Ytnoahloppffndaa
open Go.Dec
set_option maxHeartbeats 400000
set_option maxRecDepth 100000

/-- loss.options -/
def F29 (p0_0 : ByteArray) (p0_1 : Int) (p0_2 : Int) (p0_3 : Int) (p0_4 : Bool) (p0_5 : Int) (p0_6 : Bool) (p0_7 : Bool) (p0_8 : Int) (p0_9 : Int) (p0_10 : Int) (p0_11 : Int) (p0_12 : Sl) (p0_13 : Int) (p0_14 : Int) (p0_15 : Int) (p0_16 : Int) (p0_17 : Bool) (p0_18 : Int) (p0_19 : Int) (p0_20 : Int) (p0_21 : Int) (p1 : Int) (w0 : World) (K : Sl → World → Prop) : Prop :=
  nw 24 (A23 p0_0 p0_1 p0_2 p0_3 p0_4 p0_5 p0_6 p0_7 p0_8 p0_9 p0_10 p0_11 p0_12 p0_13 p0_14 p0_15 p0_16 p0_17 p0_18 p0_19 p0_20 p0_21) w0 fun b9 w1 =>
  ld (Value.int .i64) ((Addr.mk b9 0 none).add 1) w1 fun x10 =>
  jp (fun J11 => cnd (decide (x10 = 2))
    (
    ld (Value.int .i64) ((Addr.mk b9 0 none).add 2) w1 fun x13 =>
    J11 (decide (x13 = 0))
    )
    (
    J11 false
    ))
  fun c14 =>
  nw 46 #[(Value.int .i64 0), (Value.int .i64 0)] w1 fun b15 w2 =>
  st (Addr.mk b15 0 none) [(Value.int .i64 0), (Value.int .i64 0)] w2 fun w3 =>
  cnd (decide (p1 = 1))
    (
    ld (Value.int .i64) ((Addr.mk b9 0 none).add 9) w3 fun x18 =>
    jp (fun J19 => cnd (decide (2 ≤ x18))
      (
      ld (Value.int .i64) ((Addr.mk b9 0 none).add 8) w3 fun x21 =>
      ld (Value.int .i64) ((Addr.mk b9 0 none).add 9) w3 fun x22 =>
      J19 (decide (4400 ≤ (IntKind.i64.wrap (x21 * x22))))
      )
      (
      J19 false
      ))
    fun c23 =>
    ld (Value.int .i64) ((Addr.mk b9 0 none).add 9) w3 fun x24 =>
    nw 55 #[(Value.int .i64 1), (Value.int .i64 1), (Value.bool c23), (Value.int .i64 4), (Value.int .i64 1), (Value.bool (decide (2 ≤ x24))), (Value.int .i64 4), (Value.int .i64 0), (Value.bool true)] w3 fun b25 w4 =>
    K (⟨some ⟨b25, 0, none⟩, 3, 3⟩ : Sl) w4
    )
    (
    cnd (decide (p1 = 2))
      (
      ld (Value.int .i64) ((Addr.mk b15 0 none).add 0) w3 fun x27 =>
      ld (Value.int .i64) ((Addr.mk b15 0 none).add 1) w3 fun x28 =>
      nw 55 #[(Value.int .i64 x27), (Value.int .i64 x28), (Value.bool c14), (Value.int .i64 3), (Value.int .i64 2), (Value.bool true)] w3 fun b29 w5 =>
      K (⟨some ⟨b29, 0, none⟩, 2, 2⟩ : Sl) w5
      )
      (
      cnd (decide (p1 = 3))
        (
        ld (Value.int .i64) ((Addr.mk b15 0 none).add 0) w3 fun x31 =>
        ld (Value.int .i64) ((Addr.mk b15 0 none).add 1) w3 fun x32 =>
        ld (Value.int .i64) ((Addr.mk b9 0 none).add 3) w3 fun x33 =>
        nw 55 #[(Value.int .i64 x31), (Value.int .i64 x32), (Value.bool (!decide (x33 = 0))), (Value.int .i64 2), (Value.int .i64 0), (Value.bool c14), (Value.int .i64 3), (Value.int .i64 2), (Value.bool true)] w3 fun b34 w6 =>
        K (⟨some ⟨b34, 0, none⟩, 3, 3⟩ : Sl) w6
        )
        (
        cnd (decide (p1 = 4))
          (
          ld (Value.int .i64) ((Addr.mk b15 0 none).add 0) w3 fun x36 =>
          ld (Value.int .i64) ((Addr.mk b15 0 none).add 1) w3 fun x37 =>
          ld Value.bool ((Addr.mk b9 0 none).add 4) w3 fun x38 =>
          jp (fun J39 => cnd (x38)
            (
            ld (Value.int .i64) ((Addr.mk b9 0 none).add 9) w3 fun x41 =>
            J39 (decide (x41 = 1))
            )
            (
            J39 false
            ))
          fun c42 =>
          ld Value.bool ((Addr.mk b9 0 none).add 4) w3 fun x43 =>
          nw 55 #[(Value.int .i64 x36), (Value.int .i64 x37), (Value.bool c42), (Value.int .i64 0), (Value.int .i64 1), (Value.bool x43), (Value.int .i64 3), (Value.int .i64 2), (Value.bool true)] w3 fun b44 w7 =>
          K (⟨some ⟨b44, 0, none⟩, 3, 3⟩ : Sl) w7
          )
          (
          cnd (decide (p1 = 5))
            (
            ld (Value.int .i64) ((Addr.mk b15 0 none).add 0) w3 fun x46 =>
            ld (Value.int .i64) ((Addr.mk b15 0 none).add 1) w3 fun x47 =>
            ld (Value.int .i64) ((Addr.mk b9 0 none).add 5) w3 fun x48 =>
            ld (Value.int .i64) ((Addr.mk b9 0 none).add 5) w3 fun x49 =>
            nw 55 #[(Value.int .i64 x46), (Value.int .i64 x47), (Value.bool (decide (x48 = 2))), (Value.int .i64 2), (Value.int .i64 1), (Value.bool (decide (x49 = 1))), (Value.int .i64 2), (Value.int .i64 2), (Value.bool true)] w3 fun b50 w8 =>
            K (⟨some ⟨b50, 0, none⟩, 3, 3⟩ : Sl) w8
            )
            (
            cnd (decide (p1 = 6))
              (
              ld (Value.int .i64) ((Addr.mk b15 0 none).add 0) w3 fun x52 =>
              ld (Value.int .i64) ((Addr.mk b15 0 none).add 1) w3 fun x53 =>
              ld Value.bool ((Addr.mk b9 0 none).add 6) w3 fun x54 =>
              nw 55 #[(Value.int .i64 x52), (Value.int .i64 x53), (Value.bool x54), (Value.int .i64 2), (Value.int .i64 2), (Value.bool true)] w3 fun b55 w9 =>
              K (⟨some ⟨b55, 0, none⟩, 2, 2⟩ : Sl) w9
              )
              (
              cnd (decide (p1 = 7))
                (
                ld (Value.int .i64) ((Addr.mk b15 0 none).add 0) w3 fun x57 =>
                ld (Value.int .i64) ((Addr.mk b15 0 none).add 1) w3 fun x58 =>
                ld Value.bool ((Addr.mk b9 0 none).add 7) w3 fun x59 =>
                nw 55 #[(Value.int .i64 x57), (Value.int .i64 x58), (Value.bool x59), (Value.int .i64 2), (Value.int .i64 2), (Value.bool true)] w3 fun b60 w10 =>
                K (⟨some ⟨b60, 0, none⟩, 2, 2⟩ : Sl) w10
                )
                (
                cnd (decide (p1 = 8))
                  (
                  ld (Value.int .i64) ((Addr.mk b15 0 none).add 0) w3 fun x62 =>
                  ld (Value.int .i64) ((Addr.mk b15 0 none).add 1) w3 fun x63 =>
                  ld (Value.int .i64) ((Addr.mk b9 0 none).add 10) w3 fun x64 =>
                  ld (Value.int .i64) ((Addr.mk b9 0 none).add 10) w3 fun x65 =>
                  nw 55 #[(Value.int .i64 x62), (Value.int .i64 x63), (Value.bool (decide (x64 = 4))), (Value.int .i64 4), (Value.int .i64 1), (Value.bool (decide (1 ≤ x65))), (Value.int .i64 2), (Value.int .i64 2), (Value.bool true)] w3 fun b66 w11 =>
                  K (⟨some ⟨b66, 0, none⟩, 3, 3⟩ : Sl) w11
                  )
                  (
                  ld (Value.int .i64) ((Addr.mk b15 0 none).add 0) w3 fun x67 =>
                  ld (Value.int .i64) ((Addr.mk b15 0 none).add 1) w3 fun x68 =>
                  nw 55 #[(Value.int .i64 x67), (Value.int .i64 x68), (Value.bool true)] w3 fun b69 w12 =>
                  K (⟨some ⟨b69, 0, none⟩, 1, 1⟩ : Sl) w12
                  )
                )
              )
            )
          )
        )
      )
    )
set_option maxRecDepth 100000 in
theorem D29 (p0_0 : ByteArray) (p0_1 : Int) (p0_2 : Int) (p0_3 : Int) (p0_4 : Bool) (p0_5 : Int) (p0_6 : Bool) (p0_7 : Bool) (p0_8 : Int) (p0_9 : Int) (p0_10 : Int) (p0_11 : Int) (p0_12 : Sl) (p0_13 : Int) (p0_14 : Int) (p0_15 : Int) (p0_16 : Int) (p0_17 : Bool) (p0_18 : Int) (p0_19 : Int) (p0_20 : Int) (p0_21 : Int) (p1 : Int) (w0 : World) (K : Sl → World → Prop) (h : F29 p0_0 p0_1 p0_2 p0_3 p0_4 p0_5 p0_6 p0_7 p0_8 p0_9 p0_10 p0_11 p0_12 p0_13 p0_14 p0_15 p0_16 p0_17 p0_18 p0_19 p0_20 p0_21 p1 w0 K) : callC Try.prog 29 #[(V23 p0_0 p0_1 p0_2 p0_3 p0_4 p0_5 p0_6 p0_7 p0_8 p0_9 p0_10 p0_11 p0_12 p0_13 p0_14 p0_15 p0_16 p0_17 p0_18 p0_19 p0_20 p0_21), (Value.int .i64 p1)] (fun (r : Sl) => (Sl.v r)) w0 K := by
  unfold F29 at h
  refine calls_of_wpC Try.func29 rfl 144 rfl (by simp) ?_
  intro ρ hρ
  have e0 : ρ 0 = (V23 p0_0 p0_1 p0_2 p0_3 p0_4 p0_5 p0_6 p0_7 p0_8 p0_9 p0_10 p0_11 p0_12 p0_13 p0_14 p0_15 p0_16 p0_17 p0_18 p0_19 p0_20 p0_21) := hρ 0
  have e1 : ρ 1 = (Value.int .i64 p1) := hρ 1
  clear hρ
  refine wpC_seq ?_
  refine wpC_region ?_
  obtain ⟨b9, hb9⟩ : ∃ u, u = w0.heap.size := ⟨_, rfl⟩
  obtain ⟨w1, hw9⟩ : ∃ u, u = w0.alloc (.cells (A23 p0_0 p0_1 p0_2 p0_3 p0_4 p0_5 p0_6 p0_7 p0_8 p0_9 p0_10 p0_11 p0_12 p0_13 p0_14 p0_15 p0_16 p0_17 p0_18 p0_19 p0_20 p0_21) 24) := ⟨_, rfl⟩
  replace h := h b9 w1 hb9 hw9
  refine wpR_val (v := (Value.pointer (some (Addr.mk b9 0 none)))) (w' := w1) rfl rfl rfl ((x_box (v := (V23 p0_0 p0_1 p0_2 p0_3 p0_4 p0_5 p0_6 p0_7 p0_8 p0_9 p0_10 p0_11 p0_12 p0_13 p0_14 p0_15 p0_16 p0_17 p0_18 p0_19 p0_20 p0_21)) rfl e0).trans (by rw [hb9, hw9]; rfl)) ?_
  refine wpR_val (v := (Sl.v Sl.nil)) (w' := w1) rfl rfl rfl (x_assign (v := (Sl.v Sl.nil)) rfl rfl) ?_
  refine wpR_nil ?_
  refine wpC_seq ?_
  refine wpC_cut (fun ρ => ρ 1 = (Value.int .i64 p1) ∧ ρ 2 = (Value.pointer (some (Addr.mk b9 0 none))) ∧ True) ⟨e1, rfl, trivial⟩ ?_
  rintro ρ ⟨e1, e2, -⟩
  refine wpC_region ?_
  refine wpR_val (v := (Value.pointer (some ((Addr.mk b9 0 none).add 1)))) (w' := w1) rfl rfl rfl (x_fieldAddr rfl e2 FA_24_1) ?_
  obtain ⟨x10, q10, h⟩ := h
  refine wpR_val (v := (Value.int .i64 x10)) (w' := w1) rfl rfl rfl (x_load1 rfl rfl SH_3 q10) ?_
  refine wpR_val (v := (Value.bool (decide (x10 = 2)))) (w' := w1) rfl rfl rfl (x_eql rfl rfl rfl) ?_
  refine wpR_val (v := (Value.bool (decide (x10 = 2)))) (w' := w1) rfl rfl rfl (x_move (v := (Value.bool (decide (x10 = 2)))) rfl rfl) ?_
  obtain ⟨J11, h, hk⟩ := h
  refine wpR_joinJ 4 (fun x ρ => ρ 16 = Value.bool x ∧ ρ 1 = (Value.int .i64 p1) ∧ ρ 2 = (Value.pointer (some (Addr.mk b9 0 none))) ∧ True) (fun x w => J11 x ∧ w1 = w) ?_ ?_
  · clear hk
    rcases Bool.eq_false_or_eq_true (decide (x10 = 2)) with hc12 | hc12
    · replace h := h.1 hc12
      refine wpR_val (v := (Value.pointer (some ((Addr.mk b9 0 none).add 2)))) (w' := w1) (wantG rfl rfl rfl hc12) rfl rfl (x_fieldAddr rfl e2 FA_24_2) ?_
      obtain ⟨x13, q13, h⟩ := h
      refine wpR_val (v := (Value.int .i64 x13)) (w' := w1) (wantG rfl rfl rfl hc12) rfl rfl (x_load1 rfl rfl SH_3 q13) ?_
      refine wpR_val (v := (Value.bool (decide (x13 = 0)))) (w' := w1) (wantG rfl rfl rfl hc12) rfl rfl (x_eql rfl rfl rfl) ?_
      refine wpR_val (v := (Value.bool (decide (x13 = 0)))) (w' := w1) rfl rfl rfl (x_pickT (v := (Value.bool (decide (x13 = 0)))) rfl rfl hc12 rfl) ?_
      refine wpR_nil ?_
      exact ⟨decide (x13 = 0), ⟨rfl, e1, e2, trivial⟩, h, rfl⟩
    · replace h := h.2 hc12
      refine wpR_pass (wantN rfl rfl rfl hc12) rfl rfl ?_
      refine wpR_pass (wantN rfl rfl rfl hc12) rfl rfl ?_
      refine wpR_pass (wantN rfl rfl rfl hc12) rfl rfl ?_
      refine wpR_val (v := (Value.bool false)) (w' := w1) rfl rfl rfl (x_pickF (v := (Value.bool false)) rfl rfl hc12 rfl) ?_
      refine wpR_nil ?_
      exact ⟨false, ⟨rfl, e1, e2, trivial⟩, h, rfl⟩
  clear h
  rintro c14 ρ wj ⟨e16, e1, e2, -⟩ ⟨h, rfl⟩
  replace h := hk c14 h
  clear hk
  refine wpR_val (v := (Value.bool c14)) (w' := w1) rfl rfl rfl (x_assign (v := (Value.bool c14)) rfl e16) ?_
  refine wpR_nil ?_
  refine wpC_seq ?_
  refine wpC_cut (fun ρ => ρ 1 = (Value.int .i64 p1) ∧ ρ 2 = (Value.pointer (some (Addr.mk b9 0 none))) ∧ ρ 5 = (Value.bool c14) ∧ True) ⟨e1, e2, rfl, trivial⟩ ?_
  rintro ρ ⟨e1, e2, e5, -⟩
  refine wpC_region ?_
  refine wpR_val (v := (Value.agg #[(Value.int .i64 0), (Value.int .i64 0)])) (w' := w1) rfl rfl rfl (x_build (qs := [(0, (Value.int .i64 0)), (1, (Value.int .i64 0))]) rfl (by rfl) (BD_46_0_1 0 0 _)) ?_
  obtain ⟨b15, hb15⟩ : ∃ u, u = w1.heap.size := ⟨_, rfl⟩
  obtain ⟨w2, hw15⟩ : ∃ u, u = w1.alloc (.cells #[(Value.int .i64 0), (Value.int .i64 0)] 46) := ⟨_, rfl⟩
  replace h := h b15 w2 hb15 hw15
  refine wpR_val (v := (Value.pointer (some (Addr.mk b15 0 none)))) (w' := w2) rfl rfl rfl ((x_alloc rfl ZV_46).trans (by rw [hb15, hw15]; rfl)) ?_
  obtain ⟨q16, h⟩ := h
  obtain ⟨w3, hw16⟩ : ∃ u, u = setAll w2 (Addr.mk b15 0 none) [(Value.int .i64 0), (Value.int .i64 0)] 0 := ⟨_, rfl⟩
  replace h := h w3 hw16
  refine wpR_skp (w' := w3) rfl rfl ((x_store (v := (Value.agg #[(Value.int .i64 0), (Value.int .i64 0)])) rfl rfl rfl SZ_46 (ones (by rfl)) q16).trans (by rw [hw16]; rfl)) ?_
  refine wpR_val (v := (Value.int .i64 1)) (w' := w3) rfl rfl rfl (x_assign (v := (Value.int .i64 1)) rfl rfl) ?_
  refine wpR_val (v := (Value.int .i64 2)) (w' := w3) rfl rfl rfl (x_assign (v := (Value.int .i64 2)) rfl rfl) ?_
  refine wpR_nil ?_
  refine wpC_seq ?_
  refine wpC_seq ?_
  refine wpC_cut (fun ρ => ρ 1 = (Value.int .i64 p1) ∧ ρ 2 = (Value.pointer (some (Addr.mk b9 0 none))) ∧ ρ 5 = (Value.bool c14) ∧ ρ 6 = (Value.pointer (some (Addr.mk b15 0 none))) ∧ ρ 7 = (Value.int .i64 1) ∧ ρ 8 = (Value.int .i64 2) ∧ True) ⟨e1, e2, e5, rfl, rfl, rfl, trivial⟩ ?_
  rintro ρ ⟨e1, e2, e5, e6, e7, e8, -⟩
  refine wpC_region ?_
  refine wpR_val (v := (Value.int .i64 p1)) (w' := w3) rfl rfl rfl (x_move (v := (Value.int .i64 p1)) rfl e1) ?_
  refine wpR_nil ?_
  refine wpC_block ?_
  refine wpC_seq ?_
  refine wpC_cut (fun ρ => ρ 2 = (Value.pointer (some (Addr.mk b9 0 none))) ∧ ρ 5 = (Value.bool c14) ∧ ρ 6 = (Value.pointer (some (Addr.mk b15 0 none))) ∧ ρ 7 = (Value.int .i64 1) ∧ ρ 8 = (Value.int .i64 2) ∧ ρ 18 = (Value.int .i64 p1) ∧ True) ⟨e2, e5, e6, e7, e8, rfl, trivial⟩ ?_
  rintro ρ ⟨e2, e5, e6, e7, e8, e18, -⟩
  refine wpC_region ?_
  refine wpR_val (v := (Value.bool (decide (p1 = 1)))) (w' := w3) rfl rfl rfl (x_eql rfl e18 rfl) ?_
  refine wpR_val (v := (Value.bool (decide (p1 = 1)))) (w' := w3) rfl rfl rfl (x_assign (v := (Value.bool (decide (p1 = 1)))) rfl rfl) ?_
  refine wpR_nil ?_
  refine wpC_cond (b := decide (p1 = 1)) rfl (fun hc17 => ?_) (fun hc17 => ?_)
  · replace h := h.1 hc17
    refine wpC_seq ?_
    refine wpC_cut (fun ρ => ρ 2 = (Value.pointer (some (Addr.mk b9 0 none))) ∧ ρ 7 = (Value.int .i64 1) ∧ True) ⟨e2, e7, trivial⟩ ?_
    rintro ρ ⟨e2, e7, -⟩
    refine wpC_region ?_
    refine wpR_val (v := (Value.int .i64 1)) (w' := w3) rfl rfl rfl (x_move (v := (Value.int .i64 1)) rfl e7) ?_
    refine wpR_val (v := (Value.agg #[(Value.int .i64 1), (Value.int .i64 1)])) (w' := w3) rfl rfl rfl (x_build (qs := [(0, (Value.int .i64 1)), (1, (Value.int .i64 1))]) rfl (by rfl) (BD_46_0_1 1 1 _)) ?_
    refine wpR_val (v := (Value.pointer (some ((Addr.mk b9 0 none).add 9)))) (w' := w3) rfl rfl rfl (x_fieldAddr rfl e2 FA_24_9) ?_
    obtain ⟨x18, q18, h⟩ := h
    refine wpR_val (v := (Value.int .i64 x18)) (w' := w3) rfl rfl rfl (x_load1 rfl rfl SH_3 q18) ?_
    refine wpR_val (v := (Value.bool (decide (2 ≤ x18)))) (w' := w3) rfl rfl rfl (x_geq rfl rfl rfl) ?_
    refine wpR_val (v := (Value.bool (decide (2 ≤ x18)))) (w' := w3) rfl rfl rfl (x_move (v := (Value.bool (decide (2 ≤ x18)))) rfl rfl) ?_
    obtain ⟨J19, h, hk⟩ := h
    refine wpR_joinJ 7 (fun x ρ => ρ 33 = Value.bool x ∧ ρ 2 = (Value.pointer (some (Addr.mk b9 0 none))) ∧ ρ 7 = (Value.int .i64 1) ∧ ρ 22 = (Value.agg #[(Value.int .i64 1), (Value.int .i64 1)]) ∧ True) (fun x w => J19 x ∧ w3 = w) ?_ ?_
    · clear hk
      rcases Bool.eq_false_or_eq_true (decide (2 ≤ x18)) with hc20 | hc20
      · replace h := h.1 hc20
        refine wpR_val (v := (Value.pointer (some ((Addr.mk b9 0 none).add 8)))) (w' := w3) (wantG rfl rfl rfl hc20) rfl rfl (x_fieldAddr rfl e2 FA_24_8) ?_
        obtain ⟨x21, q21, h⟩ := h
        refine wpR_val (v := (Value.int .i64 x21)) (w' := w3) (wantG rfl rfl rfl hc20) rfl rfl (x_load1 rfl rfl SH_3 q21) ?_
        refine wpR_val (v := (Value.pointer (some ((Addr.mk b9 0 none).add 9)))) (w' := w3) (wantG rfl rfl rfl hc20) rfl rfl (x_fieldAddr rfl e2 FA_24_9) ?_
        obtain ⟨x22, q22, h⟩ := h
        refine wpR_val (v := (Value.int .i64 x22)) (w' := w3) (wantG rfl rfl rfl hc20) rfl rfl (x_load1 rfl rfl SH_3 q22) ?_
        refine wpR_val (v := (Value.int .i64 (IntKind.i64.wrap (x21 * x22)))) (w' := w3) (wantG rfl rfl rfl hc20) rfl rfl (x_mul rfl rfl rfl) ?_
        refine wpR_val (v := (Value.bool (decide (4400 ≤ (IntKind.i64.wrap (x21 * x22)))))) (w' := w3) (wantG rfl rfl rfl hc20) rfl rfl (x_geq rfl rfl rfl) ?_
        refine wpR_val (v := (Value.bool (decide (4400 ≤ (IntKind.i64.wrap (x21 * x22)))))) (w' := w3) rfl rfl rfl (x_pickT (v := (Value.bool (decide (4400 ≤ (IntKind.i64.wrap (x21 * x22)))))) rfl rfl hc20 rfl) ?_
        refine wpR_nil ?_
        exact ⟨decide (4400 ≤ (IntKind.i64.wrap (x21 * x22))), ⟨rfl, e2, e7, rfl, trivial⟩, h, rfl⟩
      · replace h := h.2 hc20
        refine wpR_pass (wantN rfl rfl rfl hc20) rfl rfl ?_
        refine wpR_pass (wantN rfl rfl rfl hc20) rfl rfl ?_
        refine wpR_pass (wantN rfl rfl rfl hc20) rfl rfl ?_
        refine wpR_pass (wantN rfl rfl rfl hc20) rfl rfl ?_
        refine wpR_pass (wantN rfl rfl rfl hc20) rfl rfl ?_
        refine wpR_pass (wantN rfl rfl rfl hc20) rfl rfl ?_
        refine wpR_val (v := (Value.bool false)) (w' := w3) rfl rfl rfl (x_pickF (v := (Value.bool false)) rfl rfl hc20 rfl) ?_
        refine wpR_nil ?_
        exact ⟨false, ⟨rfl, e2, e7, rfl, trivial⟩, h, rfl⟩
    clear h
    rintro c23 ρ wj ⟨e33, e2, e7, e22, -⟩ ⟨h, rfl⟩
    replace h := hk c23 h
    clear hk
    refine wpR_val (v := (Value.agg #[(Value.int .i64 1), (Value.int .i64 1), (Value.bool c23)])) (w' := w3) rfl rfl rfl (x_build (qs := [(0, (Value.agg #[(Value.int .i64 1), (Value.int .i64 1)])), (1, (Value.bool c23))]) rfl (bl_cons e22 (bl_cons e33 bl_nil)) (BD_55_0_1 1 1 c23 _)) ?_
    refine wpR_val (v := (Value.int .i64 1)) (w' := w3) rfl rfl rfl (x_move (v := (Value.int .i64 1)) rfl e7) ?_
    refine wpR_val (v := (Value.agg #[(Value.int .i64 4), (Value.int .i64 1)])) (w' := w3) rfl rfl rfl (x_build (qs := [(0, (Value.int .i64 4)), (1, (Value.int .i64 1))]) rfl (by rfl) (BD_46_0_1 4 1 _)) ?_
    refine wpR_val (v := (Value.pointer (some ((Addr.mk b9 0 none).add 9)))) (w' := w3) rfl rfl rfl (x_fieldAddr rfl e2 FA_24_9) ?_
    obtain ⟨x24, q24, h⟩ := h
    refine wpR_val (v := (Value.int .i64 x24)) (w' := w3) rfl rfl rfl (x_load1 rfl rfl SH_3 q24) ?_
    refine wpR_val (v := (Value.bool (decide (2 ≤ x24)))) (w' := w3) rfl rfl rfl (x_geq rfl rfl rfl) ?_
    refine wpR_val (v := (Value.agg #[(Value.int .i64 4), (Value.int .i64 1), (Value.bool (decide (2 ≤ x24)))])) (w' := w3) rfl rfl rfl (x_build (qs := [(0, (Value.agg #[(Value.int .i64 4), (Value.int .i64 1)])), (1, (Value.bool (decide (2 ≤ x24))))]) rfl (by rfl) (BD_55_0_1 4 1 (decide (2 ≤ x24)) _)) ?_
    refine wpR_val (v := (Value.agg #[(Value.int .i64 4), (Value.int .i64 0)])) (w' := w3) rfl rfl rfl (x_build (qs := [(0, (Value.int .i64 4)), (1, (Value.int .i64 0))]) rfl (by rfl) (BD_46_0_1 4 0 _)) ?_
    refine wpR_val (v := (Value.agg #[(Value.int .i64 4), (Value.int .i64 0), (Value.bool true)])) (w' := w3) rfl rfl rfl (x_build (qs := [(0, (Value.agg #[(Value.int .i64 4), (Value.int .i64 0)])), (1, (Value.bool true))]) rfl (by rfl) (BD_55_0_1 4 0 true _)) ?_
    obtain ⟨b25, hb25⟩ : ∃ u, u = w3.heap.size := ⟨_, rfl⟩
    obtain ⟨w4, hw25⟩ : ∃ u, u = w3.alloc (.cells #[(Value.int .i64 1), (Value.int .i64 1), (Value.bool c23), (Value.int .i64 4), (Value.int .i64 1), (Value.bool (decide (2 ≤ x24))), (Value.int .i64 4), (Value.int .i64 0), (Value.bool true)] 55) := ⟨_, rfl⟩
    replace h := h b25 w4 hb25 hw25
    refine wpR_val (v := (Sl.v (⟨some ⟨b25, 0, none⟩, 3, 3⟩ : Sl))) (w' := w4) rfl rfl rfl ((x_buildSlice (qs := [(0, (Value.agg #[(Value.int .i64 1), (Value.int .i64 1), (Value.bool c23)])), (1, (Value.agg #[(Value.int .i64 4), (Value.int .i64 1), (Value.bool (decide (2 ≤ x24)))])), (2, (Value.agg #[(Value.int .i64 4), (Value.int .i64 0), (Value.bool true)]))]) rfl (by rfl) (BS_51_3_0_1_2 1 1 c23 4 1 (decide (2 ≤ x24)) 4 0 true)).trans (by rw [← hb25, ← hw25])) ?_
    refine wpR_val (v := (Sl.v (⟨some ⟨b25, 0, none⟩, 3, 3⟩ : Sl))) (w' := w4) rfl rfl rfl (x_assign (v := (Sl.v (⟨some ⟨b25, 0, none⟩, 3, 3⟩ : Sl))) rfl rfl) ?_
    refine wpR_nil ?_
    refine wpC_ret ?_
    exact ⟨.inl rfl, fun a ha => ⟨_, results_rep1 rfl ha rfl, (⟨some ⟨b25, 0, none⟩, 3, 3⟩ : Sl), rfl, h⟩⟩
  · replace h := h.2 hc17
    refine wpC_seq ?_
    refine wpC_cut (fun ρ => ρ 2 = (Value.pointer (some (Addr.mk b9 0 none))) ∧ ρ 5 = (Value.bool c14) ∧ ρ 6 = (Value.pointer (some (Addr.mk b15 0 none))) ∧ ρ 7 = (Value.int .i64 1) ∧ ρ 8 = (Value.int .i64 2) ∧ ρ 18 = (Value.int .i64 p1) ∧ True) ⟨e2, e5, e6, e7, e8, e18, trivial⟩ ?_
    rintro ρ ⟨e2, e5, e6, e7, e8, e18, -⟩
    refine wpC_region ?_
    refine wpR_val (v := (Value.bool (decide (p1 = 2)))) (w' := w3) rfl rfl rfl (x_eql rfl e18 rfl) ?_
    refine wpR_val (v := (Value.bool (decide (p1 = 2)))) (w' := w3) rfl rfl rfl (x_assign (v := (Value.bool (decide (p1 = 2)))) rfl rfl) ?_
    refine wpR_nil ?_
    refine wpC_cond (b := decide (p1 = 2)) rfl (fun hc26 => ?_) (fun hc26 => ?_)
    · replace h := h.1 hc26
      refine wpC_seq ?_
      refine wpC_cut (fun ρ => ρ 5 = (Value.bool c14) ∧ ρ 6 = (Value.pointer (some (Addr.mk b15 0 none))) ∧ ρ 8 = (Value.int .i64 2) ∧ True) ⟨e5, e6, e8, trivial⟩ ?_
      rintro ρ ⟨e5, e6, e8, -⟩
      refine wpC_region ?_
      obtain ⟨x27, q27, x28, q28, h⟩ := h
      refine wpR_val (v := (Value.agg #[(Value.int .i64 x27), (Value.int .i64 x28)])) (w' := w3) rfl rfl rfl (x_loadN [(Value.int .i64 x27), (Value.int .i64 x28)] rfl e6 SH_46 (CellsAt.out (CellsAt.cons q27 (CellsAt.cons q28 CellsAt.nil)))) ?_
      refine wpR_val (v := (Value.bool c14)) (w' := w3) rfl rfl rfl (x_move (v := (Value.bool c14)) rfl e5) ?_
      refine wpR_val (v := (Value.agg #[(Value.int .i64 x27), (Value.int .i64 x28), (Value.bool c14)])) (w' := w3) rfl rfl rfl (x_build (qs := [(0, (Value.agg #[(Value.int .i64 x27), (Value.int .i64 x28)])), (1, (Value.bool c14))]) rfl (by rfl) (BD_55_0_1 x27 x28 c14 _)) ?_
      refine wpR_val (v := (Value.int .i64 2)) (w' := w3) rfl rfl rfl (x_move (v := (Value.int .i64 2)) rfl e8) ?_
      refine wpR_val (v := (Value.agg #[(Value.int .i64 3), (Value.int .i64 2)])) (w' := w3) rfl rfl rfl (x_build (qs := [(0, (Value.int .i64 3)), (1, (Value.int .i64 2))]) rfl (by rfl) (BD_46_0_1 3 2 _)) ?_
      refine wpR_val (v := (Value.agg #[(Value.int .i64 3), (Value.int .i64 2), (Value.bool true)])) (w' := w3) rfl rfl rfl (x_build (qs := [(0, (Value.agg #[(Value.int .i64 3), (Value.int .i64 2)])), (1, (Value.bool true))]) rfl (by rfl) (BD_55_0_1 3 2 true _)) ?_
      obtain ⟨b29, hb29⟩ : ∃ u, u = w3.heap.size := ⟨_, rfl⟩
      obtain ⟨w5, hw29⟩ : ∃ u, u = w3.alloc (.cells #[(Value.int .i64 x27), (Value.int .i64 x28), (Value.bool c14), (Value.int .i64 3), (Value.int .i64 2), (Value.bool true)] 55) := ⟨_, rfl⟩
      replace h := h b29 w5 hb29 hw29
      refine wpR_val (v := (Sl.v (⟨some ⟨b29, 0, none⟩, 2, 2⟩ : Sl))) (w' := w5) rfl rfl rfl ((x_buildSlice (qs := [(0, (Value.agg #[(Value.int .i64 x27), (Value.int .i64 x28), (Value.bool c14)])), (1, (Value.agg #[(Value.int .i64 3), (Value.int .i64 2), (Value.bool true)]))]) rfl (by rfl) (BS_51_2_0_1 x27 x28 c14 3 2 true)).trans (by rw [← hb29, ← hw29])) ?_
      refine wpR_val (v := (Sl.v (⟨some ⟨b29, 0, none⟩, 2, 2⟩ : Sl))) (w' := w5) rfl rfl rfl (x_assign (v := (Sl.v (⟨some ⟨b29, 0, none⟩, 2, 2⟩ : Sl))) rfl rfl) ?_
      refine wpR_nil ?_
      refine wpC_ret ?_
      exact ⟨.inl rfl, fun a ha => ⟨_, results_rep1 rfl ha rfl, (⟨some ⟨b29, 0, none⟩, 2, 2⟩ : Sl), rfl, h⟩⟩
    · replace h := h.2 hc26
      refine wpC_seq ?_
      refine wpC_cut (fun ρ => ρ 2 = (Value.pointer (some (Addr.mk b9 0 none))) ∧ ρ 5 = (Value.bool c14) ∧ ρ 6 = (Value.pointer (some (Addr.mk b15 0 none))) ∧ ρ 7 = (Value.int .i64 1) ∧ ρ 8 = (Value.int .i64 2) ∧ ρ 18 = (Value.int .i64 p1) ∧ True) ⟨e2, e5, e6, e7, e8, e18, trivial⟩ ?_
      rintro ρ ⟨e2, e5, e6, e7, e8, e18, -⟩
      refine wpC_region ?_
      refine wpR_val (v := (Value.bool (decide (p1 = 3)))) (w' := w3) rfl rfl rfl (x_eql rfl e18 rfl) ?_
      refine wpR_val (v := (Value.bool (decide (p1 = 3)))) (w' := w3) rfl rfl rfl (x_assign (v := (Value.bool (decide (p1 = 3)))) rfl rfl) ?_
      refine wpR_nil ?_
      refine wpC_cond (b := decide (p1 = 3)) rfl (fun hc30 => ?_) (fun hc30 => ?_)
      · replace h := h.1 hc30
        refine wpC_seq ?_
        refine wpC_cut (fun ρ => ρ 2 = (Value.pointer (some (Addr.mk b9 0 none))) ∧ ρ 5 = (Value.bool c14) ∧ ρ 6 = (Value.pointer (some (Addr.mk b15 0 none))) ∧ ρ 8 = (Value.int .i64 2) ∧ True) ⟨e2, e5, e6, e8, trivial⟩ ?_
        rintro ρ ⟨e2, e5, e6, e8, -⟩
        refine wpC_region ?_
        obtain ⟨x31, q31, x32, q32, h⟩ := h
        refine wpR_val (v := (Value.agg #[(Value.int .i64 x31), (Value.int .i64 x32)])) (w' := w3) rfl rfl rfl (x_loadN [(Value.int .i64 x31), (Value.int .i64 x32)] rfl e6 SH_46 (CellsAt.out (CellsAt.cons q31 (CellsAt.cons q32 CellsAt.nil)))) ?_
        refine wpR_val (v := (Value.pointer (some ((Addr.mk b9 0 none).add 3)))) (w' := w3) rfl rfl rfl (x_fieldAddr rfl e2 FA_24_3) ?_
        obtain ⟨x33, q33, h⟩ := h
        refine wpR_val (v := (Value.int .i64 x33)) (w' := w3) rfl rfl rfl (x_load1 rfl rfl SH_3 q33) ?_
        refine wpR_val (v := (Value.bool (!decide (x33 = 0)))) (w' := w3) rfl rfl rfl (x_neq rfl rfl rfl) ?_
        refine wpR_val (v := (Value.agg #[(Value.int .i64 x31), (Value.int .i64 x32), (Value.bool (!decide (x33 = 0)))])) (w' := w3) rfl rfl rfl (x_build (qs := [(0, (Value.agg #[(Value.int .i64 x31), (Value.int .i64 x32)])), (1, (Value.bool (!decide (x33 = 0))))]) rfl (by rfl) (BD_55_0_1 x31 x32 (!decide (x33 = 0)) _)) ?_
        refine wpR_val (v := (Value.agg #[(Value.int .i64 2), (Value.int .i64 0)])) (w' := w3) rfl rfl rfl (x_build (qs := [(0, (Value.int .i64 2)), (1, (Value.int .i64 0))]) rfl (by rfl) (BD_46_0_1 2 0 _)) ?_
        refine wpR_val (v := (Value.bool c14)) (w' := w3) rfl rfl rfl (x_move (v := (Value.bool c14)) rfl e5) ?_
        refine wpR_val (v := (Value.agg #[(Value.int .i64 2), (Value.int .i64 0), (Value.bool c14)])) (w' := w3) rfl rfl rfl (x_build (qs := [(0, (Value.agg #[(Value.int .i64 2), (Value.int .i64 0)])), (1, (Value.bool c14))]) rfl (by rfl) (BD_55_0_1 2 0 c14 _)) ?_
        refine wpR_val (v := (Value.int .i64 2)) (w' := w3) rfl rfl rfl (x_move (v := (Value.int .i64 2)) rfl e8) ?_
        refine wpR_val (v := (Value.agg #[(Value.int .i64 3), (Value.int .i64 2)])) (w' := w3) rfl rfl rfl (x_build (qs := [(0, (Value.int .i64 3)), (1, (Value.int .i64 2))]) rfl (by rfl) (BD_46_0_1 3 2 _)) ?_
        refine wpR_val (v := (Value.agg #[(Value.int .i64 3), (Value.int .i64 2), (Value.bool true)])) (w' := w3) rfl rfl rfl (x_build (qs := [(0, (Value.agg #[(Value.int .i64 3), (Value.int .i64 2)])), (1, (Value.bool true))]) rfl (by rfl) (BD_55_0_1 3 2 true _)) ?_
        obtain ⟨b34, hb34⟩ : ∃ u, u = w3.heap.size := ⟨_, rfl⟩
        obtain ⟨w6, hw34⟩ : ∃ u, u = w3.alloc (.cells #[(Value.int .i64 x31), (Value.int .i64 x32), (Value.bool (!decide (x33 = 0))), (Value.int .i64 2), (Value.int .i64 0), (Value.bool c14), (Value.int .i64 3), (Value.int .i64 2), (Value.bool true)] 55) := ⟨_, rfl⟩
        replace h := h b34 w6 hb34 hw34
        refine wpR_val (v := (Sl.v (⟨some ⟨b34, 0, none⟩, 3, 3⟩ : Sl))) (w' := w6) rfl rfl rfl ((x_buildSlice (qs := [(0, (Value.agg #[(Value.int .i64 x31), (Value.int .i64 x32), (Value.bool (!decide (x33 = 0)))])), (1, (Value.agg #[(Value.int .i64 2), (Value.int .i64 0), (Value.bool c14)])), (2, (Value.agg #[(Value.int .i64 3), (Value.int .i64 2), (Value.bool true)]))]) rfl (by rfl) (BS_51_3_0_1_2 x31 x32 (!decide (x33 = 0)) 2 0 c14 3 2 true)).trans (by rw [← hb34, ← hw34])) ?_
        refine wpR_val (v := (Sl.v (⟨some ⟨b34, 0, none⟩, 3, 3⟩ : Sl))) (w' := w6) rfl rfl rfl (x_assign (v := (Sl.v (⟨some ⟨b34, 0, none⟩, 3, 3⟩ : Sl))) rfl rfl) ?_
        refine wpR_nil ?_
        refine wpC_ret ?_
        exact ⟨.inl rfl, fun a ha => ⟨_, results_rep1 rfl ha rfl, (⟨some ⟨b34, 0, none⟩, 3, 3⟩ : Sl), rfl, h⟩⟩
      · replace h := h.2 hc30
        refine wpC_seq ?_
        refine wpC_cut (fun ρ => ρ 2 = (Value.pointer (some (Addr.mk b9 0 none))) ∧ ρ 6 = (Value.pointer (some (Addr.mk b15 0 none))) ∧ ρ 7 = (Value.int .i64 1) ∧ ρ 8 = (Value.int .i64 2) ∧ ρ 18 = (Value.int .i64 p1) ∧ True) ⟨e2, e6, e7, e8, e18, trivial⟩ ?_
        rintro ρ ⟨e2, e6, e7, e8, e18, -⟩
        refine wpC_region ?_
        refine wpR_val (v := (Value.bool (decide (p1 = 4)))) (w' := w3) rfl rfl rfl (x_eql rfl e18 rfl) ?_
        refine wpR_val (v := (Value.bool (decide (p1 = 4)))) (w' := w3) rfl rfl rfl (x_assign (v := (Value.bool (decide (p1 = 4)))) rfl rfl) ?_
        refine wpR_nil ?_
        refine wpC_cond (b := decide (p1 = 4)) rfl (fun hc35 => ?_) (fun hc35 => ?_)
        · replace h := h.1 hc35
          refine wpC_seq ?_
          refine wpC_cut (fun ρ => ρ 2 = (Value.pointer (some (Addr.mk b9 0 none))) ∧ ρ 6 = (Value.pointer (some (Addr.mk b15 0 none))) ∧ ρ 7 = (Value.int .i64 1) ∧ ρ 8 = (Value.int .i64 2) ∧ True) ⟨e2, e6, e7, e8, trivial⟩ ?_
          rintro ρ ⟨e2, e6, e7, e8, -⟩
          refine wpC_region ?_
          obtain ⟨x36, q36, x37, q37, h⟩ := h
          refine wpR_val (v := (Value.agg #[(Value.int .i64 x36), (Value.int .i64 x37)])) (w' := w3) rfl rfl rfl (x_loadN [(Value.int .i64 x36), (Value.int .i64 x37)] rfl e6 SH_46 (CellsAt.out (CellsAt.cons q36 (CellsAt.cons q37 CellsAt.nil)))) ?_
          refine wpR_val (v := (Value.pointer (some ((Addr.mk b9 0 none).add 4)))) (w' := w3) rfl rfl rfl (x_fieldAddr rfl e2 FA_24_4) ?_
          obtain ⟨x38, q38, h⟩ := h
          refine wpR_val (v := (Value.bool x38)) (w' := w3) rfl rfl rfl (x_load1 rfl rfl SH_4 q38) ?_
          refine wpR_val (v := (Value.bool x38)) (w' := w3) rfl rfl rfl (x_move (v := (Value.bool x38)) rfl rfl) ?_
          obtain ⟨J39, h, hk⟩ := h
          refine wpR_joinJ 4 (fun x ρ => ρ 76 = Value.bool x ∧ ρ 2 = (Value.pointer (some (Addr.mk b9 0 none))) ∧ ρ 7 = (Value.int .i64 1) ∧ ρ 8 = (Value.int .i64 2) ∧ ρ 69 = (Value.agg #[(Value.int .i64 x36), (Value.int .i64 x37)]) ∧ True) (fun x w => J39 x ∧ w3 = w) ?_ ?_
          · clear hk
            rcases Bool.eq_false_or_eq_true (x38) with hc40 | hc40
            · replace h := h.1 hc40
              refine wpR_val (v := (Value.pointer (some ((Addr.mk b9 0 none).add 9)))) (w' := w3) (wantG rfl rfl rfl hc40) rfl rfl (x_fieldAddr rfl e2 FA_24_9) ?_
              obtain ⟨x41, q41, h⟩ := h
              refine wpR_val (v := (Value.int .i64 x41)) (w' := w3) (wantG rfl rfl rfl hc40) rfl rfl (x_load1 rfl rfl SH_3 q41) ?_
              refine wpR_val (v := (Value.bool (decide (x41 = 1)))) (w' := w3) (wantG rfl rfl rfl hc40) rfl rfl (x_eql rfl rfl rfl) ?_
              refine wpR_val (v := (Value.bool (decide (x41 = 1)))) (w' := w3) rfl rfl rfl (x_pickT (v := (Value.bool (decide (x41 = 1)))) rfl rfl hc40 rfl) ?_
              refine wpR_nil ?_
              exact ⟨decide (x41 = 1), ⟨rfl, e2, e7, e8, rfl, trivial⟩, h, rfl⟩
            · replace h := h.2 hc40
              refine wpR_pass (wantN rfl rfl rfl hc40) rfl rfl ?_
              refine wpR_pass (wantN rfl rfl rfl hc40) rfl rfl ?_
              refine wpR_pass (wantN rfl rfl rfl hc40) rfl rfl ?_
              refine wpR_val (v := (Value.bool false)) (w' := w3) rfl rfl rfl (x_pickF (v := (Value.bool false)) rfl rfl hc40 rfl) ?_
              refine wpR_nil ?_
              exact ⟨false, ⟨rfl, e2, e7, e8, rfl, trivial⟩, h, rfl⟩
          clear h
          rintro c42 ρ wj ⟨e76, e2, e7, e8, e69, -⟩ ⟨h, rfl⟩
          replace h := hk c42 h
          clear hk
          refine wpR_val (v := (Value.agg #[(Value.int .i64 x36), (Value.int .i64 x37), (Value.bool c42)])) (w' := w3) rfl rfl rfl (x_build (qs := [(0, (Value.agg #[(Value.int .i64 x36), (Value.int .i64 x37)])), (1, (Value.bool c42))]) rfl (bl_cons e69 (bl_cons e76 bl_nil)) (BD_55_0_1 x36 x37 c42 _)) ?_
          refine wpR_val (v := (Value.int .i64 1)) (w' := w3) rfl rfl rfl (x_move (v := (Value.int .i64 1)) rfl e7) ?_
          refine wpR_val (v := (Value.agg #[(Value.int .i64 0), (Value.int .i64 1)])) (w' := w3) rfl rfl rfl (x_build (qs := [(0, (Value.int .i64 0)), (1, (Value.int .i64 1))]) rfl (by rfl) (BD_46_0_1 0 1 _)) ?_
          refine wpR_val (v := (Value.pointer (some ((Addr.mk b9 0 none).add 4)))) (w' := w3) rfl rfl rfl (x_fieldAddr rfl e2 FA_24_4) ?_
          obtain ⟨x43, q43, h⟩ := h
          refine wpR_val (v := (Value.bool x43)) (w' := w3) rfl rfl rfl (x_load1 rfl rfl SH_4 q43) ?_
          refine wpR_val (v := (Value.agg #[(Value.int .i64 0), (Value.int .i64 1), (Value.bool x43)])) (w' := w3) rfl rfl rfl (x_build (qs := [(0, (Value.agg #[(Value.int .i64 0), (Value.int .i64 1)])), (1, (Value.bool x43))]) rfl (by rfl) (BD_55_0_1 0 1 x43 _)) ?_
          refine wpR_val (v := (Value.int .i64 2)) (w' := w3) rfl rfl rfl (x_move (v := (Value.int .i64 2)) rfl e8) ?_
          refine wpR_val (v := (Value.agg #[(Value.int .i64 3), (Value.int .i64 2)])) (w' := w3) rfl rfl rfl (x_build (qs := [(0, (Value.int .i64 3)), (1, (Value.int .i64 2))]) rfl (by rfl) (BD_46_0_1 3 2 _)) ?_
          refine wpR_val (v := (Value.agg #[(Value.int .i64 3), (Value.int .i64 2), (Value.bool true)])) (w' := w3) rfl rfl rfl (x_build (qs := [(0, (Value.agg #[(Value.int .i64 3), (Value.int .i64 2)])), (1, (Value.bool true))]) rfl (by rfl) (BD_55_0_1 3 2 true _)) ?_
          obtain ⟨b44, hb44⟩ : ∃ u, u = w3.heap.size := ⟨_, rfl⟩
          obtain ⟨w7, hw44⟩ : ∃ u, u = w3.alloc (.cells #[(Value.int .i64 x36), (Value.int .i64 x37), (Value.bool c42), (Value.int .i64 0), (Value.int .i64 1), (Value.bool x43), (Value.int .i64 3), (Value.int .i64 2), (Value.bool true)] 55) := ⟨_, rfl⟩
          replace h := h b44 w7 hb44 hw44
          refine wpR_val (v := (Sl.v (⟨some ⟨b44, 0, none⟩, 3, 3⟩ : Sl))) (w' := w7) rfl rfl rfl ((x_buildSlice (qs := [(0, (Value.agg #[(Value.int .i64 x36), (Value.int .i64 x37), (Value.bool c42)])), (1, (Value.agg #[(Value.int .i64 0), (Value.int .i64 1), (Value.bool x43)])), (2, (Value.agg #[(Value.int .i64 3), (Value.int .i64 2), (Value.bool true)]))]) rfl (by rfl) (BS_51_3_0_1_2 x36 x37 c42 0 1 x43 3 2 true)).trans (by rw [← hb44, ← hw44])) ?_
          refine wpR_val (v := (Sl.v (⟨some ⟨b44, 0, none⟩, 3, 3⟩ : Sl))) (w' := w7) rfl rfl rfl (x_assign (v := (Sl.v (⟨some ⟨b44, 0, none⟩, 3, 3⟩ : Sl))) rfl rfl) ?_
          refine wpR_nil ?_
          refine wpC_ret ?_
          exact ⟨.inl rfl, fun a ha => ⟨_, results_rep1 rfl ha rfl, (⟨some ⟨b44, 0, none⟩, 3, 3⟩ : Sl), rfl, h⟩⟩
        · replace h := h.2 hc35
          refine wpC_seq ?_
          refine wpC_cut (fun ρ => ρ 2 = (Value.pointer (some (Addr.mk b9 0 none))) ∧ ρ 6 = (Value.pointer (some (Addr.mk b15 0 none))) ∧ ρ 7 = (Value.int .i64 1) ∧ ρ 8 = (Value.int .i64 2) ∧ ρ 18 = (Value.int .i64 p1) ∧ True) ⟨e2, e6, e7, e8, e18, trivial⟩ ?_
          rintro ρ ⟨e2, e6, e7, e8, e18, -⟩
          refine wpC_region ?_
          refine wpR_val (v := (Value.bool (decide (p1 = 5)))) (w' := w3) rfl rfl rfl (x_eql rfl e18 rfl) ?_
          refine wpR_val (v := (Value.bool (decide (p1 = 5)))) (w' := w3) rfl rfl rfl (x_assign (v := (Value.bool (decide (p1 = 5)))) rfl rfl) ?_
          refine wpR_nil ?_
          refine wpC_cond (b := decide (p1 = 5)) rfl (fun hc45 => ?_) (fun hc45 => ?_)
          · replace h := h.1 hc45
            refine wpC_seq ?_
            refine wpC_cut (fun ρ => ρ 2 = (Value.pointer (some (Addr.mk b9 0 none))) ∧ ρ 6 = (Value.pointer (some (Addr.mk b15 0 none))) ∧ ρ 7 = (Value.int .i64 1) ∧ ρ 8 = (Value.int .i64 2) ∧ True) ⟨e2, e6, e7, e8, trivial⟩ ?_
            rintro ρ ⟨e2, e6, e7, e8, -⟩
            refine wpC_region ?_
            obtain ⟨x46, q46, x47, q47, h⟩ := h
            refine wpR_val (v := (Value.agg #[(Value.int .i64 x46), (Value.int .i64 x47)])) (w' := w3) rfl rfl rfl (x_loadN [(Value.int .i64 x46), (Value.int .i64 x47)] rfl e6 SH_46 (CellsAt.out (CellsAt.cons q46 (CellsAt.cons q47 CellsAt.nil)))) ?_
            refine wpR_val (v := (Value.pointer (some ((Addr.mk b9 0 none).add 5)))) (w' := w3) rfl rfl rfl (x_fieldAddr rfl e2 FA_24_5) ?_
            obtain ⟨x48, q48, h⟩ := h
            refine wpR_val (v := (Value.int .i64 x48)) (w' := w3) rfl rfl rfl (x_load1 rfl rfl SH_3 q48) ?_
            refine wpR_val (v := (Value.bool (decide (x48 = 2)))) (w' := w3) rfl rfl rfl (x_eql rfl rfl rfl) ?_
            refine wpR_val (v := (Value.agg #[(Value.int .i64 x46), (Value.int .i64 x47), (Value.bool (decide (x48 = 2)))])) (w' := w3) rfl rfl rfl (x_build (qs := [(0, (Value.agg #[(Value.int .i64 x46), (Value.int .i64 x47)])), (1, (Value.bool (decide (x48 = 2))))]) rfl (by rfl) (BD_55_0_1 x46 x47 (decide (x48 = 2)) _)) ?_
            refine wpR_val (v := (Value.int .i64 1)) (w' := w3) rfl rfl rfl (x_move (v := (Value.int .i64 1)) rfl e7) ?_
            refine wpR_val (v := (Value.agg #[(Value.int .i64 2), (Value.int .i64 1)])) (w' := w3) rfl rfl rfl (x_build (qs := [(0, (Value.int .i64 2)), (1, (Value.int .i64 1))]) rfl (by rfl) (BD_46_0_1 2 1 _)) ?_
            refine wpR_val (v := (Value.pointer (some ((Addr.mk b9 0 none).add 5)))) (w' := w3) rfl rfl rfl (x_fieldAddr rfl e2 FA_24_5) ?_
            obtain ⟨x49, q49, h⟩ := h
            refine wpR_val (v := (Value.int .i64 x49)) (w' := w3) rfl rfl rfl (x_load1 rfl rfl SH_3 q49) ?_
            refine wpR_val (v := (Value.bool (decide (x49 = 1)))) (w' := w3) rfl rfl rfl (x_eql rfl rfl rfl) ?_
            refine wpR_val (v := (Value.agg #[(Value.int .i64 2), (Value.int .i64 1), (Value.bool (decide (x49 = 1)))])) (w' := w3) rfl rfl rfl (x_build (qs := [(0, (Value.agg #[(Value.int .i64 2), (Value.int .i64 1)])), (1, (Value.bool (decide (x49 = 1))))]) rfl (by rfl) (BD_55_0_1 2 1 (decide (x49 = 1)) _)) ?_
            refine wpR_val (v := (Value.int .i64 2)) (w' := w3) rfl rfl rfl (x_move (v := (Value.int .i64 2)) rfl e8) ?_
            refine wpR_val (v := (Value.agg #[(Value.int .i64 2), (Value.int .i64 2)])) (w' := w3) rfl rfl rfl (x_build (qs := [(0, (Value.int .i64 2)), (1, (Value.int .i64 2))]) rfl (by rfl) (BD_46_0_1 2 2 _)) ?_
            refine wpR_val (v := (Value.agg #[(Value.int .i64 2), (Value.int .i64 2), (Value.bool true)])) (w' := w3) rfl rfl rfl (x_build (qs := [(0, (Value.agg #[(Value.int .i64 2), (Value.int .i64 2)])), (1, (Value.bool true))]) rfl (by rfl) (BD_55_0_1 2 2 true _)) ?_
            obtain ⟨b50, hb50⟩ : ∃ u, u = w3.heap.size := ⟨_, rfl⟩
            obtain ⟨w8, hw50⟩ : ∃ u, u = w3.alloc (.cells #[(Value.int .i64 x46), (Value.int .i64 x47), (Value.bool (decide (x48 = 2))), (Value.int .i64 2), (Value.int .i64 1), (Value.bool (decide (x49 = 1))), (Value.int .i64 2), (Value.int .i64 2), (Value.bool true)] 55) := ⟨_, rfl⟩
            replace h := h b50 w8 hb50 hw50
            refine wpR_val (v := (Sl.v (⟨some ⟨b50, 0, none⟩, 3, 3⟩ : Sl))) (w' := w8) rfl rfl rfl ((x_buildSlice (qs := [(0, (Value.agg #[(Value.int .i64 x46), (Value.int .i64 x47), (Value.bool (decide (x48 = 2)))])), (1, (Value.agg #[(Value.int .i64 2), (Value.int .i64 1), (Value.bool (decide (x49 = 1)))])), (2, (Value.agg #[(Value.int .i64 2), (Value.int .i64 2), (Value.bool true)]))]) rfl (by rfl) (BS_51_3_0_1_2 x46 x47 (decide (x48 = 2)) 2 1 (decide (x49 = 1)) 2 2 true)).trans (by rw [← hb50, ← hw50])) ?_
            refine wpR_val (v := (Sl.v (⟨some ⟨b50, 0, none⟩, 3, 3⟩ : Sl))) (w' := w8) rfl rfl rfl (x_assign (v := (Sl.v (⟨some ⟨b50, 0, none⟩, 3, 3⟩ : Sl))) rfl rfl) ?_
            refine wpR_nil ?_
            refine wpC_ret ?_
            exact ⟨.inl rfl, fun a ha => ⟨_, results_rep1 rfl ha rfl, (⟨some ⟨b50, 0, none⟩, 3, 3⟩ : Sl), rfl, h⟩⟩
          · replace h := h.2 hc45
            refine wpC_seq ?_
            refine wpC_cut (fun ρ => ρ 2 = (Value.pointer (some (Addr.mk b9 0 none))) ∧ ρ 6 = (Value.pointer (some (Addr.mk b15 0 none))) ∧ ρ 7 = (Value.int .i64 1) ∧ ρ 8 = (Value.int .i64 2) ∧ ρ 18 = (Value.int .i64 p1) ∧ True) ⟨e2, e6, e7, e8, e18, trivial⟩ ?_
            rintro ρ ⟨e2, e6, e7, e8, e18, -⟩
            refine wpC_region ?_
            refine wpR_val (v := (Value.bool (decide (p1 = 6)))) (w' := w3) rfl rfl rfl (x_eql rfl e18 rfl) ?_
            refine wpR_val (v := (Value.bool (decide (p1 = 6)))) (w' := w3) rfl rfl rfl (x_assign (v := (Value.bool (decide (p1 = 6)))) rfl rfl) ?_
            refine wpR_nil ?_
            refine wpC_cond (b := decide (p1 = 6)) rfl (fun hc51 => ?_) (fun hc51 => ?_)
            · replace h := h.1 hc51
              refine wpC_seq ?_
              refine wpC_cut (fun ρ => ρ 2 = (Value.pointer (some (Addr.mk b9 0 none))) ∧ ρ 6 = (Value.pointer (some (Addr.mk b15 0 none))) ∧ ρ 8 = (Value.int .i64 2) ∧ True) ⟨e2, e6, e8, trivial⟩ ?_
              rintro ρ ⟨e2, e6, e8, -⟩
              refine wpC_region ?_
              obtain ⟨x52, q52, x53, q53, h⟩ := h
              refine wpR_val (v := (Value.agg #[(Value.int .i64 x52), (Value.int .i64 x53)])) (w' := w3) rfl rfl rfl (x_loadN [(Value.int .i64 x52), (Value.int .i64 x53)] rfl e6 SH_46 (CellsAt.out (CellsAt.cons q52 (CellsAt.cons q53 CellsAt.nil)))) ?_
              refine wpR_val (v := (Value.pointer (some ((Addr.mk b9 0 none).add 6)))) (w' := w3) rfl rfl rfl (x_fieldAddr rfl e2 FA_24_6) ?_
              obtain ⟨x54, q54, h⟩ := h
              refine wpR_val (v := (Value.bool x54)) (w' := w3) rfl rfl rfl (x_load1 rfl rfl SH_4 q54) ?_
              refine wpR_val (v := (Value.agg #[(Value.int .i64 x52), (Value.int .i64 x53), (Value.bool x54)])) (w' := w3) rfl rfl rfl (x_build (qs := [(0, (Value.agg #[(Value.int .i64 x52), (Value.int .i64 x53)])), (1, (Value.bool x54))]) rfl (by rfl) (BD_55_0_1 x52 x53 x54 _)) ?_
              refine wpR_val (v := (Value.int .i64 2)) (w' := w3) rfl rfl rfl (x_move (v := (Value.int .i64 2)) rfl e8) ?_
              refine wpR_val (v := (Value.agg #[(Value.int .i64 2), (Value.int .i64 2)])) (w' := w3) rfl rfl rfl (x_build (qs := [(0, (Value.int .i64 2)), (1, (Value.int .i64 2))]) rfl (by rfl) (BD_46_0_1 2 2 _)) ?_
              refine wpR_val (v := (Value.agg #[(Value.int .i64 2), (Value.int .i64 2), (Value.bool true)])) (w' := w3) rfl rfl rfl (x_build (qs := [(0, (Value.agg #[(Value.int .i64 2), (Value.int .i64 2)])), (1, (Value.bool true))]) rfl (by rfl) (BD_55_0_1 2 2 true _)) ?_
              obtain ⟨b55, hb55⟩ : ∃ u, u = w3.heap.size := ⟨_, rfl⟩
              obtain ⟨w9, hw55⟩ : ∃ u, u = w3.alloc (.cells #[(Value.int .i64 x52), (Value.int .i64 x53), (Value.bool x54), (Value.int .i64 2), (Value.int .i64 2), (Value.bool true)] 55) := ⟨_, rfl⟩
              replace h := h b55 w9 hb55 hw55
              refine wpR_val (v := (Sl.v (⟨some ⟨b55, 0, none⟩, 2, 2⟩ : Sl))) (w' := w9) rfl rfl rfl ((x_buildSlice (qs := [(0, (Value.agg #[(Value.int .i64 x52), (Value.int .i64 x53), (Value.bool x54)])), (1, (Value.agg #[(Value.int .i64 2), (Value.int .i64 2), (Value.bool true)]))]) rfl (by rfl) (BS_51_2_0_1 x52 x53 x54 2 2 true)).trans (by rw [← hb55, ← hw55])) ?_
              refine wpR_val (v := (Sl.v (⟨some ⟨b55, 0, none⟩, 2, 2⟩ : Sl))) (w' := w9) rfl rfl rfl (x_assign (v := (Sl.v (⟨some ⟨b55, 0, none⟩, 2, 2⟩ : Sl))) rfl rfl) ?_
              refine wpR_nil ?_
              refine wpC_ret ?_
              exact ⟨.inl rfl, fun a ha => ⟨_, results_rep1 rfl ha rfl, (⟨some ⟨b55, 0, none⟩, 2, 2⟩ : Sl), rfl, h⟩⟩
            · replace h := h.2 hc51
              refine wpC_seq ?_
              refine wpC_cut (fun ρ => ρ 2 = (Value.pointer (some (Addr.mk b9 0 none))) ∧ ρ 6 = (Value.pointer (some (Addr.mk b15 0 none))) ∧ ρ 7 = (Value.int .i64 1) ∧ ρ 8 = (Value.int .i64 2) ∧ ρ 18 = (Value.int .i64 p1) ∧ True) ⟨e2, e6, e7, e8, e18, trivial⟩ ?_
              rintro ρ ⟨e2, e6, e7, e8, e18, -⟩
              refine wpC_region ?_
              refine wpR_val (v := (Value.bool (decide (p1 = 7)))) (w' := w3) rfl rfl rfl (x_eql rfl e18 rfl) ?_
              refine wpR_val (v := (Value.bool (decide (p1 = 7)))) (w' := w3) rfl rfl rfl (x_assign (v := (Value.bool (decide (p1 = 7)))) rfl rfl) ?_
              refine wpR_nil ?_
              refine wpC_cond (b := decide (p1 = 7)) rfl (fun hc56 => ?_) (fun hc56 => ?_)
              · replace h := h.1 hc56
                refine wpC_seq ?_
                refine wpC_cut (fun ρ => ρ 2 = (Value.pointer (some (Addr.mk b9 0 none))) ∧ ρ 6 = (Value.pointer (some (Addr.mk b15 0 none))) ∧ ρ 8 = (Value.int .i64 2) ∧ True) ⟨e2, e6, e8, trivial⟩ ?_
                rintro ρ ⟨e2, e6, e8, -⟩
                refine wpC_region ?_
                obtain ⟨x57, q57, x58, q58, h⟩ := h
                refine wpR_val (v := (Value.agg #[(Value.int .i64 x57), (Value.int .i64 x58)])) (w' := w3) rfl rfl rfl (x_loadN [(Value.int .i64 x57), (Value.int .i64 x58)] rfl e6 SH_46 (CellsAt.out (CellsAt.cons q57 (CellsAt.cons q58 CellsAt.nil)))) ?_
                refine wpR_val (v := (Value.pointer (some ((Addr.mk b9 0 none).add 7)))) (w' := w3) rfl rfl rfl (x_fieldAddr rfl e2 FA_24_7) ?_
                obtain ⟨x59, q59, h⟩ := h
                refine wpR_val (v := (Value.bool x59)) (w' := w3) rfl rfl rfl (x_load1 rfl rfl SH_4 q59) ?_
                refine wpR_val (v := (Value.agg #[(Value.int .i64 x57), (Value.int .i64 x58), (Value.bool x59)])) (w' := w3) rfl rfl rfl (x_build (qs := [(0, (Value.agg #[(Value.int .i64 x57), (Value.int .i64 x58)])), (1, (Value.bool x59))]) rfl (by rfl) (BD_55_0_1 x57 x58 x59 _)) ?_
                refine wpR_val (v := (Value.int .i64 2)) (w' := w3) rfl rfl rfl (x_move (v := (Value.int .i64 2)) rfl e8) ?_
                refine wpR_val (v := (Value.agg #[(Value.int .i64 2), (Value.int .i64 2)])) (w' := w3) rfl rfl rfl (x_build (qs := [(0, (Value.int .i64 2)), (1, (Value.int .i64 2))]) rfl (by rfl) (BD_46_0_1 2 2 _)) ?_
                refine wpR_val (v := (Value.agg #[(Value.int .i64 2), (Value.int .i64 2), (Value.bool true)])) (w' := w3) rfl rfl rfl (x_build (qs := [(0, (Value.agg #[(Value.int .i64 2), (Value.int .i64 2)])), (1, (Value.bool true))]) rfl (by rfl) (BD_55_0_1 2 2 true _)) ?_
                obtain ⟨b60, hb60⟩ : ∃ u, u = w3.heap.size := ⟨_, rfl⟩
                obtain ⟨w10, hw60⟩ : ∃ u, u = w3.alloc (.cells #[(Value.int .i64 x57), (Value.int .i64 x58), (Value.bool x59), (Value.int .i64 2), (Value.int .i64 2), (Value.bool true)] 55) := ⟨_, rfl⟩
                replace h := h b60 w10 hb60 hw60
                refine wpR_val (v := (Sl.v (⟨some ⟨b60, 0, none⟩, 2, 2⟩ : Sl))) (w' := w10) rfl rfl rfl ((x_buildSlice (qs := [(0, (Value.agg #[(Value.int .i64 x57), (Value.int .i64 x58), (Value.bool x59)])), (1, (Value.agg #[(Value.int .i64 2), (Value.int .i64 2), (Value.bool true)]))]) rfl (by rfl) (BS_51_2_0_1 x57 x58 x59 2 2 true)).trans (by rw [← hb60, ← hw60])) ?_
                refine wpR_val (v := (Sl.v (⟨some ⟨b60, 0, none⟩, 2, 2⟩ : Sl))) (w' := w10) rfl rfl rfl (x_assign (v := (Sl.v (⟨some ⟨b60, 0, none⟩, 2, 2⟩ : Sl))) rfl rfl) ?_
                refine wpR_nil ?_
                refine wpC_ret ?_
                exact ⟨.inl rfl, fun a ha => ⟨_, results_rep1 rfl ha rfl, (⟨some ⟨b60, 0, none⟩, 2, 2⟩ : Sl), rfl, h⟩⟩
              · replace h := h.2 hc56
                refine wpC_seq ?_
                refine wpC_cut (fun ρ => ρ 2 = (Value.pointer (some (Addr.mk b9 0 none))) ∧ ρ 6 = (Value.pointer (some (Addr.mk b15 0 none))) ∧ ρ 7 = (Value.int .i64 1) ∧ ρ 8 = (Value.int .i64 2) ∧ ρ 18 = (Value.int .i64 p1) ∧ True) ⟨e2, e6, e7, e8, e18, trivial⟩ ?_
                rintro ρ ⟨e2, e6, e7, e8, e18, -⟩
                refine wpC_region ?_
                refine wpR_val (v := (Value.bool (decide (p1 = 8)))) (w' := w3) rfl rfl rfl (x_eql rfl e18 rfl) ?_
                refine wpR_val (v := (Value.bool (decide (p1 = 8)))) (w' := w3) rfl rfl rfl (x_assign (v := (Value.bool (decide (p1 = 8)))) rfl rfl) ?_
                refine wpR_nil ?_
                refine wpC_cond (b := decide (p1 = 8)) rfl (fun hc61 => ?_) (fun hc61 => ?_)
                · replace h := h.1 hc61
                  refine wpC_seq ?_
                  refine wpC_cut (fun ρ => ρ 2 = (Value.pointer (some (Addr.mk b9 0 none))) ∧ ρ 6 = (Value.pointer (some (Addr.mk b15 0 none))) ∧ ρ 7 = (Value.int .i64 1) ∧ ρ 8 = (Value.int .i64 2) ∧ True) ⟨e2, e6, e7, e8, trivial⟩ ?_
                  rintro ρ ⟨e2, e6, e7, e8, -⟩
                  refine wpC_region ?_
                  obtain ⟨x62, q62, x63, q63, h⟩ := h
                  refine wpR_val (v := (Value.agg #[(Value.int .i64 x62), (Value.int .i64 x63)])) (w' := w3) rfl rfl rfl (x_loadN [(Value.int .i64 x62), (Value.int .i64 x63)] rfl e6 SH_46 (CellsAt.out (CellsAt.cons q62 (CellsAt.cons q63 CellsAt.nil)))) ?_
                  refine wpR_val (v := (Value.pointer (some ((Addr.mk b9 0 none).add 10)))) (w' := w3) rfl rfl rfl (x_fieldAddr rfl e2 FA_24_10) ?_
                  obtain ⟨x64, q64, h⟩ := h
                  refine wpR_val (v := (Value.int .i64 x64)) (w' := w3) rfl rfl rfl (x_load1 rfl rfl SH_3 q64) ?_
                  refine wpR_val (v := (Value.bool (decide (x64 = 4)))) (w' := w3) rfl rfl rfl (x_eql rfl rfl rfl) ?_
                  refine wpR_val (v := (Value.agg #[(Value.int .i64 x62), (Value.int .i64 x63), (Value.bool (decide (x64 = 4)))])) (w' := w3) rfl rfl rfl (x_build (qs := [(0, (Value.agg #[(Value.int .i64 x62), (Value.int .i64 x63)])), (1, (Value.bool (decide (x64 = 4))))]) rfl (by rfl) (BD_55_0_1 x62 x63 (decide (x64 = 4)) _)) ?_
                  refine wpR_val (v := (Value.int .i64 1)) (w' := w3) rfl rfl rfl (x_move (v := (Value.int .i64 1)) rfl e7) ?_
                  refine wpR_val (v := (Value.agg #[(Value.int .i64 4), (Value.int .i64 1)])) (w' := w3) rfl rfl rfl (x_build (qs := [(0, (Value.int .i64 4)), (1, (Value.int .i64 1))]) rfl (by rfl) (BD_46_0_1 4 1 _)) ?_
                  refine wpR_val (v := (Value.pointer (some ((Addr.mk b9 0 none).add 10)))) (w' := w3) rfl rfl rfl (x_fieldAddr rfl e2 FA_24_10) ?_
                  obtain ⟨x65, q65, h⟩ := h
                  refine wpR_val (v := (Value.int .i64 x65)) (w' := w3) rfl rfl rfl (x_load1 rfl rfl SH_3 q65) ?_
                  refine wpR_val (v := (Value.bool (decide (1 ≤ x65)))) (w' := w3) rfl rfl rfl (x_geq rfl rfl rfl) ?_
                  refine wpR_val (v := (Value.agg #[(Value.int .i64 4), (Value.int .i64 1), (Value.bool (decide (1 ≤ x65)))])) (w' := w3) rfl rfl rfl (x_build (qs := [(0, (Value.agg #[(Value.int .i64 4), (Value.int .i64 1)])), (1, (Value.bool (decide (1 ≤ x65))))]) rfl (by rfl) (BD_55_0_1 4 1 (decide (1 ≤ x65)) _)) ?_
                  refine wpR_val (v := (Value.int .i64 2)) (w' := w3) rfl rfl rfl (x_move (v := (Value.int .i64 2)) rfl e8) ?_
                  refine wpR_val (v := (Value.agg #[(Value.int .i64 2), (Value.int .i64 2)])) (w' := w3) rfl rfl rfl (x_build (qs := [(0, (Value.int .i64 2)), (1, (Value.int .i64 2))]) rfl (by rfl) (BD_46_0_1 2 2 _)) ?_
                  refine wpR_val (v := (Value.agg #[(Value.int .i64 2), (Value.int .i64 2), (Value.bool true)])) (w' := w3) rfl rfl rfl (x_build (qs := [(0, (Value.agg #[(Value.int .i64 2), (Value.int .i64 2)])), (1, (Value.bool true))]) rfl (by rfl) (BD_55_0_1 2 2 true _)) ?_
                  obtain ⟨b66, hb66⟩ : ∃ u, u = w3.heap.size := ⟨_, rfl⟩
                  obtain ⟨w11, hw66⟩ : ∃ u, u = w3.alloc (.cells #[(Value.int .i64 x62), (Value.int .i64 x63), (Value.bool (decide (x64 = 4))), (Value.int .i64 4), (Value.int .i64 1), (Value.bool (decide (1 ≤ x65))), (Value.int .i64 2), (Value.int .i64 2), (Value.bool true)] 55) := ⟨_, rfl⟩
                  replace h := h b66 w11 hb66 hw66
                  refine wpR_val (v := (Sl.v (⟨some ⟨b66, 0, none⟩, 3, 3⟩ : Sl))) (w' := w11) rfl rfl rfl ((x_buildSlice (qs := [(0, (Value.agg #[(Value.int .i64 x62), (Value.int .i64 x63), (Value.bool (decide (x64 = 4)))])), (1, (Value.agg #[(Value.int .i64 4), (Value.int .i64 1), (Value.bool (decide (1 ≤ x65)))])), (2, (Value.agg #[(Value.int .i64 2), (Value.int .i64 2), (Value.bool true)]))]) rfl (by rfl) (BS_51_3_0_1_2 x62 x63 (decide (x64 = 4)) 4 1 (decide (1 ≤ x65)) 2 2 true)).trans (by rw [← hb66, ← hw66])) ?_
                  refine wpR_val (v := (Sl.v (⟨some ⟨b66, 0, none⟩, 3, 3⟩ : Sl))) (w' := w11) rfl rfl rfl (x_assign (v := (Sl.v (⟨some ⟨b66, 0, none⟩, 3, 3⟩ : Sl))) rfl rfl) ?_
                  refine wpR_nil ?_
                  refine wpC_ret ?_
                  exact ⟨.inl rfl, fun a ha => ⟨_, results_rep1 rfl ha rfl, (⟨some ⟨b66, 0, none⟩, 3, 3⟩ : Sl), rfl, h⟩⟩
                · replace h := h.2 hc61
                  refine wpC_skip ?_
                  refine wpC_seq ?_
                  refine wpC_cut (fun ρ => ρ 6 = (Value.pointer (some (Addr.mk b15 0 none))) ∧ True) ⟨e6, trivial⟩ ?_
                  rintro ρ ⟨e6, -⟩
                  refine wpC_region ?_
                  obtain ⟨x67, q67, x68, q68, h⟩ := h
                  refine wpR_val (v := (Value.agg #[(Value.int .i64 x67), (Value.int .i64 x68)])) (w' := w3) rfl rfl rfl (x_loadN [(Value.int .i64 x67), (Value.int .i64 x68)] rfl e6 SH_46 (CellsAt.out (CellsAt.cons q67 (CellsAt.cons q68 CellsAt.nil)))) ?_
                  refine wpR_val (v := (Value.agg #[(Value.int .i64 x67), (Value.int .i64 x68), (Value.bool true)])) (w' := w3) rfl rfl rfl (x_build (qs := [(0, (Value.agg #[(Value.int .i64 x67), (Value.int .i64 x68)])), (1, (Value.bool true))]) rfl (by rfl) (BD_55_0_1 x67 x68 true _)) ?_
                  obtain ⟨b69, hb69⟩ : ∃ u, u = w3.heap.size := ⟨_, rfl⟩
                  obtain ⟨w12, hw69⟩ : ∃ u, u = w3.alloc (.cells #[(Value.int .i64 x67), (Value.int .i64 x68), (Value.bool true)] 55) := ⟨_, rfl⟩
                  replace h := h b69 w12 hb69 hw69
                  refine wpR_val (v := (Sl.v (⟨some ⟨b69, 0, none⟩, 1, 1⟩ : Sl))) (w' := w12) rfl rfl rfl ((x_buildSlice (qs := [(0, (Value.agg #[(Value.int .i64 x67), (Value.int .i64 x68), (Value.bool true)]))]) rfl (by rfl) (BS_51_1_0 x67 x68 true)).trans (by rw [← hb69, ← hw69])) ?_
                  refine wpR_val (v := (Sl.v (⟨some ⟨b69, 0, none⟩, 1, 1⟩ : Sl))) (w' := w12) rfl rfl rfl (x_assign (v := (Sl.v (⟨some ⟨b69, 0, none⟩, 1, 1⟩ : Sl))) rfl rfl) ?_
                  refine wpR_nil ?_
                  refine wpC_ret ?_
                  exact ⟨.inl rfl, fun a ha => ⟨_, results_rep1 rfl ha rfl, (⟨some ⟨b69, 0, none⟩, 1, 1⟩ : Sl), rfl, h⟩⟩

/-- slices.Contains[[]loss.option,loss.option] -/
def F30 (p0 : Sl) (p1_0 : Int) (p1_1 : Int) (p1_2 : Bool) (w0 : World) (K : Bool → World → Prop) : Prop :=
  nw 55 #[(Value.int .i64 p1_0), (Value.int .i64 p1_1), (Value.bool p1_2)] w0 fun b9 w1 =>
  ld (Value.int .i64) ((Addr.mk b9 0 none).add 0) w1 fun x10 =>
  ld (Value.int .i64) ((Addr.mk b9 0 none).add 1) w1 fun x11 =>
  ld Value.bool ((Addr.mk b9 0 none).add 2) w1 fun x12 =>
  callC Try.prog 51 #[(Sl.v p0), (Value.agg #[(Value.int .i64 x10), (Value.int .i64 x11), (Value.bool x12)])] (fun (r : Int) => (Value.int .i64 r)) w1 fun r13 w2 =>
  K (decide (0 ≤ r13)) w2
set_option maxRecDepth 100000 in
theorem D30 (p0 : Sl) (p1_0 : Int) (p1_1 : Int) (p1_2 : Bool) (w0 : World) (K : Bool → World → Prop) (h : F30 p0 p1_0 p1_1 p1_2 w0 K) : callC Try.prog 30 #[(Sl.v p0), (Value.agg #[(Value.int .i64 p1_0), (Value.int .i64 p1_1), (Value.bool p1_2)])] (fun (r : Bool) => (Value.bool r)) w0 K := by
  unfold F30 at h
  refine calls_of_wpC Try.func30 rfl 9 rfl (by simp) ?_
  intro ρ hρ
  have e0 : ρ 0 = (Sl.v p0) := hρ 0
  have e1 : ρ 1 = (Value.agg #[(Value.int .i64 p1_0), (Value.int .i64 p1_1), (Value.bool p1_2)]) := hρ 1
  clear hρ
  refine wpC_seq ?_
  refine wpC_region ?_
  obtain ⟨b9, hb9⟩ : ∃ u, u = w0.heap.size := ⟨_, rfl⟩
  obtain ⟨w1, hw9⟩ : ∃ u, u = w0.alloc (.cells #[(Value.int .i64 p1_0), (Value.int .i64 p1_1), (Value.bool p1_2)] 55) := ⟨_, rfl⟩
  replace h := h b9 w1 hb9 hw9
  refine wpR_val (v := (Value.pointer (some (Addr.mk b9 0 none)))) (w' := w1) rfl rfl rfl ((x_box (v := (Value.agg #[(Value.int .i64 p1_0), (Value.int .i64 p1_1), (Value.bool p1_2)])) rfl e1).trans (by rw [hb9, hw9]; rfl)) ?_
  refine wpR_val (v := (Value.bool false)) (w' := w1) rfl rfl rfl (x_assign (v := (Value.bool false)) rfl rfl) ?_
  refine wpR_nil ?_
  refine wpC_seq ?_
  refine wpC_cut (fun ρ => ρ 0 = (Sl.v p0) ∧ ρ 3 = (Value.pointer (some (Addr.mk b9 0 none))) ∧ True) ⟨e0, rfl, trivial⟩ ?_
  rintro ρ ⟨e0, e3, -⟩
  refine wpC_region ?_
  refine wpR_val (v := (Sl.v p0)) (w' := w1) rfl rfl rfl (x_move (v := (Sl.v p0)) rfl e0) ?_
  obtain ⟨x10, q10, x11, q11, x12, q12, h⟩ := h
  refine wpR_val (v := (Value.agg #[(Value.int .i64 x10), (Value.int .i64 x11), (Value.bool x12)])) (w' := w1) rfl rfl rfl (x_loadN [(Value.int .i64 x10), (Value.int .i64 x11), (Value.bool x12)] rfl e3 SH_55 (CellsAt.out (CellsAt.cons q10 (CellsAt.cons q11 (CellsAt.cons q12 CellsAt.nil))))) ?_
  refine wpR_enter rfl rfl rfl (x_call (vs := [(Sl.v p0), (Value.agg #[(Value.int .i64 x10), (Value.int .i64 x11), (Value.bool x12)])]) rfl rfl (mapl_cons rfl (mapl_cons rfl mapl_nil)) Try.func51 NN_51 NB_51) (Calls.mono h ?_)
  rintro _ w2 ⟨r13, rfl, h⟩
  refine ⟨_, rfl, ?_⟩
  refine wpR_val (v := (Value.bool (decide (0 ≤ r13)))) (w' := w2) rfl rfl rfl (x_geq rfl rfl rfl) ?_
  refine wpR_val (v := (Value.bool (decide (0 ≤ r13)))) (w' := w2) rfl rfl rfl (x_assign (v := (Value.bool (decide (0 ≤ r13)))) rfl rfl) ?_
  refine wpR_nil ?_
  refine wpC_ret ?_
  exact ⟨.inl rfl, fun a ha => ⟨_, results_rep1 rfl ha rfl, decide (0 ≤ r13), rfl, h⟩⟩

/-- slices.IndexFunc[[]loss.option,loss.option] -/
def F31 (p0 : Sl) (p1 : Value) (w0 : World) (K : Int → World → Prop) : Prop :=
  lp (fun (next9 : Int → World → Prop) l9 w1 =>
    cnd (decide (l9 < (p0.len : Int)))
      (
      ix p0 l9 3 fun p11 =>
      ld (Value.int .i64) (p11.add 0) w1 fun x12 =>
      ld (Value.int .i64) (p11.add 1) w1 fun x13 =>
      ld Value.bool (p11.add 2) w1 fun x14 =>
      cv Try.prog p1 [(Value.agg #[(Value.int .i64 x12), (Value.int .i64 x13), (Value.bool x14)])] (fun (r : Bool) => (Value.bool r)) w1 fun r15 w2 =>
      cnd (r15)
        (
        K l9 w2
        )
        (
        next9 (IntKind.i64.wrap (l9 + 1)) w2
        )
      )
      (
      K (-1) w1
      )
  ) 0 w0
set_option maxRecDepth 100000 in
theorem D31 (p0 : Sl) (p1 : Value) (w0 : World) (K : Int → World → Prop) (h : F31 p0 p1 w0 K) : callC Try.prog 31 #[(Sl.v p0), p1] (fun (r : Int) => (Value.int .i64 r)) w0 K := by
  unfold F31 at h
  refine calls_of_wpC Try.func31 rfl 19 rfl (by simp) ?_
  intro ρ hρ
  have e0 : ρ 0 = (Sl.v p0) := hρ 0
  have e1 : ρ 1 = p1 := hρ 1
  clear hρ
  refine wpC_seq ?_
  refine wpC_region ?_
  refine wpR_val (v := (Value.int .i64 0)) (w' := w0) rfl rfl rfl (x_assign (v := (Value.int .i64 0)) rfl rfl) ?_
  refine wpR_nil ?_
  refine wpC_seq ?_
  refine wpC_seq ?_
  refine wpC_cut (fun ρ => ρ 0 = (Sl.v p0) ∧ ρ 1 = p1 ∧ True) ⟨e0, e1, trivial⟩ ?_
  rintro ρ ⟨e0, e1, -⟩
  refine wpC_region ?_
  refine wpR_val (v := (Sl.v p0)) (w' := w0) rfl rfl rfl (x_move (v := (Sl.v p0)) rfl e0) ?_
  refine wpR_val (v := (Value.int .i64 (p0.len : Int))) (w' := w0) rfl rfl rfl (x_lenS (s := p0) rfl rfl isSliceT_51) ?_
  refine wpR_val (v := (Value.int .i64 0)) (w' := w0) rfl rfl rfl (x_move (v := (Value.int .i64 0)) rfl rfl) ?_
  refine wpR_nil ?_
  refine wpC_block ?_
  obtain ⟨I9, μ9, hI9, hr9⟩ := h
  refine wpC_loop (fun (x : Int) ρ => ρ 8 = (Value.int .i64 x) ∧ ρ 0 = (Sl.v p0) ∧ ρ 1 = p1 ∧ ρ 7 = (Value.int .i64 (p0.len : Int)) ∧ True) I9 μ9 0 ⟨rfl, e0, e1, rfl, trivial⟩ hI9 ?_
  rintro l9 ρ w1 ⟨e8, e0, e1, e7, -⟩ h
  replace h := hr9 l9 w1 h
  clear hr9 hI9
  refine wpC_seq ?_
  refine wpC_region ?_
  refine wpR_val (v := (Value.bool (decide (l9 < (p0.len : Int))))) (w' := w1) rfl rfl rfl (x_lss rfl e8 e7) ?_
  refine wpR_nil ?_
  refine wpC_seq ?_
  refine wpC_cond (b := decide (l9 < (p0.len : Int))) rfl (fun hc10 => ?_) (fun hc10 => ?_)
  · replace h := h.1 hc10
    refine wpC_skip ?_
    refine wpC_seq ?_
    refine wpC_block ?_
    refine wpC_seq ?_
    refine wpC_cut (fun ρ => ρ 0 = (Sl.v p0) ∧ ρ 1 = p1 ∧ ρ 7 = (Value.int .i64 (p0.len : Int)) ∧ ρ 8 = (Value.int .i64 l9) ∧ True) ⟨e0, e1, e7, e8, trivial⟩ ?_
    rintro ρ ⟨e0, e1, e7, e8, -⟩
    refine wpC_region ?_
    refine wpR_val (v := (Value.int .i64 l9)) (w' := w1) rfl rfl rfl (x_move (v := (Value.int .i64 l9)) rfl e8) ?_
    refine wpR_val (v := (Value.int .i64 l9)) (w' := w1) rfl rfl rfl (x_assign (v := (Value.int .i64 l9)) rfl rfl) ?_
    refine wpR_nil ?_
    refine wpC_seq ?_
    refine wpC_cut (fun ρ => ρ 0 = (Sl.v p0) ∧ ρ 1 = p1 ∧ ρ 5 = (Value.int .i64 l9) ∧ ρ 7 = (Value.int .i64 (p0.len : Int)) ∧ ρ 8 = (Value.int .i64 l9) ∧ True) ⟨e0, e1, rfl, e7, e8, trivial⟩ ?_
    rintro ρ ⟨e0, e1, e5, e7, e8, -⟩
    refine wpC_region ?_
    refine wpR_val (v := p1) (w' := w1) rfl rfl rfl (x_move (v := p1) rfl e1) ?_
    refine wpR_val (v := (Sl.v p0)) (w' := w1) rfl rfl rfl (x_move (v := (Sl.v p0)) rfl e0) ?_
    refine wpR_val (v := (Value.int .i64 l9)) (w' := w1) rfl rfl rfl (x_move (v := (Value.int .i64 l9)) rfl e5) ?_
    obtain ⟨q11, z11, r11, h⟩ := h
    generalize hp11 : z11.add ((l9 : Int).toNat * 3) = p11 at h
    refine wpR_val (v := (Value.pointer (some p11))) (w' := w1) rfl rfl rfl ((x_indexAddr (s := p0) rfl rfl rfl ES_51 q11 r11).trans (by rw [hp11])) ?_
    obtain ⟨x12, q12, x13, q13, x14, q14, h⟩ := h
    refine wpR_val (v := (Value.agg #[(Value.int .i64 x12), (Value.int .i64 x13), (Value.bool x14)])) (w' := w1) rfl rfl rfl (x_loadN [(Value.int .i64 x12), (Value.int .i64 x13), (Value.bool x14)] rfl rfl SH_55 (CellsAt.out (CellsAt.cons q12 (CellsAt.cons q13 (CellsAt.cons q14 CellsAt.nil))))) ?_
    obtain ⟨f15, fi15, ca15, fn15, qv15, qf15, qn15, qb15, h⟩ := h
    refine wpR_enter rfl rfl rfl (x_callv (vs := [(Value.agg #[(Value.int .i64 x12), (Value.int .i64 x13), (Value.bool x14)])]) rfl ((show _ = p1 from rfl).trans qv15) (mapl_cons rfl mapl_nil) qf15 qn15 qb15) (Calls.mono h ?_)
    rintro _ w2 ⟨r15, rfl, h⟩
    refine ⟨_, rfl, ?_⟩
    refine wpR_nil ?_
    refine wpC_cond (b := r15) rfl (fun hc16 => ?_) (fun hc16 => ?_)
    · replace h := h.1 hc16
      refine wpC_seq ?_
      refine wpC_cut (fun ρ => ρ 5 = (Value.int .i64 l9) ∧ True) ⟨e5, trivial⟩ ?_
      rintro ρ ⟨e5, -⟩
      refine wpC_region ?_
      refine wpR_val (v := (Value.int .i64 l9)) (w' := w2) rfl rfl rfl (x_move (v := (Value.int .i64 l9)) rfl e5) ?_
      refine wpR_val (v := (Value.int .i64 l9)) (w' := w2) rfl rfl rfl (x_assign (v := (Value.int .i64 l9)) rfl rfl) ?_
      refine wpR_nil ?_
      refine wpC_ret ?_
      exact ⟨.inl rfl, fun a ha => ⟨_, results_rep1 rfl ha rfl, l9, rfl, h⟩⟩
    · replace h := h.2 hc16
      refine wpC_skip ?_
      refine wpC_cut (fun ρ => ρ 0 = (Sl.v p0) ∧ ρ 1 = p1 ∧ ρ 7 = (Value.int .i64 (p0.len : Int)) ∧ ρ 8 = (Value.int .i64 l9) ∧ True) ⟨e0, e1, e7, e8, trivial⟩ ?_
      rintro ρ ⟨e0, e1, e7, e8, -⟩
      refine wpC_region ?_
      refine wpR_val (v := (Value.int .i64 (IntKind.i64.wrap (l9 + 1)))) (w' := w2) rfl rfl rfl (x_add rfl e8 rfl) ?_
      refine wpR_val (v := (Value.int .i64 (IntKind.i64.wrap (l9 + 1)))) (w' := w2) rfl rfl rfl (x_move (v := (Value.int .i64 (IntKind.i64.wrap (l9 + 1)))) rfl rfl) ?_
      refine wpR_nil ?_
      exact ⟨IntKind.i64.wrap (l9 + 1), ⟨rfl, e0, e1, e7, trivial⟩, h⟩
  · replace h := h.2 hc10
    refine wpC_exit ?_
    refine wpC_seq ?_
    refine wpC_cut (fun ρ => True) trivial ?_
    rintro ρ -
    refine wpC_region ?_
    refine wpR_val (v := (Value.int .i64 (-1))) (w' := w1) rfl rfl rfl (x_assign (v := (Value.int .i64 (-1))) rfl rfl) ?_
    refine wpR_nil ?_
    refine wpC_ret ?_
    exact ⟨.inl rfl, fun a ha => ⟨_, results_rep1 rfl ha rfl, (-1), rfl, h⟩⟩

/-- loss.Check$1 -/
def F32 (p0_0 : Int) (p0_1 : Int) (p0_2 : Bool) (w0 : World) (K : Bool → World → Prop) : Prop :=
  nw 55 #[(Value.int .i64 p0_0), (Value.int .i64 p0_1), (Value.bool p0_2)] w0 fun b9 w1 =>
  ld Value.bool ((Addr.mk b9 0 none).add 2) w1 fun x10 =>
  K x10 w1
set_option maxRecDepth 100000 in
theorem D32 (p0_0 : Int) (p0_1 : Int) (p0_2 : Bool) (w0 : World) (K : Bool → World → Prop) (h : F32 p0_0 p0_1 p0_2 w0 K) : callC Try.prog 32 #[(Value.agg #[(Value.int .i64 p0_0), (Value.int .i64 p0_1), (Value.bool p0_2)])] (fun (r : Bool) => (Value.bool r)) w0 K := by
  unfold F32 at h
  refine calls_of_wpC Try.func32 rfl 5 rfl (by simp) ?_
  intro ρ hρ
  have e0 : ρ 0 = (Value.agg #[(Value.int .i64 p0_0), (Value.int .i64 p0_1), (Value.bool p0_2)]) := hρ 0
  clear hρ
  refine wpC_seq ?_
  refine wpC_region ?_
  obtain ⟨b9, hb9⟩ : ∃ u, u = w0.heap.size := ⟨_, rfl⟩
  obtain ⟨w1, hw9⟩ : ∃ u, u = w0.alloc (.cells #[(Value.int .i64 p0_0), (Value.int .i64 p0_1), (Value.bool p0_2)] 55) := ⟨_, rfl⟩
  replace h := h b9 w1 hb9 hw9
  refine wpR_val (v := (Value.pointer (some (Addr.mk b9 0 none)))) (w' := w1) rfl rfl rfl ((x_box (v := (Value.agg #[(Value.int .i64 p0_0), (Value.int .i64 p0_1), (Value.bool p0_2)])) rfl e0).trans (by rw [hb9, hw9]; rfl)) ?_
  refine wpR_val (v := (Value.bool false)) (w' := w1) rfl rfl rfl (x_assign (v := (Value.bool false)) rfl rfl) ?_
  refine wpR_nil ?_
  refine wpC_seq ?_
  refine wpC_cut (fun ρ => ρ 1 = (Value.pointer (some (Addr.mk b9 0 none))) ∧ True) ⟨rfl, trivial⟩ ?_
  rintro ρ ⟨e1, -⟩
  refine wpC_region ?_
  refine wpR_val (v := (Value.pointer (some ((Addr.mk b9 0 none).add 2)))) (w' := w1) rfl rfl rfl (x_fieldAddr rfl e1 FA_55_1) ?_
  obtain ⟨x10, q10, h⟩ := h
  refine wpR_val (v := (Value.bool x10)) (w' := w1) rfl rfl rfl (x_load1 rfl rfl SH_4 q10) ?_
  refine wpR_val (v := (Value.bool x10)) (w' := w1) rfl rfl rfl (x_assign (v := (Value.bool x10)) rfl rfl) ?_
  refine wpR_nil ?_
  refine wpC_ret ?_
  exact ⟨.inl rfl, fun a ha => ⟨_, results_rep1 rfl ha rfl, x10, rfl, h⟩⟩

/-- slices.Equal[[]api.Loss,api.Loss] -/
def F33 (p0 : Sl) (p1 : Sl) (w0 : World) (K : Bool → World → Prop) : Prop :=
  cnd (!decide ((p0.len : Int) = (p1.len : Int)))
    (
    K false w0
    )
    (
    lp (fun (next10 : Int → World → Prop) l10 w1 =>
      cnd (decide (l10 < (p0.len : Int)))
        (
        jn (fun (J13 : Bool → World → Prop) => tk w1 fun w2 =>
          ix p0 l10 3 fun p14 =>
          ld (Value.int .i64) (p14.add 0) w2 fun x15 =>
          ld (Value.int .i64) (p14.add 1) w2 fun x16 =>
          ld (Value.int .i64) (p14.add 2) w2 fun x17 =>
          ix p1 l10 3 fun p18 =>
          ld (Value.int .i64) (p18.add 0) w2 fun x19 =>
          ld (Value.int .i64) (p18.add 1) w2 fun x20 =>
          ld (Value.int .i64) (p18.add 2) w2 fun x21 =>
          J13 (!(decide (x15 = x19) && (decide (x16 = x20) && (decide (x17 = x21) && true)))) w2
        )
        fun l22 w3 =>
        cnd (l22)
          (
          K false w3
          )
          (
          next10 (IntKind.i64.wrap (l10 + 1)) w3
          )
        )
        (
        K true w1
        )
    ) 0 w0
    )
set_option maxRecDepth 100000 in
theorem D33 (p0 : Sl) (p1 : Sl) (w0 : World) (K : Bool → World → Prop) (h : F33 p0 p1 w0 K) : callC Try.prog 33 #[(Sl.v p0), (Sl.v p1)] (fun (r : Bool) => (Value.bool r)) w0 K := by
  unfold F33 at h
  refine calls_of_wpC Try.func33 rfl 26 rfl (by simp) ?_
  intro ρ hρ
  have e0 : ρ 0 = (Sl.v p0) := hρ 0
  have e1 : ρ 1 = (Sl.v p1) := hρ 1
  clear hρ
  refine wpC_seq ?_
  refine wpC_region ?_
  refine wpR_val (v := (Value.bool false)) (w' := w0) rfl rfl rfl (x_assign (v := (Value.bool false)) rfl rfl) ?_
  refine wpR_nil ?_
  refine wpC_seq ?_
  refine wpC_seq ?_
  refine wpC_cut (fun ρ => ρ 0 = (Sl.v p0) ∧ ρ 1 = (Sl.v p1) ∧ True) ⟨e0, e1, trivial⟩ ?_
  rintro ρ ⟨e0, e1, -⟩
  refine wpC_region ?_
  refine wpR_val (v := (Sl.v p0)) (w' := w0) rfl rfl rfl (x_move (v := (Sl.v p0)) rfl e0) ?_
  refine wpR_val (v := (Value.int .i64 (p0.len : Int))) (w' := w0) rfl rfl rfl (x_lenS (s := p0) rfl rfl isSliceT_26) ?_
  refine wpR_val (v := (Sl.v p1)) (w' := w0) rfl rfl rfl (x_move (v := (Sl.v p1)) rfl e1) ?_
  refine wpR_val (v := (Value.int .i64 (p1.len : Int))) (w' := w0) rfl rfl rfl (x_lenS (s := p1) rfl rfl isSliceT_26) ?_
  refine wpR_val (v := (Value.bool (!decide ((p0.len : Int) = (p1.len : Int))))) (w' := w0) rfl rfl rfl (x_neq rfl rfl rfl) ?_
  refine wpR_nil ?_
  refine wpC_cond (b := !decide ((p0.len : Int) = (p1.len : Int))) rfl (fun hc9 => ?_) (fun hc9 => ?_)
  · replace h := h.1 hc9
    refine wpC_seq ?_
    refine wpC_cut (fun ρ => True) trivial ?_
    rintro ρ -
    refine wpC_region ?_
    refine wpR_val (v := (Value.bool false)) (w' := w0) rfl rfl rfl (x_assign (v := (Value.bool false)) rfl rfl) ?_
    refine wpR_nil ?_
    refine wpC_ret ?_
    exact ⟨.inl rfl, fun a ha => ⟨_, results_rep1 rfl ha rfl, false, rfl, h⟩⟩
  · replace h := h.2 hc9
    refine wpC_skip ?_
    refine wpC_seq ?_
    refine wpC_seq ?_
    refine wpC_cut (fun ρ => ρ 0 = (Sl.v p0) ∧ ρ 1 = (Sl.v p1) ∧ True) ⟨e0, e1, trivial⟩ ?_
    rintro ρ ⟨e0, e1, -⟩
    refine wpC_region ?_
    refine wpR_val (v := (Sl.v p0)) (w' := w0) rfl rfl rfl (x_move (v := (Sl.v p0)) rfl e0) ?_
    refine wpR_val (v := (Value.int .i64 (p0.len : Int))) (w' := w0) rfl rfl rfl (x_lenS (s := p0) rfl rfl isSliceT_26) ?_
    refine wpR_val (v := (Value.int .i64 0)) (w' := w0) rfl rfl rfl (x_move (v := (Value.int .i64 0)) rfl rfl) ?_
    refine wpR_nil ?_
    refine wpC_block ?_
    obtain ⟨I10, μ10, hI10, hr10⟩ := h
    refine wpC_loop (fun (x : Int) ρ => ρ 13 = (Value.int .i64 x) ∧ ρ 0 = (Sl.v p0) ∧ ρ 1 = (Sl.v p1) ∧ ρ 12 = (Value.int .i64 (p0.len : Int)) ∧ True) I10 μ10 0 ⟨rfl, e0, e1, rfl, trivial⟩ hI10 ?_
    rintro l10 ρ w1 ⟨e13, e0, e1, e12, -⟩ h
    replace h := hr10 l10 w1 h
    clear hr10 hI10
    refine wpC_seq ?_
    refine wpC_region ?_
    refine wpR_val (v := (Value.bool (decide (l10 < (p0.len : Int))))) (w' := w1) rfl rfl rfl (x_lss rfl e13 e12) ?_
    refine wpR_nil ?_
    refine wpC_seq ?_
    refine wpC_cond (b := decide (l10 < (p0.len : Int))) rfl (fun hc11 => ?_) (fun hc11 => ?_)
    · replace h := h.1 hc11
      refine wpC_skip ?_
      refine wpC_seq ?_
      refine wpC_block ?_
      refine wpC_seq ?_
      refine wpC_cut (fun ρ => ρ 0 = (Sl.v p0) ∧ ρ 1 = (Sl.v p1) ∧ ρ 12 = (Value.int .i64 (p0.len : Int)) ∧ ρ 13 = (Value.int .i64 l10) ∧ True) ⟨e0, e1, e12, e13, trivial⟩ ?_
      rintro ρ ⟨e0, e1, e12, e13, -⟩
      refine wpC_region ?_
      refine wpR_val (v := (Value.int .i64 l10)) (w' := w1) rfl rfl rfl (x_move (v := (Value.int .i64 l10)) rfl e13) ?_
      refine wpR_val (v := (Value.int .i64 l10)) (w' := w1) rfl rfl rfl (x_assign (v := (Value.int .i64 l10)) rfl rfl) ?_
      refine wpR_nil ?_
      refine wpC_seq ?_
      refine wpC_cut (fun ρ => ρ 0 = (Sl.v p0) ∧ ρ 1 = (Sl.v p1) ∧ ρ 5 = (Value.int .i64 l10) ∧ ρ 12 = (Value.int .i64 (p0.len : Int)) ∧ ρ 13 = (Value.int .i64 l10) ∧ True) ⟨e0, e1, rfl, e12, e13, trivial⟩ ?_
      rintro ρ ⟨e0, e1, e5, e12, e13, -⟩
      obtain ⟨J13, h, hk⟩ := h
      refine wpC_drawJ (by kernel_rfl) (fun (x : Bool) ρ => ρ 24 = (Value.bool x) ∧ ρ 0 = (Sl.v p0) ∧ ρ 1 = (Sl.v p1) ∧ ρ 12 = (Value.int .i64 (p0.len : Int)) ∧ ρ 13 = (Value.int .i64 l10) ∧ True) J13 ?_ ?_
      · clear hk
        unfold tk at h
        generalize w1.drew = w2 at h ⊢
        refine wpD_take (v := (Sl.v p0)) 0 (fun _ => True) rfl (by kernel_rfl) (by kernel_rfl) (by kernel_rfl) rfl rfl rfl trivial (fun w _ => (x_move (v := (Sl.v p0)) rfl e0)) ?_
        refine wpD_take (v := (Value.int .i64 l10)) 1 (fun _ => True) rfl (by kernel_rfl) (by kernel_rfl) (by kernel_rfl) rfl rfl rfl trivial (fun w _ => (x_move (v := (Value.int .i64 l10)) rfl e5)) ?_
        obtain ⟨q14, z14, r14, h⟩ := h
        generalize hp14 : z14.add ((l10 : Int).toNat * 3) = p14 at h
        refine wpD_take (v := (Value.pointer (some p14))) 2 (fun _ => True) rfl (by kernel_rfl) (by kernel_rfl) (by kernel_rfl) rfl rfl rfl trivial (fun w _ => ((x_indexAddr (s := p0) rfl rfl rfl ES_26 q14 r14).trans (by rw [hp14]))) ?_
        obtain ⟨x15, q15, x16, q16, x17, q17, h⟩ := h
        refine wpD_take (v := (Value.agg #[(Value.int .i64 x15), (Value.int .i64 x16), (Value.int .i64 x17)])) 3 (fun w => w.cell? (p14.add 0) = some (Value.int .i64 x15) ∧ w.cell? (p14.add 1) = some (Value.int .i64 x16) ∧ w.cell? (p14.add 2) = some (Value.int .i64 x17)) rfl (by kernel_rfl) (by kernel_rfl) (by kernel_rfl) rfl rfl rfl ⟨q15, q16, q17⟩ (fun w ⟨q15, q16, q17⟩ => (x_loadN [(Value.int .i64 x15), (Value.int .i64 x16), (Value.int .i64 x17)] rfl rfl SH_44 (CellsAt.out (CellsAt.cons q15 (CellsAt.cons q16 (CellsAt.cons q17 CellsAt.nil)))))) ?_
        refine wpD_take (v := (Sl.v p1)) 4 (fun _ => True) rfl (by kernel_rfl) (by kernel_rfl) (by kernel_rfl) rfl rfl rfl trivial (fun w _ => (x_move (v := (Sl.v p1)) rfl e1)) ?_
        refine wpD_take (v := (Value.int .i64 l10)) 5 (fun _ => True) rfl (by kernel_rfl) (by kernel_rfl) (by kernel_rfl) rfl rfl rfl trivial (fun w _ => (x_move (v := (Value.int .i64 l10)) rfl e5)) ?_
        obtain ⟨q18, z18, r18, h⟩ := h
        generalize hp18 : z18.add ((l10 : Int).toNat * 3) = p18 at h
        refine wpD_take (v := (Value.pointer (some p18))) 6 (fun _ => True) rfl (by kernel_rfl) (by kernel_rfl) (by kernel_rfl) rfl rfl rfl trivial (fun w _ => ((x_indexAddr (s := p1) rfl rfl rfl ES_26 q18 r18).trans (by rw [hp18]))) ?_
        obtain ⟨x19, q19, x20, q20, x21, q21, h⟩ := h
        refine wpD_take (v := (Value.agg #[(Value.int .i64 x19), (Value.int .i64 x20), (Value.int .i64 x21)])) 7 (fun w => w.cell? (p18.add 0) = some (Value.int .i64 x19) ∧ w.cell? (p18.add 1) = some (Value.int .i64 x20) ∧ w.cell? (p18.add 2) = some (Value.int .i64 x21)) rfl (by kernel_rfl) (by kernel_rfl) (by kernel_rfl) rfl rfl rfl ⟨q19, q20, q21⟩ (fun w ⟨q19, q20, q21⟩ => (x_loadN [(Value.int .i64 x19), (Value.int .i64 x20), (Value.int .i64 x21)] rfl rfl SH_44 (CellsAt.out (CellsAt.cons q19 (CellsAt.cons q20 (CellsAt.cons q21 CellsAt.nil)))))) ?_
        refine wpD_take (v := (Value.bool (!(decide (x15 = x19) && (decide (x16 = x20) && (decide (x17 = x21) && true)))))) 8 (fun _ => True) rfl (by kernel_rfl) (by kernel_rfl) (by kernel_rfl) rfl rfl rfl trivial (fun w _ => (x_neqA rfl rfl rfl EQ1_44 EQ2_44 EQ3_44 (EQ_44 x15 x16 x17 x19 x20 x21))) ?_
        exact wpD_done (by kernel_rfl) ⟨!(decide (x15 = x19) && (decide (x16 = x20) && (decide (x17 = x21) && true))), ⟨rfl, e0, e1, e12, e13, trivial⟩, h⟩
      clear h
      rintro l22 ρ w3 ⟨e24, e0, e1, e12, e13, -⟩ h
      replace h := hk l22 w3 h
      clear hk
      refine wpC_cond (b := l22) e24 (fun hc23 => ?_) (fun hc23 => ?_)
      · replace h := h.1 hc23
        refine wpC_seq ?_
        refine wpC_region ?_
        refine wpR_val (v := (Value.bool false)) (w' := w3) rfl rfl rfl (x_assign (v := (Value.bool false)) rfl rfl) ?_
        refine wpR_nil ?_
        refine wpC_ret ?_
        exact ⟨.inl rfl, fun a ha => ⟨_, results_rep1 rfl ha rfl, false, rfl, h⟩⟩
      · replace h := h.2 hc23
        refine wpC_skip ?_
        refine wpC_region ?_
        refine wpR_val (v := (Value.int .i64 (IntKind.i64.wrap (l10 + 1)))) (w' := w3) rfl rfl rfl (x_add rfl e13 rfl) ?_
        refine wpR_val (v := (Value.int .i64 (IntKind.i64.wrap (l10 + 1)))) (w' := w3) rfl rfl rfl (x_move (v := (Value.int .i64 (IntKind.i64.wrap (l10 + 1)))) rfl rfl) ?_
        refine wpR_nil ?_
        exact ⟨IntKind.i64.wrap (l10 + 1), ⟨rfl, e0, e1, e12, trivial⟩, h⟩
    · replace h := h.2 hc11
      refine wpC_exit ?_
      refine wpC_seq ?_
      refine wpC_cut (fun ρ => True) trivial ?_
      rintro ρ -
      refine wpC_region ?_
      refine wpR_val (v := (Value.bool true)) (w' := w1) rfl rfl rfl (x_assign (v := (Value.bool true)) rfl rfl) ?_
      refine wpR_nil ?_
      refine wpC_ret ?_
      exact ⟨.inl rfl, fun a ha => ⟨_, results_rep1 rfl ha rfl, true, rfl, h⟩⟩

/-- linguaref20.rules -/
def F34 (p0_0 : ByteArray) (p0_1 : Int) (p0_2 : Int) (p0_3 : Int) (p0_4 : Bool) (p0_5 : Int) (p0_6 : Bool) (p0_7 : Bool) (p0_8 : Int) (p0_9 : Int) (p0_10 : Int) (p0_11 : Int) (p0_12 : Sl) (p0_13 : Int) (p0_14 : Int) (p0_15 : Int) (p0_16 : Int) (p0_17 : Bool) (p0_18 : Int) (p0_19 : Int) (p0_20 : Int) (p0_21 : Int) (w0 : World) (K : Sl → World → Prop) : Prop :=
  nw 24 (A23 p0_0 p0_1 p0_2 p0_3 p0_4 p0_5 p0_6 p0_7 p0_8 p0_9 p0_10 p0_11 p0_12 p0_13 p0_14 p0_15 p0_16 p0_17 p0_18 p0_19 p0_20 p0_21) w0 fun b9 w1 =>
  ld (Value.int .i64) ((Addr.mk b9 0 none).add 1) w1 fun x10 =>
  jp (fun J11 => cnd (decide (x10 = 2))
    (
    ld (Value.int .i64) ((Addr.mk b9 0 none).add 2) w1 fun x13 =>
    J11 (decide (x13 = 0))
    )
    (
    J11 false
    ))
  fun c14 =>
  ld (Value.int .i64) ((Addr.mk b9 0 none).add 9) w1 fun x15 =>
  jp (fun J16 => cnd (decide (2 ≤ x15))
    (
    ld (Value.int .i64) ((Addr.mk b9 0 none).add 8) w1 fun x18 =>
    ld (Value.int .i64) ((Addr.mk b9 0 none).add 9) w1 fun x19 =>
    J16 (decide (4400 ≤ (IntKind.i64.wrap (x18 * x19))))
    )
    (
    J16 false
    ))
  fun c20 =>
  ld (Value.int .i64) ((Addr.mk b9 0 none).add 9) w1 fun x21 =>
  ld (Value.int .i64) ((Addr.mk b9 0 none).add 3) w1 fun x22 =>
  ld Value.bool ((Addr.mk b9 0 none).add 4) w1 fun x23 =>
  jp (fun J24 => cnd (x23)
    (
    ld (Value.int .i64) ((Addr.mk b9 0 none).add 9) w1 fun x26 =>
    J24 (decide (x26 = 1))
    )
    (
    J24 false
    ))
  fun c27 =>
  ld Value.bool ((Addr.mk b9 0 none).add 4) w1 fun x28 =>
  ld (Value.int .i64) ((Addr.mk b9 0 none).add 5) w1 fun x29 =>
  ld (Value.int .i64) ((Addr.mk b9 0 none).add 5) w1 fun x30 =>
  ld Value.bool ((Addr.mk b9 0 none).add 6) w1 fun x31 =>
  ld Value.bool ((Addr.mk b9 0 none).add 7) w1 fun x32 =>
  ld (Value.int .i64) ((Addr.mk b9 0 none).add 10) w1 fun x33 =>
  ld (Value.int .i64) ((Addr.mk b9 0 none).add 10) w1 fun x34 =>
  nw 61 #[(Value.int .i64 0), (Value.int .i64 0), (Value.int .i64 0), (Value.int .i64 0), (Value.bool true), (Value.int .i64 1), (Value.int .i64 1), (Value.int .i64 1), (Value.int .i64 1), (Value.bool c20), (Value.int .i64 1), (Value.int .i64 4), (Value.int .i64 1), (Value.int .i64 2), (Value.bool (decide (2 ≤ x21))), (Value.int .i64 1), (Value.int .i64 4), (Value.int .i64 0), (Value.int .i64 3), (Value.bool true), (Value.int .i64 2), (Value.int .i64 0), (Value.int .i64 0), (Value.int .i64 0), (Value.bool c14), (Value.int .i64 2), (Value.int .i64 3), (Value.int .i64 2), (Value.int .i64 1), (Value.bool true), (Value.int .i64 3), (Value.int .i64 0), (Value.int .i64 0), (Value.int .i64 0), (Value.bool (!decide (x22 = 0))), (Value.int .i64 3), (Value.int .i64 2), (Value.int .i64 0), (Value.int .i64 1), (Value.bool c14), (Value.int .i64 3), (Value.int .i64 3), (Value.int .i64 2), (Value.int .i64 2), (Value.bool true), (Value.int .i64 4), (Value.int .i64 0), (Value.int .i64 0), (Value.int .i64 0), (Value.bool c27), (Value.int .i64 4), (Value.int .i64 0), (Value.int .i64 1), (Value.int .i64 0), (Value.bool x28), (Value.int .i64 4), (Value.int .i64 3), (Value.int .i64 2), (Value.int .i64 1), (Value.bool true), (Value.int .i64 5), (Value.int .i64 0), (Value.int .i64 0), (Value.int .i64 0), (Value.bool (decide (x29 = 2))), (Value.int .i64 5), (Value.int .i64 2), (Value.int .i64 1), (Value.int .i64 1), (Value.bool (decide (x30 = 1))), (Value.int .i64 5), (Value.int .i64 2), (Value.int .i64 2), (Value.int .i64 2), (Value.bool true), (Value.int .i64 6), (Value.int .i64 0), (Value.int .i64 0), (Value.int .i64 0), (Value.bool x31), (Value.int .i64 6), (Value.int .i64 2), (Value.int .i64 2), (Value.int .i64 1), (Value.bool true), (Value.int .i64 7), (Value.int .i64 0), (Value.int .i64 0), (Value.int .i64 0), (Value.bool x32), (Value.int .i64 7), (Value.int .i64 2), (Value.int .i64 2), (Value.int .i64 1), (Value.bool true), (Value.int .i64 8), (Value.int .i64 0), (Value.int .i64 0), (Value.int .i64 0), (Value.bool (decide (x33 = 4))), (Value.int .i64 8), (Value.int .i64 4), (Value.int .i64 1), (Value.int .i64 1), (Value.bool (decide (1 ≤ x34))), (Value.int .i64 8), (Value.int .i64 2), (Value.int .i64 2), (Value.int .i64 2), (Value.bool true)] w1 fun b35 w2 =>
  K (⟨some ⟨b35, 0, none⟩, 22, 22⟩ : Sl) w2
set_option maxRecDepth 100000 in
theorem D34 (p0_0 : ByteArray) (p0_1 : Int) (p0_2 : Int) (p0_3 : Int) (p0_4 : Bool) (p0_5 : Int) (p0_6 : Bool) (p0_7 : Bool) (p0_8 : Int) (p0_9 : Int) (p0_10 : Int) (p0_11 : Int) (p0_12 : Sl) (p0_13 : Int) (p0_14 : Int) (p0_15 : Int) (p0_16 : Int) (p0_17 : Bool) (p0_18 : Int) (p0_19 : Int) (p0_20 : Int) (p0_21 : Int) (w0 : World) (K : Sl → World → Prop) (h : F34 p0_0 p0_1 p0_2 p0_3 p0_4 p0_5 p0_6 p0_7 p0_8 p0_9 p0_10 p0_11 p0_12 p0_13 p0_14 p0_15 p0_16 p0_17 p0_18 p0_19 p0_20 p0_21 w0 K) : callC Try.prog 34 #[(V23 p0_0 p0_1 p0_2 p0_3 p0_4 p0_5 p0_6 p0_7 p0_8 p0_9 p0_10 p0_11 p0_12 p0_13 p0_14 p0_15 p0_16 p0_17 p0_18 p0_19 p0_20 p0_21)] (fun (r : Sl) => (Sl.v r)) w0 K := by
  unfold F34 at h
  refine calls_of_wpC Try.func34 rfl 81 rfl (by simp) ?_
  intro ρ hρ
  have e0 : ρ 0 = (V23 p0_0 p0_1 p0_2 p0_3 p0_4 p0_5 p0_6 p0_7 p0_8 p0_9 p0_10 p0_11 p0_12 p0_13 p0_14 p0_15 p0_16 p0_17 p0_18 p0_19 p0_20 p0_21) := hρ 0
  clear hρ
  refine wpC_seq ?_
  refine wpC_region ?_
  obtain ⟨b9, hb9⟩ : ∃ u, u = w0.heap.size := ⟨_, rfl⟩
  obtain ⟨w1, hw9⟩ : ∃ u, u = w0.alloc (.cells (A23 p0_0 p0_1 p0_2 p0_3 p0_4 p0_5 p0_6 p0_7 p0_8 p0_9 p0_10 p0_11 p0_12 p0_13 p0_14 p0_15 p0_16 p0_17 p0_18 p0_19 p0_20 p0_21) 24) := ⟨_, rfl⟩
  replace h := h b9 w1 hb9 hw9
  refine wpR_val (v := (Value.pointer (some (Addr.mk b9 0 none)))) (w' := w1) rfl rfl rfl ((x_box (v := (V23 p0_0 p0_1 p0_2 p0_3 p0_4 p0_5 p0_6 p0_7 p0_8 p0_9 p0_10 p0_11 p0_12 p0_13 p0_14 p0_15 p0_16 p0_17 p0_18 p0_19 p0_20 p0_21)) rfl e0).trans (by rw [hb9, hw9]; rfl)) ?_
  refine wpR_val (v := (Sl.v Sl.nil)) (w' := w1) rfl rfl rfl (x_assign (v := (Sl.v Sl.nil)) rfl rfl) ?_
  refine wpR_nil ?_
  refine wpC_seq ?_
  refine wpC_cut (fun ρ => ρ 1 = (Value.pointer (some (Addr.mk b9 0 none))) ∧ True) ⟨rfl, trivial⟩ ?_
  rintro ρ ⟨e1, -⟩
  refine wpC_region ?_
  refine wpR_val (v := (Value.pointer (some ((Addr.mk b9 0 none).add 1)))) (w' := w1) rfl rfl rfl (x_fieldAddr rfl e1 FA_24_1) ?_
  obtain ⟨x10, q10, h⟩ := h
  refine wpR_val (v := (Value.int .i64 x10)) (w' := w1) rfl rfl rfl (x_load1 rfl rfl SH_3 q10) ?_
  refine wpR_val (v := (Value.bool (decide (x10 = 2)))) (w' := w1) rfl rfl rfl (x_eql rfl rfl rfl) ?_
  refine wpR_val (v := (Value.bool (decide (x10 = 2)))) (w' := w1) rfl rfl rfl (x_move (v := (Value.bool (decide (x10 = 2)))) rfl rfl) ?_
  obtain ⟨J11, h, hk⟩ := h
  refine wpR_joinJ 4 (fun x ρ => ρ 12 = Value.bool x ∧ ρ 1 = (Value.pointer (some (Addr.mk b9 0 none))) ∧ True) (fun x w => J11 x ∧ w1 = w) ?_ ?_
  · clear hk
    rcases Bool.eq_false_or_eq_true (decide (x10 = 2)) with hc12 | hc12
    · replace h := h.1 hc12
      refine wpR_val (v := (Value.pointer (some ((Addr.mk b9 0 none).add 2)))) (w' := w1) (wantG rfl rfl rfl hc12) rfl rfl (x_fieldAddr rfl e1 FA_24_2) ?_
      obtain ⟨x13, q13, h⟩ := h
      refine wpR_val (v := (Value.int .i64 x13)) (w' := w1) (wantG rfl rfl rfl hc12) rfl rfl (x_load1 rfl rfl SH_3 q13) ?_
      refine wpR_val (v := (Value.bool (decide (x13 = 0)))) (w' := w1) (wantG rfl rfl rfl hc12) rfl rfl (x_eql rfl rfl rfl) ?_
      refine wpR_val (v := (Value.bool (decide (x13 = 0)))) (w' := w1) rfl rfl rfl (x_pickT (v := (Value.bool (decide (x13 = 0)))) rfl rfl hc12 rfl) ?_
      refine wpR_nil ?_
      exact ⟨decide (x13 = 0), ⟨rfl, e1, trivial⟩, h, rfl⟩
    · replace h := h.2 hc12
      refine wpR_pass (wantN rfl rfl rfl hc12) rfl rfl ?_
      refine wpR_pass (wantN rfl rfl rfl hc12) rfl rfl ?_
      refine wpR_pass (wantN rfl rfl rfl hc12) rfl rfl ?_
      refine wpR_val (v := (Value.bool false)) (w' := w1) rfl rfl rfl (x_pickF (v := (Value.bool false)) rfl rfl hc12 rfl) ?_
      refine wpR_nil ?_
      exact ⟨false, ⟨rfl, e1, trivial⟩, h, rfl⟩
  clear h
  rintro c14 ρ wj ⟨e12, e1, -⟩ ⟨h, rfl⟩
  replace h := hk c14 h
  clear hk
  refine wpR_val (v := (Value.bool c14)) (w' := w1) rfl rfl rfl (x_assign (v := (Value.bool c14)) rfl e12) ?_
  refine wpR_nil ?_
  refine wpC_seq ?_
  refine wpC_cut (fun ρ => ρ 1 = (Value.pointer (some (Addr.mk b9 0 none))) ∧ ρ 3 = (Value.bool c14) ∧ True) ⟨e1, rfl, trivial⟩ ?_
  rintro ρ ⟨e1, e3, -⟩
  refine wpC_region ?_
  refine wpR_val (v := (Value.pointer (some ((Addr.mk b9 0 none).add 9)))) (w' := w1) rfl rfl rfl (x_fieldAddr rfl e1 FA_24_9) ?_
  obtain ⟨x15, q15, h⟩ := h
  refine wpR_val (v := (Value.int .i64 x15)) (w' := w1) rfl rfl rfl (x_load1 rfl rfl SH_3 q15) ?_
  refine wpR_val (v := (Value.bool (decide (2 ≤ x15)))) (w' := w1) rfl rfl rfl (x_geq rfl rfl rfl) ?_
  refine wpR_val (v := (Value.bool (decide (2 ≤ x15)))) (w' := w1) rfl rfl rfl (x_move (v := (Value.bool (decide (2 ≤ x15)))) rfl rfl) ?_
  obtain ⟨J16, h, hk⟩ := h
  refine wpR_joinJ 7 (fun x ρ => ρ 23 = Value.bool x ∧ ρ 1 = (Value.pointer (some (Addr.mk b9 0 none))) ∧ ρ 3 = (Value.bool c14) ∧ True) (fun x w => J16 x ∧ w1 = w) ?_ ?_
  · clear hk
    rcases Bool.eq_false_or_eq_true (decide (2 ≤ x15)) with hc17 | hc17
    · replace h := h.1 hc17
      refine wpR_val (v := (Value.pointer (some ((Addr.mk b9 0 none).add 8)))) (w' := w1) (wantG rfl rfl rfl hc17) rfl rfl (x_fieldAddr rfl e1 FA_24_8) ?_
      obtain ⟨x18, q18, h⟩ := h
      refine wpR_val (v := (Value.int .i64 x18)) (w' := w1) (wantG rfl rfl rfl hc17) rfl rfl (x_load1 rfl rfl SH_3 q18) ?_
      refine wpR_val (v := (Value.pointer (some ((Addr.mk b9 0 none).add 9)))) (w' := w1) (wantG rfl rfl rfl hc17) rfl rfl (x_fieldAddr rfl e1 FA_24_9) ?_
      obtain ⟨x19, q19, h⟩ := h
      refine wpR_val (v := (Value.int .i64 x19)) (w' := w1) (wantG rfl rfl rfl hc17) rfl rfl (x_load1 rfl rfl SH_3 q19) ?_
      refine wpR_val (v := (Value.int .i64 (IntKind.i64.wrap (x18 * x19)))) (w' := w1) (wantG rfl rfl rfl hc17) rfl rfl (x_mul rfl rfl rfl) ?_
      refine wpR_val (v := (Value.bool (decide (4400 ≤ (IntKind.i64.wrap (x18 * x19)))))) (w' := w1) (wantG rfl rfl rfl hc17) rfl rfl (x_geq rfl rfl rfl) ?_
      refine wpR_val (v := (Value.bool (decide (4400 ≤ (IntKind.i64.wrap (x18 * x19)))))) (w' := w1) rfl rfl rfl (x_pickT (v := (Value.bool (decide (4400 ≤ (IntKind.i64.wrap (x18 * x19)))))) rfl rfl hc17 rfl) ?_
      refine wpR_nil ?_
      exact ⟨decide (4400 ≤ (IntKind.i64.wrap (x18 * x19))), ⟨rfl, e1, e3, trivial⟩, h, rfl⟩
    · replace h := h.2 hc17
      refine wpR_pass (wantN rfl rfl rfl hc17) rfl rfl ?_
      refine wpR_pass (wantN rfl rfl rfl hc17) rfl rfl ?_
      refine wpR_pass (wantN rfl rfl rfl hc17) rfl rfl ?_
      refine wpR_pass (wantN rfl rfl rfl hc17) rfl rfl ?_
      refine wpR_pass (wantN rfl rfl rfl hc17) rfl rfl ?_
      refine wpR_pass (wantN rfl rfl rfl hc17) rfl rfl ?_
      refine wpR_val (v := (Value.bool false)) (w' := w1) rfl rfl rfl (x_pickF (v := (Value.bool false)) rfl rfl hc17 rfl) ?_
      refine wpR_nil ?_
      exact ⟨false, ⟨rfl, e1, e3, trivial⟩, h, rfl⟩
  clear h
  rintro c20 ρ wj ⟨e23, e1, e3, -⟩ ⟨h, rfl⟩
  replace h := hk c20 h
  clear hk
  refine wpR_val (v := (Value.bool c20)) (w' := w1) rfl rfl rfl (x_assign (v := (Value.bool c20)) rfl e23) ?_
  refine wpR_nil ?_
  refine wpC_seq ?_
  refine wpC_cut (fun ρ => ρ 1 = (Value.pointer (some (Addr.mk b9 0 none))) ∧ ρ 3 = (Value.bool c14) ∧ ρ 4 = (Value.bool c20) ∧ True) ⟨e1, e3, rfl, trivial⟩ ?_
  rintro ρ ⟨e1, e3, e4, -⟩
  refine wpC_region ?_
  refine wpR_val (v := (Value.agg #[(Value.int .i64 0), (Value.int .i64 0), (Value.int .i64 0), (Value.int .i64 0), (Value.bool true)])) (w' := w1) rfl rfl rfl (x_build (qs := [(0, (Value.int .i64 0)), (1, (Value.int .i64 0)), (2, (Value.int .i64 0)), (3, (Value.int .i64 0)), (4, (Value.bool true))]) rfl (by rfl) (BD_61_0_1_2_3_4 0 0 0 0 true _)) ?_
  refine wpR_val (v := (Value.bool c20)) (w' := w1) rfl rfl rfl (x_move (v := (Value.bool c20)) rfl e4) ?_
  refine wpR_val (v := (Value.agg #[(Value.int .i64 1), (Value.int .i64 1), (Value.int .i64 1), (Value.int .i64 1), (Value.bool c20)])) (w' := w1) rfl rfl rfl (x_build (qs := [(0, (Value.int .i64 1)), (1, (Value.int .i64 1)), (2, (Value.int .i64 1)), (3, (Value.int .i64 1)), (4, (Value.bool c20))]) rfl (by rfl) (BD_61_0_1_2_3_4 1 1 1 1 c20 _)) ?_
  refine wpR_val (v := (Value.pointer (some ((Addr.mk b9 0 none).add 9)))) (w' := w1) rfl rfl rfl (x_fieldAddr rfl e1 FA_24_9) ?_
  obtain ⟨x21, q21, h⟩ := h
  refine wpR_val (v := (Value.int .i64 x21)) (w' := w1) rfl rfl rfl (x_load1 rfl rfl SH_3 q21) ?_
  refine wpR_val (v := (Value.bool (decide (2 ≤ x21)))) (w' := w1) rfl rfl rfl (x_geq rfl rfl rfl) ?_
  refine wpR_val (v := (Value.agg #[(Value.int .i64 1), (Value.int .i64 4), (Value.int .i64 1), (Value.int .i64 2), (Value.bool (decide (2 ≤ x21)))])) (w' := w1) rfl rfl rfl (x_build (qs := [(0, (Value.int .i64 1)), (1, (Value.int .i64 4)), (2, (Value.int .i64 1)), (3, (Value.int .i64 2)), (4, (Value.bool (decide (2 ≤ x21))))]) rfl (by rfl) (BD_61_0_1_2_3_4 1 4 1 2 (decide (2 ≤ x21)) _)) ?_
  refine wpR_val (v := (Value.agg #[(Value.int .i64 1), (Value.int .i64 4), (Value.int .i64 0), (Value.int .i64 3), (Value.bool true)])) (w' := w1) rfl rfl rfl (x_build (qs := [(0, (Value.int .i64 1)), (1, (Value.int .i64 4)), (2, (Value.int .i64 0)), (3, (Value.int .i64 3)), (4, (Value.bool true))]) rfl (by rfl) (BD_61_0_1_2_3_4 1 4 0 3 true _)) ?_
  refine wpR_val (v := (Value.bool c14)) (w' := w1) rfl rfl rfl (x_move (v := (Value.bool c14)) rfl e3) ?_
  refine wpR_val (v := (Value.agg #[(Value.int .i64 2), (Value.int .i64 0), (Value.int .i64 0), (Value.int .i64 0), (Value.bool c14)])) (w' := w1) rfl rfl rfl (x_build (qs := [(0, (Value.int .i64 2)), (1, (Value.int .i64 0)), (2, (Value.int .i64 0)), (3, (Value.int .i64 0)), (4, (Value.bool c14))]) rfl (by rfl) (BD_61_0_1_2_3_4 2 0 0 0 c14 _)) ?_
  refine wpR_val (v := (Value.agg #[(Value.int .i64 2), (Value.int .i64 3), (Value.int .i64 2), (Value.int .i64 1), (Value.bool true)])) (w' := w1) rfl rfl rfl (x_build (qs := [(0, (Value.int .i64 2)), (1, (Value.int .i64 3)), (2, (Value.int .i64 2)), (3, (Value.int .i64 1)), (4, (Value.bool true))]) rfl (by rfl) (BD_61_0_1_2_3_4 2 3 2 1 true _)) ?_
  refine wpR_val (v := (Value.pointer (some ((Addr.mk b9 0 none).add 3)))) (w' := w1) rfl rfl rfl (x_fieldAddr rfl e1 FA_24_3) ?_
  obtain ⟨x22, q22, h⟩ := h
  refine wpR_val (v := (Value.int .i64 x22)) (w' := w1) rfl rfl rfl (x_load1 rfl rfl SH_3 q22) ?_
  refine wpR_val (v := (Value.bool (!decide (x22 = 0)))) (w' := w1) rfl rfl rfl (x_neq rfl rfl rfl) ?_
  refine wpR_val (v := (Value.agg #[(Value.int .i64 3), (Value.int .i64 0), (Value.int .i64 0), (Value.int .i64 0), (Value.bool (!decide (x22 = 0)))])) (w' := w1) rfl rfl rfl (x_build (qs := [(0, (Value.int .i64 3)), (1, (Value.int .i64 0)), (2, (Value.int .i64 0)), (3, (Value.int .i64 0)), (4, (Value.bool (!decide (x22 = 0))))]) rfl (by rfl) (BD_61_0_1_2_3_4 3 0 0 0 (!decide (x22 = 0)) _)) ?_
  refine wpR_val (v := (Value.bool c14)) (w' := w1) rfl rfl rfl (x_move (v := (Value.bool c14)) rfl e3) ?_
  refine wpR_val (v := (Value.agg #[(Value.int .i64 3), (Value.int .i64 2), (Value.int .i64 0), (Value.int .i64 1), (Value.bool c14)])) (w' := w1) rfl rfl rfl (x_build (qs := [(0, (Value.int .i64 3)), (1, (Value.int .i64 2)), (2, (Value.int .i64 0)), (3, (Value.int .i64 1)), (4, (Value.bool c14))]) rfl (by rfl) (BD_61_0_1_2_3_4 3 2 0 1 c14 _)) ?_
  refine wpR_val (v := (Value.agg #[(Value.int .i64 3), (Value.int .i64 3), (Value.int .i64 2), (Value.int .i64 2), (Value.bool true)])) (w' := w1) rfl rfl rfl (x_build (qs := [(0, (Value.int .i64 3)), (1, (Value.int .i64 3)), (2, (Value.int .i64 2)), (3, (Value.int .i64 2)), (4, (Value.bool true))]) rfl (by rfl) (BD_61_0_1_2_3_4 3 3 2 2 true _)) ?_
  refine wpR_val (v := (Value.pointer (some ((Addr.mk b9 0 none).add 4)))) (w' := w1) rfl rfl rfl (x_fieldAddr rfl e1 FA_24_4) ?_
  obtain ⟨x23, q23, h⟩ := h
  refine wpR_val (v := (Value.bool x23)) (w' := w1) rfl rfl rfl (x_load1 rfl rfl SH_4 q23) ?_
  refine wpR_val (v := (Value.bool x23)) (w' := w1) rfl rfl rfl (x_move (v := (Value.bool x23)) rfl rfl) ?_
  obtain ⟨J24, h, hk⟩ := h
  refine wpR_joinJ 4 (fun x ρ => ρ 48 = Value.bool x ∧ ρ 1 = (Value.pointer (some (Addr.mk b9 0 none))) ∧ ρ 24 = (Value.agg #[(Value.int .i64 0), (Value.int .i64 0), (Value.int .i64 0), (Value.int .i64 0), (Value.bool true)]) ∧ ρ 26 = (Value.agg #[(Value.int .i64 1), (Value.int .i64 1), (Value.int .i64 1), (Value.int .i64 1), (Value.bool c20)]) ∧ ρ 30 = (Value.agg #[(Value.int .i64 1), (Value.int .i64 4), (Value.int .i64 1), (Value.int .i64 2), (Value.bool (decide (2 ≤ x21)))]) ∧ ρ 31 = (Value.agg #[(Value.int .i64 1), (Value.int .i64 4), (Value.int .i64 0), (Value.int .i64 3), (Value.bool true)]) ∧ ρ 33 = (Value.agg #[(Value.int .i64 2), (Value.int .i64 0), (Value.int .i64 0), (Value.int .i64 0), (Value.bool c14)]) ∧ ρ 34 = (Value.agg #[(Value.int .i64 2), (Value.int .i64 3), (Value.int .i64 2), (Value.int .i64 1), (Value.bool true)]) ∧ ρ 38 = (Value.agg #[(Value.int .i64 3), (Value.int .i64 0), (Value.int .i64 0), (Value.int .i64 0), (Value.bool (!decide (x22 = 0)))]) ∧ ρ 40 = (Value.agg #[(Value.int .i64 3), (Value.int .i64 2), (Value.int .i64 0), (Value.int .i64 1), (Value.bool c14)]) ∧ ρ 41 = (Value.agg #[(Value.int .i64 3), (Value.int .i64 3), (Value.int .i64 2), (Value.int .i64 2), (Value.bool true)]) ∧ True) (fun x w => J24 x ∧ w1 = w) ?_ ?_
  · clear hk
    rcases Bool.eq_false_or_eq_true (x23) with hc25 | hc25
    · replace h := h.1 hc25
      refine wpR_val (v := (Value.pointer (some ((Addr.mk b9 0 none).add 9)))) (w' := w1) (wantG rfl rfl rfl hc25) rfl rfl (x_fieldAddr rfl e1 FA_24_9) ?_
      obtain ⟨x26, q26, h⟩ := h
      refine wpR_val (v := (Value.int .i64 x26)) (w' := w1) (wantG rfl rfl rfl hc25) rfl rfl (x_load1 rfl rfl SH_3 q26) ?_
      refine wpR_val (v := (Value.bool (decide (x26 = 1)))) (w' := w1) (wantG rfl rfl rfl hc25) rfl rfl (x_eql rfl rfl rfl) ?_
      refine wpR_val (v := (Value.bool (decide (x26 = 1)))) (w' := w1) rfl rfl rfl (x_pickT (v := (Value.bool (decide (x26 = 1)))) rfl rfl hc25 rfl) ?_
      refine wpR_nil ?_
      exact ⟨decide (x26 = 1), ⟨rfl, e1, rfl, rfl, rfl, rfl, rfl, rfl, rfl, rfl, rfl, trivial⟩, h, rfl⟩
    · replace h := h.2 hc25
      refine wpR_pass (wantN rfl rfl rfl hc25) rfl rfl ?_
      refine wpR_pass (wantN rfl rfl rfl hc25) rfl rfl ?_
      refine wpR_pass (wantN rfl rfl rfl hc25) rfl rfl ?_
      refine wpR_val (v := (Value.bool false)) (w' := w1) rfl rfl rfl (x_pickF (v := (Value.bool false)) rfl rfl hc25 rfl) ?_
      refine wpR_nil ?_
      exact ⟨false, ⟨rfl, e1, rfl, rfl, rfl, rfl, rfl, rfl, rfl, rfl, rfl, trivial⟩, h, rfl⟩
  clear h
  rintro c27 ρ wj ⟨e48, e1, e24, e26, e30, e31, e33, e34, e38, e40, e41, -⟩ ⟨h, rfl⟩
  replace h := hk c27 h
  clear hk
  refine wpR_val (v := (Value.agg #[(Value.int .i64 4), (Value.int .i64 0), (Value.int .i64 0), (Value.int .i64 0), (Value.bool c27)])) (w' := w1) rfl rfl rfl (x_build (qs := [(0, (Value.int .i64 4)), (1, (Value.int .i64 0)), (2, (Value.int .i64 0)), (3, (Value.int .i64 0)), (4, (Value.bool c27))]) rfl (bl_cons rfl (bl_cons rfl (bl_cons rfl (bl_cons rfl (bl_cons e48 bl_nil))))) (BD_61_0_1_2_3_4 4 0 0 0 c27 _)) ?_
  refine wpR_val (v := (Value.pointer (some ((Addr.mk b9 0 none).add 4)))) (w' := w1) rfl rfl rfl (x_fieldAddr rfl e1 FA_24_4) ?_
  obtain ⟨x28, q28, h⟩ := h
  refine wpR_val (v := (Value.bool x28)) (w' := w1) rfl rfl rfl (x_load1 rfl rfl SH_4 q28) ?_
  refine wpR_val (v := (Value.agg #[(Value.int .i64 4), (Value.int .i64 0), (Value.int .i64 1), (Value.int .i64 0), (Value.bool x28)])) (w' := w1) rfl rfl rfl (x_build (qs := [(0, (Value.int .i64 4)), (1, (Value.int .i64 0)), (2, (Value.int .i64 1)), (3, (Value.int .i64 0)), (4, (Value.bool x28))]) rfl (by rfl) (BD_61_0_1_2_3_4 4 0 1 0 x28 _)) ?_
  refine wpR_val (v := (Value.agg #[(Value.int .i64 4), (Value.int .i64 3), (Value.int .i64 2), (Value.int .i64 1), (Value.bool true)])) (w' := w1) rfl rfl rfl (x_build (qs := [(0, (Value.int .i64 4)), (1, (Value.int .i64 3)), (2, (Value.int .i64 2)), (3, (Value.int .i64 1)), (4, (Value.bool true))]) rfl (by rfl) (BD_61_0_1_2_3_4 4 3 2 1 true _)) ?_
  refine wpR_val (v := (Value.pointer (some ((Addr.mk b9 0 none).add 5)))) (w' := w1) rfl rfl rfl (x_fieldAddr rfl e1 FA_24_5) ?_
  obtain ⟨x29, q29, h⟩ := h
  refine wpR_val (v := (Value.int .i64 x29)) (w' := w1) rfl rfl rfl (x_load1 rfl rfl SH_3 q29) ?_
  refine wpR_val (v := (Value.bool (decide (x29 = 2)))) (w' := w1) rfl rfl rfl (x_eql rfl rfl rfl) ?_
  refine wpR_val (v := (Value.agg #[(Value.int .i64 5), (Value.int .i64 0), (Value.int .i64 0), (Value.int .i64 0), (Value.bool (decide (x29 = 2)))])) (w' := w1) rfl rfl rfl (x_build (qs := [(0, (Value.int .i64 5)), (1, (Value.int .i64 0)), (2, (Value.int .i64 0)), (3, (Value.int .i64 0)), (4, (Value.bool (decide (x29 = 2))))]) rfl (by rfl) (BD_61_0_1_2_3_4 5 0 0 0 (decide (x29 = 2)) _)) ?_
  refine wpR_val (v := (Value.pointer (some ((Addr.mk b9 0 none).add 5)))) (w' := w1) rfl rfl rfl (x_fieldAddr rfl e1 FA_24_5) ?_
  obtain ⟨x30, q30, h⟩ := h
  refine wpR_val (v := (Value.int .i64 x30)) (w' := w1) rfl rfl rfl (x_load1 rfl rfl SH_3 q30) ?_
  refine wpR_val (v := (Value.bool (decide (x30 = 1)))) (w' := w1) rfl rfl rfl (x_eql rfl rfl rfl) ?_
  refine wpR_val (v := (Value.agg #[(Value.int .i64 5), (Value.int .i64 2), (Value.int .i64 1), (Value.int .i64 1), (Value.bool (decide (x30 = 1)))])) (w' := w1) rfl rfl rfl (x_build (qs := [(0, (Value.int .i64 5)), (1, (Value.int .i64 2)), (2, (Value.int .i64 1)), (3, (Value.int .i64 1)), (4, (Value.bool (decide (x30 = 1))))]) rfl (by rfl) (BD_61_0_1_2_3_4 5 2 1 1 (decide (x30 = 1)) _)) ?_
  refine wpR_val (v := (Value.agg #[(Value.int .i64 5), (Value.int .i64 2), (Value.int .i64 2), (Value.int .i64 2), (Value.bool true)])) (w' := w1) rfl rfl rfl (x_build (qs := [(0, (Value.int .i64 5)), (1, (Value.int .i64 2)), (2, (Value.int .i64 2)), (3, (Value.int .i64 2)), (4, (Value.bool true))]) rfl (by rfl) (BD_61_0_1_2_3_4 5 2 2 2 true _)) ?_
  refine wpR_val (v := (Value.pointer (some ((Addr.mk b9 0 none).add 6)))) (w' := w1) rfl rfl rfl (x_fieldAddr rfl e1 FA_24_6) ?_
  obtain ⟨x31, q31, h⟩ := h
  refine wpR_val (v := (Value.bool x31)) (w' := w1) rfl rfl rfl (x_load1 rfl rfl SH_4 q31) ?_
  refine wpR_val (v := (Value.agg #[(Value.int .i64 6), (Value.int .i64 0), (Value.int .i64 0), (Value.int .i64 0), (Value.bool x31)])) (w' := w1) rfl rfl rfl (x_build (qs := [(0, (Value.int .i64 6)), (1, (Value.int .i64 0)), (2, (Value.int .i64 0)), (3, (Value.int .i64 0)), (4, (Value.bool x31))]) rfl (by rfl) (BD_61_0_1_2_3_4 6 0 0 0 x31 _)) ?_
  refine wpR_val (v := (Value.agg #[(Value.int .i64 6), (Value.int .i64 2), (Value.int .i64 2), (Value.int .i64 1), (Value.bool true)])) (w' := w1) rfl rfl rfl (x_build (qs := [(0, (Value.int .i64 6)), (1, (Value.int .i64 2)), (2, (Value.int .i64 2)), (3, (Value.int .i64 1)), (4, (Value.bool true))]) rfl (by rfl) (BD_61_0_1_2_3_4 6 2 2 1 true _)) ?_
  refine wpR_val (v := (Value.pointer (some ((Addr.mk b9 0 none).add 7)))) (w' := w1) rfl rfl rfl (x_fieldAddr rfl e1 FA_24_7) ?_
  obtain ⟨x32, q32, h⟩ := h
  refine wpR_val (v := (Value.bool x32)) (w' := w1) rfl rfl rfl (x_load1 rfl rfl SH_4 q32) ?_
  refine wpR_val (v := (Value.agg #[(Value.int .i64 7), (Value.int .i64 0), (Value.int .i64 0), (Value.int .i64 0), (Value.bool x32)])) (w' := w1) rfl rfl rfl (x_build (qs := [(0, (Value.int .i64 7)), (1, (Value.int .i64 0)), (2, (Value.int .i64 0)), (3, (Value.int .i64 0)), (4, (Value.bool x32))]) rfl (by rfl) (BD_61_0_1_2_3_4 7 0 0 0 x32 _)) ?_
  refine wpR_val (v := (Value.agg #[(Value.int .i64 7), (Value.int .i64 2), (Value.int .i64 2), (Value.int .i64 1), (Value.bool true)])) (w' := w1) rfl rfl rfl (x_build (qs := [(0, (Value.int .i64 7)), (1, (Value.int .i64 2)), (2, (Value.int .i64 2)), (3, (Value.int .i64 1)), (4, (Value.bool true))]) rfl (by rfl) (BD_61_0_1_2_3_4 7 2 2 1 true _)) ?_
  refine wpR_val (v := (Value.pointer (some ((Addr.mk b9 0 none).add 10)))) (w' := w1) rfl rfl rfl (x_fieldAddr rfl e1 FA_24_10) ?_
  obtain ⟨x33, q33, h⟩ := h
  refine wpR_val (v := (Value.int .i64 x33)) (w' := w1) rfl rfl rfl (x_load1 rfl rfl SH_3 q33) ?_
  refine wpR_val (v := (Value.bool (decide (x33 = 4)))) (w' := w1) rfl rfl rfl (x_eql rfl rfl rfl) ?_
  refine wpR_val (v := (Value.agg #[(Value.int .i64 8), (Value.int .i64 0), (Value.int .i64 0), (Value.int .i64 0), (Value.bool (decide (x33 = 4)))])) (w' := w1) rfl rfl rfl (x_build (qs := [(0, (Value.int .i64 8)), (1, (Value.int .i64 0)), (2, (Value.int .i64 0)), (3, (Value.int .i64 0)), (4, (Value.bool (decide (x33 = 4))))]) rfl (by rfl) (BD_61_0_1_2_3_4 8 0 0 0 (decide (x33 = 4)) _)) ?_
  refine wpR_val (v := (Value.pointer (some ((Addr.mk b9 0 none).add 10)))) (w' := w1) rfl rfl rfl (x_fieldAddr rfl e1 FA_24_10) ?_
  obtain ⟨x34, q34, h⟩ := h
  refine wpR_val (v := (Value.int .i64 x34)) (w' := w1) rfl rfl rfl (x_load1 rfl rfl SH_3 q34) ?_
  refine wpR_val (v := (Value.bool (decide (1 ≤ x34)))) (w' := w1) rfl rfl rfl (x_geq rfl rfl rfl) ?_
  refine wpR_val (v := (Value.agg #[(Value.int .i64 8), (Value.int .i64 4), (Value.int .i64 1), (Value.int .i64 1), (Value.bool (decide (1 ≤ x34)))])) (w' := w1) rfl rfl rfl (x_build (qs := [(0, (Value.int .i64 8)), (1, (Value.int .i64 4)), (2, (Value.int .i64 1)), (3, (Value.int .i64 1)), (4, (Value.bool (decide (1 ≤ x34))))]) rfl (by rfl) (BD_61_0_1_2_3_4 8 4 1 1 (decide (1 ≤ x34)) _)) ?_
  refine wpR_val (v := (Value.agg #[(Value.int .i64 8), (Value.int .i64 2), (Value.int .i64 2), (Value.int .i64 2), (Value.bool true)])) (w' := w1) rfl rfl rfl (x_build (qs := [(0, (Value.int .i64 8)), (1, (Value.int .i64 2)), (2, (Value.int .i64 2)), (3, (Value.int .i64 2)), (4, (Value.bool true))]) rfl (by rfl) (BD_61_0_1_2_3_4 8 2 2 2 true _)) ?_
  obtain ⟨b35, hb35⟩ : ∃ u, u = w1.heap.size := ⟨_, rfl⟩
  obtain ⟨w2, hw35⟩ : ∃ u, u = w1.alloc (.cells #[(Value.int .i64 0), (Value.int .i64 0), (Value.int .i64 0), (Value.int .i64 0), (Value.bool true), (Value.int .i64 1), (Value.int .i64 1), (Value.int .i64 1), (Value.int .i64 1), (Value.bool c20), (Value.int .i64 1), (Value.int .i64 4), (Value.int .i64 1), (Value.int .i64 2), (Value.bool (decide (2 ≤ x21))), (Value.int .i64 1), (Value.int .i64 4), (Value.int .i64 0), (Value.int .i64 3), (Value.bool true), (Value.int .i64 2), (Value.int .i64 0), (Value.int .i64 0), (Value.int .i64 0), (Value.bool c14), (Value.int .i64 2), (Value.int .i64 3), (Value.int .i64 2), (Value.int .i64 1), (Value.bool true), (Value.int .i64 3), (Value.int .i64 0), (Value.int .i64 0), (Value.int .i64 0), (Value.bool (!decide (x22 = 0))), (Value.int .i64 3), (Value.int .i64 2), (Value.int .i64 0), (Value.int .i64 1), (Value.bool c14), (Value.int .i64 3), (Value.int .i64 3), (Value.int .i64 2), (Value.int .i64 2), (Value.bool true), (Value.int .i64 4), (Value.int .i64 0), (Value.int .i64 0), (Value.int .i64 0), (Value.bool c27), (Value.int .i64 4), (Value.int .i64 0), (Value.int .i64 1), (Value.int .i64 0), (Value.bool x28), (Value.int .i64 4), (Value.int .i64 3), (Value.int .i64 2), (Value.int .i64 1), (Value.bool true), (Value.int .i64 5), (Value.int .i64 0), (Value.int .i64 0), (Value.int .i64 0), (Value.bool (decide (x29 = 2))), (Value.int .i64 5), (Value.int .i64 2), (Value.int .i64 1), (Value.int .i64 1), (Value.bool (decide (x30 = 1))), (Value.int .i64 5), (Value.int .i64 2), (Value.int .i64 2), (Value.int .i64 2), (Value.bool true), (Value.int .i64 6), (Value.int .i64 0), (Value.int .i64 0), (Value.int .i64 0), (Value.bool x31), (Value.int .i64 6), (Value.int .i64 2), (Value.int .i64 2), (Value.int .i64 1), (Value.bool true), (Value.int .i64 7), (Value.int .i64 0), (Value.int .i64 0), (Value.int .i64 0), (Value.bool x32), (Value.int .i64 7), (Value.int .i64 2), (Value.int .i64 2), (Value.int .i64 1), (Value.bool true), (Value.int .i64 8), (Value.int .i64 0), (Value.int .i64 0), (Value.int .i64 0), (Value.bool (decide (x33 = 4))), (Value.int .i64 8), (Value.int .i64 4), (Value.int .i64 1), (Value.int .i64 1), (Value.bool (decide (1 ≤ x34))), (Value.int .i64 8), (Value.int .i64 2), (Value.int .i64 2), (Value.int .i64 2), (Value.bool true)] 61) := ⟨_, rfl⟩
  replace h := h b35 w2 hb35 hw35
  refine wpR_val (v := (Sl.v (⟨some ⟨b35, 0, none⟩, 22, 22⟩ : Sl))) (w' := w2) rfl rfl rfl ((x_buildSlice (qs := [(0, (Value.agg #[(Value.int .i64 0), (Value.int .i64 0), (Value.int .i64 0), (Value.int .i64 0), (Value.bool true)])), (1, (Value.agg #[(Value.int .i64 1), (Value.int .i64 1), (Value.int .i64 1), (Value.int .i64 1), (Value.bool c20)])), (2, (Value.agg #[(Value.int .i64 1), (Value.int .i64 4), (Value.int .i64 1), (Value.int .i64 2), (Value.bool (decide (2 ≤ x21)))])), (3, (Value.agg #[(Value.int .i64 1), (Value.int .i64 4), (Value.int .i64 0), (Value.int .i64 3), (Value.bool true)])), (4, (Value.agg #[(Value.int .i64 2), (Value.int .i64 0), (Value.int .i64 0), (Value.int .i64 0), (Value.bool c14)])), (5, (Value.agg #[(Value.int .i64 2), (Value.int .i64 3), (Value.int .i64 2), (Value.int .i64 1), (Value.bool true)])), (6, (Value.agg #[(Value.int .i64 3), (Value.int .i64 0), (Value.int .i64 0), (Value.int .i64 0), (Value.bool (!decide (x22 = 0)))])), (7, (Value.agg #[(Value.int .i64 3), (Value.int .i64 2), (Value.int .i64 0), (Value.int .i64 1), (Value.bool c14)])), (8, (Value.agg #[(Value.int .i64 3), (Value.int .i64 3), (Value.int .i64 2), (Value.int .i64 2), (Value.bool true)])), (9, (Value.agg #[(Value.int .i64 4), (Value.int .i64 0), (Value.int .i64 0), (Value.int .i64 0), (Value.bool c27)])), (10, (Value.agg #[(Value.int .i64 4), (Value.int .i64 0), (Value.int .i64 1), (Value.int .i64 0), (Value.bool x28)])), (11, (Value.agg #[(Value.int .i64 4), (Value.int .i64 3), (Value.int .i64 2), (Value.int .i64 1), (Value.bool true)])), (12, (Value.agg #[(Value.int .i64 5), (Value.int .i64 0), (Value.int .i64 0), (Value.int .i64 0), (Value.bool (decide (x29 = 2)))])), (13, (Value.agg #[(Value.int .i64 5), (Value.int .i64 2), (Value.int .i64 1), (Value.int .i64 1), (Value.bool (decide (x30 = 1)))])), (14, (Value.agg #[(Value.int .i64 5), (Value.int .i64 2), (Value.int .i64 2), (Value.int .i64 2), (Value.bool true)])), (15, (Value.agg #[(Value.int .i64 6), (Value.int .i64 0), (Value.int .i64 0), (Value.int .i64 0), (Value.bool x31)])), (16, (Value.agg #[(Value.int .i64 6), (Value.int .i64 2), (Value.int .i64 2), (Value.int .i64 1), (Value.bool true)])), (17, (Value.agg #[(Value.int .i64 7), (Value.int .i64 0), (Value.int .i64 0), (Value.int .i64 0), (Value.bool x32)])), (18, (Value.agg #[(Value.int .i64 7), (Value.int .i64 2), (Value.int .i64 2), (Value.int .i64 1), (Value.bool true)])), (19, (Value.agg #[(Value.int .i64 8), (Value.int .i64 0), (Value.int .i64 0), (Value.int .i64 0), (Value.bool (decide (x33 = 4)))])), (20, (Value.agg #[(Value.int .i64 8), (Value.int .i64 4), (Value.int .i64 1), (Value.int .i64 1), (Value.bool (decide (1 ≤ x34)))])), (21, (Value.agg #[(Value.int .i64 8), (Value.int .i64 2), (Value.int .i64 2), (Value.int .i64 2), (Value.bool true)]))]) rfl (bl_cons e24 (bl_cons e26 (bl_cons e30 (bl_cons e31 (bl_cons e33 (bl_cons e34 (bl_cons e38 (bl_cons e40 (bl_cons e41 (bl_cons rfl (bl_cons rfl (bl_cons rfl (bl_cons rfl (bl_cons rfl (bl_cons rfl (bl_cons rfl (bl_cons rfl (bl_cons rfl (bl_cons rfl (bl_cons rfl (bl_cons rfl (bl_cons rfl bl_nil)))))))))))))))))))))) (BS_58_22_0_1_2_3_4_5_6_7_8_9_10_11_12_13_14_15_16_17_18_19_20_21 0 0 0 0 true 1 1 1 1 c20 1 4 1 2 (decide (2 ≤ x21)) 1 4 0 3 true 2 0 0 0 c14 2 3 2 1 true 3 0 0 0 (!decide (x22 = 0)) 3 2 0 1 c14 3 3 2 2 true 4 0 0 0 c27 4 0 1 0 x28 4 3 2 1 true 5 0 0 0 (decide (x29 = 2)) 5 2 1 1 (decide (x30 = 1)) 5 2 2 2 true 6 0 0 0 x31 6 2 2 1 true 7 0 0 0 x32 7 2 2 1 true 8 0 0 0 (decide (x33 = 4)) 8 4 1 1 (decide (1 ≤ x34)) 8 2 2 2 true)).trans (by rw [← hb35, ← hw35])) ?_
  refine wpR_val (v := (Sl.v (⟨some ⟨b35, 0, none⟩, 22, 22⟩ : Sl))) (w' := w2) rfl rfl rfl (x_assign (v := (Sl.v (⟨some ⟨b35, 0, none⟩, 22, 22⟩ : Sl))) rfl rfl) ?_
  refine wpR_nil ?_
  refine wpC_ret ?_
  exact ⟨.inl rfl, fun a ha => ⟨_, results_rep1 rfl ha rfl, (⟨some ⟨b35, 0, none⟩, 22, 22⟩ : Sl), rfl, h⟩⟩

/-- linguaref20.Best -/
def F35 (p0_0 : ByteArray) (p0_1 : Int) (p0_2 : Int) (p0_3 : Int) (p0_4 : Bool) (p0_5 : Int) (p0_6 : Bool) (p0_7 : Bool) (p0_8 : Int) (p0_9 : Int) (p0_10 : Int) (p0_11 : Int) (p0_12 : Sl) (p0_13 : Int) (p0_14 : Int) (p0_15 : Int) (p0_16 : Int) (p0_17 : Bool) (p0_18 : Int) (p0_19 : Int) (p0_20 : Int) (p0_21 : Int) (w0 : World) (K : Sl → World → Prop) : Prop :=
  nw 24 (A23 p0_0 p0_1 p0_2 p0_3 p0_4 p0_5 p0_6 p0_7 p0_8 p0_9 p0_10 p0_11 p0_12 p0_13 p0_14 p0_15 p0_16 p0_17 p0_18 p0_19 p0_20 p0_21) w0 fun b9 w1 =>
  rn Try.prog (Instr.makeSlice 25 (Value.int .i64 9) (Value.int .i64 9)) (fun (r : Sl) => (Sl.v r)) w1 fun r10 w2 =>
  rn Try.prog (Instr.makeSlice 80 (Value.int .i64 9) (Value.int .i64 9)) (fun (r : Sl) => (Sl.v r)) w2 fun r11 w3 =>
  L23 (Addr.mk b9 0 none) w3 fun x12 x13 x14 x15 x16 x17 x18 x19 x20 x21 x22 x23 x24 x25 x26 x27 x28 x29 x30 x31 x32 x33 =>
  callC Try.prog 34 #[(V23 x12 x13 x14 x15 x16 x17 x18 x19 x20 x21 x22 x23 x24 x25 x26 x27 x28 x29 x30 x31 x32 x33)] (fun (r : Sl) => (Sl.v r)) w3 fun r34 w4 =>
  lp (fun (next35 : Int → World → Prop) l35 w5 =>
    cnd (decide (l35 < (r34.len : Int)))
      (
      jn (fun (J37 : Unit → World → Prop) =>
        ix r34 l35 5 fun p39 =>
        ld (Value.int .i64) (p39.add 0) w5 fun x40 =>
        ix r34 l35 5 fun p41 =>
        ld Value.bool (p41.add 4) w5 fun x42 =>
        jp (fun J43 => cnd (x42)
          (
          ix r11 x40 1 fun p45 =>
          ld Value.bool p45 w5 fun x46 =>
          J43 (!x46)
          )
          (
          J43 false
          ))
        fun c47 =>
        cnd (c47)
          (
          ix r11 x40 1 fun p49 =>
          st p49 [(Value.bool true)] w5 fun w7 =>
          jn (fun (J52 : Unit → World → Prop) => tk w7 fun w8 =>
            ix r34 l35 5 fun p53 =>
            ld (Value.int .i64) (p53.add 1) w8 fun x54 =>
            ix r34 l35 5 fun p55 =>
            ld (Value.int .i64) (p55.add 2) w8 fun x56 =>
            ix r10 x40 2 fun p57 =>
            st p57 [(Value.int .i64 x54), (Value.int .i64 x56)] w8 fun w9 =>
            J52 () w9
          )
          fun _l59 w10 =>
          J37 () w10
          )
          (
          J37 () w5
          )
      )
      fun _l38 w6 =>
      next35 (IntKind.i64.wrap (l35 + 1)) w6
      )
      (
      K r10 w5
      )
  ) 0 w4
set_option maxRecDepth 100000 in
theorem D35 (p0_0 : ByteArray) (p0_1 : Int) (p0_2 : Int) (p0_3 : Int) (p0_4 : Bool) (p0_5 : Int) (p0_6 : Bool) (p0_7 : Bool) (p0_8 : Int) (p0_9 : Int) (p0_10 : Int) (p0_11 : Int) (p0_12 : Sl) (p0_13 : Int) (p0_14 : Int) (p0_15 : Int) (p0_16 : Int) (p0_17 : Bool) (p0_18 : Int) (p0_19 : Int) (p0_20 : Int) (p0_21 : Int) (w0 : World) (K : Sl → World → Prop) (h : F35 p0_0 p0_1 p0_2 p0_3 p0_4 p0_5 p0_6 p0_7 p0_8 p0_9 p0_10 p0_11 p0_12 p0_13 p0_14 p0_15 p0_16 p0_17 p0_18 p0_19 p0_20 p0_21 w0 K) : callC Try.prog 35 #[(V23 p0_0 p0_1 p0_2 p0_3 p0_4 p0_5 p0_6 p0_7 p0_8 p0_9 p0_10 p0_11 p0_12 p0_13 p0_14 p0_15 p0_16 p0_17 p0_18 p0_19 p0_20 p0_21)] (fun (r : Sl) => (Sl.v r)) w0 K := by
  unfold F35 at h
  refine calls_of_wpC Try.func35 rfl 53 rfl (by simp) ?_
  intro ρ hρ
  have e0 : ρ 0 = (V23 p0_0 p0_1 p0_2 p0_3 p0_4 p0_5 p0_6 p0_7 p0_8 p0_9 p0_10 p0_11 p0_12 p0_13 p0_14 p0_15 p0_16 p0_17 p0_18 p0_19 p0_20 p0_21) := hρ 0
  clear hρ
  refine wpC_seq ?_
  refine wpC_region ?_
  obtain ⟨b9, hb9⟩ : ∃ u, u = w0.heap.size := ⟨_, rfl⟩
  obtain ⟨w1, hw9⟩ : ∃ u, u = w0.alloc (.cells (A23 p0_0 p0_1 p0_2 p0_3 p0_4 p0_5 p0_6 p0_7 p0_8 p0_9 p0_10 p0_11 p0_12 p0_13 p0_14 p0_15 p0_16 p0_17 p0_18 p0_19 p0_20 p0_21) 24) := ⟨_, rfl⟩
  replace h := h b9 w1 hb9 hw9
  refine wpR_val (v := (Value.pointer (some (Addr.mk b9 0 none)))) (w' := w1) rfl rfl rfl ((x_box (v := (V23 p0_0 p0_1 p0_2 p0_3 p0_4 p0_5 p0_6 p0_7 p0_8 p0_9 p0_10 p0_11 p0_12 p0_13 p0_14 p0_15 p0_16 p0_17 p0_18 p0_19 p0_20 p0_21)) rfl e0).trans (by rw [hb9, hw9]; rfl)) ?_
  refine wpR_val (v := (Sl.v Sl.nil)) (w' := w1) rfl rfl rfl (x_assign (v := (Sl.v Sl.nil)) rfl rfl) ?_
  refine wpR_nil ?_
  refine wpC_seq ?_
  refine wpC_cut (fun ρ => ρ 1 = (Value.pointer (some (Addr.mk b9 0 none))) ∧ True) ⟨rfl, trivial⟩ ?_
  rintro ρ ⟨e1, -⟩
  refine wpC_region ?_
  obtain ⟨r10, w2, q10, h⟩ := h
  refine wpR_val (v := (Sl.v r10)) (w' := w2) rfl rfl rfl (x_makeSlice rfl rfl rfl q10) ?_
  refine wpR_val (v := (Sl.v r10)) (w' := w2) rfl rfl rfl (x_assign (v := (Sl.v r10)) rfl rfl) ?_
  refine wpR_nil ?_
  refine wpC_seq ?_
  refine wpC_cut (fun ρ => ρ 1 = (Value.pointer (some (Addr.mk b9 0 none))) ∧ ρ 3 = (Sl.v r10) ∧ True) ⟨e1, rfl, trivial⟩ ?_
  rintro ρ ⟨e1, e3, -⟩
  refine wpC_region ?_
  obtain ⟨r11, w3, q11, h⟩ := h
  refine wpR_val (v := (Sl.v r11)) (w' := w3) rfl rfl rfl (x_makeSlice rfl rfl rfl q11) ?_
  refine wpR_val (v := (Sl.v r11)) (w' := w3) rfl rfl rfl (x_assign (v := (Sl.v r11)) rfl rfl) ?_
  refine wpR_nil ?_
  refine wpC_seq ?_
  refine wpC_cut (fun ρ => ρ 1 = (Value.pointer (some (Addr.mk b9 0 none))) ∧ ρ 3 = (Sl.v r10) ∧ ρ 4 = (Sl.v r11) ∧ True) ⟨e1, e3, rfl, trivial⟩ ?_
  rintro ρ ⟨e1, e3, e4, -⟩
  refine wpC_region ?_
  obtain ⟨x12, q12, x13, q13, x14, q14, x15, q15, x16, q16, x17, q17, x18, q18, x19, q19, x20, q20, x21, q21, x22, q22, x23, q23, x24, q24, x25, q25, x26, q26, x27, q27, x28, q28, x29, q29, x30, q30, x31, q31, x32, q32, x33, q33, h⟩ := h
  refine wpR_val (v := (V23 x12 x13 x14 x15 x16 x17 x18 x19 x20 x21 x22 x23 x24 x25 x26 x27 x28 x29 x30 x31 x32 x33)) (w' := w3) rfl rfl rfl (x_loadN (S23 x12 x13 x14 x15 x16 x17 x18 x19 x20 x21 x22 x23 x24 x25 x26 x27 x28 x29 x30 x31 x32 x33) rfl e1 SH_24 (K23 ⟨q12, q13, q14, q15, q16, q17, q18, q19, q20, q21, q22, q23, q24, q25, q26, q27, q28, q29, q30, q31, q32, q33⟩)) ?_
  refine wpR_enter rfl rfl rfl (x_call (vs := [(V23 x12 x13 x14 x15 x16 x17 x18 x19 x20 x21 x22 x23 x24 x25 x26 x27 x28 x29 x30 x31 x32 x33)]) rfl rfl (mapl_cons rfl mapl_nil) Try.func34 NN_34 NB_34) (Calls.mono h ?_)
  rintro _ w4 ⟨r34, rfl, h⟩
  refine ⟨_, rfl, ?_⟩
  refine wpR_val (v := (Sl.v r34)) (w' := w4) rfl rfl rfl (x_assign (v := (Sl.v r34)) rfl rfl) ?_
  refine wpR_nil ?_
  refine wpC_seq ?_
  refine wpC_seq ?_
  refine wpC_cut (fun ρ => ρ 3 = (Sl.v r10) ∧ ρ 4 = (Sl.v r11) ∧ ρ 5 = (Sl.v r34) ∧ True) ⟨e3, e4, rfl, trivial⟩ ?_
  rintro ρ ⟨e3, e4, e5, -⟩
  refine wpC_region ?_
  refine wpR_val (v := (Value.int .i64 0)) (w' := w4) rfl rfl rfl (x_assign (v := (Value.int .i64 0)) rfl rfl) ?_
  refine wpR_nil ?_
  refine wpC_block ?_
  obtain ⟨I35, μ35, hI35, hr35⟩ := h
  refine wpC_loop (fun (x : Int) ρ => ρ 6 = (Value.int .i64 x) ∧ ρ 3 = (Sl.v r10) ∧ ρ 4 = (Sl.v r11) ∧ ρ 5 = (Sl.v r34) ∧ True) I35 μ35 0 ⟨rfl, e3, e4, e5, trivial⟩ hI35 ?_
  rintro l35 ρ w5 ⟨e6, e3, e4, e5, -⟩ h
  replace h := hr35 l35 w5 h
  clear hr35 hI35
  refine wpC_seq ?_
  refine wpC_seq ?_
  refine wpC_region ?_
  refine wpR_val (v := (Value.int .i64 l35)) (w' := w5) rfl rfl rfl (x_move (v := (Value.int .i64 l35)) rfl e6) ?_
  refine wpR_val (v := (Sl.v r34)) (w' := w5) rfl rfl rfl (x_move (v := (Sl.v r34)) rfl e5) ?_
  refine wpR_val (v := (Value.int .i64 (r34.len : Int))) (w' := w5) rfl rfl rfl (x_lenS (s := r34) rfl rfl isSliceT_58) ?_
  refine wpR_val (v := (Value.bool (decide (l35 < (r34.len : Int))))) (w' := w5) rfl rfl rfl (x_lss rfl rfl rfl) ?_
  refine wpR_nil ?_
  refine wpC_cond (b := decide (l35 < (r34.len : Int))) rfl (fun hc36 => ?_) (fun hc36 => ?_)
  · replace h := h.1 hc36
    refine wpC_skip ?_
    obtain ⟨J37, h, hk⟩ := h
    refine wpC_seqJ (fun (x : Unit) ρ => ρ 3 = (Sl.v r10) ∧ ρ 4 = (Sl.v r11) ∧ ρ 5 = (Sl.v r34) ∧ ρ 6 = (Value.int .i64 l35) ∧ True) J37 ?_ ?_
    · clear hk
      refine wpC_block ?_
      refine wpC_seq ?_
      refine wpC_cut (fun ρ => ρ 3 = (Sl.v r10) ∧ ρ 4 = (Sl.v r11) ∧ ρ 5 = (Sl.v r34) ∧ ρ 6 = (Value.int .i64 l35) ∧ True) ⟨e3, e4, e5, e6, trivial⟩ ?_
      rintro ρ ⟨e3, e4, e5, e6, -⟩
      refine wpC_region ?_
      refine wpR_val (v := (Sl.v r34)) (w' := w5) rfl rfl rfl (x_move (v := (Sl.v r34)) rfl e5) ?_
      refine wpR_val (v := (Value.int .i64 l35)) (w' := w5) rfl rfl rfl (x_move (v := (Value.int .i64 l35)) rfl e6) ?_
      obtain ⟨q39, z39, r39, h⟩ := h
      generalize hp39 : z39.add ((l35 : Int).toNat * 5) = p39 at h
      refine wpR_val (v := (Value.pointer (some p39))) (w' := w5) rfl rfl rfl ((x_indexAddr (s := r34) rfl rfl rfl ES_58 q39 r39).trans (by rw [hp39])) ?_
      refine wpR_val (v := (Value.pointer (some (p39.add 0)))) (w' := w5) rfl rfl rfl (x_fieldAddr rfl rfl FA_61_0) ?_
      obtain ⟨x40, q40, h⟩ := h
      refine wpR_val (v := (Value.int .i64 x40)) (w' := w5) rfl rfl rfl (x_load1 rfl rfl SH_3 q40) ?_
      refine wpR_val (v := (Value.int .i64 x40)) (w' := w5) rfl rfl rfl (x_assign (v := (Value.int .i64 x40)) rfl rfl) ?_
      refine wpR_nil ?_
      refine wpC_seq ?_
      refine wpC_cut (fun ρ => ρ 3 = (Sl.v r10) ∧ ρ 4 = (Sl.v r11) ∧ ρ 5 = (Sl.v r34) ∧ ρ 6 = (Value.int .i64 l35) ∧ ρ 7 = (Value.int .i64 x40) ∧ True) ⟨e3, e4, e5, e6, rfl, trivial⟩ ?_
      rintro ρ ⟨e3, e4, e5, e6, e7, -⟩
      refine wpC_region ?_
      refine wpR_val (v := (Sl.v r34)) (w' := w5) rfl rfl rfl (x_move (v := (Sl.v r34)) rfl e5) ?_
      refine wpR_val (v := (Value.int .i64 l35)) (w' := w5) rfl rfl rfl (x_move (v := (Value.int .i64 l35)) rfl e6) ?_
      obtain ⟨q41, z41, r41, h⟩ := h
      generalize hp41 : z41.add ((l35 : Int).toNat * 5) = p41 at h
      refine wpR_val (v := (Value.pointer (some p41))) (w' := w5) rfl rfl rfl ((x_indexAddr (s := r34) rfl rfl rfl ES_58 q41 r41).trans (by rw [hp41])) ?_
      refine wpR_val (v := (Value.pointer (some (p41.add 4)))) (w' := w5) rfl rfl rfl (x_fieldAddr rfl rfl FA_61_4) ?_
      obtain ⟨x42, q42, h⟩ := h
      refine wpR_val (v := (Value.bool x42)) (w' := w5) rfl rfl rfl (x_load1 rfl rfl SH_4 q42) ?_
      refine wpR_val (v := (Value.bool x42)) (w' := w5) rfl rfl rfl (x_move (v := (Value.bool x42)) rfl rfl) ?_
      obtain ⟨J43, h, hk⟩ := h
      refine wpR_joinJ 6 (fun x ρ => ρ 34 = Value.bool x ∧ ρ 3 = (Sl.v r10) ∧ ρ 4 = (Sl.v r11) ∧ ρ 5 = (Sl.v r34) ∧ ρ 6 = (Value.int .i64 l35) ∧ ρ 7 = (Value.int .i64 x40) ∧ True) (fun x w => J43 x ∧ w5 = w) ?_ ?_
      · clear hk
        rcases Bool.eq_false_or_eq_true (x42) with hc44 | hc44
        · replace h := h.1 hc44
          refine wpR_val (v := (Sl.v r11)) (w' := w5) (wantG rfl rfl rfl hc44) rfl rfl (x_move (v := (Sl.v r11)) rfl e4) ?_
          refine wpR_val (v := (Value.int .i64 x40)) (w' := w5) (wantG rfl rfl rfl hc44) rfl rfl (x_move (v := (Value.int .i64 x40)) rfl e7) ?_
          obtain ⟨q45, z45, r45, h⟩ := h
          generalize hp45 : z45.add ((x40 : Int).toNat * 1) = p45 at h
          refine wpR_val (v := (Value.pointer (some p45))) (w' := w5) (wantG rfl rfl rfl hc44) rfl rfl ((x_indexAddr (s := r11) rfl rfl rfl ES_80 q45 r45).trans (by rw [hp45])) ?_
          obtain ⟨x46, q46, h⟩ := h
          refine wpR_val (v := (Value.bool x46)) (w' := w5) (wantG rfl rfl rfl hc44) rfl rfl (x_load1 rfl rfl SH_4 q46) ?_
          refine wpR_val (v := (Value.bool (!x46))) (w' := w5) (wantG rfl rfl rfl hc44) rfl rfl (x_not rfl rfl) ?_
          refine wpR_val (v := (Value.bool (!x46))) (w' := w5) rfl rfl rfl (x_pickT (v := (Value.bool (!x46))) rfl rfl hc44 rfl) ?_
          refine wpR_nil ?_
          exact ⟨!x46, ⟨rfl, e3, e4, e5, e6, e7, trivial⟩, h, rfl⟩
        · replace h := h.2 hc44
          refine wpR_pass (wantN rfl rfl rfl hc44) rfl rfl ?_
          refine wpR_pass (wantN rfl rfl rfl hc44) rfl rfl ?_
          refine wpR_pass (wantN rfl rfl rfl hc44) rfl rfl ?_
          refine wpR_pass (wantN rfl rfl rfl hc44) rfl rfl ?_
          refine wpR_pass (wantN rfl rfl rfl hc44) rfl rfl ?_
          refine wpR_val (v := (Value.bool false)) (w' := w5) rfl rfl rfl (x_pickF (v := (Value.bool false)) rfl rfl hc44 rfl) ?_
          refine wpR_nil ?_
          exact ⟨false, ⟨rfl, e3, e4, e5, e6, e7, trivial⟩, h, rfl⟩
      clear h
      rintro c47 ρ wj ⟨e34, e3, e4, e5, e6, e7, -⟩ ⟨h, rfl⟩
      replace h := hk c47 h
      clear hk
      refine wpR_nil ?_
      refine wpC_cond (b := c47) e34 (fun hc48 => ?_) (fun hc48 => ?_)
      · replace h := h.1 hc48
        refine wpC_seq ?_
        refine wpC_region ?_
        refine wpR_val (v := (Sl.v r11)) (w' := w5) rfl rfl rfl (x_move (v := (Sl.v r11)) rfl e4) ?_
        refine wpR_val (v := (Value.int .i64 x40)) (w' := w5) rfl rfl rfl (x_move (v := (Value.int .i64 x40)) rfl e7) ?_
        obtain ⟨q49, z49, r49, h⟩ := h
        generalize hp49 : z49.add ((x40 : Int).toNat * 1) = p49 at h
        refine wpR_val (v := (Value.pointer (some p49))) (w' := w5) rfl rfl rfl ((x_indexAddr (s := r11) rfl rfl rfl ES_80 q49 r49).trans (by rw [hp49])) ?_
        obtain ⟨q50, h⟩ := h
        obtain ⟨w7, hw50⟩ : ∃ u, u = setAll w5 p49 [(Value.bool true)] 0 := ⟨_, rfl⟩
        replace h := h w7 hw50
        refine wpR_skp (w' := w7) rfl rfl ((x_store (v := (Value.bool true)) rfl rfl rfl SZ_4 (ones (by rfl)) q50).trans (by rw [hw50]; rfl)) ?_
        refine wpR_nil ?_
        refine wpC_cut (fun ρ => ρ 3 = (Sl.v r10) ∧ ρ 4 = (Sl.v r11) ∧ ρ 5 = (Sl.v r34) ∧ ρ 6 = (Value.int .i64 l35) ∧ ρ 7 = (Value.int .i64 x40) ∧ True) ⟨e3, e4, e5, e6, e7, trivial⟩ ?_
        rintro ρ ⟨e3, e4, e5, e6, e7, -⟩
        obtain ⟨J52, h, hk⟩ := h
        refine wpC_drawJ (by kernel_rfl) (fun (x : Unit) ρ => ρ 3 = (Sl.v r10) ∧ ρ 4 = (Sl.v r11) ∧ ρ 5 = (Sl.v r34) ∧ ρ 6 = (Value.int .i64 l35) ∧ True) J52 ?_ ?_
        · clear hk
          unfold tk at h
          generalize w7.drew = w8 at h ⊢
          refine wpD_take (v := (Sl.v r10)) 0 (fun _ => True) rfl (by kernel_rfl) (by kernel_rfl) (by kernel_rfl) rfl rfl rfl trivial (fun w _ => (x_move (v := (Sl.v r10)) rfl e3)) ?_
          refine wpD_take (v := (Value.int .i64 x40)) 1 (fun _ => True) rfl (by kernel_rfl) (by kernel_rfl) (by kernel_rfl) rfl rfl rfl trivial (fun w _ => (x_move (v := (Value.int .i64 x40)) rfl e7)) ?_
          refine wpD_take (v := (Sl.v r34)) 2 (fun _ => True) rfl (by kernel_rfl) (by kernel_rfl) (by kernel_rfl) rfl rfl rfl trivial (fun w _ => (x_move (v := (Sl.v r34)) rfl e5)) ?_
          refine wpD_take (v := (Value.int .i64 l35)) 3 (fun _ => True) rfl (by kernel_rfl) (by kernel_rfl) (by kernel_rfl) rfl rfl rfl trivial (fun w _ => (x_move (v := (Value.int .i64 l35)) rfl e6)) ?_
          obtain ⟨q53, z53, r53, h⟩ := h
          generalize hp53 : z53.add ((l35 : Int).toNat * 5) = p53 at h
          refine wpD_take (v := (Value.pointer (some p53))) 4 (fun _ => True) rfl (by kernel_rfl) (by kernel_rfl) (by kernel_rfl) rfl rfl rfl trivial (fun w _ => ((x_indexAddr (s := r34) rfl rfl rfl ES_58 q53 r53).trans (by rw [hp53]))) ?_
          refine wpD_take (v := (Value.pointer (some (p53.add 1)))) 5 (fun _ => True) rfl (by kernel_rfl) (by kernel_rfl) (by kernel_rfl) rfl rfl rfl trivial (fun w _ => (x_fieldAddr rfl rfl FA_61_1)) ?_
          obtain ⟨x54, q54, h⟩ := h
          refine wpD_take (v := (Value.int .i64 x54)) 6 (fun w => w.cell? (p53.add 1) = some (Value.int .i64 x54)) rfl (by kernel_rfl) (by kernel_rfl) (by kernel_rfl) rfl rfl rfl q54 (fun w q54 => (x_load1 rfl rfl SH_3 q54)) ?_
          refine wpD_take (v := (Sl.v r34)) 7 (fun _ => True) rfl (by kernel_rfl) (by kernel_rfl) (by kernel_rfl) rfl rfl rfl trivial (fun w _ => (x_move (v := (Sl.v r34)) rfl e5)) ?_
          refine wpD_take (v := (Value.int .i64 l35)) 8 (fun _ => True) rfl (by kernel_rfl) (by kernel_rfl) (by kernel_rfl) rfl rfl rfl trivial (fun w _ => (x_move (v := (Value.int .i64 l35)) rfl e6)) ?_
          obtain ⟨q55, z55, r55, h⟩ := h
          generalize hp55 : z55.add ((l35 : Int).toNat * 5) = p55 at h
          refine wpD_take (v := (Value.pointer (some p55))) 9 (fun _ => True) rfl (by kernel_rfl) (by kernel_rfl) (by kernel_rfl) rfl rfl rfl trivial (fun w _ => ((x_indexAddr (s := r34) rfl rfl rfl ES_58 q55 r55).trans (by rw [hp55]))) ?_
          refine wpD_take (v := (Value.pointer (some (p55.add 2)))) 10 (fun _ => True) rfl (by kernel_rfl) (by kernel_rfl) (by kernel_rfl) rfl rfl rfl trivial (fun w _ => (x_fieldAddr rfl rfl FA_61_2)) ?_
          obtain ⟨x56, q56, h⟩ := h
          refine wpD_take (v := (Value.int .i64 x56)) 11 (fun w => w.cell? (p55.add 2) = some (Value.int .i64 x56)) rfl (by kernel_rfl) (by kernel_rfl) (by kernel_rfl) rfl rfl rfl q56 (fun w q56 => (x_load1 rfl rfl SH_3 q56)) ?_
          refine wpD_take (v := (Value.agg #[(Value.int .i64 x54), (Value.int .i64 x56)])) 12 (fun _ => True) rfl (by kernel_rfl) (by kernel_rfl) (by kernel_rfl) rfl rfl rfl trivial (fun w _ => (x_build (qs := [(0, (Value.int .i64 x54)), (1, (Value.int .i64 x56))]) rfl (by rfl) (BD_46_0_1 x54 x56 _))) ?_
          obtain ⟨q57, z57, r57, h⟩ := h
          generalize hp57 : z57.add ((x40 : Int).toNat * 2) = p57 at h
          refine wpD_take (v := (Value.pointer (some p57))) 13 (fun _ => True) rfl (by kernel_rfl) (by kernel_rfl) (by kernel_rfl) rfl rfl rfl trivial (fun w _ => ((x_indexAddr (s := r10) rfl rfl rfl ES_25 q57 r57).trans (by rw [hp57]))) ?_
          refine wpD_all (rs := [14]) (by kernel_rfl) (by simp) (allD_cons ?_ allD_nil)
          obtain ⟨q58, h⟩ := h
          obtain ⟨w9, hw58⟩ : ∃ u, u = setAll w8 p57 [(Value.int .i64 x54), (Value.int .i64 x56)] 0 := ⟨_, rfl⟩
          replace h := h w9 hw58
          refine stepD_skpL (L' := []) (w' := w9) rfl rfl rfl ((x_store (v := (Value.agg #[(Value.int .i64 x54), (Value.int .i64 x56)])) rfl rfl rfl SZ_46 (ones (by rfl)) q58).trans (by rw [hw58]; rfl)) (by kernel_rfl) held_nil ?_
          exact wpD_done (by kernel_rfl) ⟨(), ⟨e3, e4, e5, e6, trivial⟩, h⟩
        clear h
        rintro l59 ρ w10 ⟨e3, e4, e5, e6, -⟩ h
        replace h := hk l59 w10 h
        clear hk
        exact ⟨(), ⟨e3, e4, e5, e6, trivial⟩, h⟩
      · replace h := h.2 hc48
        refine wpC_skip ?_
        exact ⟨(), ⟨e3, e4, e5, e6, trivial⟩, h⟩
    clear h
    rintro l38 ρ w6 ⟨e3, e4, e5, e6, -⟩ h
    replace h := hk l38 w6 h
    clear hk
    refine wpC_region ?_
    refine wpR_val (v := (Value.int .i64 l35)) (w' := w6) rfl rfl rfl (x_move (v := (Value.int .i64 l35)) rfl e6) ?_
    refine wpR_val (v := (Value.int .i64 (IntKind.i64.wrap (l35 + 1)))) (w' := w6) rfl rfl rfl (x_add rfl rfl rfl) ?_
    refine wpR_val (v := (Value.int .i64 (IntKind.i64.wrap (l35 + 1)))) (w' := w6) rfl rfl rfl (x_assign (v := (Value.int .i64 (IntKind.i64.wrap (l35 + 1)))) rfl rfl) ?_
    refine wpR_nil ?_
    exact ⟨IntKind.i64.wrap (l35 + 1), ⟨rfl, e3, e4, e5, trivial⟩, h⟩
  · replace h := h.2 hc36
    refine wpC_exit ?_
    refine wpC_seq ?_
    refine wpC_cut (fun ρ => ρ 3 = (Sl.v r10) ∧ True) ⟨e3, trivial⟩ ?_
    rintro ρ ⟨e3, -⟩
    refine wpC_region ?_
    refine wpR_val (v := (Sl.v r10)) (w' := w5) rfl rfl rfl (x_move (v := (Sl.v r10)) rfl e3) ?_
    refine wpR_val (v := (Sl.v r10)) (w' := w5) rfl rfl rfl (x_assign (v := (Sl.v r10)) rfl rfl) ?_
    refine wpR_nil ?_
    refine wpC_ret ?_
    exact ⟨.inl rfl, fun a ha => ⟨_, results_rep1 rfl ha rfl, r10, rfl, h⟩⟩

/-- loss.ranks -/
def F36 (p0 : Sl) (w0 : World) (K : (Sl × Bool) → World → Prop) : Prop :=
  rn Try.prog (Instr.makeSlice 63 (Value.int .i64 9) (Value.int .i64 9)) (fun (r : Sl) => (Sl.v r)) w0 fun r9 w1 =>
  lp (fun (next10 : (Int × Int) → World → Prop) l10 w2 =>
    cnd (decide (l10.2 < (p0.len : Int)))
      (
      ix p0 l10.2 3 fun p12 =>
      ld (Value.int .i64) (p12.add 0) w2 fun x13 =>
      ld (Value.int .i64) (p12.add 1) w2 fun x14 =>
      ld (Value.int .i64) (p12.add 2) w2 fun x15 =>
      nw 44 #[(Value.int .i64 0), (Value.int .i64 0), (Value.int .i64 0)] w2 fun b16 w3 =>
      st (Addr.mk b16 0 none) [(Value.int .i64 x13), (Value.int .i64 x14), (Value.int .i64 x15)] w3 fun w4 =>
      ld (Value.int .i64) ((Addr.mk b16 0 none).add 0) w4 fun x18 =>
      jp (fun J19 => cnd (decide (x18 ≤ l10.1))
        (
        J19 true
        )
        (
        ld (Value.int .i64) ((Addr.mk b16 0 none).add 0) w4 fun x21 =>
        J19 (decide (9 ≤ x21))
        ))
      fun c22 =>
      cnd (c22)
        (
        K (Sl.nil, false) w4
        )
        (
        ld (Value.int .i64) ((Addr.mk b16 0 none).add 0) w4 fun x24 =>
        ld (Value.int .i64) ((Addr.mk b16 0 none).add 0) w4 fun x25 =>
        callC Try.prog 29 #[(V23 (ByteArray.mk #[]) 0 0 0 false 0 false false 0 0 0 0 Sl.nil 0 0 0 0 false 0 0 0 0), (Value.int .i64 x25)] (fun (r : Sl) => (Sl.v r)) w4 fun r26 w5 =>
        lp (fun (next27 : (Int × Int) → World → Prop) l27 w6 =>
          cnd (decide (l27.2 < (r26.len : Int)))
            (
            jn (fun (J29 : Int → World → Prop) =>
              ix r26 l27.2 3 fun p31 =>
              ld (Value.int .i64) (p31.add 0) w6 fun x32 =>
              ld (Value.int .i64) (p31.add 1) w6 fun x33 =>
              ld Value.bool (p31.add 2) w6 fun x34 =>
              nw 55 #[(Value.int .i64 0), (Value.int .i64 0), (Value.bool false)] w6 fun b35 w8 =>
              st (Addr.mk b35 0 none) [(Value.int .i64 x32), (Value.int .i64 x33), (Value.bool x34)] w8 fun w9 =>
              ld (Value.int .i64) (((Addr.mk b35 0 none).add 0).add 0) w9 fun x37 =>
              cnd (decide (x37 = 0))
                (
                J29 l27.1 w9
                )
                (
                ld (Value.int .i64) (((Addr.mk b35 0 none).add 0).add 0) w9 fun x39 =>
                ld (Value.int .i64) (((Addr.mk b35 0 none).add 0).add 1) w9 fun x40 =>
                ld (Value.int .i64) ((Addr.mk b16 0 none).add 1) w9 fun x41 =>
                ld (Value.int .i64) ((Addr.mk b16 0 none).add 2) w9 fun x42 =>
                cnd ((decide (x39 = x41) && (decide (x40 = x42) && true)))
                  (
                  ld (Value.int .i64) ((Addr.mk b16 0 none).add 0) w9 fun x44 =>
                  ix r9 x44 1 fun p45 =>
                  st p45 [(Value.int .i64 (IntKind.i64.wrap (l27.1 + 1)))] w9 fun w10 =>
                  J29 (IntKind.i64.wrap (l27.1 + 1)) w10
                  )
                  (
                  J29 (IntKind.i64.wrap (l27.1 + 1)) w9
                  )
                )
            )
            fun l30 w7 =>
            next27 (l30, IntKind.i64.wrap (l27.2 + 1)) w7
            )
            (
            ld (Value.int .i64) ((Addr.mk b16 0 none).add 0) w6 fun x47 =>
            ix r9 x47 1 fun p48 =>
            ld (Value.int .i64) p48 w6 fun x49 =>
            cnd (decide (x49 = 0))
              (
              K (Sl.nil, false) w6
              )
              (
              next10 (x24, IntKind.i64.wrap (l10.2 + 1)) w6
              )
            )
        ) (0, 0) w5
        )
      )
      (
      K (r9, true) w2
      )
  ) ((-1), 0) w1
set_option maxRecDepth 100000 in
theorem D36 (p0 : Sl) (w0 : World) (K : (Sl × Bool) → World → Prop) (h : F36 p0 w0 K) : callC Try.prog 36 #[(Sl.v p0)] (fun (r : Sl × Bool) => (Value.tuple #[(Sl.v r.1), (Value.bool r.2)])) w0 K := by
  unfold F36 at h
  refine calls_of_wpC Try.func36 rfl 66 rfl (by simp) ?_
  intro ρ hρ
  have e0 : ρ 0 = (Sl.v p0) := hρ 0
  clear hρ
  refine wpC_seq ?_
  refine wpC_region ?_
  refine wpR_val (v := (Sl.v Sl.nil)) (w' := w0) rfl rfl rfl (x_assign (v := (Sl.v Sl.nil)) rfl rfl) ?_
  refine wpR_val (v := (Value.bool false)) (w' := w0) rfl rfl rfl (x_assign (v := (Value.bool false)) rfl rfl) ?_
  refine wpR_nil ?_
  refine wpC_seq ?_
  refine wpC_cut (fun ρ => ρ 0 = (Sl.v p0) ∧ True) ⟨e0, trivial⟩ ?_
  rintro ρ ⟨e0, -⟩
  refine wpC_region ?_
  obtain ⟨r9, w1, q9, h⟩ := h
  refine wpR_val (v := (Sl.v r9)) (w' := w1) rfl rfl rfl (x_makeSlice rfl rfl rfl q9) ?_
  refine wpR_val (v := (Sl.v r9)) (w' := w1) rfl rfl rfl (x_assign (v := (Sl.v r9)) rfl rfl) ?_
  refine wpR_nil ?_
  refine wpC_seq ?_
  refine wpC_cut (fun ρ => ρ 0 = (Sl.v p0) ∧ ρ 4 = (Sl.v r9) ∧ True) ⟨e0, rfl, trivial⟩ ?_
  rintro ρ ⟨e0, e4, -⟩
  refine wpC_region ?_
  refine wpR_val (v := (Value.int .i64 (-1))) (w' := w1) rfl rfl rfl (x_assign (v := (Value.int .i64 (-1))) rfl rfl) ?_
  refine wpR_nil ?_
  refine wpC_seq ?_
  refine wpC_seq ?_
  refine wpC_cut (fun ρ => ρ 0 = (Sl.v p0) ∧ ρ 4 = (Sl.v r9) ∧ ρ 5 = (Value.int .i64 (-1)) ∧ True) ⟨e0, e4, rfl, trivial⟩ ?_
  rintro ρ ⟨e0, e4, e5, -⟩
  refine wpC_region ?_
  refine wpR_val (v := (Sl.v p0)) (w' := w1) rfl rfl rfl (x_move (v := (Sl.v p0)) rfl e0) ?_
  refine wpR_val (v := (Value.int .i64 (p0.len : Int))) (w' := w1) rfl rfl rfl (x_lenS (s := p0) rfl rfl isSliceT_26) ?_
  refine wpR_val (v := (Value.int .i64 0)) (w' := w1) rfl rfl rfl (x_move (v := (Value.int .i64 0)) rfl rfl) ?_
  refine wpR_nil ?_
  refine wpC_block ?_
  obtain ⟨I10, μ10, hI10, hr10⟩ := h
  refine wpC_loop (fun (x : Int × Int) ρ => ρ 5 = (Value.int .i64 x.1) ∧ ρ 14 = (Value.int .i64 x.2) ∧ ρ 4 = (Sl.v r9) ∧ ρ 12 = (Sl.v p0) ∧ ρ 13 = (Value.int .i64 (p0.len : Int)) ∧ True) I10 μ10 ((-1), 0) ⟨e5, rfl, e4, rfl, rfl, trivial⟩ hI10 ?_
  rintro l10 ρ w2 ⟨e5, e14, e4, e12, e13, -⟩ h
  replace h := hr10 l10 w2 h
  clear hr10 hI10
  refine wpC_seq ?_
  refine wpC_region ?_
  refine wpR_val (v := (Value.bool (decide (l10.2 < (p0.len : Int))))) (w' := w2) rfl rfl rfl (x_lss rfl e14 e13) ?_
  refine wpR_nil ?_
  refine wpC_seq ?_
  refine wpC_cond (b := decide (l10.2 < (p0.len : Int))) rfl (fun hc11 => ?_) (fun hc11 => ?_)
  · replace h := h.1 hc11
    refine wpC_skip ?_
    refine wpC_seq ?_
    refine wpC_block ?_
    refine wpC_seq ?_
    refine wpC_cut (fun ρ => ρ 4 = (Sl.v r9) ∧ ρ 5 = (Value.int .i64 l10.1) ∧ ρ 12 = (Sl.v p0) ∧ ρ 13 = (Value.int .i64 (p0.len : Int)) ∧ ρ 14 = (Value.int .i64 l10.2) ∧ True) ⟨e4, e5, e12, e13, e14, trivial⟩ ?_
    rintro ρ ⟨e4, e5, e12, e13, e14, -⟩
    refine wpC_region ?_
    obtain ⟨q12, z12, r12, h⟩ := h
    generalize hp12 : z12.add ((l10.2 : Int).toNat * 3) = p12 at h
    refine wpR_val (v := (Value.pointer (some p12))) (w' := w2) rfl rfl rfl ((x_indexAddr (s := p0) rfl e12 e14 ES_26 q12 r12).trans (by rw [hp12])) ?_
    obtain ⟨x13, q13, x14, q14, x15, q15, h⟩ := h
    refine wpR_val (v := (Value.agg #[(Value.int .i64 x13), (Value.int .i64 x14), (Value.int .i64 x15)])) (w' := w2) rfl rfl rfl (x_loadN [(Value.int .i64 x13), (Value.int .i64 x14), (Value.int .i64 x15)] rfl rfl SH_44 (CellsAt.out (CellsAt.cons q13 (CellsAt.cons q14 (CellsAt.cons q15 CellsAt.nil))))) ?_
    obtain ⟨b16, hb16⟩ : ∃ u, u = w2.heap.size := ⟨_, rfl⟩
    obtain ⟨w3, hw16⟩ : ∃ u, u = w2.alloc (.cells #[(Value.int .i64 0), (Value.int .i64 0), (Value.int .i64 0)] 44) := ⟨_, rfl⟩
    replace h := h b16 w3 hb16 hw16
    refine wpR_val (v := (Value.pointer (some (Addr.mk b16 0 none)))) (w' := w3) rfl rfl rfl ((x_alloc rfl ZV_44).trans (by rw [hb16, hw16]; rfl)) ?_
    obtain ⟨q17, h⟩ := h
    obtain ⟨w4, hw17⟩ : ∃ u, u = setAll w3 (Addr.mk b16 0 none) [(Value.int .i64 x13), (Value.int .i64 x14), (Value.int .i64 x15)] 0 := ⟨_, rfl⟩
    replace h := h w4 hw17
    refine wpR_skp (w' := w4) rfl rfl ((x_store (v := (Value.agg #[(Value.int .i64 x13), (Value.int .i64 x14), (Value.int .i64 x15)])) rfl rfl rfl SZ_44 (ones (by rfl)) q17).trans (by rw [hw17]; rfl)) ?_
    refine wpR_nil ?_
    refine wpC_seq ?_
    refine wpC_seq ?_
    refine wpC_cut (fun ρ => ρ 4 = (Sl.v r9) ∧ ρ 5 = (Value.int .i64 l10.1) ∧ ρ 7 = (Value.pointer (some (Addr.mk b16 0 none))) ∧ ρ 12 = (Sl.v p0) ∧ ρ 13 = (Value.int .i64 (p0.len : Int)) ∧ ρ 14 = (Value.int .i64 l10.2) ∧ True) ⟨e4, e5, rfl, e12, e13, e14, trivial⟩ ?_
    rintro ρ ⟨e4, e5, e7, e12, e13, e14, -⟩
    refine wpC_region ?_
    refine wpR_val (v := (Value.pointer (some ((Addr.mk b16 0 none).add 0)))) (w' := w4) rfl rfl rfl (x_fieldAddr rfl e7 FA_44_0) ?_
    obtain ⟨x18, q18, h⟩ := h
    refine wpR_val (v := (Value.int .i64 x18)) (w' := w4) rfl rfl rfl (x_load1 rfl rfl SH_3 q18) ?_
    refine wpR_val (v := (Value.int .i64 l10.1)) (w' := w4) rfl rfl rfl (x_move (v := (Value.int .i64 l10.1)) rfl e5) ?_
    refine wpR_val (v := (Value.bool (decide (x18 ≤ l10.1)))) (w' := w4) rfl rfl rfl (x_leq rfl rfl rfl) ?_
    refine wpR_val (v := (Value.bool (decide (x18 ≤ l10.1)))) (w' := w4) rfl rfl rfl (x_move (v := (Value.bool (decide (x18 ≤ l10.1)))) rfl rfl) ?_
    obtain ⟨J19, h, hk⟩ := h
    refine wpR_joinJ 4 (fun x ρ => ρ 26 = Value.bool x ∧ ρ 4 = (Sl.v r9) ∧ ρ 7 = (Value.pointer (some (Addr.mk b16 0 none))) ∧ ρ 12 = (Sl.v p0) ∧ ρ 13 = (Value.int .i64 (p0.len : Int)) ∧ ρ 14 = (Value.int .i64 l10.2) ∧ True) (fun x w => J19 x ∧ w4 = w) ?_ ?_
    · clear hk
      rcases Bool.eq_false_or_eq_true (decide (x18 ≤ l10.1)) with hc20 | hc20
      · replace h := h.1 hc20
        refine wpR_pass (wantN rfl rfl rfl hc20) rfl rfl ?_
        refine wpR_pass (wantN rfl rfl rfl hc20) rfl rfl ?_
        refine wpR_pass (wantN rfl rfl rfl hc20) rfl rfl ?_
        refine wpR_val (v := (Value.bool true)) (w' := w4) rfl rfl rfl (x_pickT (v := (Value.bool true)) rfl rfl hc20 rfl) ?_
        refine wpR_nil ?_
        exact ⟨true, ⟨rfl, e4, e7, e12, e13, e14, trivial⟩, h, rfl⟩
      · replace h := h.2 hc20
        refine wpR_val (v := (Value.pointer (some ((Addr.mk b16 0 none).add 0)))) (w' := w4) (wantG rfl rfl rfl hc20) rfl rfl (x_fieldAddr rfl e7 FA_44_0) ?_
        obtain ⟨x21, q21, h⟩ := h
        refine wpR_val (v := (Value.int .i64 x21)) (w' := w4) (wantG rfl rfl rfl hc20) rfl rfl (x_load1 rfl rfl SH_3 q21) ?_
        refine wpR_val (v := (Value.bool (decide (9 ≤ x21)))) (w' := w4) (wantG rfl rfl rfl hc20) rfl rfl (x_geq rfl rfl rfl) ?_
        refine wpR_val (v := (Value.bool (decide (9 ≤ x21)))) (w' := w4) rfl rfl rfl (x_pickF (v := (Value.bool (decide (9 ≤ x21)))) rfl rfl hc20 rfl) ?_
        refine wpR_nil ?_
        exact ⟨decide (9 ≤ x21), ⟨rfl, e4, e7, e12, e13, e14, trivial⟩, h, rfl⟩
    clear h
    rintro c22 ρ wj ⟨e26, e4, e7, e12, e13, e14, -⟩ ⟨h, rfl⟩
    replace h := hk c22 h
    clear hk
    refine wpR_nil ?_
    refine wpC_cond (b := c22) e26 (fun hc23 => ?_) (fun hc23 => ?_)
    · replace h := h.1 hc23
      refine wpC_seq ?_
      refine wpC_region ?_
      refine wpR_val (v := (Sl.v Sl.nil)) (w' := w4) rfl rfl rfl (x_assign (v := (Sl.v Sl.nil)) rfl rfl) ?_
      refine wpR_val (v := (Value.bool false)) (w' := w4) rfl rfl rfl (x_assign (v := (Value.bool false)) rfl rfl) ?_
      refine wpR_nil ?_
      refine wpC_ret ?_
      exact ⟨.inl rfl, fun a ha => ⟨_, results_rep2 rfl ha rfl rfl, (Sl.nil, false), rfl, h⟩⟩
    · replace h := h.2 hc23
      refine wpC_skip ?_
      refine wpC_seq ?_
      refine wpC_region ?_
      refine wpR_val (v := (Value.pointer (some ((Addr.mk b16 0 none).add 0)))) (w' := w4) rfl rfl rfl (x_fieldAddr rfl e7 FA_44_0) ?_
      obtain ⟨x24, q24, h⟩ := h
      refine wpR_val (v := (Value.int .i64 x24)) (w' := w4) rfl rfl rfl (x_load1 rfl rfl SH_3 q24) ?_
      refine wpR_val (v := (Value.int .i64 x24)) (w' := w4) rfl rfl rfl (x_assign (v := (Value.int .i64 x24)) rfl rfl) ?_
      refine wpR_nil ?_
      refine wpC_seq ?_
      refine wpC_cut (fun ρ => ρ 4 = (Sl.v r9) ∧ ρ 5 = (Value.int .i64 x24) ∧ ρ 7 = (Value.pointer (some (Addr.mk b16 0 none))) ∧ ρ 12 = (Sl.v p0) ∧ ρ 13 = (Value.int .i64 (p0.len : Int)) ∧ ρ 14 = (Value.int .i64 l10.2) ∧ True) ⟨e4, rfl, e7, e12, e13, e14, trivial⟩ ?_
      rintro ρ ⟨e4, e5, e7, e12, e13, e14, -⟩
      refine wpC_region ?_
      refine wpR_val (v := (Value.int .i64 0)) (w' := w4) rfl rfl rfl (x_assign (v := (Value.int .i64 0)) rfl rfl) ?_
      refine wpR_nil ?_
      refine wpC_seq ?_
      refine wpC_seq ?_
      refine wpC_cut (fun ρ => ρ 4 = (Sl.v r9) ∧ ρ 5 = (Value.int .i64 x24) ∧ ρ 7 = (Value.pointer (some (Addr.mk b16 0 none))) ∧ ρ 8 = (Value.int .i64 0) ∧ ρ 12 = (Sl.v p0) ∧ ρ 13 = (Value.int .i64 (p0.len : Int)) ∧ ρ 14 = (Value.int .i64 l10.2) ∧ True) ⟨e4, e5, e7, rfl, e12, e13, e14, trivial⟩ ?_
      rintro ρ ⟨e4, e5, e7, e8, e12, e13, e14, -⟩
      refine wpC_region ?_
      refine wpR_val (v := (V23 (ByteArray.mk #[]) 0 0 0 false 0 false false 0 0 0 0 Sl.nil 0 0 0 0 false 0 0 0 0)) (w' := w4) rfl rfl rfl (x_build (qs := []) rfl (by rfl) (BD_24_  _)) ?_
      refine wpR_val (v := (Value.pointer (some ((Addr.mk b16 0 none).add 0)))) (w' := w4) rfl rfl rfl (x_fieldAddr rfl e7 FA_44_0) ?_
      obtain ⟨x25, q25, h⟩ := h
      refine wpR_val (v := (Value.int .i64 x25)) (w' := w4) rfl rfl rfl (x_load1 rfl rfl SH_3 q25) ?_
      refine wpR_enter rfl rfl rfl (x_call (vs := [(V23 (ByteArray.mk #[]) 0 0 0 false 0 false false 0 0 0 0 Sl.nil 0 0 0 0 false 0 0 0 0), (Value.int .i64 x25)]) rfl rfl (mapl_cons rfl (mapl_cons rfl mapl_nil)) Try.func29 NN_29 NB_29) (Calls.mono h ?_)
      rintro _ w5 ⟨r26, rfl, h⟩
      refine ⟨_, rfl, ?_⟩
      refine wpR_val (v := (Value.int .i64 (r26.len : Int))) (w' := w5) rfl rfl rfl (x_lenS (s := r26) rfl rfl isSliceT_51) ?_
      refine wpR_val (v := (Value.int .i64 0)) (w' := w5) rfl rfl rfl (x_move (v := (Value.int .i64 0)) rfl rfl) ?_
      refine wpR_nil ?_
      refine wpC_block ?_
      obtain ⟨I27, μ27, hI27, hr27⟩ := h
      refine wpC_loop (fun (x : Int × Int) ρ => ρ 8 = (Value.int .i64 x.1) ∧ ρ 34 = (Value.int .i64 x.2) ∧ ρ 4 = (Sl.v r9) ∧ ρ 5 = (Value.int .i64 x24) ∧ ρ 7 = (Value.pointer (some (Addr.mk b16 0 none))) ∧ ρ 12 = (Sl.v p0) ∧ ρ 13 = (Value.int .i64 (p0.len : Int)) ∧ ρ 14 = (Value.int .i64 l10.2) ∧ ρ 32 = (Sl.v r26) ∧ ρ 33 = (Value.int .i64 (r26.len : Int)) ∧ True) I27 μ27 (0, 0) ⟨e8, rfl, e4, e5, e7, e12, e13, e14, rfl, rfl, trivial⟩ hI27 ?_
      rintro l27 ρ w6 ⟨e8, e34, e4, e5, e7, e12, e13, e14, e32, e33, -⟩ h
      replace h := hr27 l27 w6 h
      clear hr27 hI27
      refine wpC_seq ?_
      refine wpC_region ?_
      refine wpR_val (v := (Value.bool (decide (l27.2 < (r26.len : Int))))) (w' := w6) rfl rfl rfl (x_lss rfl e34 e33) ?_
      refine wpR_nil ?_
      refine wpC_seq ?_
      refine wpC_cond (b := decide (l27.2 < (r26.len : Int))) rfl (fun hc28 => ?_) (fun hc28 => ?_)
      · replace h := h.1 hc28
        refine wpC_skip ?_
        obtain ⟨J29, h, hk⟩ := h
        refine wpC_seqJ (fun (x : Int) ρ => ρ 8 = (Value.int .i64 x) ∧ ρ 4 = (Sl.v r9) ∧ ρ 5 = (Value.int .i64 x24) ∧ ρ 7 = (Value.pointer (some (Addr.mk b16 0 none))) ∧ ρ 12 = (Sl.v p0) ∧ ρ 13 = (Value.int .i64 (p0.len : Int)) ∧ ρ 14 = (Value.int .i64 l10.2) ∧ ρ 32 = (Sl.v r26) ∧ ρ 33 = (Value.int .i64 (r26.len : Int)) ∧ ρ 34 = (Value.int .i64 l27.2) ∧ True) J29 ?_ ?_
        · clear hk
          refine wpC_block ?_
          refine wpC_seq ?_
          refine wpC_cut (fun ρ => ρ 4 = (Sl.v r9) ∧ ρ 5 = (Value.int .i64 x24) ∧ ρ 7 = (Value.pointer (some (Addr.mk b16 0 none))) ∧ ρ 8 = (Value.int .i64 l27.1) ∧ ρ 12 = (Sl.v p0) ∧ ρ 13 = (Value.int .i64 (p0.len : Int)) ∧ ρ 14 = (Value.int .i64 l10.2) ∧ ρ 32 = (Sl.v r26) ∧ ρ 33 = (Value.int .i64 (r26.len : Int)) ∧ ρ 34 = (Value.int .i64 l27.2) ∧ True) ⟨e4, e5, e7, e8, e12, e13, e14, e32, e33, e34, trivial⟩ ?_
          rintro ρ ⟨e4, e5, e7, e8, e12, e13, e14, e32, e33, e34, -⟩
          refine wpC_region ?_
          obtain ⟨q31, z31, r31, h⟩ := h
          generalize hp31 : z31.add ((l27.2 : Int).toNat * 3) = p31 at h
          refine wpR_val (v := (Value.pointer (some p31))) (w' := w6) rfl rfl rfl ((x_indexAddr (s := r26) rfl e32 e34 ES_51 q31 r31).trans (by rw [hp31])) ?_
          obtain ⟨x32, q32, x33, q33, x34, q34, h⟩ := h
          refine wpR_val (v := (Value.agg #[(Value.int .i64 x32), (Value.int .i64 x33), (Value.bool x34)])) (w' := w6) rfl rfl rfl (x_loadN [(Value.int .i64 x32), (Value.int .i64 x33), (Value.bool x34)] rfl rfl SH_55 (CellsAt.out (CellsAt.cons q32 (CellsAt.cons q33 (CellsAt.cons q34 CellsAt.nil))))) ?_
          obtain ⟨b35, hb35⟩ : ∃ u, u = w6.heap.size := ⟨_, rfl⟩
          obtain ⟨w8, hw35⟩ : ∃ u, u = w6.alloc (.cells #[(Value.int .i64 0), (Value.int .i64 0), (Value.bool false)] 55) := ⟨_, rfl⟩
          replace h := h b35 w8 hb35 hw35
          refine wpR_val (v := (Value.pointer (some (Addr.mk b35 0 none)))) (w' := w8) rfl rfl rfl ((x_alloc rfl ZV_55).trans (by rw [hb35, hw35]; rfl)) ?_
          obtain ⟨q36, h⟩ := h
          obtain ⟨w9, hw36⟩ : ∃ u, u = setAll w8 (Addr.mk b35 0 none) [(Value.int .i64 x32), (Value.int .i64 x33), (Value.bool x34)] 0 := ⟨_, rfl⟩
          replace h := h w9 hw36
          refine wpR_skp (w' := w9) rfl rfl ((x_store (v := (Value.agg #[(Value.int .i64 x32), (Value.int .i64 x33), (Value.bool x34)])) rfl rfl rfl SZ_55 (ones (by rfl)) q36).trans (by rw [hw36]; rfl)) ?_
          refine wpR_nil ?_
          refine wpC_seq ?_
          refine wpC_seq ?_
          refine wpC_cut (fun ρ => ρ 4 = (Sl.v r9) ∧ ρ 5 = (Value.int .i64 x24) ∧ ρ 7 = (Value.pointer (some (Addr.mk b16 0 none))) ∧ ρ 8 = (Value.int .i64 l27.1) ∧ ρ 10 = (Value.pointer (some (Addr.mk b35 0 none))) ∧ ρ 12 = (Sl.v p0) ∧ ρ 13 = (Value.int .i64 (p0.len : Int)) ∧ ρ 14 = (Value.int .i64 l10.2) ∧ ρ 32 = (Sl.v r26) ∧ ρ 33 = (Value.int .i64 (r26.len : Int)) ∧ ρ 34 = (Value.int .i64 l27.2) ∧ True) ⟨e4, e5, e7, e8, rfl, e12, e13, e14, e32, e33, e34, trivial⟩ ?_
          rintro ρ ⟨e4, e5, e7, e8, e10, e12, e13, e14, e32, e33, e34, -⟩
          refine wpC_region ?_
          refine wpR_val (v := (Value.pointer (some ((Addr.mk b35 0 none).add 0)))) (w' := w9) rfl rfl rfl (x_fieldAddr rfl e10 FA_55_0) ?_
          refine wpR_val (v := (Value.pointer (some (((Addr.mk b35 0 none).add 0).add 0)))) (w' := w9) rfl rfl rfl (x_fieldAddr rfl rfl FA_46_0) ?_
          obtain ⟨x37, q37, h⟩ := h
          refine wpR_val (v := (Value.int .i64 x37)) (w' := w9) rfl rfl rfl (x_load1 rfl rfl SH_3 q37) ?_
          refine wpR_val (v := (Value.bool (decide (x37 = 0)))) (w' := w9) rfl rfl rfl (x_eql rfl rfl rfl) ?_
          refine wpR_nil ?_
          refine wpC_cond (b := decide (x37 = 0)) rfl (fun hc38 => ?_) (fun hc38 => ?_)
          · replace h := h.1 hc38
            refine wpC_exit ?_
            exact ⟨l27.1, ⟨e8, e4, e5, e7, e12, e13, e14, e32, e33, e34, trivial⟩, h⟩
          · replace h := h.2 hc38
            refine wpC_skip ?_
            refine wpC_seq ?_
            refine wpC_cut (fun ρ => ρ 4 = (Sl.v r9) ∧ ρ 5 = (Value.int .i64 x24) ∧ ρ 7 = (Value.pointer (some (Addr.mk b16 0 none))) ∧ ρ 8 = (Value.int .i64 l27.1) ∧ ρ 10 = (Value.pointer (some (Addr.mk b35 0 none))) ∧ ρ 12 = (Sl.v p0) ∧ ρ 13 = (Value.int .i64 (p0.len : Int)) ∧ ρ 14 = (Value.int .i64 l10.2) ∧ ρ 32 = (Sl.v r26) ∧ ρ 33 = (Value.int .i64 (r26.len : Int)) ∧ ρ 34 = (Value.int .i64 l27.2) ∧ True) ⟨e4, e5, e7, e8, e10, e12, e13, e14, e32, e33, e34, trivial⟩ ?_
            rintro ρ ⟨e4, e5, e7, e8, e10, e12, e13, e14, e32, e33, e34, -⟩
            refine wpC_region ?_
            refine wpR_val (v := (Value.int .i64 l27.1)) (w' := w9) rfl rfl rfl (x_move (v := (Value.int .i64 l27.1)) rfl e8) ?_
            refine wpR_val (v := (Value.int .i64 (IntKind.i64.wrap (l27.1 + 1)))) (w' := w9) rfl rfl rfl (x_add rfl rfl rfl) ?_
            refine wpR_val (v := (Value.int .i64 (IntKind.i64.wrap (l27.1 + 1)))) (w' := w9) rfl rfl rfl (x_assign (v := (Value.int .i64 (IntKind.i64.wrap (l27.1 + 1)))) rfl rfl) ?_
            refine wpR_nil ?_
            refine wpC_seq ?_
            refine wpC_cut (fun ρ => ρ 4 = (Sl.v r9) ∧ ρ 5 = (Value.int .i64 x24) ∧ ρ 7 = (Value.pointer (some (Addr.mk b16 0 none))) ∧ ρ 8 = (Value.int .i64 (IntKind.i64.wrap (l27.1 + 1))) ∧ ρ 10 = (Value.pointer (some (Addr.mk b35 0 none))) ∧ ρ 12 = (Sl.v p0) ∧ ρ 13 = (Value.int .i64 (p0.len : Int)) ∧ ρ 14 = (Value.int .i64 l10.2) ∧ ρ 32 = (Sl.v r26) ∧ ρ 33 = (Value.int .i64 (r26.len : Int)) ∧ ρ 34 = (Value.int .i64 l27.2) ∧ True) ⟨e4, e5, e7, rfl, e10, e12, e13, e14, e32, e33, e34, trivial⟩ ?_
            rintro ρ ⟨e4, e5, e7, e8, e10, e12, e13, e14, e32, e33, e34, -⟩
            refine wpC_region ?_
            refine wpR_val (v := (Value.pointer (some ((Addr.mk b35 0 none).add 0)))) (w' := w9) rfl rfl rfl (x_fieldAddr rfl e10 FA_55_0) ?_
            obtain ⟨x39, q39, x40, q40, h⟩ := h
            refine wpR_val (v := (Value.agg #[(Value.int .i64 x39), (Value.int .i64 x40)])) (w' := w9) rfl rfl rfl (x_loadN [(Value.int .i64 x39), (Value.int .i64 x40)] rfl rfl SH_46 (CellsAt.out (CellsAt.cons q39 (CellsAt.cons q40 CellsAt.nil)))) ?_
            refine wpR_val (v := (Value.pointer (some ((Addr.mk b16 0 none).add 1)))) (w' := w9) rfl rfl rfl (x_fieldAddr rfl e7 FA_44_1) ?_
            obtain ⟨x41, q41, h⟩ := h
            refine wpR_val (v := (Value.int .i64 x41)) (w' := w9) rfl rfl rfl (x_load1 rfl rfl SH_3 q41) ?_
            refine wpR_val (v := (Value.pointer (some ((Addr.mk b16 0 none).add 2)))) (w' := w9) rfl rfl rfl (x_fieldAddr rfl e7 FA_44_2) ?_
            obtain ⟨x42, q42, h⟩ := h
            refine wpR_val (v := (Value.int .i64 x42)) (w' := w9) rfl rfl rfl (x_load1 rfl rfl SH_3 q42) ?_
            refine wpR_val (v := (Value.agg #[(Value.int .i64 x41), (Value.int .i64 x42)])) (w' := w9) rfl rfl rfl (x_build (qs := [(0, (Value.int .i64 x41)), (1, (Value.int .i64 x42))]) rfl (by rfl) (BD_46_0_1 x41 x42 _)) ?_
            refine wpR_val (v := (Value.bool (decide (x39 = x41) && (decide (x40 = x42) && true)))) (w' := w9) rfl rfl rfl (x_eqlA rfl rfl rfl EQ1_46 EQ2_46 EQ3_46 (EQ_46 x39 x40 x41 x42)) ?_
            refine wpR_nil ?_
            refine wpC_cond (b := (decide (x39 = x41) && (decide (x40 = x42) && true))) rfl (fun hc43 => ?_) (fun hc43 => ?_)
            · replace h := h.1 hc43
              refine wpC_cut (fun ρ => ρ 4 = (Sl.v r9) ∧ ρ 5 = (Value.int .i64 x24) ∧ ρ 7 = (Value.pointer (some (Addr.mk b16 0 none))) ∧ ρ 8 = (Value.int .i64 (IntKind.i64.wrap (l27.1 + 1))) ∧ ρ 12 = (Sl.v p0) ∧ ρ 13 = (Value.int .i64 (p0.len : Int)) ∧ ρ 14 = (Value.int .i64 l10.2) ∧ ρ 32 = (Sl.v r26) ∧ ρ 33 = (Value.int .i64 (r26.len : Int)) ∧ ρ 34 = (Value.int .i64 l27.2) ∧ True) ⟨e4, e5, e7, e8, e12, e13, e14, e32, e33, e34, trivial⟩ ?_
              rintro ρ ⟨e4, e5, e7, e8, e12, e13, e14, e32, e33, e34, -⟩
              refine wpC_region ?_
              refine wpR_val (v := (Sl.v r9)) (w' := w9) rfl rfl rfl (x_move (v := (Sl.v r9)) rfl e4) ?_
              refine wpR_val (v := (Value.pointer (some ((Addr.mk b16 0 none).add 0)))) (w' := w9) rfl rfl rfl (x_fieldAddr rfl e7 FA_44_0) ?_
              obtain ⟨x44, q44, h⟩ := h
              refine wpR_val (v := (Value.int .i64 x44)) (w' := w9) rfl rfl rfl (x_load1 rfl rfl SH_3 q44) ?_
              refine wpR_val (v := (Value.int .i64 (IntKind.i64.wrap (l27.1 + 1)))) (w' := w9) rfl rfl rfl (x_move (v := (Value.int .i64 (IntKind.i64.wrap (l27.1 + 1)))) rfl e8) ?_
              obtain ⟨q45, z45, r45, h⟩ := h
              generalize hp45 : z45.add ((x44 : Int).toNat * 1) = p45 at h
              refine wpR_val (v := (Value.pointer (some p45))) (w' := w9) rfl rfl rfl ((x_indexAddr (s := r9) rfl rfl rfl ES_63 q45 r45).trans (by rw [hp45])) ?_
              obtain ⟨q46, h⟩ := h
              obtain ⟨w10, hw46⟩ : ∃ u, u = setAll w9 p45 [(Value.int .i64 (IntKind.i64.wrap (l27.1 + 1)))] 0 := ⟨_, rfl⟩
              replace h := h w10 hw46
              refine wpR_skp (w' := w10) rfl rfl ((x_store (v := (Value.int .i64 (IntKind.i64.wrap (l27.1 + 1)))) rfl rfl rfl SZ_3 (ones (by rfl)) q46).trans (by rw [hw46]; rfl)) ?_
              refine wpR_nil ?_
              exact ⟨IntKind.i64.wrap (l27.1 + 1), ⟨e8, e4, e5, e7, e12, e13, e14, e32, e33, e34, trivial⟩, h⟩
            · replace h := h.2 hc43
              refine wpC_skip ?_
              exact ⟨IntKind.i64.wrap (l27.1 + 1), ⟨e8, e4, e5, e7, e12, e13, e14, e32, e33, e34, trivial⟩, h⟩
        clear h
        rintro l30 ρ w7 ⟨e8, e4, e5, e7, e12, e13, e14, e32, e33, e34, -⟩ h
        replace h := hk l30 w7 h
        clear hk
        refine wpC_region ?_
        refine wpR_val (v := (Value.int .i64 (IntKind.i64.wrap (l27.2 + 1)))) (w' := w7) rfl rfl rfl (x_add rfl e34 rfl) ?_
        refine wpR_val (v := (Value.int .i64 (IntKind.i64.wrap (l27.2 + 1)))) (w' := w7) rfl rfl rfl (x_move (v := (Value.int .i64 (IntKind.i64.wrap (l27.2 + 1)))) rfl rfl) ?_
        refine wpR_nil ?_
        exact ⟨(l30, IntKind.i64.wrap (l27.2 + 1)), ⟨e8, rfl, e4, e5, e7, e12, e13, e14, e32, e33, trivial⟩, h⟩
      · replace h := h.2 hc28
        refine wpC_exit ?_
        refine wpC_seq ?_
        refine wpC_cut (fun ρ => ρ 4 = (Sl.v r9) ∧ ρ 5 = (Value.int .i64 x24) ∧ ρ 7 = (Value.pointer (some (Addr.mk b16 0 none))) ∧ ρ 12 = (Sl.v p0) ∧ ρ 13 = (Value.int .i64 (p0.len : Int)) ∧ ρ 14 = (Value.int .i64 l10.2) ∧ True) ⟨e4, e5, e7, e12, e13, e14, trivial⟩ ?_
        rintro ρ ⟨e4, e5, e7, e12, e13, e14, -⟩
        refine wpC_region ?_
        refine wpR_val (v := (Sl.v r9)) (w' := w6) rfl rfl rfl (x_move (v := (Sl.v r9)) rfl e4) ?_
        refine wpR_val (v := (Value.pointer (some ((Addr.mk b16 0 none).add 0)))) (w' := w6) rfl rfl rfl (x_fieldAddr rfl e7 FA_44_0) ?_
        obtain ⟨x47, q47, h⟩ := h
        refine wpR_val (v := (Value.int .i64 x47)) (w' := w6) rfl rfl rfl (x_load1 rfl rfl SH_3 q47) ?_
        obtain ⟨q48, z48, r48, h⟩ := h
        generalize hp48 : z48.add ((x47 : Int).toNat * 1) = p48 at h
        refine wpR_val (v := (Value.pointer (some p48))) (w' := w6) rfl rfl rfl ((x_indexAddr (s := r9) rfl rfl rfl ES_63 q48 r48).trans (by rw [hp48])) ?_
        obtain ⟨x49, q49, h⟩ := h
        refine wpR_val (v := (Value.int .i64 x49)) (w' := w6) rfl rfl rfl (x_load1 rfl rfl SH_3 q49) ?_
        refine wpR_val (v := (Value.bool (decide (x49 = 0)))) (w' := w6) rfl rfl rfl (x_eql rfl rfl rfl) ?_
        refine wpR_nil ?_
        refine wpC_cond (b := decide (x49 = 0)) rfl (fun hc50 => ?_) (fun hc50 => ?_)
        · replace h := h.1 hc50
          refine wpC_seq ?_
          refine wpC_cut (fun ρ => True) trivial ?_
          rintro ρ -
          refine wpC_region ?_
          refine wpR_val (v := (Sl.v Sl.nil)) (w' := w6) rfl rfl rfl (x_assign (v := (Sl.v Sl.nil)) rfl rfl) ?_
          refine wpR_val (v := (Value.bool false)) (w' := w6) rfl rfl rfl (x_assign (v := (Value.bool false)) rfl rfl) ?_
          refine wpR_nil ?_
          refine wpC_ret ?_
          exact ⟨.inl rfl, fun a ha => ⟨_, results_rep2 rfl ha rfl rfl, (Sl.nil, false), rfl, h⟩⟩
        · replace h := h.2 hc50
          refine wpC_skip ?_
          refine wpC_cut (fun ρ => ρ 4 = (Sl.v r9) ∧ ρ 5 = (Value.int .i64 x24) ∧ ρ 12 = (Sl.v p0) ∧ ρ 13 = (Value.int .i64 (p0.len : Int)) ∧ ρ 14 = (Value.int .i64 l10.2) ∧ True) ⟨e4, e5, e12, e13, e14, trivial⟩ ?_
          rintro ρ ⟨e4, e5, e12, e13, e14, -⟩
          refine wpC_region ?_
          refine wpR_val (v := (Value.int .i64 (IntKind.i64.wrap (l10.2 + 1)))) (w' := w6) rfl rfl rfl (x_add rfl e14 rfl) ?_
          refine wpR_val (v := (Value.int .i64 (IntKind.i64.wrap (l10.2 + 1)))) (w' := w6) rfl rfl rfl (x_move (v := (Value.int .i64 (IntKind.i64.wrap (l10.2 + 1)))) rfl rfl) ?_
          refine wpR_nil ?_
          exact ⟨(x24, IntKind.i64.wrap (l10.2 + 1)), ⟨e5, rfl, e4, e12, e13, trivial⟩, h⟩
  · replace h := h.2 hc11
    refine wpC_exit ?_
    refine wpC_seq ?_
    refine wpC_cut (fun ρ => ρ 4 = (Sl.v r9) ∧ True) ⟨e4, trivial⟩ ?_
    rintro ρ ⟨e4, -⟩
    refine wpC_region ?_
    refine wpR_val (v := (Sl.v r9)) (w' := w2) rfl rfl rfl (x_move (v := (Sl.v r9)) rfl e4) ?_
    refine wpR_val (v := (Sl.v r9)) (w' := w2) rfl rfl rfl (x_assign (v := (Sl.v r9)) rfl rfl) ?_
    refine wpR_val (v := (Value.bool true)) (w' := w2) rfl rfl rfl (x_assign (v := (Value.bool true)) rfl rfl) ?_
    refine wpR_nil ?_
    refine wpC_ret ?_
    exact ⟨.inl rfl, fun a ha => ⟨_, results_rep2 rfl ha rfl rfl, (r9, true), rfl, h⟩⟩

/-- linguaref20.Certificate -/
def F37 (p0 : Sl) (w0 : World) (K : Bool → World → Prop) : Prop :=
  lp (fun (next9 : Int → World → Prop) l9 w1 =>
    cnd (decide (l9 < (p0.len : Int)))
      (
      jn (fun (J12 : Bool → World → Prop) => tk w1 fun w2 =>
        ix p0 l9 3 fun p13 =>
        ld (Value.int .i64) (p13.add 0) w2 fun x14 =>
        ld (Value.int .i64) (p13.add 1) w2 fun x15 =>
        ld (Value.int .i64) (p13.add 2) w2 fun x16 =>
        callC Try.prog 52 #[(Value.agg #[(Value.int .i64 x14), (Value.int .i64 x15), (Value.int .i64 x16)])] (fun (r : Int) => (Value.int .i64 r)) w2 fun r17 w3 =>
        cnd (decide (r17 = 0))
          (
          J12 true w3
          )
          (
          cnd (decide (0 < l9))
            (
            ix p0 (IntKind.i64.wrap (l9 - 1)) 3 fun p20 =>
            ld (Value.int .i64) (p20.add 0) w3 fun x21 =>
            ix p0 l9 3 fun p22 =>
            ld (Value.int .i64) (p22.add 0) w3 fun x23 =>
            J12 (decide (x23 ≤ x21)) w3
            )
            (
            J12 false w3
            )
          )
      )
      fun l24 w4 =>
      cnd (l24)
        (
        K false w4
        )
        (
        next9 (IntKind.i64.wrap (l9 + 1)) w4
        )
      )
      (
      K true w1
      )
  ) 0 w0
set_option maxRecDepth 100000 in
theorem D37 (p0 : Sl) (w0 : World) (K : Bool → World → Prop) (h : F37 p0 w0 K) : callC Try.prog 37 #[(Sl.v p0)] (fun (r : Bool) => (Value.bool r)) w0 K := by
  unfold F37 at h
  refine calls_of_wpC Try.func37 rfl 34 rfl (by simp) ?_
  intro ρ hρ
  have e0 : ρ 0 = (Sl.v p0) := hρ 0
  clear hρ
  refine wpC_seq ?_
  refine wpC_region ?_
  refine wpR_val (v := (Value.bool false)) (w' := w0) rfl rfl rfl (x_assign (v := (Value.bool false)) rfl rfl) ?_
  refine wpR_nil ?_
  refine wpC_seq ?_
  refine wpC_seq ?_
  refine wpC_cut (fun ρ => ρ 0 = (Sl.v p0) ∧ True) ⟨e0, trivial⟩ ?_
  rintro ρ ⟨e0, -⟩
  refine wpC_region ?_
  refine wpR_val (v := (Value.int .i64 0)) (w' := w0) rfl rfl rfl (x_assign (v := (Value.int .i64 0)) rfl rfl) ?_
  refine wpR_nil ?_
  refine wpC_block ?_
  obtain ⟨I9, μ9, hI9, hr9⟩ := h
  refine wpC_loop (fun (x : Int) ρ => ρ 3 = (Value.int .i64 x) ∧ ρ 0 = (Sl.v p0) ∧ True) I9 μ9 0 ⟨rfl, e0, trivial⟩ hI9 ?_
  rintro l9 ρ w1 ⟨e3, e0, -⟩ h
  replace h := hr9 l9 w1 h
  clear hr9 hI9
  refine wpC_seq ?_
  refine wpC_seq ?_
  refine wpC_region ?_
  refine wpR_val (v := (Value.int .i64 l9)) (w' := w1) rfl rfl rfl (x_move (v := (Value.int .i64 l9)) rfl e3) ?_
  refine wpR_val (v := (Sl.v p0)) (w' := w1) rfl rfl rfl (x_move (v := (Sl.v p0)) rfl e0) ?_
  refine wpR_val (v := (Value.int .i64 (p0.len : Int))) (w' := w1) rfl rfl rfl (x_lenS (s := p0) rfl rfl isSliceT_26) ?_
  refine wpR_val (v := (Value.bool (decide (l9 < (p0.len : Int))))) (w' := w1) rfl rfl rfl (x_lss rfl rfl rfl) ?_
  refine wpR_nil ?_
  refine wpC_cond (b := decide (l9 < (p0.len : Int))) rfl (fun hc10 => ?_) (fun hc10 => ?_)
  · replace h := h.1 hc10
    refine wpC_skip ?_
    refine wpC_seq ?_
    refine wpC_block ?_
    refine wpC_seq ?_
    refine wpC_cut (fun ρ => ρ 0 = (Sl.v p0) ∧ ρ 3 = (Value.int .i64 l9) ∧ True) ⟨e0, e3, trivial⟩ ?_
    rintro ρ ⟨e0, e3, -⟩
    obtain ⟨J12, h, hk⟩ := h
    refine wpC_drawJ (by kernel_rfl) (fun (x : Bool) ρ => ρ 33 = (Value.bool x) ∧ ρ 0 = (Sl.v p0) ∧ ρ 3 = (Value.int .i64 l9) ∧ True) J12 ?_ ?_
    · clear hk
      unfold tk at h
      generalize w1.drew = w2 at h ⊢
      refine wpD_take (v := (Sl.v p0)) 0 (fun _ => True) rfl (by kernel_rfl) (by kernel_rfl) (by kernel_rfl) rfl rfl rfl trivial (fun w _ => (x_move (v := (Sl.v p0)) rfl e0)) ?_
      refine wpD_take (v := (Value.int .i64 l9)) 1 (fun _ => True) rfl (by kernel_rfl) (by kernel_rfl) (by kernel_rfl) rfl rfl rfl trivial (fun w _ => (x_move (v := (Value.int .i64 l9)) rfl e3)) ?_
      obtain ⟨q13, z13, r13, h⟩ := h
      generalize hp13 : z13.add ((l9 : Int).toNat * 3) = p13 at h
      refine wpD_take (v := (Value.pointer (some p13))) 2 (fun _ => True) rfl (by kernel_rfl) (by kernel_rfl) (by kernel_rfl) rfl rfl rfl trivial (fun w _ => ((x_indexAddr (s := p0) rfl rfl rfl ES_26 q13 r13).trans (by rw [hp13]))) ?_
      obtain ⟨x14, q14, x15, q15, x16, q16, h⟩ := h
      refine wpD_take (v := (Value.agg #[(Value.int .i64 x14), (Value.int .i64 x15), (Value.int .i64 x16)])) 3 (fun w => w.cell? (p13.add 0) = some (Value.int .i64 x14) ∧ w.cell? (p13.add 1) = some (Value.int .i64 x15) ∧ w.cell? (p13.add 2) = some (Value.int .i64 x16)) rfl (by kernel_rfl) (by kernel_rfl) (by kernel_rfl) rfl rfl rfl ⟨q14, q15, q16⟩ (fun w ⟨q14, q15, q16⟩ => (x_loadN [(Value.int .i64 x14), (Value.int .i64 x15), (Value.int .i64 x16)] rfl rfl SH_44 (CellsAt.out (CellsAt.cons q14 (CellsAt.cons q15 (CellsAt.cons q16 CellsAt.nil)))))) ?_
      refine wpD_all (rs := [4]) (by kernel_rfl) (by simp) (allD_cons ?_ allD_nil)
      refine stepD_enterL (L' := [(2, fun _ => True), (1, fun _ => True), (0, fun _ => True)]) rfl rfl rfl rfl (x_call (vs := [(Value.agg #[(Value.int .i64 x14), (Value.int .i64 x15), (Value.int .i64 x16)])]) rfl rfl (mapl_cons rfl mapl_nil) Try.func52 NN_52 NB_52) (by kernel_rfl) (Calls.mono h ?_)
      rintro _ w3 ⟨r17, rfl, h⟩
      refine ⟨_, rfl, (held_cons trivial (held_cons trivial (held_cons trivial held_nil))), ?_⟩
      refine wpD_take (v := (Value.bool (decide (r17 = 0)))) 5 (fun _ => True) rfl (by kernel_rfl) (by kernel_rfl) (by kernel_rfl) rfl rfl rfl trivial (fun w _ => (x_eql rfl rfl rfl)) ?_
      refine wpD_take (v := (Value.bool (decide (r17 = 0)))) 6 (fun _ => True) rfl (by kernel_rfl) (by kernel_rfl) (by kernel_rfl) rfl rfl rfl trivial (fun w _ => (x_move (v := (Value.bool (decide (r17 = 0)))) rfl rfl)) ?_
      rcases Bool.eq_false_or_eq_true (decide (r17 = 0)) with hc18 | hc18
      · replace h := h.1 hc18
        refine wpD_pass 7 rfl (by kernel_rfl) (by kernel_rfl) (by kernel_rfl) (wantN rfl rfl rfl hc18) rfl rfl ?_
        refine wpD_pass 8 rfl (by kernel_rfl) (by kernel_rfl) (by kernel_rfl) (wantN rfl rfl rfl hc18) rfl rfl ?_
        refine wpD_pass 9 rfl (by kernel_rfl) (by kernel_rfl) (by kernel_rfl) (wantN rfl rfl rfl hc18) rfl rfl ?_
        refine wpD_pass 10 rfl (by kernel_rfl) (by kernel_rfl) (by kernel_rfl) (wantU rfl rfl rfl) rfl rfl ?_
        refine wpD_pass 11 rfl (by kernel_rfl) (by kernel_rfl) (by kernel_rfl) (wantU rfl rfl rfl) rfl rfl ?_
        refine wpD_pass 12 rfl (by kernel_rfl) (by kernel_rfl) (by kernel_rfl) (wantU rfl rfl rfl) rfl rfl ?_
        refine wpD_pass 13 rfl (by kernel_rfl) (by kernel_rfl) (by kernel_rfl) (wantU rfl rfl rfl) rfl rfl ?_
        refine wpD_pass 14 rfl (by kernel_rfl) (by kernel_rfl) (by kernel_rfl) (wantU rfl rfl rfl) rfl rfl ?_
        refine wpD_pass 15 rfl (by kernel_rfl) (by kernel_rfl) (by kernel_rfl) (wantU rfl rfl rfl) rfl rfl ?_
        refine wpD_pass 16 rfl (by kernel_rfl) (by kernel_rfl) (by kernel_rfl) (wantU rfl rfl rfl) rfl rfl ?_
        refine wpD_pass 17 rfl (by kernel_rfl) (by kernel_rfl) (by kernel_rfl) (wantU rfl rfl rfl) rfl rfl ?_
        refine wpD_pass 18 rfl (by kernel_rfl) (by kernel_rfl) (by kernel_rfl) (wantU rfl rfl rfl) rfl rfl ?_
        refine wpD_pass 19 rfl (by kernel_rfl) (by kernel_rfl) (by kernel_rfl) (wantU rfl rfl rfl) rfl rfl ?_
        refine wpD_pass 20 rfl (by kernel_rfl) (by kernel_rfl) (by kernel_rfl) (wantU rfl rfl rfl) rfl rfl ?_
        refine wpD_pass 21 rfl (by kernel_rfl) (by kernel_rfl) (by kernel_rfl) (wantU rfl rfl rfl) rfl rfl ?_
        refine wpD_pass 22 rfl (by kernel_rfl) (by kernel_rfl) (by kernel_rfl) (wantN rfl rfl rfl hc18) rfl rfl ?_
        refine wpD_take (v := (Value.bool true)) 23 (fun _ => True) rfl (by kernel_rfl) (by kernel_rfl) (by kernel_rfl) rfl rfl rfl trivial (fun w _ => (x_pickT (v := (Value.bool true)) rfl rfl hc18 rfl)) ?_
        exact wpD_done (by kernel_rfl) ⟨true, ⟨rfl, e0, e3, trivial⟩, h⟩
      · replace h := h.2 hc18
        refine wpD_take (v := (Value.int .i64 l9)) 7 (fun _ => True) rfl (by kernel_rfl) (by kernel_rfl) (by kernel_rfl) (wantG rfl rfl rfl hc18) rfl rfl trivial (fun w _ => (x_move (v := (Value.int .i64 l9)) rfl e3)) ?_
        refine wpD_take (v := (Value.bool (decide (0 < l9)))) 8 (fun _ => True) rfl (by kernel_rfl) (by kernel_rfl) (by kernel_rfl) (wantG rfl rfl rfl hc18) rfl rfl trivial (fun w _ => (x_gtr rfl rfl rfl)) ?_
        refine wpD_take (v := (Value.bool (decide (0 < l9)))) 9 (fun _ => True) rfl (by kernel_rfl) (by kernel_rfl) (by kernel_rfl) (wantG rfl rfl rfl hc18) rfl rfl trivial (fun w _ => (x_move (v := (Value.bool (decide (0 < l9)))) rfl rfl)) ?_
        rcases Bool.eq_false_or_eq_true (decide (0 < l9)) with hc19 | hc19
        · replace h := h.1 hc19
          refine wpD_take (v := (Sl.v p0)) 10 (fun _ => True) rfl (by kernel_rfl) (by kernel_rfl) (by kernel_rfl) (wantG rfl rfl rfl hc19) rfl rfl trivial (fun w _ => (x_move (v := (Sl.v p0)) rfl e0)) ?_
          refine wpD_take (v := (Value.int .i64 l9)) 11 (fun _ => True) rfl (by kernel_rfl) (by kernel_rfl) (by kernel_rfl) (wantG rfl rfl rfl hc19) rfl rfl trivial (fun w _ => (x_move (v := (Value.int .i64 l9)) rfl e3)) ?_
          refine wpD_take (v := (Value.int .i64 (IntKind.i64.wrap (l9 - 1)))) 12 (fun _ => True) rfl (by kernel_rfl) (by kernel_rfl) (by kernel_rfl) (wantG rfl rfl rfl hc19) rfl rfl trivial (fun w _ => (x_sub rfl rfl rfl)) ?_
          obtain ⟨q20, z20, r20, h⟩ := h
          generalize hp20 : z20.add ((IntKind.i64.wrap (l9 - 1) : Int).toNat * 3) = p20 at h
          refine wpD_take (v := (Value.pointer (some p20))) 13 (fun _ => True) rfl (by kernel_rfl) (by kernel_rfl) (by kernel_rfl) (wantG rfl rfl rfl hc19) rfl rfl trivial (fun w _ => ((x_indexAddr (s := p0) rfl rfl rfl ES_26 q20 r20).trans (by rw [hp20]))) ?_
          refine wpD_take (v := (Value.pointer (some (p20.add 0)))) 14 (fun _ => True) rfl (by kernel_rfl) (by kernel_rfl) (by kernel_rfl) (wantG rfl rfl rfl hc19) rfl rfl trivial (fun w _ => (x_fieldAddr rfl rfl FA_44_0)) ?_
          obtain ⟨x21, q21, h⟩ := h
          refine wpD_take (v := (Value.int .i64 x21)) 15 (fun w => w.cell? (p20.add 0) = some (Value.int .i64 x21)) rfl (by kernel_rfl) (by kernel_rfl) (by kernel_rfl) (wantG rfl rfl rfl hc19) rfl rfl q21 (fun w q21 => (x_load1 rfl rfl SH_3 q21)) ?_
          refine wpD_take (v := (Sl.v p0)) 16 (fun _ => True) rfl (by kernel_rfl) (by kernel_rfl) (by kernel_rfl) (wantG rfl rfl rfl hc19) rfl rfl trivial (fun w _ => (x_move (v := (Sl.v p0)) rfl e0)) ?_
          refine wpD_take (v := (Value.int .i64 l9)) 17 (fun _ => True) rfl (by kernel_rfl) (by kernel_rfl) (by kernel_rfl) (wantG rfl rfl rfl hc19) rfl rfl trivial (fun w _ => (x_move (v := (Value.int .i64 l9)) rfl e3)) ?_
          obtain ⟨q22, z22, r22, h⟩ := h
          generalize hp22 : z22.add ((l9 : Int).toNat * 3) = p22 at h
          refine wpD_take (v := (Value.pointer (some p22))) 18 (fun _ => True) rfl (by kernel_rfl) (by kernel_rfl) (by kernel_rfl) (wantG rfl rfl rfl hc19) rfl rfl trivial (fun w _ => ((x_indexAddr (s := p0) rfl rfl rfl ES_26 q22 r22).trans (by rw [hp22]))) ?_
          refine wpD_take (v := (Value.pointer (some (p22.add 0)))) 19 (fun _ => True) rfl (by kernel_rfl) (by kernel_rfl) (by kernel_rfl) (wantG rfl rfl rfl hc19) rfl rfl trivial (fun w _ => (x_fieldAddr rfl rfl FA_44_0)) ?_
          obtain ⟨x23, q23, h⟩ := h
          refine wpD_take (v := (Value.int .i64 x23)) 20 (fun w => w.cell? (p22.add 0) = some (Value.int .i64 x23)) rfl (by kernel_rfl) (by kernel_rfl) (by kernel_rfl) (wantG rfl rfl rfl hc19) rfl rfl q23 (fun w q23 => (x_load1 rfl rfl SH_3 q23)) ?_
          refine wpD_take (v := (Value.bool (decide (x23 ≤ x21)))) 21 (fun _ => True) rfl (by kernel_rfl) (by kernel_rfl) (by kernel_rfl) (wantG rfl rfl rfl hc19) rfl rfl trivial (fun w _ => (x_geq rfl rfl rfl)) ?_
          refine wpD_take (v := (Value.bool (decide (x23 ≤ x21)))) 22 (fun _ => True) rfl (by kernel_rfl) (by kernel_rfl) (by kernel_rfl) (wantG rfl rfl rfl hc18) rfl rfl trivial (fun w _ => (x_pickT (v := (Value.bool (decide (x23 ≤ x21)))) rfl rfl hc19 rfl)) ?_
          refine wpD_take (v := (Value.bool (decide (x23 ≤ x21)))) 23 (fun _ => True) rfl (by kernel_rfl) (by kernel_rfl) (by kernel_rfl) rfl rfl rfl trivial (fun w _ => (x_pickF (v := (Value.bool (decide (x23 ≤ x21)))) rfl rfl hc18 rfl)) ?_
          exact wpD_done (by kernel_rfl) ⟨decide (x23 ≤ x21), ⟨rfl, e0, e3, trivial⟩, h⟩
        · replace h := h.2 hc19
          refine wpD_pass 10 rfl (by kernel_rfl) (by kernel_rfl) (by kernel_rfl) (wantN rfl rfl rfl hc19) rfl rfl ?_
          refine wpD_pass 11 rfl (by kernel_rfl) (by kernel_rfl) (by kernel_rfl) (wantN rfl rfl rfl hc19) rfl rfl ?_
          refine wpD_pass 12 rfl (by kernel_rfl) (by kernel_rfl) (by kernel_rfl) (wantN rfl rfl rfl hc19) rfl rfl ?_
          refine wpD_pass 13 rfl (by kernel_rfl) (by kernel_rfl) (by kernel_rfl) (wantN rfl rfl rfl hc19) rfl rfl ?_
          refine wpD_pass 14 rfl (by kernel_rfl) (by kernel_rfl) (by kernel_rfl) (wantN rfl rfl rfl hc19) rfl rfl ?_
          refine wpD_pass 15 rfl (by kernel_rfl) (by kernel_rfl) (by kernel_rfl) (wantN rfl rfl rfl hc19) rfl rfl ?_
          refine wpD_pass 16 rfl (by kernel_rfl) (by kernel_rfl) (by kernel_rfl) (wantN rfl rfl rfl hc19) rfl rfl ?_
          refine wpD_pass 17 rfl (by kernel_rfl) (by kernel_rfl) (by kernel_rfl) (wantN rfl rfl rfl hc19) rfl rfl ?_
          refine wpD_pass 18 rfl (by kernel_rfl) (by kernel_rfl) (by kernel_rfl) (wantN rfl rfl rfl hc19) rfl rfl ?_
          refine wpD_pass 19 rfl (by kernel_rfl) (by kernel_rfl) (by kernel_rfl) (wantN rfl rfl rfl hc19) rfl rfl ?_
          refine wpD_pass 20 rfl (by kernel_rfl) (by kernel_rfl) (by kernel_rfl) (wantN rfl rfl rfl hc19) rfl rfl ?_
          refine wpD_pass 21 rfl (by kernel_rfl) (by kernel_rfl) (by kernel_rfl) (wantN rfl rfl rfl hc19) rfl rfl ?_
          refine wpD_take (v := (Value.bool false)) 22 (fun _ => True) rfl (by kernel_rfl) (by kernel_rfl) (by kernel_rfl) (wantG rfl rfl rfl hc18) rfl rfl trivial (fun w _ => (x_pickF (v := (Value.bool false)) rfl rfl hc19 rfl)) ?_
          refine wpD_take (v := (Value.bool false)) 23 (fun _ => True) rfl (by kernel_rfl) (by kernel_rfl) (by kernel_rfl) rfl rfl rfl trivial (fun w _ => (x_pickF (v := (Value.bool false)) rfl rfl hc18 rfl)) ?_
          exact wpD_done (by kernel_rfl) ⟨false, ⟨rfl, e0, e3, trivial⟩, h⟩
    clear h
    rintro l24 ρ w4 ⟨e33, e0, e3, -⟩ h
    replace h := hk l24 w4 h
    clear hk
    refine wpC_cond (b := l24) e33 (fun hc25 => ?_) (fun hc25 => ?_)
    · replace h := h.1 hc25
      refine wpC_seq ?_
      refine wpC_region ?_
      refine wpR_val (v := (Value.bool false)) (w' := w4) rfl rfl rfl (x_assign (v := (Value.bool false)) rfl rfl) ?_
      refine wpR_nil ?_
      refine wpC_ret ?_
      exact ⟨.inl rfl, fun a ha => ⟨_, results_rep1 rfl ha rfl, false, rfl, h⟩⟩
    · replace h := h.2 hc25
      refine wpC_skip ?_
      refine wpC_region ?_
      refine wpR_val (v := (Value.int .i64 l9)) (w' := w4) rfl rfl rfl (x_move (v := (Value.int .i64 l9)) rfl e3) ?_
      refine wpR_val (v := (Value.int .i64 (IntKind.i64.wrap (l9 + 1)))) (w' := w4) rfl rfl rfl (x_add rfl rfl rfl) ?_
      refine wpR_val (v := (Value.int .i64 (IntKind.i64.wrap (l9 + 1)))) (w' := w4) rfl rfl rfl (x_assign (v := (Value.int .i64 (IntKind.i64.wrap (l9 + 1)))) rfl rfl) ?_
      refine wpR_nil ?_
      exact ⟨IntKind.i64.wrap (l9 + 1), ⟨rfl, e0, trivial⟩, h⟩
  · replace h := h.2 hc10
    refine wpC_exit ?_
    refine wpC_seq ?_
    refine wpC_cut (fun ρ => True) trivial ?_
    rintro ρ -
    refine wpC_region ?_
    refine wpR_val (v := (Value.bool true)) (w' := w1) rfl rfl rfl (x_assign (v := (Value.bool true)) rfl rfl) ?_
    refine wpR_nil ?_
    refine wpC_ret ?_
    exact ⟨.inl rfl, fun a ha => ⟨_, results_rep1 rfl ha rfl, true, rfl, h⟩⟩

/-- linguaref20.of -/
def F38 (p0 : Sl) (p1 : Int) (w0 : World) (K : Int → World → Prop) : Prop :=
  lp (fun (next9 : Int → World → Prop) l9 w1 =>
    cnd (decide (l9 < (p0.len : Int)))
      (
      ix p0 l9 3 fun p11 =>
      ld (Value.int .i64) (p11.add 0) w1 fun x12 =>
      cnd (decide (x12 = p1))
        (
        ix p0 l9 3 fun p14 =>
        ld (Value.int .i64) (p14.add 0) w1 fun x15 =>
        ld (Value.int .i64) (p14.add 1) w1 fun x16 =>
        ld (Value.int .i64) (p14.add 2) w1 fun x17 =>
        callC Try.prog 52 #[(Value.agg #[(Value.int .i64 x15), (Value.int .i64 x16), (Value.int .i64 x17)])] (fun (r : Int) => (Value.int .i64 r)) w1 fun r18 w2 =>
        K r18 w2
        )
        (
        next9 (IntKind.i64.wrap (l9 + 1)) w1
        )
      )
      (
      K 0 w1
      )
  ) 0 w0
set_option maxRecDepth 100000 in
theorem D38 (p0 : Sl) (p1 : Int) (w0 : World) (K : Int → World → Prop) (h : F38 p0 p1 w0 K) : callC Try.prog 38 #[(Sl.v p0), (Value.int .i64 p1)] (fun (r : Int) => (Value.int .i64 r)) w0 K := by
  unfold F38 at h
  refine calls_of_wpC Try.func38 rfl 24 rfl (by simp) ?_
  intro ρ hρ
  have e0 : ρ 0 = (Sl.v p0) := hρ 0
  have e1 : ρ 1 = (Value.int .i64 p1) := hρ 1
  clear hρ
  refine wpC_seq ?_
  refine wpC_region ?_
  refine wpR_val (v := (Value.int .i64 0)) (w' := w0) rfl rfl rfl (x_assign (v := (Value.int .i64 0)) rfl rfl) ?_
  refine wpR_nil ?_
  refine wpC_seq ?_
  refine wpC_seq ?_
  refine wpC_cut (fun ρ => ρ 0 = (Sl.v p0) ∧ ρ 1 = (Value.int .i64 p1) ∧ True) ⟨e0, e1, trivial⟩ ?_
  rintro ρ ⟨e0, e1, -⟩
  refine wpC_region ?_
  refine wpR_val (v := (Value.int .i64 0)) (w' := w0) rfl rfl rfl (x_assign (v := (Value.int .i64 0)) rfl rfl) ?_
  refine wpR_nil ?_
  refine wpC_block ?_
  obtain ⟨I9, μ9, hI9, hr9⟩ := h
  refine wpC_loop (fun (x : Int) ρ => ρ 5 = (Value.int .i64 x) ∧ ρ 0 = (Sl.v p0) ∧ ρ 1 = (Value.int .i64 p1) ∧ True) I9 μ9 0 ⟨rfl, e0, e1, trivial⟩ hI9 ?_
  rintro l9 ρ w1 ⟨e5, e0, e1, -⟩ h
  replace h := hr9 l9 w1 h
  clear hr9 hI9
  refine wpC_seq ?_
  refine wpC_seq ?_
  refine wpC_region ?_
  refine wpR_val (v := (Value.int .i64 l9)) (w' := w1) rfl rfl rfl (x_move (v := (Value.int .i64 l9)) rfl e5) ?_
  refine wpR_val (v := (Sl.v p0)) (w' := w1) rfl rfl rfl (x_move (v := (Sl.v p0)) rfl e0) ?_
  refine wpR_val (v := (Value.int .i64 (p0.len : Int))) (w' := w1) rfl rfl rfl (x_lenS (s := p0) rfl rfl isSliceT_26) ?_
  refine wpR_val (v := (Value.bool (decide (l9 < (p0.len : Int))))) (w' := w1) rfl rfl rfl (x_lss rfl rfl rfl) ?_
  refine wpR_nil ?_
  refine wpC_cond (b := decide (l9 < (p0.len : Int))) rfl (fun hc10 => ?_) (fun hc10 => ?_)
  · replace h := h.1 hc10
    refine wpC_skip ?_
    refine wpC_seq ?_
    refine wpC_block ?_
    refine wpC_seq ?_
    refine wpC_cut (fun ρ => ρ 0 = (Sl.v p0) ∧ ρ 1 = (Value.int .i64 p1) ∧ ρ 5 = (Value.int .i64 l9) ∧ True) ⟨e0, e1, e5, trivial⟩ ?_
    rintro ρ ⟨e0, e1, e5, -⟩
    refine wpC_region ?_
    refine wpR_val (v := (Sl.v p0)) (w' := w1) rfl rfl rfl (x_move (v := (Sl.v p0)) rfl e0) ?_
    refine wpR_val (v := (Value.int .i64 l9)) (w' := w1) rfl rfl rfl (x_move (v := (Value.int .i64 l9)) rfl e5) ?_
    obtain ⟨q11, z11, r11, h⟩ := h
    generalize hp11 : z11.add ((l9 : Int).toNat * 3) = p11 at h
    refine wpR_val (v := (Value.pointer (some p11))) (w' := w1) rfl rfl rfl ((x_indexAddr (s := p0) rfl rfl rfl ES_26 q11 r11).trans (by rw [hp11])) ?_
    refine wpR_val (v := (Value.pointer (some (p11.add 0)))) (w' := w1) rfl rfl rfl (x_fieldAddr rfl rfl FA_44_0) ?_
    obtain ⟨x12, q12, h⟩ := h
    refine wpR_val (v := (Value.int .i64 x12)) (w' := w1) rfl rfl rfl (x_load1 rfl rfl SH_3 q12) ?_
    refine wpR_val (v := (Value.int .i64 p1)) (w' := w1) rfl rfl rfl (x_move (v := (Value.int .i64 p1)) rfl e1) ?_
    refine wpR_val (v := (Value.bool (decide (x12 = p1)))) (w' := w1) rfl rfl rfl (x_eql rfl rfl rfl) ?_
    refine wpR_nil ?_
    refine wpC_cond (b := decide (x12 = p1)) rfl (fun hc13 => ?_) (fun hc13 => ?_)
    · replace h := h.1 hc13
      refine wpC_seq ?_
      refine wpC_cut (fun ρ => ρ 0 = (Sl.v p0) ∧ ρ 5 = (Value.int .i64 l9) ∧ True) ⟨e0, e5, trivial⟩ ?_
      rintro ρ ⟨e0, e5, -⟩
      refine wpC_region ?_
      refine wpR_val (v := (Sl.v p0)) (w' := w1) rfl rfl rfl (x_move (v := (Sl.v p0)) rfl e0) ?_
      refine wpR_val (v := (Value.int .i64 l9)) (w' := w1) rfl rfl rfl (x_move (v := (Value.int .i64 l9)) rfl e5) ?_
      obtain ⟨q14, z14, r14, h⟩ := h
      generalize hp14 : z14.add ((l9 : Int).toNat * 3) = p14 at h
      refine wpR_val (v := (Value.pointer (some p14))) (w' := w1) rfl rfl rfl ((x_indexAddr (s := p0) rfl rfl rfl ES_26 q14 r14).trans (by rw [hp14])) ?_
      obtain ⟨x15, q15, x16, q16, x17, q17, h⟩ := h
      refine wpR_val (v := (Value.agg #[(Value.int .i64 x15), (Value.int .i64 x16), (Value.int .i64 x17)])) (w' := w1) rfl rfl rfl (x_loadN [(Value.int .i64 x15), (Value.int .i64 x16), (Value.int .i64 x17)] rfl rfl SH_44 (CellsAt.out (CellsAt.cons q15 (CellsAt.cons q16 (CellsAt.cons q17 CellsAt.nil))))) ?_
      refine wpR_enter rfl rfl rfl (x_call (vs := [(Value.agg #[(Value.int .i64 x15), (Value.int .i64 x16), (Value.int .i64 x17)])]) rfl rfl (mapl_cons rfl mapl_nil) Try.func52 NN_52 NB_52) (Calls.mono h ?_)
      rintro _ w2 ⟨r18, rfl, h⟩
      refine ⟨_, rfl, ?_⟩
      refine wpR_val (v := (Value.int .i64 r18)) (w' := w2) rfl rfl rfl (x_assign (v := (Value.int .i64 r18)) rfl rfl) ?_
      refine wpR_nil ?_
      refine wpC_ret ?_
      exact ⟨.inl rfl, fun a ha => ⟨_, results_rep1 rfl ha rfl, r18, rfl, h⟩⟩
    · replace h := h.2 hc13
      refine wpC_skip ?_
      refine wpC_cut (fun ρ => ρ 0 = (Sl.v p0) ∧ ρ 1 = (Value.int .i64 p1) ∧ ρ 5 = (Value.int .i64 l9) ∧ True) ⟨e0, e1, e5, trivial⟩ ?_
      rintro ρ ⟨e0, e1, e5, -⟩
      refine wpC_region ?_
      refine wpR_val (v := (Value.int .i64 l9)) (w' := w1) rfl rfl rfl (x_move (v := (Value.int .i64 l9)) rfl e5) ?_
      refine wpR_val (v := (Value.int .i64 (IntKind.i64.wrap (l9 + 1)))) (w' := w1) rfl rfl rfl (x_add rfl rfl rfl) ?_
      refine wpR_val (v := (Value.int .i64 (IntKind.i64.wrap (l9 + 1)))) (w' := w1) rfl rfl rfl (x_assign (v := (Value.int .i64 (IntKind.i64.wrap (l9 + 1)))) rfl rfl) ?_
      refine wpR_nil ?_
      exact ⟨IntKind.i64.wrap (l9 + 1), ⟨rfl, e0, e1, trivial⟩, h⟩
  · replace h := h.2 hc10
    refine wpC_exit ?_
    refine wpC_seq ?_
    refine wpC_cut (fun ρ => True) trivial ?_
    rintro ρ -
    refine wpC_region ?_
    refine wpR_val (v := (Value.int .i64 0)) (w' := w1) rfl rfl rfl (x_assign (v := (Value.int .i64 0)) rfl rfl) ?_
    refine wpR_nil ?_
    refine wpC_ret ?_
    exact ⟨.inl rfl, fun a ha => ⟨_, results_rep1 rfl ha rfl, 0, rfl, h⟩⟩


end Go.Proofs.Ytnoahloppffndaa
