import Derived.Test.YtkacfhhpmpmhkaaRows
import Derived.Test.YtkacfhhpmpmhkaaFs1
import Derived.Test.YtkacfhhpmpmhkaaDecRaw
namespace Go.Proofs.Ytkacfhhpmpmhkaa
open Go.Dec
set_option maxHeartbeats 400000
set_option maxRecDepth 100000

/-- syntax.Right -/
def F24 (p0_0 : ByteArray) (p0_1 : Int) (p0_2 : Int) (p0_3 : Int) (p0_4 : Bool) (p0_5 : Int) (p0_6 : Bool) (p0_7 : Bool) (p0_8 : Int) (p0_9 : Int) (p0_10 : Int) (p0_11 : Int) (p0_12 : Sl) (p0_13 : Int) (p0_14 : Int) (p0_15 : Int) (p0_16 : Int) (p0_17 : Bool) (p0_18 : Int) (p0_19 : Int) (p0_20 : Int) (p0_21 : Int) (w0 : World) (K : Bool → World → Prop) : Prop :=
  nw 39 (A38 p0_0 p0_1 p0_2 p0_3 p0_4 p0_5 p0_6 p0_7 p0_8 p0_9 p0_10 p0_11 p0_12 p0_13 p0_14 p0_15 p0_16 p0_17 p0_18 p0_19 p0_20 p0_21) w0 fun b9 w1 =>
  ld (Value.int .i64) ((Addr.mk b9 0 none).add 2) w1 fun x10 =>
  ld (Value.int .i64) ((Addr.mk b9 0 none).add 8) w1 fun x11 =>
  ld (Value.int .i64) ((Addr.mk b9 0 none).add 9) w1 fun x12 =>
  ld (Value.int .i64) ((Addr.mk b9 0 none).add 10) w1 fun x13 =>
  ld (Value.int .i64) ((Addr.mk b9 0 none).add 11) w1 fun x14 =>
  ld (Value.int .i64) ((Addr.mk b9 0 none).add 18) w1 fun x15 =>
  ld (Value.int .i64) ((Addr.mk b9 0 none).add 19) w1 fun x16 =>
  ld (Value.int .i64) ((Addr.mk b9 0 none).add 20) w1 fun x17 =>
  ld (Value.int .i64) ((Addr.mk b9 0 none).add 21) w1 fun x18 =>
  nw 3 #[(Value.int .i64 x10), (Value.int .i64 x11), (Value.int .i64 x12), (Value.int .i64 x13), (Value.int .i64 x14), (Value.int .i64 x15), (Value.int .i64 x16), (Value.int .i64 x17), (Value.int .i64 x18)] w1 fun b19 w2 =>
  lp (fun (next20 : Int → World → Prop) l20 w3 =>
    cnd (decide (l20 < ((⟨some ⟨b19, 0, none⟩, 9, 9⟩ : Sl).len : Int)))
      (
      ix (⟨some ⟨b19, 0, none⟩, 9, 9⟩ : Sl) l20 1 fun p22 =>
      ld (Value.int .i64) p22 w3 fun x23 =>
      cnd ((decide (x23 < 0)) || (decide (1073741824 < x23)))
        (
        K false w3
        )
        (
        next20 (IntKind.i64.wrap (l20 + 1)) w3
        )
      )
      (
      ld (Value.int .i64) ((Addr.mk b9 0 none).add 3) w3 fun x27 =>
      ld (Value.int .i64) ((Addr.mk b9 0 none).add 5) w3 fun x28 =>
      ld (Value.int .i64) ((Addr.mk b9 0 none).add 13) w3 fun x29 =>
      ld (Value.int .i64) ((Addr.mk b9 0 none).add 14) w3 fun x30 =>
      ld (Value.int .i64) ((Addr.mk b9 0 none).add 15) w3 fun x31 =>
      ld (Value.int .i64) ((Addr.mk b9 0 none).add 16) w3 fun x32 =>
      nw 55 #[(Value.int .i64 x27), (Value.int .i64 3), (Value.int .i64 x28), (Value.int .i64 3), (Value.int .i64 x29), (Value.int .i64 3), (Value.int .i64 x30), (Value.int .i64 2), (Value.int .i64 x31), (Value.int .i64 2), (Value.int .i64 x32), (Value.int .i64 5)] w3 fun b33 w4 =>
      lp (fun (next34 : Int → World → Prop) l34 w5 =>
        cnd (decide (l34 < ((⟨some ⟨b33, 0, none⟩, 6, 6⟩ : Sl).len : Int)))
          (
          ix (⟨some ⟨b33, 0, none⟩, 6, 6⟩ : Sl) l34 2 fun p36 =>
          ld (Value.int .i64) (p36.add 0) w5 fun x37 =>
          ld (Value.int .i64) (p36.add 1) w5 fun x38 =>
          nw 55 #[(Value.int .i64 0), (Value.int .i64 0)] w5 fun b39 w6 =>
          st (Addr.mk b39 0 none) [(Value.int .i64 x37), (Value.int .i64 x38)] w6 fun w7 =>
          rn Try.prog (Instr.indexAt 55 (Value.pointer (some (Addr.mk b39 0 none))) (Value.int .i64 0)) (fun a : Addr => Value.pointer (some a)) w7 fun p41 w8 =>
          ld (Value.int .i64) p41 w8 fun x42 =>
          jn (fun J43 => cnd (decide (x42 < 0))
            (
            J43 true w8
            )
            (
            rn Try.prog (Instr.indexAt 55 (Value.pointer (some (Addr.mk b39 0 none))) (Value.int .i64 0)) (fun a : Addr => Value.pointer (some a)) w8 fun p45 w9 =>
            ld (Value.int .i64) p45 w9 fun x46 =>
            rn Try.prog (Instr.indexAt 55 (Value.pointer (some (Addr.mk b39 0 none))) (Value.int .i64 1)) (fun a : Addr => Value.pointer (some a)) w9 fun p47 w10 =>
            ld (Value.int .i64) p47 w10 fun x48 =>
            J43 (decide (x48 ≤ x46)) w10
            ))
          fun c49 w11 =>
          cnd (c49)
            (
            K false w11
            )
            (
            next34 (IntKind.i64.wrap (l34 + 1)) w11
            )
          )
          (
          jn (fun (J51 : Bool → World → Prop) =>
            ld Value.string ((Addr.mk b9 0 none).add 0) w5 fun x53 =>
            callC Try.prog 30 #[(Value.string x53)] (fun (r : Bool) => (Value.bool r)) w5 fun r54 w13 =>
            cnd (!r54)
              (
              J51 (!r54) w13
              )
              (
              ld (Value.int .i64) ((Addr.mk b9 0 none).add 1) w13 fun x56 =>
              jp (fun J57 => cnd (!decide (x56 = 0))
                (
                ld (Value.int .i64) ((Addr.mk b9 0 none).add 1) w13 fun x59 =>
                J57 (!decide (x59 = 2))
                )
                (
                J57 false
                ))
              fun c60 =>
              cnd (c60)
                (
                J51 c60 w13
                )
                (
                ld (Value.int .i64) ((Addr.mk b9 0 none).add 1) w13 fun x62 =>
                jp (fun J63 => cnd (decide (x62 = 0))
                  (
                  ld (Value.int .i64) ((Addr.mk b9 0 none).add 2) w13 fun x65 =>
                  J63 (decide (0 < x65))
                  )
                  (
                  J63 false
                  ))
                fun c66 =>
                J51 c66 w13
                )
              )
          )
          fun l52 w12 =>
          cnd (l52)
            (
            K false w12
            )
            (
            ld (Value.int .i64) ((Addr.mk b9 0 none).add 10) w12 fun x68 =>
            cnd (decide (x68 = 0))
              (
              ld (Value.int .i64) ((Addr.mk b9 0 none).add 11) w12 fun x70 =>
              jp (fun J71 => cnd (decide (x70 = 0))
                (
                ld Sl.v ((Addr.mk b9 0 none).add 12) w12 fun x73 =>
                J71 (decide ((x73.len : Int) = 0))
                )
                (
                J71 false
                ))
              fun c74 =>
              K c74 w12
              )
              (
              ld Sl.v ((Addr.mk b9 0 none).add 12) w12 fun x75 =>
              jp (fun J76 => cnd (decide (1 ≤ (x75.len : Int)))
                (
                ld Sl.v ((Addr.mk b9 0 none).add 12) w12 fun x78 =>
                J76 (decide ((x78.len : Int) ≤ 20))
                )
                (
                J76 false
                ))
              fun c79 =>
              jn (fun J80 => cnd (c79)
                (
                ld Sl.v ((Addr.mk b9 0 none).add 12) w12 fun x82 =>
                callC Try.prog 28 #[(Sl.v x82), (Value.func (.func 31) #[] #[])] (fun (r : Bool) => (Value.bool r)) w12 fun r83 w14 =>
                J80 (!r83) w14
                )
                (
                J80 false w12
                ))
              fun c84 w15 =>
              K c84 w15
              )
            )
          )
      ) 0 w4
      )
  ) 0 w2
set_option maxRecDepth 100000 in
theorem D24 (p0_0 : ByteArray) (p0_1 : Int) (p0_2 : Int) (p0_3 : Int) (p0_4 : Bool) (p0_5 : Int) (p0_6 : Bool) (p0_7 : Bool) (p0_8 : Int) (p0_9 : Int) (p0_10 : Int) (p0_11 : Int) (p0_12 : Sl) (p0_13 : Int) (p0_14 : Int) (p0_15 : Int) (p0_16 : Int) (p0_17 : Bool) (p0_18 : Int) (p0_19 : Int) (p0_20 : Int) (p0_21 : Int) (w0 : World) (K : Bool → World → Prop) (h : F24 p0_0 p0_1 p0_2 p0_3 p0_4 p0_5 p0_6 p0_7 p0_8 p0_9 p0_10 p0_11 p0_12 p0_13 p0_14 p0_15 p0_16 p0_17 p0_18 p0_19 p0_20 p0_21 w0 K) : callC Try.prog 24 #[(V38 p0_0 p0_1 p0_2 p0_3 p0_4 p0_5 p0_6 p0_7 p0_8 p0_9 p0_10 p0_11 p0_12 p0_13 p0_14 p0_15 p0_16 p0_17 p0_18 p0_19 p0_20 p0_21)] (fun (r : Bool) => (Value.bool r)) w0 K := by
  unfold F24 at h
  refine calls_of_wpC Try.func24 rfl 123 rfl (by simp) ?_
  intro ρ hρ
  have e0 : ρ 0 = (V38 p0_0 p0_1 p0_2 p0_3 p0_4 p0_5 p0_6 p0_7 p0_8 p0_9 p0_10 p0_11 p0_12 p0_13 p0_14 p0_15 p0_16 p0_17 p0_18 p0_19 p0_20 p0_21) := hρ 0
  clear hρ
  refine wpC_seq ?_
  refine wpC_region ?_
  obtain ⟨b9, hb9⟩ : ∃ u, u = w0.heap.size := ⟨_, rfl⟩
  obtain ⟨w1, hw9⟩ : ∃ u, u = w0.alloc (.cells (A38 p0_0 p0_1 p0_2 p0_3 p0_4 p0_5 p0_6 p0_7 p0_8 p0_9 p0_10 p0_11 p0_12 p0_13 p0_14 p0_15 p0_16 p0_17 p0_18 p0_19 p0_20 p0_21) 39) := ⟨_, rfl⟩
  replace h := h b9 w1 hb9 hw9
  refine wpR_val (v := (Value.pointer (some (Addr.mk b9 0 none)))) (w' := w1) rfl rfl rfl ((x_box (v := (V38 p0_0 p0_1 p0_2 p0_3 p0_4 p0_5 p0_6 p0_7 p0_8 p0_9 p0_10 p0_11 p0_12 p0_13 p0_14 p0_15 p0_16 p0_17 p0_18 p0_19 p0_20 p0_21)) rfl e0).trans (by rw [hb9, hw9]; rfl)) ?_
  refine wpR_val (v := (Value.bool false)) (w' := w1) rfl rfl rfl (x_assign (v := (Value.bool false)) rfl rfl) ?_
  refine wpR_nil ?_
  refine wpC_seq ?_
  refine wpC_seq ?_
  refine wpC_cut (fun ρ => ρ 1 = (Value.pointer (some (Addr.mk b9 0 none))) ∧ True) ⟨rfl, trivial⟩ ?_
  rintro ρ ⟨e1, -⟩
  refine wpC_region ?_
  refine wpR_val (v := (Value.pointer (some ((Addr.mk b9 0 none).add 2)))) (w' := w1) rfl rfl rfl (x_fieldAddr rfl e1 FA_39_2) ?_
  obtain ⟨x10, q10, h⟩ := h
  refine wpR_val (v := (Value.int .i64 x10)) (w' := w1) rfl rfl rfl (x_load1 rfl rfl SH_3 q10) ?_
  refine wpR_val (v := (Value.pointer (some ((Addr.mk b9 0 none).add 8)))) (w' := w1) rfl rfl rfl (x_fieldAddr rfl e1 FA_39_8) ?_
  obtain ⟨x11, q11, h⟩ := h
  refine wpR_val (v := (Value.int .i64 x11)) (w' := w1) rfl rfl rfl (x_load1 rfl rfl SH_3 q11) ?_
  refine wpR_val (v := (Value.pointer (some ((Addr.mk b9 0 none).add 9)))) (w' := w1) rfl rfl rfl (x_fieldAddr rfl e1 FA_39_9) ?_
  obtain ⟨x12, q12, h⟩ := h
  refine wpR_val (v := (Value.int .i64 x12)) (w' := w1) rfl rfl rfl (x_load1 rfl rfl SH_3 q12) ?_
  refine wpR_val (v := (Value.pointer (some ((Addr.mk b9 0 none).add 10)))) (w' := w1) rfl rfl rfl (x_fieldAddr rfl e1 FA_39_10) ?_
  obtain ⟨x13, q13, h⟩ := h
  refine wpR_val (v := (Value.int .i64 x13)) (w' := w1) rfl rfl rfl (x_load1 rfl rfl SH_3 q13) ?_
  refine wpR_val (v := (Value.pointer (some ((Addr.mk b9 0 none).add 11)))) (w' := w1) rfl rfl rfl (x_fieldAddr rfl e1 FA_39_11) ?_
  obtain ⟨x14, q14, h⟩ := h
  refine wpR_val (v := (Value.int .i64 x14)) (w' := w1) rfl rfl rfl (x_load1 rfl rfl SH_3 q14) ?_
  refine wpR_val (v := (Value.pointer (some ((Addr.mk b9 0 none).add 18)))) (w' := w1) rfl rfl rfl (x_fieldAddr rfl e1 FA_39_18) ?_
  obtain ⟨x15, q15, h⟩ := h
  refine wpR_val (v := (Value.int .i64 x15)) (w' := w1) rfl rfl rfl (x_load1 rfl rfl SH_3 q15) ?_
  refine wpR_val (v := (Value.pointer (some ((Addr.mk b9 0 none).add 19)))) (w' := w1) rfl rfl rfl (x_fieldAddr rfl e1 FA_39_19) ?_
  obtain ⟨x16, q16, h⟩ := h
  refine wpR_val (v := (Value.int .i64 x16)) (w' := w1) rfl rfl rfl (x_load1 rfl rfl SH_3 q16) ?_
  refine wpR_val (v := (Value.pointer (some ((Addr.mk b9 0 none).add 20)))) (w' := w1) rfl rfl rfl (x_fieldAddr rfl e1 FA_39_20) ?_
  obtain ⟨x17, q17, h⟩ := h
  refine wpR_val (v := (Value.int .i64 x17)) (w' := w1) rfl rfl rfl (x_load1 rfl rfl SH_3 q17) ?_
  refine wpR_val (v := (Value.pointer (some ((Addr.mk b9 0 none).add 21)))) (w' := w1) rfl rfl rfl (x_fieldAddr rfl e1 FA_39_21) ?_
  obtain ⟨x18, q18, h⟩ := h
  refine wpR_val (v := (Value.int .i64 x18)) (w' := w1) rfl rfl rfl (x_load1 rfl rfl SH_3 q18) ?_
  obtain ⟨b19, hb19⟩ : ∃ u, u = w1.heap.size := ⟨_, rfl⟩
  obtain ⟨w2, hw19⟩ : ∃ u, u = w1.alloc (.cells #[(Value.int .i64 x10), (Value.int .i64 x11), (Value.int .i64 x12), (Value.int .i64 x13), (Value.int .i64 x14), (Value.int .i64 x15), (Value.int .i64 x16), (Value.int .i64 x17), (Value.int .i64 x18)] 3) := ⟨_, rfl⟩
  replace h := h b19 w2 hb19 hw19
  refine wpR_val (v := (Sl.v (⟨some ⟨b19, 0, none⟩, 9, 9⟩ : Sl))) (w' := w2) rfl rfl rfl ((x_buildSlice (qs := [(0, (Value.int .i64 x10)), (1, (Value.int .i64 x11)), (2, (Value.int .i64 x12)), (3, (Value.int .i64 x13)), (4, (Value.int .i64 x14)), (5, (Value.int .i64 x15)), (6, (Value.int .i64 x16)), (7, (Value.int .i64 x17)), (8, (Value.int .i64 x18))]) rfl (by rfl) (BS_24_9_0_1_2_3_4_5_6_7_8 x10 x11 x12 x13 x14 x15 x16 x17 x18)).trans (by rw [← hb19, ← hw19])) ?_
  refine wpR_val (v := (Value.int .i64 ((⟨some ⟨b19, 0, none⟩, 9, 9⟩ : Sl).len : Int))) (w' := w2) rfl rfl rfl (x_lenS (s := (⟨some ⟨b19, 0, none⟩, 9, 9⟩ : Sl)) rfl rfl isSliceT_24) ?_
  refine wpR_val (v := (Value.int .i64 0)) (w' := w2) rfl rfl rfl (x_move (v := (Value.int .i64 0)) rfl rfl) ?_
  refine wpR_nil ?_
  refine wpC_block ?_
  obtain ⟨I20, μ20, hI20, hr20⟩ := h
  refine wpC_loop (fun (x : Int) ρ => ρ 27 = (Value.int .i64 x) ∧ ρ 1 = (Value.pointer (some (Addr.mk b9 0 none))) ∧ ρ 25 = (Sl.v (⟨some ⟨b19, 0, none⟩, 9, 9⟩ : Sl)) ∧ ρ 26 = (Value.int .i64 ((⟨some ⟨b19, 0, none⟩, 9, 9⟩ : Sl).len : Int)) ∧ True) I20 μ20 0 ⟨rfl, e1, rfl, rfl, trivial⟩ hI20 ?_
  rintro l20 ρ w3 ⟨e27, e1, e25, e26, -⟩ h
  replace h := hr20 l20 w3 h
  clear hr20 hI20
  refine wpC_seq ?_
  refine wpC_region ?_
  refine wpR_val (v := (Value.bool (decide (l20 < ((⟨some ⟨b19, 0, none⟩, 9, 9⟩ : Sl).len : Int))))) (w' := w3) rfl rfl rfl (x_lss rfl e27 e26) ?_
  refine wpR_nil ?_
  refine wpC_seq ?_
  refine wpC_cond (b := decide (l20 < ((⟨some ⟨b19, 0, none⟩, 9, 9⟩ : Sl).len : Int))) rfl (fun hc21 => ?_) (fun hc21 => ?_)
  · replace h := h.1 hc21
    refine wpC_skip ?_
    refine wpC_seq ?_
    refine wpC_block ?_
    refine wpC_seq ?_
    refine wpC_cut (fun ρ => ρ 1 = (Value.pointer (some (Addr.mk b9 0 none))) ∧ ρ 25 = (Sl.v (⟨some ⟨b19, 0, none⟩, 9, 9⟩ : Sl)) ∧ ρ 26 = (Value.int .i64 ((⟨some ⟨b19, 0, none⟩, 9, 9⟩ : Sl).len : Int)) ∧ ρ 27 = (Value.int .i64 l20) ∧ True) ⟨e1, e25, e26, e27, trivial⟩ ?_
    rintro ρ ⟨e1, e25, e26, e27, -⟩
    refine wpC_region ?_
    obtain ⟨q22, z22, r22, h⟩ := h
    generalize hp22 : z22.add ((l20 : Int).toNat * 1) = p22 at h
    refine wpR_val (v := (Value.pointer (some p22))) (w' := w3) rfl rfl rfl ((x_indexAddr (s := (⟨some ⟨b19, 0, none⟩, 9, 9⟩ : Sl)) rfl e25 e27 ES_24 q22 r22).trans (by rw [hp22])) ?_
    obtain ⟨x23, q23, h⟩ := h
    refine wpR_val (v := (Value.int .i64 x23)) (w' := w3) rfl rfl rfl (x_load1 rfl rfl SH_3 q23) ?_
    refine wpR_val (v := (Value.int .i64 x23)) (w' := w3) rfl rfl rfl (x_assign (v := (Value.int .i64 x23)) rfl rfl) ?_
    refine wpR_nil ?_
    refine wpC_seq ?_
    refine wpC_cut (fun ρ => ρ 1 = (Value.pointer (some (Addr.mk b9 0 none))) ∧ ρ 4 = (Value.int .i64 x23) ∧ ρ 25 = (Sl.v (⟨some ⟨b19, 0, none⟩, 9, 9⟩ : Sl)) ∧ ρ 26 = (Value.int .i64 ((⟨some ⟨b19, 0, none⟩, 9, 9⟩ : Sl).len : Int)) ∧ ρ 27 = (Value.int .i64 l20) ∧ True) ⟨e1, rfl, e25, e26, e27, trivial⟩ ?_
    rintro ρ ⟨e1, e4, e25, e26, e27, -⟩
    refine wpC_region ?_
    refine wpR_val (v := (Value.int .i64 x23)) (w' := w3) rfl rfl rfl (x_move (v := (Value.int .i64 x23)) rfl e4) ?_
    refine wpR_val (v := (Value.bool (decide (x23 < 0)))) (w' := w3) rfl rfl rfl (x_lss rfl rfl rfl) ?_
    refine wpR_val (v := (Value.bool (decide (x23 < 0)))) (w' := w3) rfl rfl rfl (x_move (v := (Value.bool (decide (x23 < 0)))) rfl rfl) ?_
    refine wpR_joinJ 3 (fun (_ : Unit) ρ => ρ 36 = Value.bool ((decide (x23 < 0)) || (decide (1073741824 < x23))) ∧ ρ 1 = (Value.pointer (some (Addr.mk b9 0 none))) ∧ ρ 25 = (Sl.v (⟨some ⟨b19, 0, none⟩, 9, 9⟩ : Sl)) ∧ ρ 26 = (Value.int .i64 ((⟨some ⟨b19, 0, none⟩, 9, 9⟩ : Sl).len : Int)) ∧ ρ 27 = (Value.int .i64 l20) ∧ True) (fun _ w => w3 = w) ?_ ?_
    · clear h
      rcases Bool.eq_false_or_eq_true (decide (x23 < 0)) with hc25 | hc25
      · skip
        refine wpR_pass (wantN rfl rfl rfl hc25) rfl rfl ?_
        refine wpR_pass (wantN rfl rfl rfl hc25) rfl rfl ?_
        refine wpR_val (v := (Value.bool true)) (w' := w3) rfl rfl rfl (x_pickT (v := (Value.bool true)) rfl rfl hc25 rfl) ?_
        refine wpR_nil ?_
        exact ⟨(), ⟨(by rw [hc25]; rfl), e1, e25, e26, e27, trivial⟩, rfl⟩
      · skip
        refine wpR_val (v := (Value.int .i64 x23)) (w' := w3) (wantG rfl rfl rfl hc25) rfl rfl (x_move (v := (Value.int .i64 x23)) rfl e4) ?_
        refine wpR_val (v := (Value.bool (decide (1073741824 < x23)))) (w' := w3) (wantG rfl rfl rfl hc25) rfl rfl (x_gtr rfl rfl rfl) ?_
        refine wpR_val (v := (Value.bool (decide (1073741824 < x23)))) (w' := w3) rfl rfl rfl (x_pickF (v := (Value.bool (decide (1073741824 < x23)))) rfl rfl hc25 rfl) ?_
        refine wpR_nil ?_
        exact ⟨(), ⟨(by rw [hc25]; rfl), e1, e25, e26, e27, trivial⟩, rfl⟩
    rintro _ ρ wj ⟨e36, e1, e25, e26, e27, -⟩ rfl
    refine wpR_nil ?_
    refine wpC_cond (b := (decide (x23 < 0)) || (decide (1073741824 < x23))) e36 (fun hc26 => ?_) (fun hc26 => ?_)
    · replace h := h.1 hc26
      refine wpC_seq ?_
      refine wpC_region ?_
      refine wpR_val (v := (Value.bool false)) (w' := w3) rfl rfl rfl (x_assign (v := (Value.bool false)) rfl rfl) ?_
      refine wpR_nil ?_
      refine wpC_ret ?_
      exact ⟨.inl rfl, fun a ha => ⟨_, results_rep1 rfl ha rfl, false, rfl, h⟩⟩
    · replace h := h.2 hc26
      refine wpC_skip ?_
      refine wpC_region ?_
      refine wpR_val (v := (Value.int .i64 (IntKind.i64.wrap (l20 + 1)))) (w' := w3) rfl rfl rfl (x_add rfl e27 rfl) ?_
      refine wpR_val (v := (Value.int .i64 (IntKind.i64.wrap (l20 + 1)))) (w' := w3) rfl rfl rfl (x_move (v := (Value.int .i64 (IntKind.i64.wrap (l20 + 1)))) rfl rfl) ?_
      refine wpR_nil ?_
      exact ⟨IntKind.i64.wrap (l20 + 1), ⟨rfl, e1, e25, e26, trivial⟩, h⟩
  · replace h := h.2 hc21
    refine wpC_exit ?_
    refine wpC_seq ?_
    refine wpC_seq ?_
    refine wpC_cut (fun ρ => ρ 1 = (Value.pointer (some (Addr.mk b9 0 none))) ∧ True) ⟨e1, trivial⟩ ?_
    rintro ρ ⟨e1, -⟩
    refine wpC_region ?_
    refine wpR_val (v := (Value.pointer (some ((Addr.mk b9 0 none).add 3)))) (w' := w3) rfl rfl rfl (x_fieldAddr rfl e1 FA_39_3) ?_
    obtain ⟨x27, q27, h⟩ := h
    refine wpR_val (v := (Value.int .i64 x27)) (w' := w3) rfl rfl rfl (x_load1 rfl rfl SH_3 q27) ?_
    refine wpR_val (v := (Value.agg #[(Value.int .i64 x27), (Value.int .i64 3)])) (w' := w3) rfl rfl rfl (x_build (qs := [(0, (Value.int .i64 x27)), (1, (Value.int .i64 3))]) rfl (by rfl) (BD_55_0_1 x27 3 _)) ?_
    refine wpR_val (v := (Value.pointer (some ((Addr.mk b9 0 none).add 5)))) (w' := w3) rfl rfl rfl (x_fieldAddr rfl e1 FA_39_5) ?_
    obtain ⟨x28, q28, h⟩ := h
    refine wpR_val (v := (Value.int .i64 x28)) (w' := w3) rfl rfl rfl (x_load1 rfl rfl SH_3 q28) ?_
    refine wpR_val (v := (Value.agg #[(Value.int .i64 x28), (Value.int .i64 3)])) (w' := w3) rfl rfl rfl (x_build (qs := [(0, (Value.int .i64 x28)), (1, (Value.int .i64 3))]) rfl (by rfl) (BD_55_0_1 x28 3 _)) ?_
    refine wpR_val (v := (Value.pointer (some ((Addr.mk b9 0 none).add 13)))) (w' := w3) rfl rfl rfl (x_fieldAddr rfl e1 FA_39_13) ?_
    obtain ⟨x29, q29, h⟩ := h
    refine wpR_val (v := (Value.int .i64 x29)) (w' := w3) rfl rfl rfl (x_load1 rfl rfl SH_3 q29) ?_
    refine wpR_val (v := (Value.agg #[(Value.int .i64 x29), (Value.int .i64 3)])) (w' := w3) rfl rfl rfl (x_build (qs := [(0, (Value.int .i64 x29)), (1, (Value.int .i64 3))]) rfl (by rfl) (BD_55_0_1 x29 3 _)) ?_
    refine wpR_val (v := (Value.pointer (some ((Addr.mk b9 0 none).add 14)))) (w' := w3) rfl rfl rfl (x_fieldAddr rfl e1 FA_39_14) ?_
    obtain ⟨x30, q30, h⟩ := h
    refine wpR_val (v := (Value.int .i64 x30)) (w' := w3) rfl rfl rfl (x_load1 rfl rfl SH_3 q30) ?_
    refine wpR_val (v := (Value.agg #[(Value.int .i64 x30), (Value.int .i64 2)])) (w' := w3) rfl rfl rfl (x_build (qs := [(0, (Value.int .i64 x30)), (1, (Value.int .i64 2))]) rfl (by rfl) (BD_55_0_1 x30 2 _)) ?_
    refine wpR_val (v := (Value.pointer (some ((Addr.mk b9 0 none).add 15)))) (w' := w3) rfl rfl rfl (x_fieldAddr rfl e1 FA_39_15) ?_
    obtain ⟨x31, q31, h⟩ := h
    refine wpR_val (v := (Value.int .i64 x31)) (w' := w3) rfl rfl rfl (x_load1 rfl rfl SH_3 q31) ?_
    refine wpR_val (v := (Value.agg #[(Value.int .i64 x31), (Value.int .i64 2)])) (w' := w3) rfl rfl rfl (x_build (qs := [(0, (Value.int .i64 x31)), (1, (Value.int .i64 2))]) rfl (by rfl) (BD_55_0_1 x31 2 _)) ?_
    refine wpR_val (v := (Value.pointer (some ((Addr.mk b9 0 none).add 16)))) (w' := w3) rfl rfl rfl (x_fieldAddr rfl e1 FA_39_16) ?_
    obtain ⟨x32, q32, h⟩ := h
    refine wpR_val (v := (Value.int .i64 x32)) (w' := w3) rfl rfl rfl (x_load1 rfl rfl SH_3 q32) ?_
    refine wpR_val (v := (Value.agg #[(Value.int .i64 x32), (Value.int .i64 5)])) (w' := w3) rfl rfl rfl (x_build (qs := [(0, (Value.int .i64 x32)), (1, (Value.int .i64 5))]) rfl (by rfl) (BD_55_0_1 x32 5 _)) ?_
    obtain ⟨b33, hb33⟩ : ∃ u, u = w3.heap.size := ⟨_, rfl⟩
    obtain ⟨w4, hw33⟩ : ∃ u, u = w3.alloc (.cells #[(Value.int .i64 x27), (Value.int .i64 3), (Value.int .i64 x28), (Value.int .i64 3), (Value.int .i64 x29), (Value.int .i64 3), (Value.int .i64 x30), (Value.int .i64 2), (Value.int .i64 x31), (Value.int .i64 2), (Value.int .i64 x32), (Value.int .i64 5)] 55) := ⟨_, rfl⟩
    replace h := h b33 w4 hb33 hw33
    refine wpR_val (v := (Sl.v (⟨some ⟨b33, 0, none⟩, 6, 6⟩ : Sl))) (w' := w4) rfl rfl rfl ((x_buildSlice (qs := [(0, (Value.agg #[(Value.int .i64 x27), (Value.int .i64 3)])), (1, (Value.agg #[(Value.int .i64 x28), (Value.int .i64 3)])), (2, (Value.agg #[(Value.int .i64 x29), (Value.int .i64 3)])), (3, (Value.agg #[(Value.int .i64 x30), (Value.int .i64 2)])), (4, (Value.agg #[(Value.int .i64 x31), (Value.int .i64 2)])), (5, (Value.agg #[(Value.int .i64 x32), (Value.int .i64 5)]))]) rfl (by rfl) (BS_56_6_0_1_2_3_4_5 x27 3 x28 3 x29 3 x30 2 x31 2 x32 5)).trans (by rw [← hb33, ← hw33])) ?_
    refine wpR_val (v := (Value.int .i64 ((⟨some ⟨b33, 0, none⟩, 6, 6⟩ : Sl).len : Int))) (w' := w4) rfl rfl rfl (x_lenS (s := (⟨some ⟨b33, 0, none⟩, 6, 6⟩ : Sl)) rfl rfl isSliceT_56) ?_
    refine wpR_val (v := (Value.int .i64 0)) (w' := w4) rfl rfl rfl (x_move (v := (Value.int .i64 0)) rfl rfl) ?_
    refine wpR_nil ?_
    refine wpC_block ?_
    obtain ⟨I34, μ34, hI34, hr34⟩ := h
    refine wpC_loop (fun (x : Int) ρ => ρ 58 = (Value.int .i64 x) ∧ ρ 1 = (Value.pointer (some (Addr.mk b9 0 none))) ∧ ρ 56 = (Sl.v (⟨some ⟨b33, 0, none⟩, 6, 6⟩ : Sl)) ∧ ρ 57 = (Value.int .i64 ((⟨some ⟨b33, 0, none⟩, 6, 6⟩ : Sl).len : Int)) ∧ True) I34 μ34 0 ⟨rfl, e1, rfl, rfl, trivial⟩ hI34 ?_
    rintro l34 ρ w5 ⟨e58, e1, e56, e57, -⟩ h
    replace h := hr34 l34 w5 h
    clear hr34 hI34
    refine wpC_seq ?_
    refine wpC_region ?_
    refine wpR_val (v := (Value.bool (decide (l34 < ((⟨some ⟨b33, 0, none⟩, 6, 6⟩ : Sl).len : Int))))) (w' := w5) rfl rfl rfl (x_lss rfl e58 e57) ?_
    refine wpR_nil ?_
    refine wpC_seq ?_
    refine wpC_cond (b := decide (l34 < ((⟨some ⟨b33, 0, none⟩, 6, 6⟩ : Sl).len : Int))) rfl (fun hc35 => ?_) (fun hc35 => ?_)
    · replace h := h.1 hc35
      refine wpC_skip ?_
      refine wpC_seq ?_
      refine wpC_block ?_
      refine wpC_seq ?_
      refine wpC_cut (fun ρ => ρ 1 = (Value.pointer (some (Addr.mk b9 0 none))) ∧ ρ 56 = (Sl.v (⟨some ⟨b33, 0, none⟩, 6, 6⟩ : Sl)) ∧ ρ 57 = (Value.int .i64 ((⟨some ⟨b33, 0, none⟩, 6, 6⟩ : Sl).len : Int)) ∧ ρ 58 = (Value.int .i64 l34) ∧ True) ⟨e1, e56, e57, e58, trivial⟩ ?_
      rintro ρ ⟨e1, e56, e57, e58, -⟩
      refine wpC_region ?_
      obtain ⟨q36, z36, r36, h⟩ := h
      generalize hp36 : z36.add ((l34 : Int).toNat * 2) = p36 at h
      refine wpR_val (v := (Value.pointer (some p36))) (w' := w5) rfl rfl rfl ((x_indexAddr (s := (⟨some ⟨b33, 0, none⟩, 6, 6⟩ : Sl)) rfl e56 e58 ES_56 q36 r36).trans (by rw [hp36])) ?_
      obtain ⟨x37, q37, x38, q38, h⟩ := h
      refine wpR_val (v := (Value.agg #[(Value.int .i64 x37), (Value.int .i64 x38)])) (w' := w5) rfl rfl rfl (x_loadN [(Value.int .i64 x37), (Value.int .i64 x38)] rfl rfl SH_55 (CellsAt.out (CellsAt.cons q37 (CellsAt.cons q38 CellsAt.nil)))) ?_
      obtain ⟨b39, hb39⟩ : ∃ u, u = w5.heap.size := ⟨_, rfl⟩
      obtain ⟨w6, hw39⟩ : ∃ u, u = w5.alloc (.cells #[(Value.int .i64 0), (Value.int .i64 0)] 55) := ⟨_, rfl⟩
      replace h := h b39 w6 hb39 hw39
      refine wpR_val (v := (Value.pointer (some (Addr.mk b39 0 none)))) (w' := w6) rfl rfl rfl ((x_alloc rfl ZV_55).trans (by rw [hb39, hw39]; rfl)) ?_
      obtain ⟨q40, h⟩ := h
      obtain ⟨w7, hw40⟩ : ∃ u, u = setAll w6 (Addr.mk b39 0 none) [(Value.int .i64 x37), (Value.int .i64 x38)] 0 := ⟨_, rfl⟩
      replace h := h w7 hw40
      refine wpR_skp (w' := w7) rfl rfl ((x_store (v := (Value.agg #[(Value.int .i64 x37), (Value.int .i64 x38)])) rfl rfl rfl SZ_55 (ones (by rfl)) q40).trans (by rw [hw40]; rfl)) ?_
      refine wpR_nil ?_
      refine wpC_seq ?_
      refine wpC_cut (fun ρ => ρ 1 = (Value.pointer (some (Addr.mk b9 0 none))) ∧ ρ 6 = (Value.pointer (some (Addr.mk b39 0 none))) ∧ ρ 56 = (Sl.v (⟨some ⟨b33, 0, none⟩, 6, 6⟩ : Sl)) ∧ ρ 57 = (Value.int .i64 ((⟨some ⟨b33, 0, none⟩, 6, 6⟩ : Sl).len : Int)) ∧ ρ 58 = (Value.int .i64 l34) ∧ True) ⟨e1, rfl, e56, e57, e58, trivial⟩ ?_
      rintro ρ ⟨e1, e6, e56, e57, e58, -⟩
      refine wpC_region ?_
      obtain ⟨p41, w8, q41, h⟩ := h
      refine wpR_val (v := (Value.pointer (some p41))) (w' := w8) rfl rfl rfl (x_indexAt rfl e6 rfl q41) ?_
      obtain ⟨x42, q42, h⟩ := h
      refine wpR_val (v := (Value.int .i64 x42)) (w' := w8) rfl rfl rfl (x_load1 rfl rfl SH_3 q42) ?_
      refine wpR_val (v := (Value.bool (decide (x42 < 0)))) (w' := w8) rfl rfl rfl (x_lss rfl rfl rfl) ?_
      refine wpR_val (v := (Value.bool (decide (x42 < 0)))) (w' := w8) rfl rfl rfl (x_move (v := (Value.bool (decide (x42 < 0)))) rfl rfl) ?_
      obtain ⟨J43, h, hk⟩ := h
      refine wpR_joinJ 6 (fun x ρ => ρ 71 = Value.bool x ∧ ρ 1 = (Value.pointer (some (Addr.mk b9 0 none))) ∧ ρ 56 = (Sl.v (⟨some ⟨b33, 0, none⟩, 6, 6⟩ : Sl)) ∧ ρ 57 = (Value.int .i64 ((⟨some ⟨b33, 0, none⟩, 6, 6⟩ : Sl).len : Int)) ∧ ρ 58 = (Value.int .i64 l34) ∧ True) (J43) ?_ ?_
      · clear hk
        rcases Bool.eq_false_or_eq_true (decide (x42 < 0)) with hc44 | hc44
        · replace h := h.1 hc44
          refine wpR_pass (wantN rfl rfl rfl hc44) rfl rfl ?_
          refine wpR_pass (wantN rfl rfl rfl hc44) rfl rfl ?_
          refine wpR_pass (wantN rfl rfl rfl hc44) rfl rfl ?_
          refine wpR_pass (wantN rfl rfl rfl hc44) rfl rfl ?_
          refine wpR_pass (wantN rfl rfl rfl hc44) rfl rfl ?_
          refine wpR_val (v := (Value.bool true)) (w' := w8) rfl rfl rfl (x_pickT (v := (Value.bool true)) rfl rfl hc44 rfl) ?_
          refine wpR_nil ?_
          exact ⟨true, ⟨rfl, e1, e56, e57, e58, trivial⟩, h⟩
        · replace h := h.2 hc44
          obtain ⟨p45, w9, q45, h⟩ := h
          refine wpR_val (v := (Value.pointer (some p45))) (w' := w9) (wantG rfl rfl rfl hc44) rfl rfl (x_indexAt rfl e6 rfl q45) ?_
          obtain ⟨x46, q46, h⟩ := h
          refine wpR_val (v := (Value.int .i64 x46)) (w' := w9) (wantG rfl rfl rfl hc44) rfl rfl (x_load1 rfl rfl SH_3 q46) ?_
          obtain ⟨p47, w10, q47, h⟩ := h
          refine wpR_val (v := (Value.pointer (some p47))) (w' := w10) (wantG rfl rfl rfl hc44) rfl rfl (x_indexAt rfl e6 rfl q47) ?_
          obtain ⟨x48, q48, h⟩ := h
          refine wpR_val (v := (Value.int .i64 x48)) (w' := w10) (wantG rfl rfl rfl hc44) rfl rfl (x_load1 rfl rfl SH_3 q48) ?_
          refine wpR_val (v := (Value.bool (decide (x48 ≤ x46)))) (w' := w10) (wantG rfl rfl rfl hc44) rfl rfl (x_geq rfl rfl rfl) ?_
          refine wpR_val (v := (Value.bool (decide (x48 ≤ x46)))) (w' := w10) rfl rfl rfl (x_pickF (v := (Value.bool (decide (x48 ≤ x46)))) rfl rfl hc44 rfl) ?_
          refine wpR_nil ?_
          exact ⟨decide (x48 ≤ x46), ⟨rfl, e1, e56, e57, e58, trivial⟩, h⟩
      clear h
      rintro c49 ρ w11 ⟨e71, e1, e56, e57, e58, -⟩ h
      replace h := hk c49 w11 h
      clear hk
      refine wpR_nil ?_
      refine wpC_cond (b := c49) e71 (fun hc50 => ?_) (fun hc50 => ?_)
      · replace h := h.1 hc50
        refine wpC_seq ?_
        refine wpC_region ?_
        refine wpR_val (v := (Value.bool false)) (w' := w11) rfl rfl rfl (x_assign (v := (Value.bool false)) rfl rfl) ?_
        refine wpR_nil ?_
        refine wpC_ret ?_
        exact ⟨.inl rfl, fun a ha => ⟨_, results_rep1 rfl ha rfl, false, rfl, h⟩⟩
      · replace h := h.2 hc50
        refine wpC_skip ?_
        refine wpC_region ?_
        refine wpR_val (v := (Value.int .i64 (IntKind.i64.wrap (l34 + 1)))) (w' := w11) rfl rfl rfl (x_add rfl e58 rfl) ?_
        refine wpR_val (v := (Value.int .i64 (IntKind.i64.wrap (l34 + 1)))) (w' := w11) rfl rfl rfl (x_move (v := (Value.int .i64 (IntKind.i64.wrap (l34 + 1)))) rfl rfl) ?_
        refine wpR_nil ?_
        exact ⟨IntKind.i64.wrap (l34 + 1), ⟨rfl, e1, e56, e57, trivial⟩, h⟩
    · replace h := h.2 hc35
      refine wpC_exit ?_
      refine wpC_seq ?_
      refine wpC_block ?_
      obtain ⟨J51, h, hk⟩ := h
      refine wpC_seqJ (fun (x : Bool) ρ => ρ 73 = (Value.bool x) ∧ ρ 1 = (Value.pointer (some (Addr.mk b9 0 none))) ∧ True) J51 ?_ ?_
      · clear hk
        refine wpC_seq ?_
        refine wpC_cut (fun ρ => ρ 1 = (Value.pointer (some (Addr.mk b9 0 none))) ∧ True) ⟨e1, trivial⟩ ?_
        rintro ρ ⟨e1, -⟩
        refine wpC_region ?_
        refine wpR_val (v := (Value.pointer (some ((Addr.mk b9 0 none).add 0)))) (w' := w5) rfl rfl rfl (x_fieldAddr rfl e1 FA_39_0) ?_
        obtain ⟨x53, q53, h⟩ := h
        refine wpR_val (v := (Value.string x53)) (w' := w5) rfl rfl rfl (x_load1 rfl rfl SH_9 q53) ?_
        refine wpR_enter rfl rfl rfl (x_call (vs := [(Value.string x53)]) rfl rfl (mapl_cons rfl mapl_nil) Try.func30 NN_30 NB_30) (Calls.mono h ?_)
        rintro _ w13 ⟨r54, rfl, h⟩
        refine ⟨_, rfl, ?_⟩
        refine wpR_val (v := (Value.bool (!r54))) (w' := w13) rfl rfl rfl (x_not rfl rfl) ?_
        refine wpR_val (v := (Value.bool (!r54))) (w' := w13) rfl rfl rfl (x_assign (v := (Value.bool (!r54))) rfl rfl) ?_
        refine wpR_nil ?_
        refine wpC_cond (b := !r54) rfl (fun hc55 => ?_) (fun hc55 => ?_)
        · replace h := h.1 hc55
          refine wpC_skip ?_
          exact ⟨!r54, ⟨rfl, e1, trivial⟩, h⟩
        · replace h := h.2 hc55
          refine wpC_seq ?_
          refine wpC_cut (fun ρ => ρ 1 = (Value.pointer (some (Addr.mk b9 0 none))) ∧ True) ⟨e1, trivial⟩ ?_
          rintro ρ ⟨e1, -⟩
          refine wpC_region ?_
          refine wpR_val (v := (Value.pointer (some ((Addr.mk b9 0 none).add 1)))) (w' := w13) rfl rfl rfl (x_fieldAddr rfl e1 FA_39_1) ?_
          obtain ⟨x56, q56, h⟩ := h
          refine wpR_val (v := (Value.int .i64 x56)) (w' := w13) rfl rfl rfl (x_load1 rfl rfl SH_3 q56) ?_
          refine wpR_val (v := (Value.bool (!decide (x56 = 0)))) (w' := w13) rfl rfl rfl (x_neq rfl rfl rfl) ?_
          refine wpR_val (v := (Value.bool (!decide (x56 = 0)))) (w' := w13) rfl rfl rfl (x_move (v := (Value.bool (!decide (x56 = 0)))) rfl rfl) ?_
          obtain ⟨J57, h, hk⟩ := h
          refine wpR_joinJ 4 (fun x ρ => ρ 85 = Value.bool x ∧ ρ 1 = (Value.pointer (some (Addr.mk b9 0 none))) ∧ True) (fun x w => J57 x ∧ w13 = w) ?_ ?_
          · clear hk
            rcases Bool.eq_false_or_eq_true (!decide (x56 = 0)) with hc58 | hc58
            · replace h := h.1 hc58
              refine wpR_val (v := (Value.pointer (some ((Addr.mk b9 0 none).add 1)))) (w' := w13) (wantG rfl rfl rfl hc58) rfl rfl (x_fieldAddr rfl e1 FA_39_1) ?_
              obtain ⟨x59, q59, h⟩ := h
              refine wpR_val (v := (Value.int .i64 x59)) (w' := w13) (wantG rfl rfl rfl hc58) rfl rfl (x_load1 rfl rfl SH_3 q59) ?_
              refine wpR_val (v := (Value.bool (!decide (x59 = 2)))) (w' := w13) (wantG rfl rfl rfl hc58) rfl rfl (x_neq rfl rfl rfl) ?_
              refine wpR_val (v := (Value.bool (!decide (x59 = 2)))) (w' := w13) rfl rfl rfl (x_pickT (v := (Value.bool (!decide (x59 = 2)))) rfl rfl hc58 rfl) ?_
              refine wpR_nil ?_
              exact ⟨!decide (x59 = 2), ⟨rfl, e1, trivial⟩, h, rfl⟩
            · replace h := h.2 hc58
              refine wpR_pass (wantN rfl rfl rfl hc58) rfl rfl ?_
              refine wpR_pass (wantN rfl rfl rfl hc58) rfl rfl ?_
              refine wpR_pass (wantN rfl rfl rfl hc58) rfl rfl ?_
              refine wpR_val (v := (Value.bool false)) (w' := w13) rfl rfl rfl (x_pickF (v := (Value.bool false)) rfl rfl hc58 rfl) ?_
              refine wpR_nil ?_
              exact ⟨false, ⟨rfl, e1, trivial⟩, h, rfl⟩
          clear h
          rintro c60 ρ wj ⟨e85, e1, -⟩ ⟨h, rfl⟩
          replace h := hk c60 h
          clear hk
          refine wpR_val (v := (Value.bool c60)) (w' := w13) rfl rfl rfl (x_assign (v := (Value.bool c60)) rfl e85) ?_
          refine wpR_nil ?_
          refine wpC_cond (b := c60) rfl (fun hc61 => ?_) (fun hc61 => ?_)
          · replace h := h.1 hc61
            refine wpC_skip ?_
            exact ⟨c60, ⟨rfl, e1, trivial⟩, h⟩
          · replace h := h.2 hc61
            refine wpC_cut (fun ρ => ρ 1 = (Value.pointer (some (Addr.mk b9 0 none))) ∧ True) ⟨e1, trivial⟩ ?_
            rintro ρ ⟨e1, -⟩
            refine wpC_region ?_
            refine wpR_val (v := (Value.pointer (some ((Addr.mk b9 0 none).add 1)))) (w' := w13) rfl rfl rfl (x_fieldAddr rfl e1 FA_39_1) ?_
            obtain ⟨x62, q62, h⟩ := h
            refine wpR_val (v := (Value.int .i64 x62)) (w' := w13) rfl rfl rfl (x_load1 rfl rfl SH_3 q62) ?_
            refine wpR_val (v := (Value.bool (decide (x62 = 0)))) (w' := w13) rfl rfl rfl (x_eql rfl rfl rfl) ?_
            refine wpR_val (v := (Value.bool (decide (x62 = 0)))) (w' := w13) rfl rfl rfl (x_move (v := (Value.bool (decide (x62 = 0)))) rfl rfl) ?_
            obtain ⟨J63, h, hk⟩ := h
            refine wpR_joinJ 4 (fun x ρ => ρ 93 = Value.bool x ∧ ρ 1 = (Value.pointer (some (Addr.mk b9 0 none))) ∧ True) (fun x w => J63 x ∧ w13 = w) ?_ ?_
            · clear hk
              rcases Bool.eq_false_or_eq_true (decide (x62 = 0)) with hc64 | hc64
              · replace h := h.1 hc64
                refine wpR_val (v := (Value.pointer (some ((Addr.mk b9 0 none).add 2)))) (w' := w13) (wantG rfl rfl rfl hc64) rfl rfl (x_fieldAddr rfl e1 FA_39_2) ?_
                obtain ⟨x65, q65, h⟩ := h
                refine wpR_val (v := (Value.int .i64 x65)) (w' := w13) (wantG rfl rfl rfl hc64) rfl rfl (x_load1 rfl rfl SH_3 q65) ?_
                refine wpR_val (v := (Value.bool (decide (0 < x65)))) (w' := w13) (wantG rfl rfl rfl hc64) rfl rfl (x_gtr rfl rfl rfl) ?_
                refine wpR_val (v := (Value.bool (decide (0 < x65)))) (w' := w13) rfl rfl rfl (x_pickT (v := (Value.bool (decide (0 < x65)))) rfl rfl hc64 rfl) ?_
                refine wpR_nil ?_
                exact ⟨decide (0 < x65), ⟨rfl, e1, trivial⟩, h, rfl⟩
              · replace h := h.2 hc64
                refine wpR_pass (wantN rfl rfl rfl hc64) rfl rfl ?_
                refine wpR_pass (wantN rfl rfl rfl hc64) rfl rfl ?_
                refine wpR_pass (wantN rfl rfl rfl hc64) rfl rfl ?_
                refine wpR_val (v := (Value.bool false)) (w' := w13) rfl rfl rfl (x_pickF (v := (Value.bool false)) rfl rfl hc64 rfl) ?_
                refine wpR_nil ?_
                exact ⟨false, ⟨rfl, e1, trivial⟩, h, rfl⟩
            clear h
            rintro c66 ρ wj ⟨e93, e1, -⟩ ⟨h, rfl⟩
            replace h := hk c66 h
            clear hk
            refine wpR_val (v := (Value.bool c66)) (w' := w13) rfl rfl rfl (x_assign (v := (Value.bool c66)) rfl e93) ?_
            refine wpR_nil ?_
            exact ⟨c66, ⟨rfl, e1, trivial⟩, h⟩
      clear h
      rintro l52 ρ w12 ⟨e73, e1, -⟩ h
      replace h := hk l52 w12 h
      clear hk
      refine wpC_cond (b := l52) e73 (fun hc67 => ?_) (fun hc67 => ?_)
      · replace h := h.1 hc67
        refine wpC_seq ?_
        refine wpC_region ?_
        refine wpR_val (v := (Value.bool false)) (w' := w12) rfl rfl rfl (x_assign (v := (Value.bool false)) rfl rfl) ?_
        refine wpR_nil ?_
        refine wpC_ret ?_
        exact ⟨.inl rfl, fun a ha => ⟨_, results_rep1 rfl ha rfl, false, rfl, h⟩⟩
      · replace h := h.2 hc67
        refine wpC_seq ?_
        refine wpC_region ?_
        refine wpR_val (v := (Value.pointer (some ((Addr.mk b9 0 none).add 10)))) (w' := w12) rfl rfl rfl (x_fieldAddr rfl e1 FA_39_10) ?_
        obtain ⟨x68, q68, h⟩ := h
        refine wpR_val (v := (Value.int .i64 x68)) (w' := w12) rfl rfl rfl (x_load1 rfl rfl SH_3 q68) ?_
        refine wpR_val (v := (Value.bool (decide (x68 = 0)))) (w' := w12) rfl rfl rfl (x_eql rfl rfl rfl) ?_
        refine wpR_val (v := (Value.bool (decide (x68 = 0)))) (w' := w12) rfl rfl rfl (x_assign (v := (Value.bool (decide (x68 = 0)))) rfl rfl) ?_
        refine wpR_nil ?_
        refine wpC_cond (b := decide (x68 = 0)) rfl (fun hc69 => ?_) (fun hc69 => ?_)
        · replace h := h.1 hc69
          refine wpC_seq ?_
          refine wpC_cut (fun ρ => ρ 1 = (Value.pointer (some (Addr.mk b9 0 none))) ∧ True) ⟨e1, trivial⟩ ?_
          rintro ρ ⟨e1, -⟩
          refine wpC_region ?_
          refine wpR_val (v := (Value.pointer (some ((Addr.mk b9 0 none).add 11)))) (w' := w12) rfl rfl rfl (x_fieldAddr rfl e1 FA_39_11) ?_
          obtain ⟨x70, q70, h⟩ := h
          refine wpR_val (v := (Value.int .i64 x70)) (w' := w12) rfl rfl rfl (x_load1 rfl rfl SH_3 q70) ?_
          refine wpR_val (v := (Value.bool (decide (x70 = 0)))) (w' := w12) rfl rfl rfl (x_eql rfl rfl rfl) ?_
          refine wpR_val (v := (Value.bool (decide (x70 = 0)))) (w' := w12) rfl rfl rfl (x_move (v := (Value.bool (decide (x70 = 0)))) rfl rfl) ?_
          obtain ⟨J71, h, hk⟩ := h
          refine wpR_joinJ 5 (fun x ρ => ρ 106 = Value.bool x ∧ True) (fun x w => J71 x ∧ w12 = w) ?_ ?_
          · clear hk
            rcases Bool.eq_false_or_eq_true (decide (x70 = 0)) with hc72 | hc72
            · replace h := h.1 hc72
              refine wpR_val (v := (Value.pointer (some ((Addr.mk b9 0 none).add 12)))) (w' := w12) (wantG rfl rfl rfl hc72) rfl rfl (x_fieldAddr rfl e1 FA_39_12) ?_
              obtain ⟨x73, q73, h⟩ := h
              refine wpR_val (v := (Sl.v x73)) (w' := w12) (wantG rfl rfl rfl hc72) rfl rfl (x_load1 rfl rfl SH_23 q73) ?_
              refine wpR_val (v := (Value.int .i64 (x73.len : Int))) (w' := w12) (wantG rfl rfl rfl hc72) rfl rfl (x_lenS (s := x73) rfl rfl isSliceT_23) ?_
              refine wpR_val (v := (Value.bool (decide ((x73.len : Int) = 0)))) (w' := w12) (wantG rfl rfl rfl hc72) rfl rfl (x_eql rfl rfl rfl) ?_
              refine wpR_val (v := (Value.bool (decide ((x73.len : Int) = 0)))) (w' := w12) rfl rfl rfl (x_pickT (v := (Value.bool (decide ((x73.len : Int) = 0)))) rfl rfl hc72 rfl) ?_
              refine wpR_nil ?_
              exact ⟨decide ((x73.len : Int) = 0), ⟨rfl, trivial⟩, h, rfl⟩
            · replace h := h.2 hc72
              refine wpR_pass (wantN rfl rfl rfl hc72) rfl rfl ?_
              refine wpR_pass (wantN rfl rfl rfl hc72) rfl rfl ?_
              refine wpR_pass (wantN rfl rfl rfl hc72) rfl rfl ?_
              refine wpR_pass (wantN rfl rfl rfl hc72) rfl rfl ?_
              refine wpR_val (v := (Value.bool false)) (w' := w12) rfl rfl rfl (x_pickF (v := (Value.bool false)) rfl rfl hc72 rfl) ?_
              refine wpR_nil ?_
              exact ⟨false, ⟨rfl, trivial⟩, h, rfl⟩
          clear h
          rintro c74 ρ wj ⟨e106, -⟩ ⟨h, rfl⟩
          replace h := hk c74 h
          clear hk
          refine wpR_val (v := (Value.bool c74)) (w' := w12) rfl rfl rfl (x_assign (v := (Value.bool c74)) rfl e106) ?_
          refine wpR_nil ?_
          refine wpC_ret ?_
          exact ⟨.inl rfl, fun a ha => ⟨_, results_rep1 rfl ha rfl, c74, rfl, h⟩⟩
        · replace h := h.2 hc69
          refine wpC_skip ?_
          refine wpC_seq ?_
          refine wpC_cut (fun ρ => ρ 1 = (Value.pointer (some (Addr.mk b9 0 none))) ∧ True) ⟨e1, trivial⟩ ?_
          rintro ρ ⟨e1, -⟩
          refine wpC_region ?_
          refine wpR_val (v := (Value.pointer (some ((Addr.mk b9 0 none).add 12)))) (w' := w12) rfl rfl rfl (x_fieldAddr rfl e1 FA_39_12) ?_
          obtain ⟨x75, q75, h⟩ := h
          refine wpR_val (v := (Sl.v x75)) (w' := w12) rfl rfl rfl (x_load1 rfl rfl SH_23 q75) ?_
          refine wpR_val (v := (Value.int .i64 (x75.len : Int))) (w' := w12) rfl rfl rfl (x_lenS (s := x75) rfl rfl isSliceT_23) ?_
          refine wpR_val (v := (Value.bool (decide (1 ≤ (x75.len : Int))))) (w' := w12) rfl rfl rfl (x_geq rfl rfl rfl) ?_
          refine wpR_val (v := (Value.bool (decide (1 ≤ (x75.len : Int))))) (w' := w12) rfl rfl rfl (x_move (v := (Value.bool (decide (1 ≤ (x75.len : Int))))) rfl rfl) ?_
          obtain ⟨J76, h, hk⟩ := h
          refine wpR_joinJ 5 (fun x ρ => ρ 116 = Value.bool x ∧ ρ 1 = (Value.pointer (some (Addr.mk b9 0 none))) ∧ True) (fun x w => J76 x ∧ w12 = w) ?_ ?_
          · clear hk
            rcases Bool.eq_false_or_eq_true (decide (1 ≤ (x75.len : Int))) with hc77 | hc77
            · replace h := h.1 hc77
              refine wpR_val (v := (Value.pointer (some ((Addr.mk b9 0 none).add 12)))) (w' := w12) (wantG rfl rfl rfl hc77) rfl rfl (x_fieldAddr rfl e1 FA_39_12) ?_
              obtain ⟨x78, q78, h⟩ := h
              refine wpR_val (v := (Sl.v x78)) (w' := w12) (wantG rfl rfl rfl hc77) rfl rfl (x_load1 rfl rfl SH_23 q78) ?_
              refine wpR_val (v := (Value.int .i64 (x78.len : Int))) (w' := w12) (wantG rfl rfl rfl hc77) rfl rfl (x_lenS (s := x78) rfl rfl isSliceT_23) ?_
              refine wpR_val (v := (Value.bool (decide ((x78.len : Int) ≤ 20)))) (w' := w12) (wantG rfl rfl rfl hc77) rfl rfl (x_leq rfl rfl rfl) ?_
              refine wpR_val (v := (Value.bool (decide ((x78.len : Int) ≤ 20)))) (w' := w12) rfl rfl rfl (x_pickT (v := (Value.bool (decide ((x78.len : Int) ≤ 20)))) rfl rfl hc77 rfl) ?_
              refine wpR_nil ?_
              exact ⟨decide ((x78.len : Int) ≤ 20), ⟨rfl, e1, trivial⟩, h, rfl⟩
            · replace h := h.2 hc77
              refine wpR_pass (wantN rfl rfl rfl hc77) rfl rfl ?_
              refine wpR_pass (wantN rfl rfl rfl hc77) rfl rfl ?_
              refine wpR_pass (wantN rfl rfl rfl hc77) rfl rfl ?_
              refine wpR_pass (wantN rfl rfl rfl hc77) rfl rfl ?_
              refine wpR_val (v := (Value.bool false)) (w' := w12) rfl rfl rfl (x_pickF (v := (Value.bool false)) rfl rfl hc77 rfl) ?_
              refine wpR_nil ?_
              exact ⟨false, ⟨rfl, e1, trivial⟩, h, rfl⟩
          clear h
          rintro c79 ρ wj ⟨e116, e1, -⟩ ⟨h, rfl⟩
          replace h := hk c79 h
          clear hk
          refine wpR_val (v := (Value.bool c79)) (w' := w12) rfl rfl rfl (x_move (v := (Value.bool c79)) rfl e116) ?_
          obtain ⟨J80, h, hk⟩ := h
          refine wpR_joinJ 5 (fun x ρ => ρ 122 = Value.bool x ∧ True) (J80) ?_ ?_
          · clear hk
            rcases Bool.eq_false_or_eq_true (c79) with hc81 | hc81
            · replace h := h.1 hc81
              refine wpR_val (v := (Value.pointer (some ((Addr.mk b9 0 none).add 12)))) (w' := w12) (wantG rfl rfl rfl hc81) rfl rfl (x_fieldAddr rfl e1 FA_39_12) ?_
              obtain ⟨x82, q82, h⟩ := h
              refine wpR_val (v := (Sl.v x82)) (w' := w12) (wantG rfl rfl rfl hc81) rfl rfl (x_load1 rfl rfl SH_23 q82) ?_
              refine wpR_enter (wantG rfl rfl rfl hc81) rfl rfl (x_call (vs := [(Sl.v x82), (Value.func (.func 31) #[] #[])]) rfl rfl (mapl_cons rfl (mapl_cons rfl mapl_nil)) Try.func28 NN_28 NB_28) (Calls.mono h ?_)
              rintro _ w14 ⟨r83, rfl, h⟩
              refine ⟨_, rfl, ?_⟩
              refine wpR_val (v := (Value.bool (!r83))) (w' := w14) (wantG rfl rfl rfl hc81) rfl rfl (x_not rfl rfl) ?_
              refine wpR_val (v := (Value.bool (!r83))) (w' := w14) rfl rfl rfl (x_pickT (v := (Value.bool (!r83))) rfl rfl hc81 rfl) ?_
              refine wpR_nil ?_
              exact ⟨!r83, ⟨rfl, trivial⟩, h⟩
            · replace h := h.2 hc81
              refine wpR_pass (wantN rfl rfl rfl hc81) rfl rfl ?_
              refine wpR_pass (wantN rfl rfl rfl hc81) rfl rfl ?_
              refine wpR_pass (wantN rfl rfl rfl hc81) rfl rfl ?_
              refine wpR_pass (wantN rfl rfl rfl hc81) rfl rfl ?_
              refine wpR_val (v := (Value.bool false)) (w' := w12) rfl rfl rfl (x_pickF (v := (Value.bool false)) rfl rfl hc81 rfl) ?_
              refine wpR_nil ?_
              exact ⟨false, ⟨rfl, trivial⟩, h⟩
          clear h
          rintro c84 ρ w15 ⟨e122, -⟩ h
          replace h := hk c84 w15 h
          clear hk
          refine wpR_val (v := (Value.bool c84)) (w' := w15) rfl rfl rfl (x_assign (v := (Value.bool c84)) rfl e122) ?_
          refine wpR_nil ?_
          refine wpC_ret ?_
          exact ⟨.inl rfl, fun a ha => ⟨_, results_rep1 rfl ha rfl, c84, rfl, h⟩⟩

/-- profile.within -/
def F25 (p0 : Int) (p1 : Int) (p2 : Int) (w0 : World) (K : Bool → World → Prop) : Prop :=
  K ((decide (p1 ≤ p0)) && (decide (p0 ≤ p2))) w0
set_option maxRecDepth 100000 in
theorem D25 (p0 : Int) (p1 : Int) (p2 : Int) (w0 : World) (K : Bool → World → Prop) (h : F25 p0 p1 p2 w0 K) : callC Try.prog 25 #[(Value.int .i64 p0), (Value.int .i64 p1), (Value.int .i64 p2)] (fun (r : Bool) => (Value.bool r)) w0 K := by
  unfold F25 at h
  refine calls_of_wpC Try.func25 rfl 15 rfl (by simp) ?_
  intro ρ hρ
  have e0 : ρ 0 = (Value.int .i64 p0) := hρ 0
  have e1 : ρ 1 = (Value.int .i64 p1) := hρ 1
  have e2 : ρ 2 = (Value.int .i64 p2) := hρ 2
  clear hρ
  refine wpC_seq ?_
  refine wpC_region ?_
  refine wpR_val (v := (Value.bool false)) (w' := w0) rfl rfl rfl (x_assign (v := (Value.bool false)) rfl rfl) ?_
  refine wpR_nil ?_
  refine wpC_seq ?_
  refine wpC_cut (fun ρ => ρ 0 = (Value.int .i64 p0) ∧ ρ 1 = (Value.int .i64 p1) ∧ ρ 2 = (Value.int .i64 p2) ∧ True) ⟨e0, e1, e2, trivial⟩ ?_
  rintro ρ ⟨e0, e1, e2, -⟩
  refine wpC_region ?_
  refine wpR_val (v := (Value.int .i64 p0)) (w' := w0) rfl rfl rfl (x_move (v := (Value.int .i64 p0)) rfl e0) ?_
  refine wpR_val (v := (Value.int .i64 p1)) (w' := w0) rfl rfl rfl (x_move (v := (Value.int .i64 p1)) rfl e1) ?_
  refine wpR_val (v := (Value.bool (decide (p1 ≤ p0)))) (w' := w0) rfl rfl rfl (x_geq rfl rfl rfl) ?_
  refine wpR_val (v := (Value.bool (decide (p1 ≤ p0)))) (w' := w0) rfl rfl rfl (x_move (v := (Value.bool (decide (p1 ≤ p0)))) rfl rfl) ?_
  refine wpR_joinJ 4 (fun (_ : Unit) ρ => ρ 14 = Value.bool ((decide (p1 ≤ p0)) && (decide (p0 ≤ p2))) ∧ True) (fun _ w => w0 = w) ?_ ?_
  · clear h
    rcases Bool.eq_false_or_eq_true (decide (p1 ≤ p0)) with hc10 | hc10
    · skip
      refine wpR_val (v := (Value.int .i64 p0)) (w' := w0) (wantG rfl rfl rfl hc10) rfl rfl (x_move (v := (Value.int .i64 p0)) rfl e0) ?_
      refine wpR_val (v := (Value.int .i64 p2)) (w' := w0) (wantG rfl rfl rfl hc10) rfl rfl (x_move (v := (Value.int .i64 p2)) rfl e2) ?_
      refine wpR_val (v := (Value.bool (decide (p0 ≤ p2)))) (w' := w0) (wantG rfl rfl rfl hc10) rfl rfl (x_leq rfl rfl rfl) ?_
      refine wpR_val (v := (Value.bool (decide (p0 ≤ p2)))) (w' := w0) rfl rfl rfl (x_pickT (v := (Value.bool (decide (p0 ≤ p2)))) rfl rfl hc10 rfl) ?_
      refine wpR_nil ?_
      exact ⟨(), ⟨(by rw [hc10]; rfl), trivial⟩, rfl⟩
    · skip
      refine wpR_pass (wantN rfl rfl rfl hc10) rfl rfl ?_
      refine wpR_pass (wantN rfl rfl rfl hc10) rfl rfl ?_
      refine wpR_pass (wantN rfl rfl rfl hc10) rfl rfl ?_
      refine wpR_val (v := (Value.bool false)) (w' := w0) rfl rfl rfl (x_pickF (v := (Value.bool false)) rfl rfl hc10 rfl) ?_
      refine wpR_nil ?_
      exact ⟨(), ⟨(by rw [hc10]; rfl), trivial⟩, rfl⟩
  rintro _ ρ wj ⟨e14, -⟩ rfl
  refine wpR_val (v := (Value.bool ((decide (p1 ≤ p0)) && (decide (p0 ≤ p2))))) (w' := w0) rfl rfl rfl (x_assign (v := (Value.bool ((decide (p1 ≤ p0)) && (decide (p0 ≤ p2))))) rfl e14) ?_
  refine wpR_nil ?_
  refine wpC_ret ?_
  exact ⟨.inl rfl, fun a ha => ⟨_, results_rep1 rfl ha rfl, (decide (p1 ≤ p0)) && (decide (p0 ≤ p2)), rfl, h⟩⟩

/-- profile.together -/
def F26 (p0_0 : ByteArray) (p0_1 : Int) (p0_2 : Int) (p0_3 : Int) (p0_4 : Bool) (p0_5 : Int) (p0_6 : Bool) (p0_7 : Bool) (p0_8 : Int) (p0_9 : Int) (p0_10 : Int) (p0_11 : Int) (p0_12 : Sl) (p0_13 : Int) (p0_14 : Int) (p0_15 : Int) (p0_16 : Int) (p0_17 : Bool) (p0_18 : Int) (p0_19 : Int) (p0_20 : Int) (p0_21 : Int) (w0 : World) (K : Bool → World → Prop) : Prop :=
  nw 39 (A38 p0_0 p0_1 p0_2 p0_3 p0_4 p0_5 p0_6 p0_7 p0_8 p0_9 p0_10 p0_11 p0_12 p0_13 p0_14 p0_15 p0_16 p0_17 p0_18 p0_19 p0_20 p0_21) w0 fun b9 w1 =>
  ld (Value.int .i64) ((Addr.mk b9 0 none).add 10) w1 fun x10 =>
  ld (Value.int .i64) ((Addr.mk b9 0 none).add 11) w1 fun x11 =>
  jp (fun J12 => cnd ((decide (x10 = 0)) == (decide (x11 = 0)))
    (
    ld (Value.int .i64) ((Addr.mk b9 0 none).add 10) w1 fun x14 =>
    ld Sl.v ((Addr.mk b9 0 none).add 12) w1 fun x15 =>
    J12 ((decide (x14 = 0)) == (decide ((x15.len : Int) = 0)))
    )
    (
    J12 false
    ))
  fun c16 =>
  K c16 w1
set_option maxRecDepth 100000 in
theorem D26 (p0_0 : ByteArray) (p0_1 : Int) (p0_2 : Int) (p0_3 : Int) (p0_4 : Bool) (p0_5 : Int) (p0_6 : Bool) (p0_7 : Bool) (p0_8 : Int) (p0_9 : Int) (p0_10 : Int) (p0_11 : Int) (p0_12 : Sl) (p0_13 : Int) (p0_14 : Int) (p0_15 : Int) (p0_16 : Int) (p0_17 : Bool) (p0_18 : Int) (p0_19 : Int) (p0_20 : Int) (p0_21 : Int) (w0 : World) (K : Bool → World → Prop) (h : F26 p0_0 p0_1 p0_2 p0_3 p0_4 p0_5 p0_6 p0_7 p0_8 p0_9 p0_10 p0_11 p0_12 p0_13 p0_14 p0_15 p0_16 p0_17 p0_18 p0_19 p0_20 p0_21 w0 K) : callC Try.prog 26 #[(V38 p0_0 p0_1 p0_2 p0_3 p0_4 p0_5 p0_6 p0_7 p0_8 p0_9 p0_10 p0_11 p0_12 p0_13 p0_14 p0_15 p0_16 p0_17 p0_18 p0_19 p0_20 p0_21)] (fun (r : Bool) => (Value.bool r)) w0 K := by
  unfold F26 at h
  refine calls_of_wpC Try.func26 rfl 20 rfl (by simp) ?_
  intro ρ hρ
  have e0 : ρ 0 = (V38 p0_0 p0_1 p0_2 p0_3 p0_4 p0_5 p0_6 p0_7 p0_8 p0_9 p0_10 p0_11 p0_12 p0_13 p0_14 p0_15 p0_16 p0_17 p0_18 p0_19 p0_20 p0_21) := hρ 0
  clear hρ
  refine wpC_seq ?_
  refine wpC_region ?_
  obtain ⟨b9, hb9⟩ : ∃ u, u = w0.heap.size := ⟨_, rfl⟩
  obtain ⟨w1, hw9⟩ : ∃ u, u = w0.alloc (.cells (A38 p0_0 p0_1 p0_2 p0_3 p0_4 p0_5 p0_6 p0_7 p0_8 p0_9 p0_10 p0_11 p0_12 p0_13 p0_14 p0_15 p0_16 p0_17 p0_18 p0_19 p0_20 p0_21) 39) := ⟨_, rfl⟩
  replace h := h b9 w1 hb9 hw9
  refine wpR_val (v := (Value.pointer (some (Addr.mk b9 0 none)))) (w' := w1) rfl rfl rfl ((x_box (v := (V38 p0_0 p0_1 p0_2 p0_3 p0_4 p0_5 p0_6 p0_7 p0_8 p0_9 p0_10 p0_11 p0_12 p0_13 p0_14 p0_15 p0_16 p0_17 p0_18 p0_19 p0_20 p0_21)) rfl e0).trans (by rw [hb9, hw9]; rfl)) ?_
  refine wpR_val (v := (Value.bool false)) (w' := w1) rfl rfl rfl (x_assign (v := (Value.bool false)) rfl rfl) ?_
  refine wpR_nil ?_
  refine wpC_seq ?_
  refine wpC_cut (fun ρ => ρ 1 = (Value.pointer (some (Addr.mk b9 0 none))) ∧ True) ⟨rfl, trivial⟩ ?_
  rintro ρ ⟨e1, -⟩
  refine wpC_region ?_
  refine wpR_val (v := (Value.pointer (some ((Addr.mk b9 0 none).add 10)))) (w' := w1) rfl rfl rfl (x_fieldAddr rfl e1 FA_39_10) ?_
  obtain ⟨x10, q10, h⟩ := h
  refine wpR_val (v := (Value.int .i64 x10)) (w' := w1) rfl rfl rfl (x_load1 rfl rfl SH_3 q10) ?_
  refine wpR_val (v := (Value.bool (decide (x10 = 0)))) (w' := w1) rfl rfl rfl (x_eql rfl rfl rfl) ?_
  refine wpR_val (v := (Value.pointer (some ((Addr.mk b9 0 none).add 11)))) (w' := w1) rfl rfl rfl (x_fieldAddr rfl e1 FA_39_11) ?_
  obtain ⟨x11, q11, h⟩ := h
  refine wpR_val (v := (Value.int .i64 x11)) (w' := w1) rfl rfl rfl (x_load1 rfl rfl SH_3 q11) ?_
  refine wpR_val (v := (Value.bool (decide (x11 = 0)))) (w' := w1) rfl rfl rfl (x_eql rfl rfl rfl) ?_
  refine wpR_val (v := (Value.bool ((decide (x10 = 0)) == (decide (x11 = 0))))) (w' := w1) rfl rfl rfl (x_eqlB rfl rfl rfl isBoolT_4) ?_
  refine wpR_val (v := (Value.bool ((decide (x10 = 0)) == (decide (x11 = 0))))) (w' := w1) rfl rfl rfl (x_move (v := (Value.bool ((decide (x10 = 0)) == (decide (x11 = 0))))) rfl rfl) ?_
  obtain ⟨J12, h, hk⟩ := h
  refine wpR_joinJ 9 (fun x ρ => ρ 19 = Value.bool x ∧ True) (fun x w => J12 x ∧ w1 = w) ?_ ?_
  · clear hk
    rcases Bool.eq_false_or_eq_true ((decide (x10 = 0)) == (decide (x11 = 0))) with hc13 | hc13
    · replace h := h.1 hc13
      refine wpR_val (v := (Value.pointer (some ((Addr.mk b9 0 none).add 10)))) (w' := w1) (wantG rfl rfl rfl hc13) rfl rfl (x_fieldAddr rfl e1 FA_39_10) ?_
      obtain ⟨x14, q14, h⟩ := h
      refine wpR_val (v := (Value.int .i64 x14)) (w' := w1) (wantG rfl rfl rfl hc13) rfl rfl (x_load1 rfl rfl SH_3 q14) ?_
      refine wpR_val (v := (Value.bool (decide (x14 = 0)))) (w' := w1) (wantG rfl rfl rfl hc13) rfl rfl (x_eql rfl rfl rfl) ?_
      refine wpR_val (v := (Value.pointer (some ((Addr.mk b9 0 none).add 12)))) (w' := w1) (wantG rfl rfl rfl hc13) rfl rfl (x_fieldAddr rfl e1 FA_39_12) ?_
      obtain ⟨x15, q15, h⟩ := h
      refine wpR_val (v := (Sl.v x15)) (w' := w1) (wantG rfl rfl rfl hc13) rfl rfl (x_load1 rfl rfl SH_23 q15) ?_
      refine wpR_val (v := (Value.int .i64 (x15.len : Int))) (w' := w1) (wantG rfl rfl rfl hc13) rfl rfl (x_lenS (s := x15) rfl rfl isSliceT_23) ?_
      refine wpR_val (v := (Value.bool (decide ((x15.len : Int) = 0)))) (w' := w1) (wantG rfl rfl rfl hc13) rfl rfl (x_eql rfl rfl rfl) ?_
      refine wpR_val (v := (Value.bool ((decide (x14 = 0)) == (decide ((x15.len : Int) = 0))))) (w' := w1) (wantG rfl rfl rfl hc13) rfl rfl (x_eqlB rfl rfl rfl isBoolT_4) ?_
      refine wpR_val (v := (Value.bool ((decide (x14 = 0)) == (decide ((x15.len : Int) = 0))))) (w' := w1) rfl rfl rfl (x_pickT (v := (Value.bool ((decide (x14 = 0)) == (decide ((x15.len : Int) = 0))))) rfl rfl hc13 rfl) ?_
      refine wpR_nil ?_
      exact ⟨(decide (x14 = 0)) == (decide ((x15.len : Int) = 0)), ⟨rfl, trivial⟩, h, rfl⟩
    · replace h := h.2 hc13
      refine wpR_pass (wantN rfl rfl rfl hc13) rfl rfl ?_
      refine wpR_pass (wantN rfl rfl rfl hc13) rfl rfl ?_
      refine wpR_pass (wantN rfl rfl rfl hc13) rfl rfl ?_
      refine wpR_pass (wantN rfl rfl rfl hc13) rfl rfl ?_
      refine wpR_pass (wantN rfl rfl rfl hc13) rfl rfl ?_
      refine wpR_pass (wantN rfl rfl rfl hc13) rfl rfl ?_
      refine wpR_pass (wantN rfl rfl rfl hc13) rfl rfl ?_
      refine wpR_pass (wantN rfl rfl rfl hc13) rfl rfl ?_
      refine wpR_val (v := (Value.bool false)) (w' := w1) rfl rfl rfl (x_pickF (v := (Value.bool false)) rfl rfl hc13 rfl) ?_
      refine wpR_nil ?_
      exact ⟨false, ⟨rfl, trivial⟩, h, rfl⟩
  clear h
  rintro c16 ρ wj ⟨e19, -⟩ ⟨h, rfl⟩
  replace h := hk c16 h
  clear hk
  refine wpR_val (v := (Value.bool c16)) (w' := w1) rfl rfl rfl (x_assign (v := (Value.bool c16)) rfl e19) ?_
  refine wpR_nil ?_
  refine wpC_ret ?_
  exact ⟨.inl rfl, fun a ha => ⟨_, results_rep1 rfl ha rfl, c16, rfl, h⟩⟩

/-- profile.AtMost$1 -/
def F27 (p0 : ByteArray) (c1 : Addr) (w0 : World) (K : Bool → World → Prop) : Prop :=
  ld Sl.v (c1.add 12) w0 fun x9 =>
  callC Try.prog 21 #[(Sl.v x9), (Value.string p0)] (fun (r : Bool) => (Value.bool r)) w0 fun r10 w1 =>
  K (!r10) w1
set_option maxRecDepth 100000 in
theorem D27 (p0 : ByteArray) (c1 : Addr) (w0 : World) (K : Bool → World → Prop) (h : F27 p0 c1 w0 K) : callC Try.prog 27 #[(Value.string p0), (Value.pointer (some c1))] (fun (r : Bool) => (Value.bool r)) w0 K := by
  unfold F27 at h
  refine calls_of_wpC Try.func27 rfl 9 rfl (by simp) ?_
  intro ρ hρ
  have e0 : ρ 0 = (Value.string p0) := hρ 0
  have e1 : ρ 1 = (Value.pointer (some c1)) := hρ 1
  clear hρ
  refine wpC_seq ?_
  refine wpC_region ?_
  refine wpR_val (v := (Value.bool false)) (w' := w0) rfl rfl rfl (x_assign (v := (Value.bool false)) rfl rfl) ?_
  refine wpR_nil ?_
  refine wpC_seq ?_
  refine wpC_cut (fun ρ => ρ 0 = (Value.string p0) ∧ ρ 1 = (Value.pointer (some c1)) ∧ True) ⟨e0, e1, trivial⟩ ?_
  rintro ρ ⟨e0, e1, -⟩
  refine wpC_region ?_
  refine wpR_val (v := (Value.pointer (some (c1.add 12)))) (w' := w0) rfl rfl rfl (x_fieldAddr rfl e1 FA_39_12) ?_
  obtain ⟨x9, q9, h⟩ := h
  refine wpR_val (v := (Sl.v x9)) (w' := w0) rfl rfl rfl (x_load1 rfl rfl SH_23 q9) ?_
  refine wpR_val (v := (Value.string p0)) (w' := w0) rfl rfl rfl (x_move (v := (Value.string p0)) rfl e0) ?_
  refine wpR_enter rfl rfl rfl (x_call (vs := [(Sl.v x9), (Value.string p0)]) rfl rfl (mapl_cons rfl (mapl_cons rfl mapl_nil)) Try.func21 NN_21 NB_21) (Calls.mono h ?_)
  rintro _ w1 ⟨r10, rfl, h⟩
  refine ⟨_, rfl, ?_⟩
  refine wpR_val (v := (Value.bool (!r10))) (w' := w1) rfl rfl rfl (x_not rfl rfl) ?_
  refine wpR_val (v := (Value.bool (!r10))) (w' := w1) rfl rfl rfl (x_assign (v := (Value.bool (!r10))) rfl rfl) ?_
  refine wpR_nil ?_
  refine wpC_ret ?_
  exact ⟨.inl rfl, fun a ha => ⟨_, results_rep1 rfl ha rfl, !r10, rfl, h⟩⟩

/-- slices.ContainsFunc[[]string,string] -/
def F28 (p0 : Sl) (p1 : Value) (w0 : World) (K : Bool → World → Prop) : Prop :=
  callC Try.prog 32 #[(Sl.v p0), p1] (fun (r : Int) => (Value.int .i64 r)) w0 fun r9 w1 =>
  K (decide (0 ≤ r9)) w1
set_option maxRecDepth 100000 in
theorem D28 (p0 : Sl) (p1 : Value) (w0 : World) (K : Bool → World → Prop) (h : F28 p0 p1 w0 K) : callC Try.prog 28 #[(Sl.v p0), p1] (fun (r : Bool) => (Value.bool r)) w0 K := by
  unfold F28 at h
  refine calls_of_wpC Try.func28 rfl 9 rfl (by simp) ?_
  intro ρ hρ
  have e0 : ρ 0 = (Sl.v p0) := hρ 0
  have e1 : ρ 1 = p1 := hρ 1
  clear hρ
  refine wpC_seq ?_
  refine wpC_region ?_
  refine wpR_val (v := (Value.bool false)) (w' := w0) rfl rfl rfl (x_assign (v := (Value.bool false)) rfl rfl) ?_
  refine wpR_nil ?_
  refine wpC_seq ?_
  refine wpC_cut (fun ρ => ρ 0 = (Sl.v p0) ∧ ρ 1 = p1 ∧ True) ⟨e0, e1, trivial⟩ ?_
  rintro ρ ⟨e0, e1, -⟩
  refine wpC_region ?_
  refine wpR_val (v := (Sl.v p0)) (w' := w0) rfl rfl rfl (x_move (v := (Sl.v p0)) rfl e0) ?_
  refine wpR_val (v := p1) (w' := w0) rfl rfl rfl (x_move (v := p1) rfl e1) ?_
  refine wpR_enter rfl rfl rfl (x_call (vs := [(Sl.v p0), p1]) rfl rfl (mapl_cons rfl (mapl_cons rfl mapl_nil)) Try.func32 NN_32 NB_32) (Calls.mono h ?_)
  rintro _ w1 ⟨r9, rfl, h⟩
  refine ⟨_, rfl, ?_⟩
  refine wpR_val (v := (Value.bool (decide (0 ≤ r9)))) (w' := w1) rfl rfl rfl (x_geq rfl rfl rfl) ?_
  refine wpR_val (v := (Value.bool (decide (0 ≤ r9)))) (w' := w1) rfl rfl rfl (x_assign (v := (Value.bool (decide (0 ≤ r9)))) rfl rfl) ?_
  refine wpR_nil ?_
  refine wpC_ret ?_
  exact ⟨.inl rfl, fun a ha => ⟨_, results_rep1 rfl ha rfl, decide (0 ≤ r9), rfl, h⟩⟩

/-- slices.Index[[]string,string] -/
def F29 (p0 : Sl) (p1 : ByteArray) (w0 : World) (K : Int → World → Prop) : Prop :=
  lp (fun (next9 : Int → World → Prop) l9 w1 =>
    cnd (decide (l9 < (p0.len : Int)))
      (
      ix p0 l9 1 fun p11 =>
      ld Value.string p11 w1 fun x12 =>
      cnd (beqS p1 x12)
        (
        K l9 w1
        )
        (
        next9 (IntKind.i64.wrap (l9 + 1)) w1
        )
      )
      (
      K (-1) w1
      )
  ) 0 w0
set_option maxRecDepth 100000 in
theorem D29 (p0 : Sl) (p1 : ByteArray) (w0 : World) (K : Int → World → Prop) (h : F29 p0 p1 w0 K) : callC Try.prog 29 #[(Sl.v p0), (Value.string p1)] (fun (r : Int) => (Value.int .i64 r)) w0 K := by
  unfold F29 at h
  refine calls_of_wpC Try.func29 rfl 19 rfl (by simp) ?_
  intro ρ hρ
  have e0 : ρ 0 = (Sl.v p0) := hρ 0
  have e1 : ρ 1 = (Value.string p1) := hρ 1
  clear hρ
  refine wpC_seq ?_
  refine wpC_region ?_
  refine wpR_val (v := (Value.int .i64 0)) (w' := w0) rfl rfl rfl (x_assign (v := (Value.int .i64 0)) rfl rfl) ?_
  refine wpR_nil ?_
  refine wpC_seq ?_
  refine wpC_seq ?_
  refine wpC_cut (fun ρ => ρ 0 = (Sl.v p0) ∧ ρ 1 = (Value.string p1) ∧ True) ⟨e0, e1, trivial⟩ ?_
  rintro ρ ⟨e0, e1, -⟩
  refine wpC_region ?_
  refine wpR_val (v := (Sl.v p0)) (w' := w0) rfl rfl rfl (x_move (v := (Sl.v p0)) rfl e0) ?_
  refine wpR_val (v := (Value.int .i64 (p0.len : Int))) (w' := w0) rfl rfl rfl (x_lenS (s := p0) rfl rfl isSliceT_23) ?_
  refine wpR_val (v := (Value.int .i64 0)) (w' := w0) rfl rfl rfl (x_move (v := (Value.int .i64 0)) rfl rfl) ?_
  refine wpR_nil ?_
  refine wpC_block ?_
  obtain ⟨I9, μ9, hI9, hr9⟩ := h
  refine wpC_loop (fun (x : Int) ρ => ρ 8 = (Value.int .i64 x) ∧ ρ 0 = (Sl.v p0) ∧ ρ 1 = (Value.string p1) ∧ ρ 7 = (Value.int .i64 (p0.len : Int)) ∧ True) I9 μ9 0 ⟨rfl, e0, e1, rfl, trivial⟩ hI9 ?_
  rintro l9 ρ w1 ⟨e8, e0, e1, e7, -⟩ h
  replace h := hr9 l9 w1 h
  clear hr9 hI9
  refine wpC_seq ?_
  refine wpC_region ?_
  refine wpR_val (v := (Value.bool (decide (l9 < (p0.len : Int))))) (w' := w1) rfl rfl rfl (x_lss rfl e8 e7) ?_
  refine wpR_nil ?_
  refine wpC_seq ?_
  refine wpC_cond (b := decide (l9 < (p0.len : Int))) rfl (fun hc10 => ?_) (fun hc10 => ?_)
  · replace h := h.1 hc10
    refine wpC_skip ?_
    refine wpC_seq ?_
    refine wpC_block ?_
    refine wpC_seq ?_
    refine wpC_cut (fun ρ => ρ 0 = (Sl.v p0) ∧ ρ 1 = (Value.string p1) ∧ ρ 7 = (Value.int .i64 (p0.len : Int)) ∧ ρ 8 = (Value.int .i64 l9) ∧ True) ⟨e0, e1, e7, e8, trivial⟩ ?_
    rintro ρ ⟨e0, e1, e7, e8, -⟩
    refine wpC_region ?_
    refine wpR_val (v := (Value.int .i64 l9)) (w' := w1) rfl rfl rfl (x_move (v := (Value.int .i64 l9)) rfl e8) ?_
    refine wpR_val (v := (Value.int .i64 l9)) (w' := w1) rfl rfl rfl (x_assign (v := (Value.int .i64 l9)) rfl rfl) ?_
    refine wpR_nil ?_
    refine wpC_seq ?_
    refine wpC_cut (fun ρ => ρ 0 = (Sl.v p0) ∧ ρ 1 = (Value.string p1) ∧ ρ 5 = (Value.int .i64 l9) ∧ ρ 7 = (Value.int .i64 (p0.len : Int)) ∧ ρ 8 = (Value.int .i64 l9) ∧ True) ⟨e0, e1, rfl, e7, e8, trivial⟩ ?_
    rintro ρ ⟨e0, e1, e5, e7, e8, -⟩
    refine wpC_region ?_
    refine wpR_val (v := (Value.string p1)) (w' := w1) rfl rfl rfl (x_move (v := (Value.string p1)) rfl e1) ?_
    refine wpR_val (v := (Sl.v p0)) (w' := w1) rfl rfl rfl (x_move (v := (Sl.v p0)) rfl e0) ?_
    refine wpR_val (v := (Value.int .i64 l9)) (w' := w1) rfl rfl rfl (x_move (v := (Value.int .i64 l9)) rfl e5) ?_
    obtain ⟨q11, z11, r11, h⟩ := h
    generalize hp11 : z11.add ((l9 : Int).toNat * 1) = p11 at h
    refine wpR_val (v := (Value.pointer (some p11))) (w' := w1) rfl rfl rfl ((x_indexAddr (s := p0) rfl rfl rfl ES_23 q11 r11).trans (by rw [hp11])) ?_
    obtain ⟨x12, q12, h⟩ := h
    refine wpR_val (v := (Value.string x12)) (w' := w1) rfl rfl rfl (x_load1 rfl rfl SH_9 q12) ?_
    refine wpR_val (v := (Value.bool (beqS p1 x12))) (w' := w1) rfl rfl rfl (x_eqlS rfl rfl rfl) ?_
    refine wpR_nil ?_
    refine wpC_cond (b := beqS p1 x12) rfl (fun hc13 => ?_) (fun hc13 => ?_)
    · replace h := h.1 hc13
      refine wpC_seq ?_
      refine wpC_cut (fun ρ => ρ 5 = (Value.int .i64 l9) ∧ True) ⟨e5, trivial⟩ ?_
      rintro ρ ⟨e5, -⟩
      refine wpC_region ?_
      refine wpR_val (v := (Value.int .i64 l9)) (w' := w1) rfl rfl rfl (x_move (v := (Value.int .i64 l9)) rfl e5) ?_
      refine wpR_val (v := (Value.int .i64 l9)) (w' := w1) rfl rfl rfl (x_assign (v := (Value.int .i64 l9)) rfl rfl) ?_
      refine wpR_nil ?_
      refine wpC_ret ?_
      exact ⟨.inl rfl, fun a ha => ⟨_, results_rep1 rfl ha rfl, l9, rfl, h⟩⟩
    · replace h := h.2 hc13
      refine wpC_skip ?_
      refine wpC_cut (fun ρ => ρ 0 = (Sl.v p0) ∧ ρ 1 = (Value.string p1) ∧ ρ 7 = (Value.int .i64 (p0.len : Int)) ∧ ρ 8 = (Value.int .i64 l9) ∧ True) ⟨e0, e1, e7, e8, trivial⟩ ?_
      rintro ρ ⟨e0, e1, e7, e8, -⟩
      refine wpC_region ?_
      refine wpR_val (v := (Value.int .i64 (IntKind.i64.wrap (l9 + 1)))) (w' := w1) rfl rfl rfl (x_add rfl e8 rfl) ?_
      refine wpR_val (v := (Value.int .i64 (IntKind.i64.wrap (l9 + 1)))) (w' := w1) rfl rfl rfl (x_move (v := (Value.int .i64 (IntKind.i64.wrap (l9 + 1)))) rfl rfl) ?_
      refine wpR_nil ?_
      exact ⟨IntKind.i64.wrap (l9 + 1), ⟨rfl, e0, e1, e7, trivial⟩, h⟩
  · replace h := h.2 hc10
    refine wpC_exit ?_
    refine wpC_seq ?_
    refine wpC_cut (fun ρ => True) trivial ?_
    rintro ρ -
    refine wpC_region ?_
    refine wpR_val (v := (Value.int .i64 (-1))) (w' := w1) rfl rfl rfl (x_assign (v := (Value.int .i64 (-1))) rfl rfl) ?_
    refine wpR_nil ?_
    refine wpC_ret ?_
    exact ⟨.inl rfl, fun a ha => ⟨_, results_rep1 rfl ha rfl, (-1), rfl, h⟩⟩

/-- lex.Word -/
def F30 (p0 : ByteArray) (w0 : World) (K : Bool → World → Prop) : Prop :=
  jn (fun J9 => cnd (beqS p0 (ByteArray.mk #[]))
    (
    J9 true w0
    )
    (
    rn Try.prog (Instr.index 9 (Value.string p0) (Value.int .i64 0)) (fun (r : Int) => (Value.int .u8 r)) w0 fun r11 w1 =>
    callC Try.prog 33 #[(Value.int .u8 r11)] (fun (r : Bool) => (Value.bool r)) w1 fun r12 w2 =>
    J9 (!r12) w2
    ))
  fun c13 w3 =>
  cnd (c13 || (decide (20 < (p0.size : Int))))
    (
    K false w3
    )
    (
    callC Try.prog 34 #[(Value.string p0), (Value.func (.func 35) #[] #[])] (fun (r : Int) => (Value.int .i64 r)) w3 fun r17 w4 =>
    K (decide (r17 = (p0.size : Int))) w4
    )
set_option maxRecDepth 100000 in
theorem D30 (p0 : ByteArray) (w0 : World) (K : Bool → World → Prop) (h : F30 p0 w0 K) : callC Try.prog 30 #[(Value.string p0)] (fun (r : Bool) => (Value.bool r)) w0 K := by
  unfold F30 at h
  refine calls_of_wpC Try.func30 rfl 21 rfl (by simp) ?_
  intro ρ hρ
  have e0 : ρ 0 = (Value.string p0) := hρ 0
  clear hρ
  refine wpC_seq ?_
  refine wpC_region ?_
  refine wpR_val (v := (Value.bool false)) (w' := w0) rfl rfl rfl (x_assign (v := (Value.bool false)) rfl rfl) ?_
  refine wpR_nil ?_
  refine wpC_seq ?_
  refine wpC_seq ?_
  refine wpC_cut (fun ρ => ρ 0 = (Value.string p0) ∧ True) ⟨e0, trivial⟩ ?_
  rintro ρ ⟨e0, -⟩
  refine wpC_region ?_
  refine wpR_val (v := (Value.string p0)) (w' := w0) rfl rfl rfl (x_move (v := (Value.string p0)) rfl e0) ?_
  refine wpR_val (v := (Value.bool (beqS p0 (ByteArray.mk #[])))) (w' := w0) rfl rfl rfl (x_eqlS rfl rfl rfl) ?_
  refine wpR_val (v := (Value.bool (beqS p0 (ByteArray.mk #[])))) (w' := w0) rfl rfl rfl (x_move (v := (Value.bool (beqS p0 (ByteArray.mk #[])))) rfl rfl) ?_
  obtain ⟨J9, h, hk⟩ := h
  refine wpR_joinJ 5 (fun x ρ => ρ 10 = Value.bool x ∧ ρ 0 = (Value.string p0) ∧ True) (J9) ?_ ?_
  · clear hk
    rcases Bool.eq_false_or_eq_true (beqS p0 (ByteArray.mk #[])) with hc10 | hc10
    · replace h := h.1 hc10
      refine wpR_pass (wantN rfl rfl rfl hc10) rfl rfl ?_
      refine wpR_pass (wantN rfl rfl rfl hc10) rfl rfl ?_
      refine wpR_pass (wantN rfl rfl rfl hc10) rfl rfl ?_
      refine wpR_pass (wantN rfl rfl rfl hc10) rfl rfl ?_
      refine wpR_val (v := (Value.bool true)) (w' := w0) rfl rfl rfl (x_pickT (v := (Value.bool true)) rfl rfl hc10 rfl) ?_
      refine wpR_nil ?_
      exact ⟨true, ⟨rfl, e0, trivial⟩, h⟩
    · replace h := h.2 hc10
      refine wpR_val (v := (Value.string p0)) (w' := w0) (wantG rfl rfl rfl hc10) rfl rfl (x_move (v := (Value.string p0)) rfl e0) ?_
      obtain ⟨r11, w1, q11, h⟩ := h
      refine wpR_val (v := (Value.int .u8 r11)) (w' := w1) (wantG rfl rfl rfl hc10) rfl rfl (x_index rfl rfl rfl q11) ?_
      refine wpR_enter (wantG rfl rfl rfl hc10) rfl rfl (x_call (vs := [(Value.int .u8 r11)]) rfl rfl (mapl_cons rfl mapl_nil) Try.func33 NN_33 NB_33) (Calls.mono h ?_)
      rintro _ w2 ⟨r12, rfl, h⟩
      refine ⟨_, rfl, ?_⟩
      refine wpR_val (v := (Value.bool (!r12))) (w' := w2) (wantG rfl rfl rfl hc10) rfl rfl (x_not rfl rfl) ?_
      refine wpR_val (v := (Value.bool (!r12))) (w' := w2) rfl rfl rfl (x_pickF (v := (Value.bool (!r12))) rfl rfl hc10 rfl) ?_
      refine wpR_nil ?_
      exact ⟨!r12, ⟨rfl, e0, trivial⟩, h⟩
  clear h
  rintro c13 ρ w3 ⟨e10, e0, -⟩ h
  replace h := hk c13 w3 h
  clear hk
  refine wpR_val (v := (Value.bool c13)) (w' := w3) rfl rfl rfl (x_move (v := (Value.bool c13)) rfl e10) ?_
  refine wpR_joinJ 4 (fun (_ : Unit) ρ => ρ 15 = Value.bool (c13 || (decide (20 < (p0.size : Int)))) ∧ ρ 0 = (Value.string p0) ∧ True) (fun _ w => w3 = w) ?_ ?_
  · clear h
    rcases Bool.eq_false_or_eq_true (c13) with hc15 | hc15
    · skip
      refine wpR_pass (wantN rfl rfl rfl hc15) rfl rfl ?_
      refine wpR_pass (wantN rfl rfl rfl hc15) rfl rfl ?_
      refine wpR_pass (wantN rfl rfl rfl hc15) rfl rfl ?_
      refine wpR_val (v := (Value.bool true)) (w' := w3) rfl rfl rfl (x_pickT (v := (Value.bool true)) rfl rfl hc15 rfl) ?_
      refine wpR_nil ?_
      exact ⟨(), ⟨(by rw [hc15]; rfl), e0, trivial⟩, rfl⟩
    · skip
      refine wpR_val (v := (Value.string p0)) (w' := w3) (wantG rfl rfl rfl hc15) rfl rfl (x_move (v := (Value.string p0)) rfl e0) ?_
      refine wpR_val (v := (Value.int .i64 (p0.size : Int))) (w' := w3) (wantG rfl rfl rfl hc15) rfl rfl (x_lenStr rfl rfl isStrT_9) ?_
      refine wpR_val (v := (Value.bool (decide (20 < (p0.size : Int))))) (w' := w3) (wantG rfl rfl rfl hc15) rfl rfl (x_gtr rfl rfl rfl) ?_
      refine wpR_val (v := (Value.bool (decide (20 < (p0.size : Int))))) (w' := w3) rfl rfl rfl (x_pickF (v := (Value.bool (decide (20 < (p0.size : Int))))) rfl rfl hc15 rfl) ?_
      refine wpR_nil ?_
      exact ⟨(), ⟨(by rw [hc15]; rfl), e0, trivial⟩, rfl⟩
  rintro _ ρ wj ⟨e15, e0, -⟩ rfl
  refine wpR_nil ?_
  refine wpC_cond (b := c13 || (decide (20 < (p0.size : Int)))) e15 (fun hc16 => ?_) (fun hc16 => ?_)
  · replace h := h.1 hc16
    refine wpC_seq ?_
    refine wpC_region ?_
    refine wpR_val (v := (Value.bool false)) (w' := w3) rfl rfl rfl (x_assign (v := (Value.bool false)) rfl rfl) ?_
    refine wpR_nil ?_
    refine wpC_ret ?_
    exact ⟨.inl rfl, fun a ha => ⟨_, results_rep1 rfl ha rfl, false, rfl, h⟩⟩
  · replace h := h.2 hc16
    refine wpC_skip ?_
    refine wpC_seq ?_
    refine wpC_region ?_
    refine wpR_val (v := (Value.string p0)) (w' := w3) rfl rfl rfl (x_move (v := (Value.string p0)) rfl e0) ?_
    refine wpR_enter rfl rfl rfl (x_call (vs := [(Value.string p0), (Value.func (.func 35) #[] #[])]) rfl rfl (mapl_cons rfl (mapl_cons rfl mapl_nil)) Try.func34 NN_34 NB_34) (Calls.mono h ?_)
    rintro _ w4 ⟨r17, rfl, h⟩
    refine ⟨_, rfl, ?_⟩
    refine wpR_val (v := (Value.string p0)) (w' := w4) rfl rfl rfl (x_move (v := (Value.string p0)) rfl e0) ?_
    refine wpR_val (v := (Value.int .i64 (p0.size : Int))) (w' := w4) rfl rfl rfl (x_lenStr rfl rfl isStrT_9) ?_
    refine wpR_val (v := (Value.bool (decide (r17 = (p0.size : Int))))) (w' := w4) rfl rfl rfl (x_eql rfl rfl rfl) ?_
    refine wpR_val (v := (Value.bool (decide (r17 = (p0.size : Int))))) (w' := w4) rfl rfl rfl (x_assign (v := (Value.bool (decide (r17 = (p0.size : Int))))) rfl rfl) ?_
    refine wpR_nil ?_
    refine wpC_ret ?_
    exact ⟨.inl rfl, fun a ha => ⟨_, results_rep1 rfl ha rfl, decide (r17 = (p0.size : Int)), rfl, h⟩⟩

/-- syntax.Right$1 -/
def F31 (p0 : ByteArray) (w0 : World) (K : Bool → World → Prop) : Prop :=
  callC Try.prog 30 #[(Value.string p0)] (fun (r : Bool) => (Value.bool r)) w0 fun r9 w1 =>
  K (!r9) w1
set_option maxRecDepth 100000 in
theorem D31 (p0 : ByteArray) (w0 : World) (K : Bool → World → Prop) (h : F31 p0 w0 K) : callC Try.prog 31 #[(Value.string p0)] (fun (r : Bool) => (Value.bool r)) w0 K := by
  unfold F31 at h
  refine calls_of_wpC Try.func31 rfl 6 rfl (by simp) ?_
  intro ρ hρ
  have e0 : ρ 0 = (Value.string p0) := hρ 0
  clear hρ
  refine wpC_seq ?_
  refine wpC_region ?_
  refine wpR_val (v := (Value.bool false)) (w' := w0) rfl rfl rfl (x_assign (v := (Value.bool false)) rfl rfl) ?_
  refine wpR_nil ?_
  refine wpC_seq ?_
  refine wpC_cut (fun ρ => ρ 0 = (Value.string p0) ∧ True) ⟨e0, trivial⟩ ?_
  rintro ρ ⟨e0, -⟩
  refine wpC_region ?_
  refine wpR_val (v := (Value.string p0)) (w' := w0) rfl rfl rfl (x_move (v := (Value.string p0)) rfl e0) ?_
  refine wpR_enter rfl rfl rfl (x_call (vs := [(Value.string p0)]) rfl rfl (mapl_cons rfl mapl_nil) Try.func30 NN_30 NB_30) (Calls.mono h ?_)
  rintro _ w1 ⟨r9, rfl, h⟩
  refine ⟨_, rfl, ?_⟩
  refine wpR_val (v := (Value.bool (!r9))) (w' := w1) rfl rfl rfl (x_not rfl rfl) ?_
  refine wpR_val (v := (Value.bool (!r9))) (w' := w1) rfl rfl rfl (x_assign (v := (Value.bool (!r9))) rfl rfl) ?_
  refine wpR_nil ?_
  refine wpC_ret ?_
  exact ⟨.inl rfl, fun a ha => ⟨_, results_rep1 rfl ha rfl, !r9, rfl, h⟩⟩

/-- slices.IndexFunc[[]string,string] -/
def F32 (p0 : Sl) (p1 : Value) (w0 : World) (K : Int → World → Prop) : Prop :=
  lp (fun (next9 : Int → World → Prop) l9 w1 =>
    cnd (decide (l9 < (p0.len : Int)))
      (
      ix p0 l9 1 fun p11 =>
      ld Value.string p11 w1 fun x12 =>
      cv Try.prog p1 [(Value.string x12)] (fun (r : Bool) => (Value.bool r)) w1 fun r13 w2 =>
      cnd (r13)
        (
        K l9 w2
        )
        (
        next9 (IntKind.i64.wrap (l9 + 1)) w2
        )
      )
      (
      K (-1) w1
      )
  ) 0 w0
set_option maxRecDepth 100000 in
theorem D32 (p0 : Sl) (p1 : Value) (w0 : World) (K : Int → World → Prop) (h : F32 p0 p1 w0 K) : callC Try.prog 32 #[(Sl.v p0), p1] (fun (r : Int) => (Value.int .i64 r)) w0 K := by
  unfold F32 at h
  refine calls_of_wpC Try.func32 rfl 19 rfl (by simp) ?_
  intro ρ hρ
  have e0 : ρ 0 = (Sl.v p0) := hρ 0
  have e1 : ρ 1 = p1 := hρ 1
  clear hρ
  refine wpC_seq ?_
  refine wpC_region ?_
  refine wpR_val (v := (Value.int .i64 0)) (w' := w0) rfl rfl rfl (x_assign (v := (Value.int .i64 0)) rfl rfl) ?_
  refine wpR_nil ?_
  refine wpC_seq ?_
  refine wpC_seq ?_
  refine wpC_cut (fun ρ => ρ 0 = (Sl.v p0) ∧ ρ 1 = p1 ∧ True) ⟨e0, e1, trivial⟩ ?_
  rintro ρ ⟨e0, e1, -⟩
  refine wpC_region ?_
  refine wpR_val (v := (Sl.v p0)) (w' := w0) rfl rfl rfl (x_move (v := (Sl.v p0)) rfl e0) ?_
  refine wpR_val (v := (Value.int .i64 (p0.len : Int))) (w' := w0) rfl rfl rfl (x_lenS (s := p0) rfl rfl isSliceT_23) ?_
  refine wpR_val (v := (Value.int .i64 0)) (w' := w0) rfl rfl rfl (x_move (v := (Value.int .i64 0)) rfl rfl) ?_
  refine wpR_nil ?_
  refine wpC_block ?_
  obtain ⟨I9, μ9, hI9, hr9⟩ := h
  refine wpC_loop (fun (x : Int) ρ => ρ 8 = (Value.int .i64 x) ∧ ρ 0 = (Sl.v p0) ∧ ρ 1 = p1 ∧ ρ 7 = (Value.int .i64 (p0.len : Int)) ∧ True) I9 μ9 0 ⟨rfl, e0, e1, rfl, trivial⟩ hI9 ?_
  rintro l9 ρ w1 ⟨e8, e0, e1, e7, -⟩ h
  replace h := hr9 l9 w1 h
  clear hr9 hI9
  refine wpC_seq ?_
  refine wpC_region ?_
  refine wpR_val (v := (Value.bool (decide (l9 < (p0.len : Int))))) (w' := w1) rfl rfl rfl (x_lss rfl e8 e7) ?_
  refine wpR_nil ?_
  refine wpC_seq ?_
  refine wpC_cond (b := decide (l9 < (p0.len : Int))) rfl (fun hc10 => ?_) (fun hc10 => ?_)
  · replace h := h.1 hc10
    refine wpC_skip ?_
    refine wpC_seq ?_
    refine wpC_block ?_
    refine wpC_seq ?_
    refine wpC_cut (fun ρ => ρ 0 = (Sl.v p0) ∧ ρ 1 = p1 ∧ ρ 7 = (Value.int .i64 (p0.len : Int)) ∧ ρ 8 = (Value.int .i64 l9) ∧ True) ⟨e0, e1, e7, e8, trivial⟩ ?_
    rintro ρ ⟨e0, e1, e7, e8, -⟩
    refine wpC_region ?_
    refine wpR_val (v := (Value.int .i64 l9)) (w' := w1) rfl rfl rfl (x_move (v := (Value.int .i64 l9)) rfl e8) ?_
    refine wpR_val (v := (Value.int .i64 l9)) (w' := w1) rfl rfl rfl (x_assign (v := (Value.int .i64 l9)) rfl rfl) ?_
    refine wpR_nil ?_
    refine wpC_seq ?_
    refine wpC_cut (fun ρ => ρ 0 = (Sl.v p0) ∧ ρ 1 = p1 ∧ ρ 5 = (Value.int .i64 l9) ∧ ρ 7 = (Value.int .i64 (p0.len : Int)) ∧ ρ 8 = (Value.int .i64 l9) ∧ True) ⟨e0, e1, rfl, e7, e8, trivial⟩ ?_
    rintro ρ ⟨e0, e1, e5, e7, e8, -⟩
    refine wpC_region ?_
    refine wpR_val (v := p1) (w' := w1) rfl rfl rfl (x_move (v := p1) rfl e1) ?_
    refine wpR_val (v := (Sl.v p0)) (w' := w1) rfl rfl rfl (x_move (v := (Sl.v p0)) rfl e0) ?_
    refine wpR_val (v := (Value.int .i64 l9)) (w' := w1) rfl rfl rfl (x_move (v := (Value.int .i64 l9)) rfl e5) ?_
    obtain ⟨q11, z11, r11, h⟩ := h
    generalize hp11 : z11.add ((l9 : Int).toNat * 1) = p11 at h
    refine wpR_val (v := (Value.pointer (some p11))) (w' := w1) rfl rfl rfl ((x_indexAddr (s := p0) rfl rfl rfl ES_23 q11 r11).trans (by rw [hp11])) ?_
    obtain ⟨x12, q12, h⟩ := h
    refine wpR_val (v := (Value.string x12)) (w' := w1) rfl rfl rfl (x_load1 rfl rfl SH_9 q12) ?_
    obtain ⟨f13, fi13, ca13, fn13, qv13, qf13, qn13, qb13, h⟩ := h
    refine wpR_enter rfl rfl rfl (x_callv (vs := [(Value.string x12)]) rfl ((show _ = p1 from rfl).trans qv13) (mapl_cons rfl mapl_nil) qf13 qn13 qb13) (Calls.mono h ?_)
    rintro _ w2 ⟨r13, rfl, h⟩
    refine ⟨_, rfl, ?_⟩
    refine wpR_nil ?_
    refine wpC_cond (b := r13) rfl (fun hc14 => ?_) (fun hc14 => ?_)
    · replace h := h.1 hc14
      refine wpC_seq ?_
      refine wpC_cut (fun ρ => ρ 5 = (Value.int .i64 l9) ∧ True) ⟨e5, trivial⟩ ?_
      rintro ρ ⟨e5, -⟩
      refine wpC_region ?_
      refine wpR_val (v := (Value.int .i64 l9)) (w' := w2) rfl rfl rfl (x_move (v := (Value.int .i64 l9)) rfl e5) ?_
      refine wpR_val (v := (Value.int .i64 l9)) (w' := w2) rfl rfl rfl (x_assign (v := (Value.int .i64 l9)) rfl rfl) ?_
      refine wpR_nil ?_
      refine wpC_ret ?_
      exact ⟨.inl rfl, fun a ha => ⟨_, results_rep1 rfl ha rfl, l9, rfl, h⟩⟩
    · replace h := h.2 hc14
      refine wpC_skip ?_
      refine wpC_cut (fun ρ => ρ 0 = (Sl.v p0) ∧ ρ 1 = p1 ∧ ρ 7 = (Value.int .i64 (p0.len : Int)) ∧ ρ 8 = (Value.int .i64 l9) ∧ True) ⟨e0, e1, e7, e8, trivial⟩ ?_
      rintro ρ ⟨e0, e1, e7, e8, -⟩
      refine wpC_region ?_
      refine wpR_val (v := (Value.int .i64 (IntKind.i64.wrap (l9 + 1)))) (w' := w2) rfl rfl rfl (x_add rfl e8 rfl) ?_
      refine wpR_val (v := (Value.int .i64 (IntKind.i64.wrap (l9 + 1)))) (w' := w2) rfl rfl rfl (x_move (v := (Value.int .i64 (IntKind.i64.wrap (l9 + 1)))) rfl rfl) ?_
      refine wpR_nil ?_
      exact ⟨IntKind.i64.wrap (l9 + 1), ⟨rfl, e0, e1, e7, trivial⟩, h⟩
  · replace h := h.2 hc10
    refine wpC_exit ?_
    refine wpC_seq ?_
    refine wpC_cut (fun ρ => True) trivial ?_
    rintro ρ -
    refine wpC_region ?_
    refine wpR_val (v := (Value.int .i64 (-1))) (w' := w1) rfl rfl rfl (x_assign (v := (Value.int .i64 (-1))) rfl rfl) ?_
    refine wpR_nil ?_
    refine wpC_ret ?_
    exact ⟨.inl rfl, fun a ha => ⟨_, results_rep1 rfl ha rfl, (-1), rfl, h⟩⟩

/-- lex.letter -/
def F33 (p0 : Int) (w0 : World) (K : Bool → World → Prop) : Prop :=
  K ((decide (97 ≤ p0)) && (decide (p0 ≤ 122))) w0
set_option maxRecDepth 100000 in
theorem D33 (p0 : Int) (w0 : World) (K : Bool → World → Prop) (h : F33 p0 w0 K) : callC Try.prog 33 #[(Value.int .u8 p0)] (fun (r : Bool) => (Value.bool r)) w0 K := by
  unfold F33 at h
  refine calls_of_wpC Try.func33 rfl 9 rfl (by simp) ?_
  intro ρ hρ
  have e0 : ρ 0 = (Value.int .u8 p0) := hρ 0
  clear hρ
  refine wpC_seq ?_
  refine wpC_region ?_
  refine wpR_val (v := (Value.bool false)) (w' := w0) rfl rfl rfl (x_assign (v := (Value.bool false)) rfl rfl) ?_
  refine wpR_nil ?_
  refine wpC_seq ?_
  refine wpC_cut (fun ρ => ρ 0 = (Value.int .u8 p0) ∧ True) ⟨e0, trivial⟩ ?_
  rintro ρ ⟨e0, -⟩
  refine wpC_region ?_
  refine wpR_val (v := (Value.int .u8 p0)) (w' := w0) rfl rfl rfl (x_move (v := (Value.int .u8 p0)) rfl e0) ?_
  refine wpR_val (v := (Value.bool (decide (97 ≤ p0)))) (w' := w0) rfl rfl rfl (x_geq rfl rfl rfl) ?_
  refine wpR_val (v := (Value.bool (decide (97 ≤ p0)))) (w' := w0) rfl rfl rfl (x_move (v := (Value.bool (decide (97 ≤ p0)))) rfl rfl) ?_
  refine wpR_joinJ 3 (fun (_ : Unit) ρ => ρ 8 = Value.bool ((decide (97 ≤ p0)) && (decide (p0 ≤ 122))) ∧ True) (fun _ w => w0 = w) ?_ ?_
  · clear h
    rcases Bool.eq_false_or_eq_true (decide (97 ≤ p0)) with hc10 | hc10
    · skip
      refine wpR_val (v := (Value.int .u8 p0)) (w' := w0) (wantG rfl rfl rfl hc10) rfl rfl (x_move (v := (Value.int .u8 p0)) rfl e0) ?_
      refine wpR_val (v := (Value.bool (decide (p0 ≤ 122)))) (w' := w0) (wantG rfl rfl rfl hc10) rfl rfl (x_leq rfl rfl rfl) ?_
      refine wpR_val (v := (Value.bool (decide (p0 ≤ 122)))) (w' := w0) rfl rfl rfl (x_pickT (v := (Value.bool (decide (p0 ≤ 122)))) rfl rfl hc10 rfl) ?_
      refine wpR_nil ?_
      exact ⟨(), ⟨(by rw [hc10]; rfl), trivial⟩, rfl⟩
    · skip
      refine wpR_pass (wantN rfl rfl rfl hc10) rfl rfl ?_
      refine wpR_pass (wantN rfl rfl rfl hc10) rfl rfl ?_
      refine wpR_val (v := (Value.bool false)) (w' := w0) rfl rfl rfl (x_pickF (v := (Value.bool false)) rfl rfl hc10 rfl) ?_
      refine wpR_nil ?_
      exact ⟨(), ⟨(by rw [hc10]; rfl), trivial⟩, rfl⟩
  rintro _ ρ wj ⟨e8, -⟩ rfl
  refine wpR_val (v := (Value.bool ((decide (97 ≤ p0)) && (decide (p0 ≤ 122))))) (w' := w0) rfl rfl rfl (x_assign (v := (Value.bool ((decide (97 ≤ p0)) && (decide (p0 ≤ 122))))) rfl e8) ?_
  refine wpR_nil ?_
  refine wpC_ret ?_
  exact ⟨.inl rfl, fun a ha => ⟨_, results_rep1 rfl ha rfl, (decide (97 ≤ p0)) && (decide (p0 ≤ 122)), rfl, h⟩⟩

/-- lex.span -/
def F34 (p0 : ByteArray) (p1 : Value) (w0 : World) (K : Int → World → Prop) : Prop :=
  lp (fun (next9 : Int → World → Prop) l9 w1 =>
    jn (fun J10 => cnd (decide (l9 < (p0.size : Int)))
      (
      rn Try.prog (Instr.index 9 (Value.string p0) (Value.int .i64 l9)) (fun (r : Int) => (Value.int .u8 r)) w1 fun r12 w2 =>
      cv Try.prog p1 [(Value.int .u8 r12)] (fun (r : Bool) => (Value.bool r)) w2 fun r13 w3 =>
      J10 r13 w3
      )
      (
      J10 false w1
      ))
    fun c14 w4 =>
    cnd (c14)
      (
      next9 (IntKind.i64.wrap (l9 + 1)) w4
      )
      (
      K l9 w4
      )
  ) 0 w0
set_option maxRecDepth 100000 in
theorem D34 (p0 : ByteArray) (p1 : Value) (w0 : World) (K : Int → World → Prop) (h : F34 p0 p1 w0 K) : callC Try.prog 34 #[(Value.string p0), p1] (fun (r : Int) => (Value.int .i64 r)) w0 K := by
  unfold F34 at h
  refine calls_of_wpC Try.func34 rfl 20 rfl (by simp) ?_
  intro ρ hρ
  have e0 : ρ 0 = (Value.string p0) := hρ 0
  have e1 : ρ 1 = p1 := hρ 1
  clear hρ
  refine wpC_seq ?_
  refine wpC_region ?_
  refine wpR_val (v := (Value.int .i64 0)) (w' := w0) rfl rfl rfl (x_assign (v := (Value.int .i64 0)) rfl rfl) ?_
  refine wpR_nil ?_
  refine wpC_seq ?_
  refine wpC_cut (fun ρ => ρ 0 = (Value.string p0) ∧ ρ 1 = p1 ∧ True) ⟨e0, e1, trivial⟩ ?_
  rintro ρ ⟨e0, e1, -⟩
  refine wpC_region ?_
  refine wpR_val (v := (Value.int .i64 0)) (w' := w0) rfl rfl rfl (x_assign (v := (Value.int .i64 0)) rfl rfl) ?_
  refine wpR_nil ?_
  refine wpC_seq ?_
  refine wpC_block ?_
  obtain ⟨I9, μ9, hI9, hr9⟩ := h
  refine wpC_loop (fun (x : Int) ρ => ρ 5 = (Value.int .i64 x) ∧ ρ 0 = (Value.string p0) ∧ ρ 1 = p1 ∧ True) I9 μ9 0 ⟨rfl, e0, e1, trivial⟩ hI9 ?_
  rintro l9 ρ w1 ⟨e5, e0, e1, -⟩ h
  replace h := hr9 l9 w1 h
  clear hr9 hI9
  refine wpC_seq ?_
  refine wpC_seq ?_
  refine wpC_region ?_
  refine wpR_val (v := (Value.int .i64 l9)) (w' := w1) rfl rfl rfl (x_move (v := (Value.int .i64 l9)) rfl e5) ?_
  refine wpR_val (v := (Value.string p0)) (w' := w1) rfl rfl rfl (x_move (v := (Value.string p0)) rfl e0) ?_
  refine wpR_val (v := (Value.int .i64 (p0.size : Int))) (w' := w1) rfl rfl rfl (x_lenStr rfl rfl isStrT_9) ?_
  refine wpR_val (v := (Value.bool (decide (l9 < (p0.size : Int))))) (w' := w1) rfl rfl rfl (x_lss rfl rfl rfl) ?_
  refine wpR_val (v := (Value.bool (decide (l9 < (p0.size : Int))))) (w' := w1) rfl rfl rfl (x_move (v := (Value.bool (decide (l9 < (p0.size : Int))))) rfl rfl) ?_
  obtain ⟨J10, h, hk⟩ := h
  refine wpR_joinJ 6 (fun x ρ => ρ 16 = Value.bool x ∧ ρ 0 = (Value.string p0) ∧ ρ 1 = p1 ∧ ρ 5 = (Value.int .i64 l9) ∧ True) (J10) ?_ ?_
  · clear hk
    rcases Bool.eq_false_or_eq_true (decide (l9 < (p0.size : Int))) with hc11 | hc11
    · replace h := h.1 hc11
      refine wpR_val (v := p1) (w' := w1) (wantG rfl rfl rfl hc11) rfl rfl (x_move (v := p1) rfl e1) ?_
      refine wpR_val (v := (Value.string p0)) (w' := w1) (wantG rfl rfl rfl hc11) rfl rfl (x_move (v := (Value.string p0)) rfl e0) ?_
      refine wpR_val (v := (Value.int .i64 l9)) (w' := w1) (wantG rfl rfl rfl hc11) rfl rfl (x_move (v := (Value.int .i64 l9)) rfl e5) ?_
      obtain ⟨r12, w2, q12, h⟩ := h
      refine wpR_val (v := (Value.int .u8 r12)) (w' := w2) (wantG rfl rfl rfl hc11) rfl rfl (x_index rfl rfl rfl q12) ?_
      obtain ⟨f13, fi13, ca13, fn13, qv13, qf13, qn13, qb13, h⟩ := h
      refine wpR_enter (wantG rfl rfl rfl hc11) rfl rfl (x_callv (vs := [(Value.int .u8 r12)]) rfl ((show _ = p1 from rfl).trans qv13) (mapl_cons rfl mapl_nil) qf13 qn13 qb13) (Calls.mono h ?_)
      rintro _ w3 ⟨r13, rfl, h⟩
      refine ⟨_, rfl, ?_⟩
      refine wpR_val (v := (Value.bool r13)) (w' := w3) rfl rfl rfl (x_pickT (v := (Value.bool r13)) rfl rfl hc11 rfl) ?_
      refine wpR_nil ?_
      exact ⟨r13, ⟨rfl, e0, e1, e5, trivial⟩, h⟩
    · replace h := h.2 hc11
      refine wpR_pass (wantN rfl rfl rfl hc11) rfl rfl ?_
      refine wpR_pass (wantN rfl rfl rfl hc11) rfl rfl ?_
      refine wpR_pass (wantN rfl rfl rfl hc11) rfl rfl ?_
      refine wpR_pass (wantN rfl rfl rfl hc11) rfl rfl ?_
      refine wpR_pass (wantN rfl rfl rfl hc11) rfl rfl ?_
      refine wpR_val (v := (Value.bool false)) (w' := w1) rfl rfl rfl (x_pickF (v := (Value.bool false)) rfl rfl hc11 rfl) ?_
      refine wpR_nil ?_
      exact ⟨false, ⟨rfl, e0, e1, e5, trivial⟩, h⟩
  clear h
  rintro c14 ρ w4 ⟨e16, e0, e1, e5, -⟩ h
  replace h := hk c14 w4 h
  clear hk
  refine wpR_nil ?_
  refine wpC_cond (b := c14) e16 (fun hc15 => ?_) (fun hc15 => ?_)
  · replace h := h.1 hc15
    refine wpC_skip ?_
    refine wpC_block ?_
    refine wpC_region ?_
    refine wpR_val (v := (Value.int .i64 l9)) (w' := w4) rfl rfl rfl (x_move (v := (Value.int .i64 l9)) rfl e5) ?_
    refine wpR_val (v := (Value.int .i64 (IntKind.i64.wrap (l9 + 1)))) (w' := w4) rfl rfl rfl (x_add rfl rfl rfl) ?_
    refine wpR_val (v := (Value.int .i64 (IntKind.i64.wrap (l9 + 1)))) (w' := w4) rfl rfl rfl (x_assign (v := (Value.int .i64 (IntKind.i64.wrap (l9 + 1)))) rfl rfl) ?_
    refine wpR_nil ?_
    exact ⟨IntKind.i64.wrap (l9 + 1), ⟨rfl, e0, e1, trivial⟩, h⟩
  · replace h := h.2 hc15
    refine wpC_exit ?_
    refine wpC_seq ?_
    refine wpC_region ?_
    refine wpR_val (v := (Value.int .i64 l9)) (w' := w4) rfl rfl rfl (x_move (v := (Value.int .i64 l9)) rfl e5) ?_
    refine wpR_val (v := (Value.int .i64 l9)) (w' := w4) rfl rfl rfl (x_assign (v := (Value.int .i64 l9)) rfl rfl) ?_
    refine wpR_nil ?_
    refine wpC_ret ?_
    exact ⟨.inl rfl, fun a ha => ⟨_, results_rep1 rfl ha rfl, l9, rfl, h⟩⟩

/-- lex.Word$1 -/
def F35 (p0 : Int) (w0 : World) (K : Bool → World → Prop) : Prop :=
  callC Try.prog 33 #[(Value.int .u8 p0)] (fun (r : Bool) => (Value.bool r)) w0 fun r9 w1 =>
  jn (fun J10 => cnd (r9)
    (
    J10 true w1
    )
    (
    callC Try.prog 36 #[(Value.int .u8 p0)] (fun (r : Bool) => (Value.bool r)) w1 fun r12 w2 =>
    J10 r12 w2
    ))
  fun c13 w3 =>
  K c13 w3
set_option maxRecDepth 100000 in
theorem D35 (p0 : Int) (w0 : World) (K : Bool → World → Prop) (h : F35 p0 w0 K) : callC Try.prog 35 #[(Value.int .u8 p0)] (fun (r : Bool) => (Value.bool r)) w0 K := by
  unfold F35 at h
  refine calls_of_wpC Try.func35 rfl 9 rfl (by simp) ?_
  intro ρ hρ
  have e0 : ρ 0 = (Value.int .u8 p0) := hρ 0
  clear hρ
  refine wpC_seq ?_
  refine wpC_region ?_
  refine wpR_val (v := (Value.bool false)) (w' := w0) rfl rfl rfl (x_assign (v := (Value.bool false)) rfl rfl) ?_
  refine wpR_nil ?_
  refine wpC_seq ?_
  refine wpC_cut (fun ρ => ρ 0 = (Value.int .u8 p0) ∧ True) ⟨e0, trivial⟩ ?_
  rintro ρ ⟨e0, -⟩
  refine wpC_region ?_
  refine wpR_val (v := (Value.int .u8 p0)) (w' := w0) rfl rfl rfl (x_move (v := (Value.int .u8 p0)) rfl e0) ?_
  refine wpR_enter rfl rfl rfl (x_call (vs := [(Value.int .u8 p0)]) rfl rfl (mapl_cons rfl mapl_nil) Try.func33 NN_33 NB_33) (Calls.mono h ?_)
  rintro _ w1 ⟨r9, rfl, h⟩
  refine ⟨_, rfl, ?_⟩
  refine wpR_val (v := (Value.bool r9)) (w' := w1) rfl rfl rfl (x_move (v := (Value.bool r9)) rfl rfl) ?_
  obtain ⟨J10, h, hk⟩ := h
  refine wpR_joinJ 3 (fun x ρ => ρ 8 = Value.bool x ∧ True) (J10) ?_ ?_
  · clear hk
    rcases Bool.eq_false_or_eq_true (r9) with hc11 | hc11
    · replace h := h.1 hc11
      refine wpR_pass (wantN rfl rfl rfl hc11) rfl rfl ?_
      refine wpR_pass (wantN rfl rfl rfl hc11) rfl rfl ?_
      refine wpR_val (v := (Value.bool true)) (w' := w1) rfl rfl rfl (x_pickT (v := (Value.bool true)) rfl rfl hc11 rfl) ?_
      refine wpR_nil ?_
      exact ⟨true, ⟨rfl, trivial⟩, h⟩
    · replace h := h.2 hc11
      refine wpR_val (v := (Value.int .u8 p0)) (w' := w1) (wantG rfl rfl rfl hc11) rfl rfl (x_move (v := (Value.int .u8 p0)) rfl e0) ?_
      refine wpR_enter (wantG rfl rfl rfl hc11) rfl rfl (x_call (vs := [(Value.int .u8 p0)]) rfl rfl (mapl_cons rfl mapl_nil) Try.func36 NN_36 NB_36) (Calls.mono h ?_)
      rintro _ w2 ⟨r12, rfl, h⟩
      refine ⟨_, rfl, ?_⟩
      refine wpR_val (v := (Value.bool r12)) (w' := w2) rfl rfl rfl (x_pickF (v := (Value.bool r12)) rfl rfl hc11 rfl) ?_
      refine wpR_nil ?_
      exact ⟨r12, ⟨rfl, trivial⟩, h⟩
  clear h
  rintro c13 ρ w3 ⟨e8, -⟩ h
  replace h := hk c13 w3 h
  clear hk
  refine wpR_val (v := (Value.bool c13)) (w' := w3) rfl rfl rfl (x_assign (v := (Value.bool c13)) rfl e8) ?_
  refine wpR_nil ?_
  refine wpC_ret ?_
  exact ⟨.inl rfl, fun a ha => ⟨_, results_rep1 rfl ha rfl, c13, rfl, h⟩⟩

/-- lex.digit -/
def F36 (p0 : Int) (w0 : World) (K : Bool → World → Prop) : Prop :=
  K ((decide (48 ≤ p0)) && (decide (p0 ≤ 57))) w0
set_option maxRecDepth 100000 in
theorem D36 (p0 : Int) (w0 : World) (K : Bool → World → Prop) (h : F36 p0 w0 K) : callC Try.prog 36 #[(Value.int .u8 p0)] (fun (r : Bool) => (Value.bool r)) w0 K := by
  unfold F36 at h
  refine calls_of_wpC Try.func36 rfl 9 rfl (by simp) ?_
  intro ρ hρ
  have e0 : ρ 0 = (Value.int .u8 p0) := hρ 0
  clear hρ
  refine wpC_seq ?_
  refine wpC_region ?_
  refine wpR_val (v := (Value.bool false)) (w' := w0) rfl rfl rfl (x_assign (v := (Value.bool false)) rfl rfl) ?_
  refine wpR_nil ?_
  refine wpC_seq ?_
  refine wpC_cut (fun ρ => ρ 0 = (Value.int .u8 p0) ∧ True) ⟨e0, trivial⟩ ?_
  rintro ρ ⟨e0, -⟩
  refine wpC_region ?_
  refine wpR_val (v := (Value.int .u8 p0)) (w' := w0) rfl rfl rfl (x_move (v := (Value.int .u8 p0)) rfl e0) ?_
  refine wpR_val (v := (Value.bool (decide (48 ≤ p0)))) (w' := w0) rfl rfl rfl (x_geq rfl rfl rfl) ?_
  refine wpR_val (v := (Value.bool (decide (48 ≤ p0)))) (w' := w0) rfl rfl rfl (x_move (v := (Value.bool (decide (48 ≤ p0)))) rfl rfl) ?_
  refine wpR_joinJ 3 (fun (_ : Unit) ρ => ρ 8 = Value.bool ((decide (48 ≤ p0)) && (decide (p0 ≤ 57))) ∧ True) (fun _ w => w0 = w) ?_ ?_
  · clear h
    rcases Bool.eq_false_or_eq_true (decide (48 ≤ p0)) with hc10 | hc10
    · skip
      refine wpR_val (v := (Value.int .u8 p0)) (w' := w0) (wantG rfl rfl rfl hc10) rfl rfl (x_move (v := (Value.int .u8 p0)) rfl e0) ?_
      refine wpR_val (v := (Value.bool (decide (p0 ≤ 57)))) (w' := w0) (wantG rfl rfl rfl hc10) rfl rfl (x_leq rfl rfl rfl) ?_
      refine wpR_val (v := (Value.bool (decide (p0 ≤ 57)))) (w' := w0) rfl rfl rfl (x_pickT (v := (Value.bool (decide (p0 ≤ 57)))) rfl rfl hc10 rfl) ?_
      refine wpR_nil ?_
      exact ⟨(), ⟨(by rw [hc10]; rfl), trivial⟩, rfl⟩
    · skip
      refine wpR_pass (wantN rfl rfl rfl hc10) rfl rfl ?_
      refine wpR_pass (wantN rfl rfl rfl hc10) rfl rfl ?_
      refine wpR_val (v := (Value.bool false)) (w' := w0) rfl rfl rfl (x_pickF (v := (Value.bool false)) rfl rfl hc10 rfl) ?_
      refine wpR_nil ?_
      exact ⟨(), ⟨(by rw [hc10]; rfl), trivial⟩, rfl⟩
  rintro _ ρ wj ⟨e8, -⟩ rfl
  refine wpR_val (v := (Value.bool ((decide (48 ≤ p0)) && (decide (p0 ≤ 57))))) (w' := w0) rfl rfl rfl (x_assign (v := (Value.bool ((decide (48 ≤ p0)) && (decide (p0 ≤ 57))))) rfl e8) ?_
  refine wpR_nil ?_
  refine wpC_ret ?_
  exact ⟨.inl rfl, fun a ha => ⟨_, results_rep1 rfl ha rfl, (decide (48 ≤ p0)) && (decide (p0 ≤ 57)), rfl, h⟩⟩


end Go.Proofs.Ytkacfhhpmpmhkaa
